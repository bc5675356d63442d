/-
  What PPatchKeeps rests on, part 3 (wip/shake.py).
  Conditions: none.
-/
import Derived.Test.YtjabbbcdgmlojaaGreatDoorQPPatchKeepsb
set_option linter.all false
set_option linter.deprecated false
set_option maxHeartbeats 12800000
namespace Go.Proofs.YtjabbbcdgmlojaaGreatDoor
open Go Go.RowKit
section
structure DgI (w0:World) (g:Nat) (f:List Fz) (k n s:Nat) (L:List DV) (w:World):Prop where
 m:Mod (·=g) w0 w
 blk:Blk w g 32 (L.flatMap DV.cells)
 len:L.length=n
 got:∀j,j<s->∃x t,L[j]? =some x/\RepF f t j/\SB w x.A x.n x.c x.nd/\Set1 k x.nd x.r (evF t)/\∀i,Qk x.A i->g<i
theorem SB.mod {S:Nat->Prop}{w w':World}{A:Option Addr}{n c:Nat}{nd:List Br}(h:SB w A n c nd)(hm:Mod S w w')(hr:∀i,Qk A i->¬S i):SB w' A n c nd:=⟨h.1.modS hm (λ_ i hi=>hr i hi),h.2⟩
theorem DgI.mod {w0 w w':World}{g:Nat}{f:List Fz}{k n s:Nat}{L:List DV}(h:DgI w0 g f k n s L w)(k1:Ext w w'):DgI w0 g f k n s L w':=
 ⟨h.m.trans (Mod.of_ext (·=g) k1) (λ_ hi=>.inl hi),h.blk.ext k1,h.len,λj hj=>by
  obtain⟨x,t,h1,h2,h3,h4,h5⟩:=h.got j hj;exact⟨x,t,h1,h2,h3.ext k1,h4,h5⟩⟩
theorem DgI.put {w0 w w':World}{g:Nat}{f:List Fz}{k n s:Nat}{L:List DV}(h:DgI w0 g f k n s L w)(hs:s<n){x:DV}{t:Fm}(ht:RepF f t s)(hx:SB w x.A x.n x.c x.nd)(hS:Set1 k x.nd x.r (evF t))(hr:∀i,Qk x.A i->g<i)(hm:Mod (·=g) w w')
  (hb:Blk w' g 32 (KX (s*2) x.cells (L.flatMap DV.cells))):DgI w0 g f k n (s+1) (L.set s x) w':=by
 have hl:=h.len;refine⟨h.m.trans hm (λ_ hi=>.inl hi),by rw[<-Ft dL L x (by omega)];exact hb,by rw[fB];exact hl,λj hj=>?_⟩;by_cases YP:j=s
 ·subst YP;exact⟨x,t,by rw[iQ (by omega)],ht,hx.mod hm (λi hi e=>by have:=hr i hi;omega),hS,hr⟩
 ·obtain⟨y,u,h1,h2,h3,h4,h5⟩:=h.got j (by omega);exact⟨y,u,by rw[fH (λe=>YP e.symm)];exact h1,h2,h3.mod hm (λi hi e=>by have:=h5 i hi;omega),h4,h5⟩
def DgC (g s:Nat)(L:List DV)(w w':World):Prop:=Mod (·=g) w w'/\∀(j:Nat)(x:DV),j≠s->L[j]? =some x->∀(i:Nat)(v:Value),x.cells[i]? =some v->w'.cell? ((⟨g,0,none⟩:Addr).add (j*2+i))=some v
theorem DgC.of_ext {g s:Nat}{L:List DV}{w w':World}(hb:Blk w g 32 (L.flatMap DV.cells))(h:Ext w w'):DgC g s L w w':=
 ⟨Mod.of_ext _ h,λj x _ hx i v hi=>by rw[(hb.ext h).cell];exact i7 dL _ _ _ _ _ hx hi⟩
theorem DgC.put {g s:Nat}{L:List DV}{w w1 w':World}{x:DV}(hs:s<L.length)(h:Ext w w1)(hm:Mod (·=g) w1 w')(hb:Blk w' g 32 (KX (s*2) x.cells (L.flatMap DV.cells))):DgC g s L w w':=
 ⟨(
  Mod.of_ext (·=g) h).trans hm (λ_ hi=>.inl hi),λj y hj hy i v hi=>by
  rw[hb.cell,Ft dL L x hs];exact i7 dL _ _ _ _ _ (by rw[fH (λe=>hj e.symm)];exact hy) hi⟩
theorem FV.rep {f:List Fz}(h:FV f){i:Nat}(hi:i<f.length):∃t,RepF f t i:=ON h.2.2.1 i hi
theorem fQr (F:Option Addr)(n cF:Nat)(f:List Fz)(k:Nat)(hk:k<=12)(w:World)(h:SF w F n cF f)(hv:FV f)(Dm:mi k f):
  Fn Tryz.prog 203 [.slice F n cF] w (λv w'=>∃A m c nd r,v= .tuple #[Xk A m c r,.int .i64 0]/\Ext w w'/\SB w' A m c nd/\Set1 k nd r (evF (fV f))/\∀i,Qk A i->w.heap.size<i):=by
 have hn:=h.2;have hvl:=hv.1;have eU:=hv.2.1;refine QF (c:={cQ7 with cuts:=[]}) Qa Tryz.func203 rfl rfl rfl ?_;refine new (λw1 Qe Q4 Qh=>?_);refine call (OM F n cF f w1 (h.ext Qe)) ?_;rintro _ w2 ⟨rfl,Qg⟩;refine ac (zF hv) ?_;have Q5:=Qe.trans Qg;refine fQq dL (by decide) (⟨none,0,0,[],0⟩:DV) Qa rfl rfl rfl rfl rfl rfl rfl rfl (by show 32*n<=_;omega) (by unfold maxLen;omega) (λw3 Qj JC Qu=>?_);have QX:=Q5.trans Qj;have kQd:=Q5.size;have Zb:w1.heap.size<=w2.heap.size:=Qg.size;refine loop Qa [17] (λs:Nat×List DV=>[.int .i64 s.1]) (λs w'=>DgI w3 w2.heap.size f k n s.1 s.2 w'/\s.1<=n) (λs _=>n-s.1) (0,List.replicate n ⟨none,0,0,[],0⟩) rfl ⟨⟨Mod.refl _ _,Qu,by simp,λj hj=>Xn hj (by simp)⟩,Xr _⟩ ?_;rintro⟨s,L⟩ w4 ⟨hI,hs⟩;simp only at hI hs;have Qs:Ext w w4:=hI.m.ext QX (λi hi=>by omega);have hL:=hI.len;refine Qz (λh1=>?_) (λh1=>?_)
 ·have aI:s<n:=by simp only at h1;omega
  refine Zv zD (h.ext Qs) rfl aI (λp x hx hc=>?_);refine Kn (vs:=x.cells) rfl hc ?_;refine new (λw5 Qw KP QG=>?_);refine Qv QG rfl (sc rfl) (λw6 Y4 dX Q9=>?_);have XF:Ext w4 w6:=X9 Qw QG Y4;have JP:=hI.mod XF;obtain⟨t,ht⟩:=hv.rep (i:=s) (by omega);have KO:=hI.m.size;have Ut:=XF.size;have c0:Set1 k [] 0 (λ_=>false):=aW k false;have hrc:∀i,Qk (none:Option Addr) i->w2.heap.size<i:=λi hi=>by obtain⟨_,e,_⟩:=hi;cases e
  cases t with
  | c b=>
   cases b with
   | false=>
    have Yk:x=⟨0,0,0,0⟩:=Option.some.inj (hx.symm.trans ht);subst Yk;refine QD Q9 rfl ?_;refine Jp rfl ?_;refine QD Q9 rfl ?_;refine call (cK false w6) ?_;rintro _ w7 ⟨rfl,Xb⟩;have bn:=JP.mod Xb;refine JS (j:=s) aI ?_;refine i6 (j:=s*2) (vs:=(⟨none,0,0,[],0⟩:DV).cells) bn.blk (by rw[dG dL,hL];show s*2+2<=n*2;omega) (sc rfl) (λw8 Y5 Yw Xw=>?_);have ZL:Mod (·=w2.heap.size) w7 w8:=nQQ Y5 rfl;have ik:=bn.put aI (x:=⟨none,0,0,[],0⟩) ht (SlS.nil _) (aW k false) hrc ZL Xw;refine ac rfl ?_;refine Qi ((s+1:Nat):Int) (by show((s:Nat):Int)+1=_;omega) (by omega) ?_;exact⟨(s+1,L.set s ⟨none,0,0,[],0⟩),rfl,⟨ik,by show s+1<=n;omega⟩,by show n-(s+1)<n-s;omega⟩
   | true=>
    have Yk:x=⟨1,0,0,0⟩:=Option.some.inj (hx.symm.trans ht);subst Yk;refine QD Q9 rfl ?_;refine Xy (show¬(1:Int)=0 by decide) ?_;refine Jp rfl ?_;refine QD Q9 rfl ?_;refine call (cK true w6) ?_;rintro _ w7 ⟨rfl,Xb⟩;have bn:=JP.mod Xb;refine JS (j:=s) aI ?_;refine i6 (j:=s*2) (vs:=(⟨none,0,0,[],1⟩:DV).cells) bn.blk (by rw[dG dL,hL];show s*2+2<=n*2;omega) (sc rfl) (λw8 Y5 Yw Xw=>?_);have ZL:Mod (·=w2.heap.size) w7 w8:=nQQ Y5 rfl;have ik:=bn.put aI (x:=⟨none,0,0,[],1⟩) ht (SlS.nil _) (aW k true) hrc ZL Xw;refine ac rfl ?_;refine Qi ((s+1:Nat):Int) (by show((s:Nat):Int)+1=_;omega) (by omega) ?_;exact⟨(s+1,L.set s ⟨none,0,0,[],1⟩),rfl,⟨ik,by show s+1<=n;omega⟩,by show n-(s+1)<n-s;omega⟩
  | v q=>
   have Yk:x=⟨2,(q:Nat),0,0⟩:=Option.some.inj (hx.symm.trans ht);subst Yk;have hq:(q:Int)<k:=Dm _ (Xm hx) rfl;refine QD Q9 rfl ?_;refine Xy (show¬(2:Int)=0 by decide) ?_;refine Xy (show¬(2:Int)=1 by decide) ?_;refine Jp rfl ?_;refine Qo Q9 rfl ?_;refine call (Fp (q:Nat) w6 (by omega) (by omega)) ?_;rintro _ w7 ⟨PA,pn,pc,rfl,Xb,lk,Vr⟩;have bn:=JP.mod Xb;have ro:Set1 k [⟨(q:Nat),0,1⟩] 2 (evF (.v q)):=⟨zX (by omega) (by omega),λb hb=>by simp only[QN] at hb;subst hb;exact hq,λe=>by
    rw[dN (zX (k:=((q:Nat):Int)) (by omega) (by omega)).wf (by decide) (b:=⟨(q:Nat),0,1⟩) rfl,JT (by simp),JT (by simp)];cases h:e q<;>simp[evF,h]⟩
   refine JS (j:=s) aI ?_;refine i6 (j:=s*2) (vs:=(⟨PA,pn,pc,[⟨(q:Nat),0,1⟩],2⟩:DV).cells) bn.blk (by rw[dG dL,hL];show s*2+2<=n*2;omega) (sc rfl) (λw8 Y5 Yw Xw=>?_);have ZL:Mod (·=w2.heap.size) w7 w8:=nQQ Y5 rfl;have ik:=bn.put aI (x:=⟨PA,pn,pc,[⟨(q:Nat),0,1⟩],2⟩) ht lk ro (λi hi=>by have:=Vr i hi;omega) ZL Xw;refine ac rfl ?_;refine Qi ((s+1:Nat):Int) (by show((s:Nat):Int)+1=_;omega) (by omega) ?_;exact⟨(s+1,L.set s ⟨PA,pn,pc,[⟨(q:Nat),0,1⟩],2⟩),rfl,⟨ik,by show s+1<=n;omega⟩,by show n-(s+1)<n-s;omega⟩
  | not a=>
   obtain⟨j,hj,oz,We⟩:=ht;have Yk:x=⟨3,0,(j:Nat),0⟩:=Option.some.inj (hx.symm.trans oz);subst Yk;obtain⟨y,u,hy,hu,rp,jI,yh⟩:=JP.got j hj;obtain rfl:u=a:=nQS hu We;have jC:=gM hk jI c0 3;have XY:=eC jI c0 3;have Kk:j<n:=by omega
   refine QD Q9 rfl ?_;refine Xy (show¬(3:Int)=0 by decide) ?_;refine Xy (show¬(3:Int)=1 by decide) ?_;refine Xy (show¬(3:Int)=2 by decide) ?_;refine Jp rfl ?_;refine Qo Q9 rfl ?_;refine JS (j:=j) Kk ?_;refine fR (j:=j*2) (vs:=y.cells) JP.blk rfl (λi v hi=>i7 dL _ _ _ _ _ hy hi) ?_;refine call (Fs y.A y.n y.c y.nd y.r w6 rp) ?_;rw[jC];rintro _ w7 ⟨PA,pn,pc,rfl,Xb,lk,Vr⟩;have bn:=JP.mod Xb;have ht:RepF f (.not u) s:=⟨j,hj,oz,We⟩
   generalize VF y.nd y.r [] 0 3=D at*;obtain⟨D1,D2⟩:=D;have ro:Set1 k D1 D2 (evF (.not u)):=XY.congr (λe=>by simp[Kv,evF]);refine JS (j:=s) aI ?_;refine i6 (j:=s*2) (vs:=(⟨PA,pn,pc,D1,D2⟩:DV).cells) bn.blk (by rw[dG dL,hL];show s*2+2<=n*2;omega) (sc rfl) (λw8 Y5 Yw Xw=>?_);have ZL:Mod (·=w2.heap.size) w7 w8:=nQQ Y5 rfl;have ik:=bn.put aI (x:=⟨PA,pn,pc,D1,D2⟩) ht lk ro (λi hi=>by have:=Vr i hi;omega) ZL Xw;refine ac rfl ?_;refine Qi ((s+1:Nat):Int) (by show((s:Nat):Int)+1=_;omega) (by omega) ?_;exact⟨(s+1,L.set s ⟨PA,pn,pc,D1,D2⟩),rfl,⟨ik,by show s+1<=n;omega⟩,by show n-(s+1)<n-s;omega⟩
  | and a b=>
   obtain⟨j,l,hj,hl,oz,We,fp⟩:=ht;have Yk:x=⟨4,0,(j:Nat),(l:Nat)⟩:=Option.some.inj (hx.symm.trans oz);subst Yk;obtain⟨y,u,hy,hu,rp,jI,yh⟩:=JP.got j hj;obtain rfl:u=a:=nQS hu We;obtain⟨z,u',hz,gv,oA,yi,hzr⟩:=JP.got l hl;obtain rfl:u'=b:=nQS gv fp;have jC:=gM hk jI yi 0;have XY:=eC jI yi 0;have Kk:j<n:=by omega
   have gw:l<n:=by omega
   refine QD Q9 rfl ?_;refine Xy (show¬(4:Int)=0 by decide) ?_;refine Xy (show¬(4:Int)=1 by decide) ?_;refine Xy (show¬(4:Int)=2 by decide) ?_;refine Xy (show¬(4:Int)=3 by decide) ?_;refine Jp rfl ?_;refine XK Qa (DgC w2.heap.size s L w6) 19 [(true,0),(true,1),(true,2),(true,3),(true,4),(true,5),(true,6),(true,7),(true,8),(true,9),(true,10),(true,11),(false,12),(true,13),(true,14),(true,15),(true,16),(false,17),(true,18)] (by kernel_rfl) (DgC.of_ext JP.blk (Ext.drew w6)) ?_;have yj:¬w4.heap.size=w2.heap.size:=by omega
   refine QK (v:=.int .i64 (j:Nat)) (λw' Qb=>by rw[(Q9.mod Qb.1 yj).cell];rfl) ?_;refine JS (j:=j) Kk ?_;refine Xs (vs:=y.cells) rfl (λw' Qb i v hi=>by rw[add_add];exact Qb.2 j y (by omega) hy i v hi) ?_;refine QK (v:=.int .i64 (l:Nat)) (λw' Qb=>by rw[(Q9.mod Qb.1 yj).cell];rfl) ?_;refine JS (j:=l) gw ?_;refine Xs (vs:=z.cells) rfl (λw' Qb i v hi=>by rw[add_add];exact Qb.2 l z (by omega) hz i v hi) ?_;refine call (vP y.A y.n y.c y.nd y.r z.A z.n z.c z.nd z.r _ (rp.ext (Ext.drew w6)) (oA.ext (Ext.drew w6))) ?_;rw[jC];rintro _ w7 ⟨PA,pn,pc,rfl,H5,lk,Vr⟩;have Xb:=(Ext.drew w6).trans H5;have lQR:=(Ext.drew w6).size;refine⟨DgC.of_ext JP.blk Xb,?_⟩;have bn:=JP.mod Xb;have ht:RepF f (.and u u') s:=⟨j,l,hj,hl,oz,We,fp⟩
   generalize VF y.nd y.r z.nd z.r 0=D at*;obtain⟨D1,D2⟩:=D;have ro:Set1 k D1 D2 (evF (.and u u')):=XY.congr (λe=>by simp[Kv,evF]);refine JS (j:=s) aI ?_;refine i6 (j:=s*2) (vs:=(⟨PA,pn,pc,D1,D2⟩:DV).cells) bn.blk (by rw[dG dL,hL];show s*2+2<=n*2;omega) (sc rfl) (λw8 Y5 Yw Xw=>?_);have ZL:Mod (·=w2.heap.size) w7 w8:=nQQ Y5 rfl;have ik:=bn.put aI (x:=⟨PA,pn,pc,D1,D2⟩) ht lk ro (λi hi=>by have:=Vr i hi;omega) ZL Xw;refine⟨DgC.put (by omega) Xb ZL Xw,?_⟩;refine ac rfl ?_;refine Qi ((s+1:Nat):Int) (by show((s:Nat):Int)+1=_;omega) (by omega) ?_;exact⟨(s+1,L.set s ⟨PA,pn,pc,D1,D2⟩),rfl,⟨ik,by show s+1<=n;omega⟩,by show n-(s+1)<n-s;omega⟩
  | or a b=>
   obtain⟨j,l,hj,hl,oz,We,fp⟩:=ht;have Yk:x=⟨5,0,(j:Nat),(l:Nat)⟩:=Option.some.inj (hx.symm.trans oz);subst Yk;obtain⟨y,u,hy,hu,rp,jI,yh⟩:=JP.got j hj;obtain rfl:u=a:=nQS hu We;obtain⟨z,u',hz,gv,oA,yi,hzr⟩:=JP.got l hl;obtain rfl:u'=b:=nQS gv fp;have jC:=gM hk jI yi 1;have XY:=eC jI yi 1;have Kk:j<n:=by omega
   have gw:l<n:=by omega
   refine QD Q9 rfl ?_;refine Xy (show¬(5:Int)=0 by decide) ?_;refine Xy (show¬(5:Int)=1 by decide) ?_;refine Xy (show¬(5:Int)=2 by decide) ?_;refine Xy (show¬(5:Int)=3 by decide) ?_;refine Xy (show¬(5:Int)=4 by decide) ?_;refine Jp rfl ?_;refine XK Qa (DgC w2.heap.size s L w6) 19 [(true,0),(true,1),(true,2),(true,3),(true,4),(true,5),(true,6),(true,7),(true,8),(true,9),(true,10),(true,11),(false,12),(true,13),(true,14),(true,15),(true,16),(false,17),(true,18)] (by kernel_rfl) (DgC.of_ext JP.blk (Ext.drew w6)) ?_;have yj:¬w4.heap.size=w2.heap.size:=by omega
   refine QK (v:=.int .i64 (j:Nat)) (λw' Qb=>by rw[(Q9.mod Qb.1 yj).cell];rfl) ?_;refine JS (j:=j) Kk ?_;refine Xs (vs:=y.cells) rfl (λw' Qb i v hi=>by rw[add_add];exact Qb.2 j y (by omega) hy i v hi) ?_;refine QK (v:=.int .i64 (l:Nat)) (λw' Qb=>by rw[(Q9.mod Qb.1 yj).cell];rfl) ?_;refine JS (j:=l) gw ?_;refine Xs (vs:=z.cells) rfl (λw' Qb i v hi=>by rw[add_add];exact Qb.2 l z (by omega) hz i v hi) ?_;refine call (PU y.A y.n y.c y.nd y.r z.A z.n z.c z.nd z.r _ (rp.ext (Ext.drew w6)) (oA.ext (Ext.drew w6))) ?_;rw[jC];rintro _ w7 ⟨PA,pn,pc,rfl,H5,lk,Vr⟩;have Xb:=(Ext.drew w6).trans H5;have lQR:=(Ext.drew w6).size;refine⟨DgC.of_ext JP.blk Xb,?_⟩;have bn:=JP.mod Xb;have ht:RepF f (.or u u') s:=⟨j,l,hj,hl,oz,We,fp⟩
   generalize VF y.nd y.r z.nd z.r 1=D at*;obtain⟨D1,D2⟩:=D;have ro:Set1 k D1 D2 (evF (.or u u')):=XY.congr (λe=>by simp[Kv,evF]);refine JS (j:=s) aI ?_;refine i6 (j:=s*2) (vs:=(⟨PA,pn,pc,D1,D2⟩:DV).cells) bn.blk (by rw[dG dL,hL];show s*2+2<=n*2;omega) (sc rfl) (λw8 Y5 Yw Xw=>?_);have ZL:Mod (·=w2.heap.size) w7 w8:=nQQ Y5 rfl;have ik:=bn.put aI (x:=⟨PA,pn,pc,D1,D2⟩) ht lk ro (λi hi=>by have:=Vr i hi;omega) ZL Xw;refine⟨DgC.put (by omega) Xb ZL Xw,?_⟩;refine ac rfl ?_;refine Qi ((s+1:Nat):Int) (by show((s:Nat):Int)+1=_;omega) (by omega) ?_;exact⟨(s+1,L.set s ⟨PA,pn,pc,D1,D2⟩),rfl,⟨ik,by show s+1<=n;omega⟩,by show n-(s+1)<n-s;omega⟩
 ·have aI:s=n:=by simp only at h1;omega
  subst aI;obtain⟨y,u,hy,hu,rp,jI,yh⟩:=hI.got (s-1) (by omega);have Ds:=EV (f:=f) (t:=u) (by rw[hn];exact hu);refine Qi ((s-1:Nat):Int) (by omega) (by omega) ?_;refine JS (j:=s-1) (by omega) ?_;refine fR (j:=(s-1)*2) (vs:=y.cells) hI.blk rfl (λi v hi=>i7 dL _ _ _ _ _ hy hi) ?_;have Q7:=((Qh.ext Qg).ext Qj).mod hI.m (by show¬w.heap.size=w2.heap.size;omega);refine Qv Q7 rfl (sc rfl) (λw5 JH KP QG=>?_);have Je:Mod (·=w.heap.size) w4 w5:=nQQ JH rfl;refine Qt QG rfl ?_;exact⟨y.A,y.n,y.c,y.nd,y.r,rfl,Je.ext Qs (λi hi=>by omega),rp.mod Je (λi hi e=>by have:=yh i hi;omega),by rw[Ds];exact jI,λi hi=>by have:=yh i hi;omega⟩
end
section
section
abbrev JV (g o:Nat):Addr:=(⟨g,0,none⟩:Addr).add o
def vQ (t m o:Nat):Prop:=liesAt Tryz.prog Tryz.prog.depth t (m/Tryz.prog.cellsOf t) o 109 1=true
theorem Fu (g o:Nat):(JV g o).off=o/\(JV g o).block=g:=by unfold JV;rw[pv];exact⟨rfl,rfl⟩
theorem Fv {w:World}{g t o j:Nat}{cs:List Value}(h:Blk w g t cs):w.cell? ((JV g o).add j)=cs[o+j]? :=by unfold JV;rw[add_add,h.cell]
theorem vR {w:World}{g t o j:Nat}{cs:List Value}{v:Value}{K:Value->Prop}(h:Blk w g t cs)(hv:cs[o+j]? =some v)(k:K v):gF w ((JV g o).add j) K:=load (by rw[Fv h];exact hv) k
theorem PX {w:World}{g t o j:Nat}{cs:List Value}{v:Value}{K:World->Prop}(h:Blk w g t cs)(hj:o+j<cs.length)(k:∀w1,Mod (·=g) w w1->Blk w1 g t (cs.set (o+j) v)->K w1):dx w ((JV g o).add j) v K:=by
 unfold JV;rw[add_add];exact XP h hj k
theorem fQs (g t o:Nat)(pa:Value)(cs:List Value)(w:World)(hl:vQ t cs.length o)(ho:o<cs.length)(hp:pa= .pointer none∨pa= .pointer (some (JV g o)))(hB:Blk w g t cs)(hc:cs[o]? =some pa):
  Fn Tryz.prog 106 [.pointer (some (JV g o))] w (λ_ w'=>Mod (·=g) w w'/\Blk w' g t (cs.set o (.pointer (some (JV g o))))):=by
 obtain⟨j,hj,mV⟩:=N9;refine QF (c:=NW) Qa Tryz.func106 rfl rfl rfl ?_;have dk:w.shape? (JV g o).block=some (t,cs.length):=by rw[(Fu g o).2];exact hB.shape
 have ucs:=Tryz.underlying107;have uus:=Tryz.underlying240;rcases hp with rfl | rfl
 ·refine vR hB (by simpa using hc) ?_;refine Q8 rfl ?_;refine Jx (w':=w) (v:=.pointer (some (JV g o))) (λa hf=>?_) ?_
  ·have e1:=hf.ev (show Env.ev _ (.tmp 8)=some (.pointer (some (JV g o))) from rfl);have:=Lib.run_to_unsafe (P:=Tryz.prog) (src:=107) (dst:=240) w (JV g o) ucs uus hj mV dk (by rw[(Fu g o).1];exact ho);simp only[execOp,e1];simp[bL,this]
  refine Jx (w':=w) (v:=.pointer (some (JV g o))) (λa hf=>?_) ?_
  ·have e1:=hf.ev (show Env.ev _ (.tmp 9)=some (.pointer (some (JV g o))) from rfl);have:=run_callFunc_extern (P:=Tryz.prog) (e:=Extern.AbiNoEscape.same) Tryz.func159 (by kernel_rfl) (by kernel_rfl) (by kernel_rfl) (by kernel_rfl) #[.pointer (some (JV g o))] w;rw[Lib.run_noEscape] at this;simp only[execOp,resolve,invoke];simp[Deferred.ofValue,Act.eval] at e1 ⊢;simp[e1,bL,this]
  refine Jx (w':=w) (v:=.pointer (some (JV g o))) (λa hf=>?_) ?_
  ·have e1:=hf.ev (show Env.ev _ (.tmp 10)=some (.pointer (some (JV g o))) from rfl);have:=Lib.run_from_unsafe (P:=Tryz.prog) (src:=240) (dst:=107) (u:=109) w (JV g o) uus ucs hj dk (by rw[(Fu g o).1];exact hl);simp only[execOp,e1];simp[bL,this]
  refine PX hB (by simpa using ho) (λw1 hm Qh=>?_);exact⟨hm,by simpa using Qh⟩
 ·refine vR hB (by simpa using hc) ?_;refine Q3 rfl ?_;refine vR hB (by simpa using hc) ?_;refine Jx (w':=w) (v:=.bool false) (λa hf=>?_) ?_
  ·have e1:=hf.ev (show Env.ev _ (.tmp 17)=some (.pointer (some (JV g o))) from rfl);have e2:=hf.ev (show Env.ev _ (.tmp 18)=some (.pointer (some (JV g o))) from rfl);have:=Lib.run_neq_ptr_same (P:=Tryz.prog) (tp:=107) w (JV g o) ucs hj;simp only[execOp,e1,e2,eqGuard];simp[bL,this]
  refine Q3 rfl ?_;refine⟨Mod.refl _ _,?_⟩;have e:cs.set o (.pointer (some (JV g o)))=cs:=by
   apply yR;intro i;by_cases hi:i=o
   ·subst hi;rw[iQ ho,hc]
   ·rw[fH (λe=>hi e.symm)]
  rw[e];exact hB
theorem fQt (base g t o:Nat)(pa:Value)(cs:List Value)(A:Option Addr)(c:Nat)(out:List Nat)(s:ByteArray)(w:World)(hl:vQ t cs.length o)(ho:o+1<cs.length)(hp:pa= .pointer none∨pa= .pointer (some (JV g o)))(hB:Blk w g t cs)
  (hc:cs[o]? =some pa) (Yx:cs[o+1]? =some (.slice A out.length c)) (J6:Own w base 5 1 A out.length c (Vb out)) (eK:g<base) (top:base<=w.heap.size) (hs:out.length+s.size<=140737488355328):
  Fn Tryz.prog 56 [.pointer (some (JV g o)),.string s] w (λ_ w'=>∃A' c',Blk w' g t ((cs.set o (.pointer (some (JV g o)))).set (o+1) (.slice A' (out.length+s.size) c'))/\Own w' base 5 1 A' (out.length+s.size) c' (Vb (out++YV s))/\Mod (BldS g A) w w'/\Moved w A A'):=by
 refine QF (c:=NT) Qa Tryz.func56 rfl rfl rfl ?_;refine call (fQs g t o pa cs w hl (by omega) hp hB hc) ?_;rintro v w1 ⟨Zt,Qh⟩;have VQ:=J6.rows;have hn:¬Qk A g:=λh=>by have:=(VQ g h).1;omega
 have p7:=J6.mod Zt (λk hk e=>hn (e▸hk));refine vR Qh (v:=.slice A out.length c) (show(cs.set o (.pointer (some (JV g o))))[o+1]? =_ by rw[fH (by omega)];exact Yx) ?_;refine N7 Qa rfl rfl rfl rfl rfl rfl rfl rfl rfl rfl rfl p7 hs (by have:=Zt.size;omega) ?_;intro A' c' w2 XQ dU mW;refine PX (Qh.mod XQ hn) (by simpa using ho) (λw3 XC Qu=>?_);have p8:=dU.rows;refine⟨A',c',Qu,?_,?_,mW.back Zt.size⟩
 ·rw[zz,<-N8];exact dU.mod XC (λk hk e=>by have:=(p8 k hk).1;omega)
 ·exact((Zt.mono (S':=BldS g A) (λi hi=>.inl (.inl hi))).trans XQ (λi hi=>.inl (.inr hi))).trans XC (λi hi=>.inl (.inl hi))
theorem fQu (g t o:Nat)(cs:List Value)(A:Option Addr)(c n:Nat)(w:World)(hB:Blk w g t cs)(Yx:cs[o+1]? =some (.slice A n c)):
  Fn Tryz.prog 205 [.pointer (some (JV g o))] w (λv w'=>v= .int .i64 n/\w=w'):=by
 refine QF (c:=cQ8) Qa Tryz.func205 rfl rfl rfl ?_;refine vR hB Yx ?_;exact⟨rfl,rfl⟩
theorem fQv (base g t o:Nat)(cs:List Value)(A:Option Addr)(c:Nat)(out:List Nat)(w:World)(hB:Blk w g t cs)(Yx:cs[o+1]? =some (.slice A out.length c))(J6:Own w base 5 1 A out.length c (Vb out))(h8:∀x∈out,x<256)(hs:out.length<=140737488355328):
  Fn Tryz.prog 57 [.pointer (some (JV g o))] w (λv w'=>v= .string (Qd out)/\Mod (Qk A) w w'):=by
 refine QF (c:=NU) Qa Tryz.func57 rfl rfl rfl ?_;have QY:(Vb out).length=out.length:=rY out;refine XK Qa (Ext w) 10 [(true,0),(true,1),(true,2),(true,3),(true,5),(true,6),(true,7),(true,8),(true,9),(false,4)] (by kernel_rfl) (Ext.drew w) ?_;refine QK (v:=.slice A out.length c) (λw' Qb=>by rw[Fv (hB.ext Qb)];exact Yx) ?_;refine QK (v:=.slice A out.length c) (λw' Qb=>by rw[Fv (hB.ext Qb)];exact Yx) ?_;have G5:out.length=0->Value.string ByteArray.empty=Value.string (Qd out):=λh0=>by
  have:out=[]:=Wg h0;subst this;rfl
 by_cases h0:out.length=0
 ·have key:∃p w1,(Builtin.unsafeSliceData_ #[62] 179 #[.slice A out.length c]).run Tryz.prog w.drew= .ok (.pointer p) w1/\Ext w w1:=by
   rcases J6.row.2 with⟨hv,_⟩ | ⟨g',cap,ZD,hv,hb',Vz,_⟩
   ·simp only[Value.slice.injEq] at hv;obtain⟨rfl,_,rfl⟩:=hv;exact⟨none,w.drew,Lib.run_unsafeSliceData_nil _ _ _ _ _,Ext.drew w⟩
   ·simp only[Value.slice.injEq] at hv;obtain⟨rfl,_,rfl⟩:=hv;by_cases wy:c=0
    ·subst wy;have dk:w.drew.shape? g'=some (5,ZD.size):=by
      unfold World.shape?;rw[show w.drew.heap[g']? =_ from Vz]
     exact⟨_,_,Lib.run_unsafeSliceData_zero (P:=Tryz.prog) w.drew _ _ 5 Tryz.underlying179 ⟨g',0,none⟩ _ _ dk,(Ext.drew w).trans (Ext.alloc _ _)⟩
    ·exact⟨_,w.drew,Lib.run_unsafeSliceData_row (P:=Tryz.prog) w.drew _ _ ⟨g',0,none⟩ _ _ wy,Ext.drew w⟩
  obtain⟨p,w1,Ja,Qe⟩:=key;refine Jx (w':=w1) (v:=.pointer p) (λa hf=>?_) ⟨Qe,?_⟩
  ·have e1:=hf.ev (show Env.ev _ (.tmp 6)=some (.slice A out.length c) from rfl);simp only[execOp,resolve,invoke,builtin];simp[bL,e1,Ja]
  refine Jx (w':=w1) (v:=.string ByteArray.empty) (λa hf=>?_) ?_
  ·have e1:=hf.ev (show Env.ev _ (.tmp 7)=some (.pointer p) from rfl);have e2:=hf.ev (show Env.ev _ (.tmp 12)=some (.int .i64 out.length) from rfl);have:=Lib.run_unsafeString_none (P:=Tryz.prog) w1 179 3 9 p;rw[h0] at e2;simp only[execOp,resolve,invoke,builtin];simp[bL,e1,e2];rw[this]<;>rfl
  exact⟨G5 h0,Mod.of_ext _ Qe⟩
 ·obtain⟨g',sp,rfl,hb',KK,di⟩:=J6.blk (by omega);have Zz:=J6.sl.le;refine Jx (w':=w.drew) (v:=.pointer (some ⟨g',0,none⟩)) (λa hf=>?_) ⟨Ext.drew w,?_⟩
  ·have e1:=hf.ev (show Env.ev _ (.tmp 6)=some (.slice (some ⟨g',0,none⟩) out.length c) from rfl);have:=Lib.run_unsafeSliceData_row (P:=Tryz.prog) w.drew #[62] 179 ⟨g',0,none⟩ out.length c (by omega);simp only[execOp,resolve,invoke,builtin];simp[bL,e1,this]
  refine Jx (w':=w.drew.freeze ⟨g',0,none⟩ out.length) (v:=.string (Qd out)) (λa hf=>?_) ?_
  ·have e1:=hf.ev (show Env.ev _ (.tmp 7)=some (.pointer (some ⟨g',0,none⟩)) from rfl);have e2:=hf.ev (show Env.ev _ (.tmp 12)=some (.int .i64 out.length) from rfl);have dk:w.drew.shape? g'=some (5,(Vb out++sp).length):=(KK.ext (Ext.drew w)).shape;have JZ:(out.map UInt8.ofNat).length=out.length:=by simp
   have:=Lib.run_unsafeString_row (P:=Tryz.prog) w.drew 179 3 9 5 Tryz.underlying179 (by kernel_rfl) g' _ dk (out.map UInt8.ofNat) (by intro e;apply h0;rw[<-JZ,e];rfl) (by simp[rY]) (by rw[JZ];omega) (λj x hj=>by
    rw[(KK.ext (Ext.drew w)).cell];simp only[aL,DR] at hj;obtain⟨y,hy,rfl⟩:=hj;have W4:j<out.length:=(ZY.1 hy).1;rw[fD (by rw[QY];exact W4),px hy];have:=h8 y (Xm hy);simp[jR this])
   rw[JZ] at this;simp only[execOp,resolve,invoke,builtin];simp[bL,e1,e2];rw[this]<;>rfl
  exact⟨rfl,(Mod.of_ext (Qk _) (Ext.drew w)).trans (Og w.drew g' out.length (S:=Qk (some ⟨g',0,none⟩)) ⟨_,rfl,rfl⟩) (λi hi=>.inl hi)⟩
end
section
def ao {α:Type} [DecidableEq α](a:α):List (α×Value)->List (α×Value)
 | []=>[]
 | (b,v)::l=>if a=b then l else(b,v)::ao a l
theorem PY {α:Type} [DecidableEq α](a:α):∀l:List (α×Value),(ao a l).Sublist l
 | []=>List.Sublist.refl _
 | (b,v)::l=>by
  unfold ao;split
  ·exact List.sublist_cons_self _ _
  ·exact(PY a l).cons_cons _
theorem PZ {α:Type} [DecidableEq α]{a:α}:∀{l:List (α×Value)},a∉l.map (·.1)->Xz a l=none
 | [],_=>rfl
 | (b,v)::l,h=>by
  simp only[Vl,Q1,not_or] at h;unfold Xz;rw[if_neg h.1];exact PZ h.2
theorem P0 {α:Type} [DecidableEq α](a b:α):∀l:List (α×Value),(l.map (·.1)).Nodup->Xz b (ao a l)=if b=a then none else Xz b l
 | [],_=>by simp[ao,Xz]
 | (d,u)::l,hn=>by
  simp only[Vl,yX] at hn;unfold ao;split
  ·rename_i h;subst h;by_cases hb:b=a
   ·subst hb;rw[Qf rfl];exact PZ hn.1
   ·rw[if_neg hb];show _=if b=a then _ else Xz b l;rw[if_neg hb]
  ·rename_i h;have ih:=P0 a b l hn.2;simp only[Xz];by_cases hb:b=d
   ·rw[Qf hb,Qf hb,if_neg (λe=>h (by rw[<-e];exact hb))]
   ·rw[if_neg hb,if_neg hb,ih]
theorem P4 {α:Type} [DecidableEq α](a:α)(v:Value):∀l:List (α×Value),(l.map (·.1)).Nodup->((Ze a v l).map (·.1)).Nodup/\∀x,x∈(Ze a v l).map (·.1)->x=a∨x∈l.map (·.1)
 | [],_=>by simp[Ze]
 | (b,u)::l,h=>by
  simp only[Vl,yX] at h;unfold Ze;split
  ·rename_i Yi;exact⟨by simpa using h,λx hx=>.inr (by simpa using hx)⟩
  ·rename_i Yi;obtain⟨h1,h2⟩:=P4 a v l h.2;refine⟨?_,λx hx=>?_⟩
   ·rw[Vl,yX];exact⟨λhm=>by rcases h2 b hm with e | e;exact Yi e.symm;exact h.1 e,h1⟩
   ·rw[Vl,Q1] at hx;rcases hx with rfl | hx
    ·exact .inr (by simp)
    ·rcases h2 x hx with e | e
     ·exact .inl e
     ·exact .inr (by rw[Vl,Q1];exact .inr e)
theorem P5 {α:Type} [DecidableEq α]{d:TypeDesc}{kv:α->Value}(hk:KeyV d kv)(a:α):∀(m:List (α×Value))(bs:List Nat)(i:Nat),bs.length=m.length->
  ∃r,Instr.findNow d (kv a) (XV kv m bs) i=some r/\(∀j v,r=some (j,v)->i<=j/\j-i<m.length/\(XV kv m bs).eraseIdx (j-i)=XV kv (ao a m) (bs.eraseIdx (j-i))/\(ao a m).length+1=m.length)/\(r=none->ao a m=m)
 | [],bs,i,h=>⟨none,rfl,(λj v h=>nomatch h),λ_=>rfl⟩
 | (b,u)::m,[],i,h=>by simp at h
 | (b,u)::m,s::bs,i,h=>by
  have e:XV kv ((b,u)::m) (s::bs)={key:=kv b,val:=u,born:=s}::XV kv m bs:=rfl;rw[e];unfold Instr.findNow;simp only[hk.same];by_cases Yi:a=b
  ·subst Yi;simp only[decide_true];refine⟨some (i,u),rfl,λj v hj=>?_,λh=>by cases h⟩;cases hj;refine⟨QB _,by simp,?_,?_⟩
   ·rw[yQ];simp[ao]
   ·simp[ao]
  ·simp only[Yi,decide_false];obtain⟨r,h1,h3,h4⟩:=P5 hk a m bs (i+1) (by simpa using h);refine⟨r,h1,λj v hj=>?_,λhn=>by simp[ao,Yi,h4 hn]⟩;obtain⟨h5,h6,h7,h8⟩:=h3 j v hj;refine⟨by omega,by simp;omega,?_,by simp[ao,Yi];omega⟩;rw[show j-i=(j-(i+1))+1 by omega];simp only[List.eraseIdx_cons_succ,h7,ao,Yi,if_false];rfl
theorem fQw {α:Type} [DecidableEq α]{kv:α->Value}{c:Cx}{o:Oper}{S:Env}{w:World}{K:Env->World->Prop}{Q:Zg}{t t2 ke e:Nat}{r rk:TyRow}{x y:Operand}{q:Nat}{m:List (α×Value)}{a:α}(hg:c.g.Ok)
  (ho:o.op= .call ⟨.builtin .delete, #[x,y], #[t,t2]⟩) (iD:o.dst=none) (hr:QT c.g.tys t=some r) (hd:r.d= .map ke e) (bw:QT c.g.tys ke=some rk) (hk:KeyV rk.d kv)
  (hx:S.ev x=some (.map (some q))) (hy:S.ev y=some (kv a)) (hm:MapAt kv w q m)
  (k:∀w1,Mod (·=q) w w1->w1.heap.size=w.heap.size->MapAt kv w1 q (ao a m)->K S w1):X8 c o S w K Q:=by
 have Q0:=(hg.row hr).1;rw[hd] at Q0;have gs:=(hg.row bw).1;obtain⟨bs,ck,hl,hb⟩:=hm.ex;have Xc:q<w.heap.size:=(fA.1 hb).1;obtain⟨res,h1,h3,h4⟩:=P5 hk a m bs 0 hl;have ei:(getObj q).run c.g.P w= .ok (.map (XV kv m bs).toArray ck) w:=by simp[getObj,Sem.run,hb]
 have fj:∀ob,(setObj q ob).run c.g.P w= .ok () {w with heap:=w.heap.setIfInBounds q ob}:=λob=>by simp[setObj,Sem.run,hb]
 have main:∃W3,W3.length=(ao a m).length/\(Builtin.delete_ #[t,t2] o.type #[.map (some q),kv a]).run c.g.P w= .ok (.tuple #[]) {w with heap:=w.heap.setIfInBounds q (.map (XV kv (ao a m) W3).toArray ck)}:=by
  cases res with
  | none=>
   refine⟨bs,by rw[h4 rfl];exact hl,?_⟩;rw[h4 rfl];simp only[Builtin.delete_];simp[ZU Q0,ei,vj gs hk.plain,Instr.findKey,ZU gs,h1,fj]
  | some p=>
   obtain⟨j,u⟩:=p;obtain⟨_,h6,h7,h8⟩:=h3 j u rfl;simp only[Nat.sub_zero] at h6 h7;refine⟨bs.eraseIdx j,by rw[List.length_eraseIdx_of_lt (by omega)];omega,?_⟩;simp only[Builtin.delete_];simp[ZU Q0,ei,vj gs hk.plain,Instr.findKey,ZU gs,h1,fj];rw[h7]
 obtain⟨W3,di,Ja⟩:=main;unfold X8;intro b hf;have e1:=hf.ev hx;have e2:=hf.ev hy;refine bH (v:=.tuple #[]) (w':={w with heap:=w.heap.setIfInBounds q (.map (XV kv (ao a m) W3).toArray ck)}) ?_ ⟨S,by rw[iD];simpa [Act.put] using hf,k _ ⟨rfl,rfl,rfl,by simp,λi _ hi=>?_⟩ (by simp) ⟨W3,ck,di,by simp[Xc]⟩⟩
 ·simp only[execOp,ho,resolve,invoke,builtin];simp[e1,e2,Ja]
 ·simp only[DQ];rw[if_neg (λe=>hi e.symm)]
theorem Own.kind {w:World}{base e sz n c i:Nat}{A:Option Addr}{cs:List Value}(h:Own w base e sz A n c cs)(hi:Qk A i):∃ZD,w.heap[i]? =some (.cells ZD e (0,0)):=by
 obtain⟨ad,rfl,rfl⟩:=hi;rcases h.row.2 with⟨hv,_⟩ | ⟨g,cap,ZD,hv,_,hg,_⟩
 ·cases hv
 ·cases hv;exact⟨ZD,hg⟩
theorem Own.apart {w:World}{b b' e e' sz sz' n n' c c' i:Nat}{A B:Option Addr}{cs cs':List Value}(h:Own w b e sz A n c cs)(h':Own w b' e' sz' B n' c' cs')(QU:e≠e')(hi:Qk A i):¬Qk B i:=λhj=>by
 obtain⟨c1,h1⟩:=h.kind hi;obtain⟨c2,h2⟩:=h'.kind hj;rw[h1] at h2;simp only[Option.some.injEq,Obj.cells.injEq] at h2;exact QU h2.2.1
theorem Blk.apart {w:World}{b e sz n c g t:Nat}{A:Option Addr}{cs cs':List Value}(h:Blk w g t cs)(h':Own w b e sz A n c cs')(QU:t≠e):¬Qk A g:=λhj=>by
 obtain⟨c2,h2⟩:=h'.kind hj;rw[show w.heap[g]? =_ from h] at h2;simp only[Option.some.injEq,Obj.cells.injEq] at h2;exact QU h2.2.1
theorem MapAt.apart {α:Type}{kv:α->Value}{w:World}{b e sz n c q:Nat}{A:Option Addr}{cs':List Value}{m:List (α×Value)}(h:MapAt kv w q m)(h':Own w b e sz A n c cs'):¬Qk A q:=λhj=>by
 obtain⟨c2,h2⟩:=h'.kind hj;obtain⟨bs,ck,_,h1⟩:=h.ex;rw[h1] at h2;cases h2
structure DgO (w:World) (S:Nat->Prop) (k:Nat) (x:DV) (o:BF):Prop where
 sb:SB w x.A x.n x.c x.nd
 st:Set1 k x.nd x.r o
 off:∀ad,x.A=some ad->0<x.n->¬S ad.block
theorem SB.modo {S:Nat->Prop}{w w':World}{A:Option Addr}{n c:Nat}{nd:List Br}(h:SB w A n c nd)(hm:Mod S w w')(hr:∀ad,A=some ad->0<n->¬S ad.block):SB w' A n c nd:=
 ⟨h.1.modS hm (λh0 i hi=>by obtain⟨ad,e,rfl⟩:=hi;exact hr ad e h0),h.2⟩
theorem DgO.step {w w':World}{S S':Nat->Prop}{k:Nat}{x:DV}{o:BF}(h:DgO w S k x o)(hm:Mod S w w')(hs:∀i,S' i->S i∨w.heap.size<=i):DgO w' S' k x o:=
 ⟨h.sb.modo hm h.off,h.st,λad e h0 hS=>by
  rcases hs _ hS with h1 | h1
  ·exact h.off ad e h0 h1
  ·have:=SB.lt h.sb ad e h0;omega⟩
theorem DgO.keep {w w':World}{S T:Nat->Prop}{k:Nat}{x:DV}{o:BF}(h:DgO w S k x o)(hm:Mod T w w')(ht:∀i,T i->S i∨w.heap.size<=i):DgO w' S k x o:=
 ⟨h.sb.modo (hm.mono ht) h.off,h.st,h.off⟩
theorem DgO.ext {w w':World}{S:Nat->Prop}{k:Nat}{x:DV}{o:BF}(h:DgO w S k x o)(hE:Ext w w'):DgO w' S k x o:=⟨h.sb.ext hE,h.st,h.off⟩
theorem DgO.new {w w':World}{S:Nat->Prop}{k:Nat}{A:Option Addr}{n c:Nat}{nd:List Br}{r:Int}{o:BF}(hb:SB w' A n c nd)(hs:Set1 k nd r o)(hr:∀i,Qk A i->w.heap.size<=i)(hS:∀i,S i->i<w.heap.size):DgO w' S k ⟨A,n,c,nd,r⟩ o:=
 ⟨hb,hs,λad e _ h=>by have:=hr ad.block ⟨ad,e,rfl⟩;have:=hS _ h;omega⟩
end
section
def gP (c:Nat)(l:List Nat):Int:=if c∈l then((l.takeWhile (λb=>b !=c)).length:Nat)else -1
theorem P6 {b c:Nat}(hb:b<256)(hc:c<256):(UInt8.ofNat b==UInt8.ofNat c)=(b==c):=by
 rw[oT];simp only[beq_iff_eq];constructor
 ·intro h;have:=QC UInt8.toNat h;simpa [jR hb,jR hc] using this
 ·intro h;rw[h]
theorem Af {c:Nat}(hc:c<256):∀{l:List Nat},(∀x∈l,x<256)->Lib.indexByte (l.map UInt8.ofNat) (UInt8.ofNat c)=gP c l
 | [],_=>rfl
 | b::l,h=>by
  have ih:=Af hc (l:=l) (λx hx=>h x (by simp[hx]));have hb:b<256:=h b (by simp);rw[Vl,Lib.indexByte,P6 hb hc,ih];unfold gP;by_cases yk:b=c
  ·subst yk;simp
  ·have h1:(b==c)=false:=by simpa using yk
   rw[h1];by_cases hm:c∈l
   ·have h3:¬c=b:=λe=>yk e.symm
    simp[hm,yk,h3]
   ·have h3:¬c=b:=λe=>yk e.symm
    simp[hm,h3]
theorem vS (l:List Nat):(Qd l).data.toList=l.map UInt8.ofNat:=by simp[Qd]
theorem vT {P:Program}{f:FuncId}{l:List Value}{w:World}{v:Value}(h:Calls P f l.toArray w λe w'=>e= .returned v/\w'=w):Fn P f l w (λu w'=>u=v/\w=w'):=by
 unfold Fn;exact h.mono λe w' he=>by obtain⟨rfl,rfl⟩:=he;exact⟨rfl,rfl⟩
theorem Fw (l:List Nat)(c:Nat)(w:World)(hl:∀x∈l,x<256)(hc:c<256):
  Fn Tryz.prog 94 [.string (Qd l),.int .u8 c] w (λv w'=>v= .int .i64 (gP c l)/\w=w'):=by
 have h:=Tryz.strings_IndexByte (Qd l) (c:Int) w;have e:((c:Int).toNat.toUInt8)=UInt8.ofNat c:=rfl;rw[vS,e,Af hc hl] at h;exact vT h
theorem P7 (l:List Nat)(c:Nat)(w:World)(hl:∀x∈l,x<256)(hc:c<256):
  Fn Tryz.prog 204 [.string (Qd l),.string (Qd [c])] w (λv w'=>v= .int .i64 (l.count c)/\w=w'):=by
 have h:=Tryz.strings_Count_one (Qd l) (UInt8.ofNat c) w;have e:Lib.countByte (Qd l).data.toList (UInt8.ofNat c)=l.count c:=by
  rw[vS];unfold Lib.countByte;clear h;induction l with
  | nil=>rfl
  | cons b l ih=>
   rw[Vl,yT,yT,ih (λx hx=>hl x (by simp[hx])),P6 (hl b (by simp)) hc]
 rw[e] at h;exact vT h
def JK (l:List Nat):List Nat:=l.takeWhile (λb=>b !=32)
def Ve (l:List Nat):List Nat:=l.drop ((JK l).length+1)
theorem fQx (l:List Nat):l.take (JK l).length=JK l:=(List.prefix_iff_eq_take.1 (List.takeWhile_prefix _)).symm
theorem P8 {l:List Nat}:(JK l).length<l.length↔32∈l:=by
 unfold JK;induction l with
 | nil=>simp
 | cons b l ih=>
  by_cases hb:b=32
  ·subst hb;simp
  ·have:(b !=32)=true:=by simpa using hb
   rw[WD,Qf this];simp only[Q6,Nat.add_lt_add_iff_right,ih,Q1];constructor
   ·exactλh=>.inr h
   ·rintro(h | h)
    ·exact Xn h.symm hb
    ·exact h
theorem fQy {l:List Nat}(h:32∈l):l=JK l++32::Ve l:=by
 unfold Ve JK;induction l with
 | nil=>simp at h
 | cons b l ih=>
  by_cases hb:b=32
  ·subst hb;simp
  ·have h1:(b !=32)=true:=by simpa using hb
   rw[WD,Qf h1];simp only[Q6,M0,YF];congr 1;refine ih ?_;simp only[Q1] at h;rcases h with h | h
   ·exact Xn h.symm hb
   ·exact h
theorem Fx {l:List Nat}(h:32∉l):JK l=l:=by
 unfold JK;induction l with
 | nil=>rfl
 | cons b l ih=>
  simp only[Q1,not_or] at h;have h1:(b !=32)=true:=by simpa using λe=>h.1 e.symm
  rw[WD,Qf h1,ih h.2]
theorem fQz {l:List Nat}(h:32∈l):((l.takeWhile (λb=>b !=32)).length:Nat)<l.length:=P8.2 h
theorem fQA (l:List Nat)(w:World)(hl:∀x∈l,x<256)(QY:l.length<=1000000000000):
  Fn Tryz.prog 201 [.string (Qd l),.string (Qd [32])] w (λv w'=>(v=if 32∈l then .tuple #[.string (Qd (JK l)),.string (Qd (Ve l)),.bool true] else .tuple #[.string (Qd l),.string (Qd []),.bool false])/\Ext w w'):=by
 refine QF (c:=cQ5) Qa Tryz.func201 rfl rfl rfl ?_;have h:=Tryz.stringslite_Index_one (Qd l) (UInt8.ofNat 32) w;rw[vS,Af (by decide) hl] at h;refine call (vT h) ?_;rintro _ _ ⟨rfl,rfl⟩;unfold gP;by_cases hm:32∈l
 ·rw[Qf hm,Qf hm];have Xc:=fQz hm;refine Zh (by show(0:Int)<=_;omega) ?_;refine ve Qa (by kernel_rfl) ?_;refine XH (v':=.string (Qd (JK l))) ⟨lS _,by omega,by rw[Xe];omega⟩ ?_ ?_
  ·rw[KY];exact QC (λx=>Value.string (Qd x)) (fQx l)
  refine Qi (((JK l).length+1:Nat):Int) (by rw[Xe];show((_:Nat):Int)+1=_;unfold JK;omega) (by unfold JK;omega) ?_;refine XH (v':=.string (Qd (Ve l))) ⟨by omega,by rw[Xe];unfold JK;omega,by rw[Xe];omega⟩ ?_ ?_
  ·rw[KY];unfold Ve;rw[Xe];show Value.string (Qd ((l.take l.length).drop _))=_;rw[Jc (QB _)]<;>rfl
  exactλw' hE=>⟨rfl,hE⟩
 ·rw[if_neg hm,if_neg hm];refine XD (by decide) ?_;exact⟨rfl,Ext.refl _⟩
theorem fQB (l:List Nat)(w:World)(hl:∀x∈l,x<256)(QY:l.length<=1000000000000):
  Fn Tryz.prog 143 [.string (Qd l),.string (Qd [32])] w (λv w'=>(v=if 32∈l then .tuple #[.string (Qd (JK l)),.string (Qd (Ve l)),.bool true] else .tuple #[.string (Qd l),.string (Qd []),.bool false])/\Ext w w'):=by
 refine QF (c:=cQu) Qa Tryz.func143 rfl rfl rfl ?_;refine call (fQA l w hl QY) ?_;rintro v w1 ⟨rfl,Qe⟩;by_cases hm:32∈l
 ·rw[Qf hm];exact⟨rfl,Qe⟩
 ·rw[if_neg hm];exact⟨rfl,Qe⟩
theorem kD {kw s:List Nat}(hk:32∉kw):(kw++ [32]).isPrefixOf s=true↔JK s=kw/\32∈s:=by
 rw[aQ6];constructor
 ·rintro⟨r,rfl⟩;refine⟨?_,by simp⟩;unfold JK;rw[J7,List.takeWhile_append_of_pos (λx hx=>by simpa using λe=>hk (by rw[<-e];exact hx))];simp
 ·rintro⟨h1,h2⟩;have:=fQy h2;rw[h1] at this;exact⟨Ve s,by rw[J7];exact this.symm⟩
theorem Fy {kw s:List Nat}(h:JK s=kw):s.drop (kw.length+1)=Ve s:=by unfold Ve;rw[h]
def mB:List Nat:=[35,105,102]
def sU:List Nat:=[35,101,108,105,102]
def pO:List Nat:=[35,105,110,99,108,117,100,101]
theorem fQC {s:List Nat}(h:JK s=mB)(hm:32∈s):Zn s= .ifd (Ve s):=by
 unfold Zn;rw[Qf (show ZQ.isPrefixOf s=true from (kD (kw:=mB) (by decide)).2 ⟨h,hm⟩),<-Fy h]<;>rfl
theorem fQD {s:List Nat}(h:JK s=pO)(hm:32∈s):Zn s= .inc (Ve s):=by
 unfold Zn;rw[if_neg (λhp=>by have:=((kD (kw:=mB) (by decide)).1 hp).1;rw[h] at this;cases this),Qf (show pInc.isPrefixOf s=true from (kD (kw:=pO) (by decide)).2 ⟨h,hm⟩),<-Fy h];rfl
theorem fQE {s:List Nat}(h:JK s=sU)(hm:32∈s):Zn s= .elif (Ve s):=by
 unfold Zn;rw[if_neg (λhp=>by have:=((kD (kw:=mB) (by decide)).1 hp).1;rw[h] at this;cases this),if_neg (λhp=>by have:=((kD (kw:=pO) (by decide)).1 hp).1;rw[h] at this;cases this),
  Qf (show pElif.isPrefixOf s=true from (kD (kw:=sU) (by decide)).2 ⟨h,hm⟩),<-Fy h];rfl
theorem fQF {s:List Nat}(h1:¬(JK s=mB/\32∈s))(h2:¬(JK s=pO/\32∈s))(h3:¬(JK s=sU/\32∈s)):Zn s=if s=V0 then .els else if s=ZK then .en else .txt:=by
 unfold Zn;rw[if_neg (λ(hp:ZQ.isPrefixOf s=true)=>h1 ((kD (kw:=mB) (by decide)).1 hp)),if_neg (λ(hp:pInc.isPrefixOf s=true)=>h2 ((kD (kw:=pO) (by decide)).1 hp)),if_neg (λ(hp:pElif.isPrefixOf s=true)=>h3 ((kD (kw:=sU) (by decide)).1 hp))]
theorem fQG:Zn V0= .els:=rfl
theorem fQH:Zn ZK= .en:=rfl
end
section
section
variable {P:Program} {ops:Array Oper} {md:Region.Mode} {C:World->Prop} {Q:Exit->Act->World->Prop}
def PanW (N:Slots)(Xg:List PanicEntry->World->Prop)(Q:Exit->Act->World->Prop):Exit->Act->World->Prop
 | .panic ch,a,w=>a.tmps.size=N.n/\a.defers=N.ds/\Xg ch w
 | e,a,w=>Q e a w
theorem PanW.put {N:Slots}{Xg:List PanicEntry->World->Prop}{Q:Exit->Act->World->Prop}{ch:List PanicEntry}{a:Act}{d:Option Tmp}{v:Value}{w:World}(h:PanW N Xg Q (.panic ch) (a.put d v) w):PanW N Xg Q (.panic ch) a w:=by
 obtain⟨h1,h2,h3⟩:=h;cases d with
 | none=>exact⟨h1,h2,h3⟩
 | some d=>exact⟨by simpa [Act.put] using h1,by simpa [Act.put] using h2,h3⟩
theorem PanW.imp {c:Cx}{Xg:List PanicEntry->World->Prop}{Q:Zg}(hp:∀ch S w,Xg ch w->Q (.panic ch) S w):∀(e:Exit)(a:Act)(w:World),PanW c.N Xg (Up c Q) e a w->Up c Q e a w:=λe a w h=>by
 cases e<;>first | exact h | (obtain⟨h1,h2,h3⟩:=h;exact⟨[],⟨h1,h2,λk x hk=>by simp[Env.ent] at hk⟩,hp _ _ _ h3⟩)
theorem fQI {N:Slots}{Xg:List PanicEntry->World->Prop}{n i:Nat}{oi:Oper}{v:Value}{L:Array Bool->Act->World->Prop}(hi:ops[i]? =some oi)(nY:∀(j:Nat)(o:Oper) cs b,ops[j]? =some o->o.op≠ .select cs b)
  (hs:iY md ops n) (QZ:i<n) (xS:∀listed a w,L listed a w->∀j∈Region.ready md ops listed,n<=j):
  ∀(f:Nat) (listed:Array Bool) (a:Act) (w:World),HeadInv md ops n listed->
   (∀j oj,ops[j]? =some oj->j≠i->listed.getD j true=false->(∀e∈oj.after,Region.binds md e=true->e.on≠i)->oi.apart ops oj=true)->
   i∈Region.ready md ops listed->YieldsIf P ops C oi v a->C w->
   VV P md ops (PanW N Xg Q) C n L f (listed.setIfInBounds i true) (a.put oi.dst v) w->VV P md ops (PanW N Xg Q) C n L (f+1) listed a w:=by
 intro f;induction f with
 | zero=>
  intro listed a w inv _ hr hy hC H;have JQ:=(mem_ready.1 hr).1;refine⟨λh=>(by rw[h] at hr;cases hr),λj hj=>?_⟩;have Kk:=r4 hs inv QZ JQ j hj;refine⟨Kk,?_⟩;by_cases KU:j=i
  ·subst KU;exact hy.wpOp hi hC ⟨hC,H⟩
  ·have:=xS _ _ _ H j (ready_mono hj KU);omega
 | succ f ih=>
  intro listed a w inv nZ hr hy hC H;have JQ:=(mem_ready.1 hr).1;refine⟨λh=>(by rw[h] at hr;cases hr),λj hj=>?_⟩;have Kk:=r4 hs inv QZ JQ j hj;refine⟨Kk,?_⟩;by_cases KU:j=i
  ·subst KU;exact hy.wpOp hi hC ⟨hC,H⟩
  ·have h1:=(H.2 j (ready_mono hj KU)).2;obtain⟨od,oj,fi,hall⟩:=mem_ready.1 hj;have lB:∀e∈oj.after,Region.binds md e=true->e.on≠i:=λe he hb heq=>by
    have h1:=hall e he hb;rw[heq,getD_both JQ] at h1;cases h1
   have h2:=wpOp_putIf fi (nZ j oj fi KU od lB) (λcs b=>nY i oi cs b hi) (λcs b=>nY j oj cs b fi) (λ_ _ _ h=>PanW.put h) hy h1;have xT:∀k ok,ops[k]? =some ok->k≠i->(listed.setIfInBounds j true).getD k true=false->
     (∀e∈ok.after,Region.binds md e=true->e.on≠i)->oi.apart ops ok=true:=λk ok hk xU JQ Xi=>by
    refine nZ k ok hk xU ?_ Xi;by_cases oe:j=k
    ·subst oe;exact od
    ·rw[getD_set_ne true oe] at JQ;exact JQ
   refine wpOp_mono (λa' w' h3=>⟨h3.2.1,ih (listed.setIfInBounds j true) a' w' (inv.set hj Kk) xT (ready_mono hr (Ne.symm KU)) h3.1 h3.2.1 ?_⟩) h2;rw[aQ5 _ _ KU];exact h3.2.2
end
section
variable {c:Cx} {S:Env} {a:Act}
def kE (c:Cx)(Xg:List PanicEntry->World->Prop)(all:List Oper)(C:World->Prop):List (Bool×Nat)->Env->World->(Env->World->Prop)->Prop
 | [],S,w,K=>K S w
 | (true,k)::l,S,w,K=>match KM all k with
  | some o=>fQ all o S (λS=>pz c o S C (λS=>kE c Xg all C l S w K)) (λS=>Xd c S o.dst (.v undef) (λS=>kE c Xg all C l S w K))
  | none=>False
 | (false,k)::l,S,w,K=>match KM all k with
  | some o=>fQ all o S (λS=>dz c o S w (λS w=>C w/\kE c Xg all C l S w K) (λe _ w=>match e with
   | .panic ch=>Xg ch w
   | _=>False)) (λS=>Xd c S o.dst (.v undef) (λS=>kE c Xg all C l S w K))
  | none=>False
theorem Ag (hg:c.g.Ok){md:Region.Mode}{ops:List Oper}{C:World->Prop}{Q:Exit->Act->World->Prop}{n:Nat}(hs:Region.noSelect ops.toArray=true)(hk:iY md ops.toArray n){K:Env->World->Prop}{Xg:List PanicEntry->World->Prop}:
  ∀(l:List (Bool×Nat)) (listed:Array Bool) (S:Env) (a:Act) (w:World),HeadInv md ops.toArray n listed->dF md ops.toArray n l listed=true->kE c Xg ops C l S w K->Fits c.N S a->C w->
  VV c.g.P md ops.toArray (PanW c.N Xg Q) C n (λJf a' w'=>Region.seqB md ops.toArray (ops.toArray.size-n) n Jf=true/\∃S',Fits c.N S' a'/\K S' w') l.length listed a w
 | [],listed,S,a,w,inv,hB,h,hf,hC=>⟨hB,S,hf,h⟩
 | (true,k)::l,listed,S,a,w,inv,hB,h,hf,hC=>by
  simp only[dF,Jl] at hB;obtain⟨⟨⟨Xj,hr⟩,gn⟩,KK⟩:=hB;have Xj:k<n:=by rw[gC] at Xj;exact Xj
  have Q0:k∈Region.ready md ops.toArray listed:=by simpa using hr
  obtain⟨_,o,ho,_⟩:=mem_ready.1 Q0;have hn:KM ops k=some o:=by rw[fM];simpa using ho
  simp only[kE,hn] at h;have key:∃v,YieldsIf c.g.P ops.toArray C o v a/\∃S',Fits c.N S' (a.put o.dst v)/\kE c Xg ops C l S' w K:=by
   rcases iZ h hf with⟨hw,S1,Zf,h1⟩ | ⟨hw,S1,Zf,h1⟩
   ·obtain⟨v,h2,h3⟩:=vh hg h1 Zf;exact⟨v,.inl ⟨hw,h2⟩,h3⟩
   ·exact⟨undef,.inr ⟨hw,rfl⟩,Zu (e:=.v undef) h1 Zf⟩
  obtain⟨v,hy,S',QW,h'⟩:=key;exact fQI ho (Region.noSelect_spec hs) hk Xj (λJf a' w' hL=>seqB_ready hL.1) l.length listed a w inv (Region.free_spec ho gn) Q0 hy hC
   (Ag hg hs hk l _ S' _ w (inv.set Q0 Xj) KK h' QW hC)
 | (false,k)::l,listed,S,a,w,inv,hB,h,hf,hC=>by
  simp only[dF,Jl,Vm] at hB;obtain⟨⟨Xj,hr⟩,KK⟩:=hB;have Xj:k<n:=by rw[gC] at Xj;exact Xj
  have Q0:k∈Region.ready md ops.toArray listed:=by rw[hr];simp
  obtain⟨_,o,ho,_⟩:=mem_ready.1 Q0;have hn:KM ops k=some o:=by rw[fM];simpa using ho
  simp only[kE,hn] at h;have d9:=inv.set Q0 Xj;refine⟨λh0=>(by rw[hr] at h0;cases h0),λi hi=>?_⟩;rw[hr] at hi;have xV:i=k:=by simpa using hi
  subst xV;refine⟨Xj,?_⟩;unfold wpOp;simp only[ho];rcases iZ h hf with⟨hw,S1,Zf,h1⟩ | ⟨hw,S1,Zf,h1⟩
  ·rw[Qf hw];refine .inl ?_;have h2:=pq hg h1 Zf;have h3:=Oper.wp_mono (K':=λa' w'=>C w'/\VV c.g.P md ops.toArray (PanW c.N Xg Q) C n (λJf a' w'=>Region.seqB md ops.toArray (ops.toArray.size-n) n Jf=true/\∃S',Fits c.N S' a'/\K S' w') l.length (listed.setIfInBounds i true) a' w')
    (λa' w' ⟨S',QW,Jv,YB⟩=>⟨Jv,Ag hg hs hk l _ S' a' w' d9 KK YB QW Jv⟩) h2
   unfold Oper.wp at h3 ⊢;generalize (execOp a.eval o).run c.g.P w=r at*;cases r with
   | ok nx w'=>
    cases nx<;>simp only[Oper.upon] at h3 ⊢ <;> try exact h3
    exact h3.mono λe KT he=>by
     cases e with
     | returned v=>exact he
     | panicked ch=>obtain⟨_,hfz,he⟩:=he;exact⟨hfz.size,hfz.defers,he⟩
     | outgrown=>obtain⟨_,_,_,_,he⟩:=he;exact he.elim
   | halt x w'=>cases x<;>simp only[Oper.upon] at h3 ⊢ <;> first | exact h3 | (obtain⟨_,hfz,h3⟩:=h3;exact⟨hfz.size,hfz.defers,h3⟩) | (obtain⟨_,_,h3⟩:=h3;exact h3.elim)
  ·rw[if_neg (by rw[hw];decide)];obtain⟨S',QW,h'⟩:=Zu (e:=.v undef) h1 Zf;exact⟨hC,Ag hg hs hk l _ S' _ w d9 KK h' QW hC⟩
theorem fQJ (hg:c.g.Ok){id:Nat}{ops:List Oper}{w:World}{Q:Zg}(Xg:List PanicEntry->World->Prop)(L6:∀ch S w,Xg ch w->Q (.panic ch) S w)(C:World->Prop)(n:Nat)(plan:List (Bool×Nat))
  (hB:(Region.noSelect ops.toArray&&Nat.beq plan.length n&&py .any ops.toArray n&&dF .any ops.toArray n plan (Array.replicate ops.toArray.size false))=true) (hC:C w.drew)
  (h:kE {c with named:=1000000} Xg ops C plan S w.drew (λS w=>Yn c ops (ops.drop n) S w (λS w=>Q .normal S w) (λe _ w=>match e with
   | .panic ch=>Xg ch w
   | _=>False))):Wm c id ops S w Q:=by
 unfold Wm;intro a hf;simp only[Jl] at hB;obtain⟨⟨⟨hs,hl⟩,aH⟩,JE⟩:=hB;have hl:=Vk hl;have hk:=vg aH;have De:n<=ops.length:=by
  rcases hk with hk | hk
  ·rw[hk];simp
  ·have:=hk.1;simp at this;omega
 refine Code.wp_mono (PanW.imp L6) (wp_region_any hg.mixed ?_);have kT:HeadInv .any ops.toArray n (Array.replicate ops.toArray.size false):=
  ⟨by simp,λj oj _ hl=>(by rw[getD_replicate_false] at hl;cases hl),λt _ ht=>getD_in (by simpa using ht) (getD_replicate_false _ _)⟩
 have H:=Ag (c:={c with named:=1000000}) hg (Q:=Up c Q) hs hk plan _ S a _ kT JE h hf hC;have Vy:(ops.drop n).length=ops.toArray.size-n:=by simp
 have H2:=rZ (Q:=PanW c.N Xg (Up c Q)) (g:=ops.toArray.size-n) (λJf a' w' hL=>by
  obtain⟨hq,S',QW,YB⟩:=hL;have h2:=iT (c:=c) hg ops _ _ _ _ YB QW;have:=wpAny_of_seq (P:=c.g.P) (md:=.any) (ops:=ops.toArray) (Q':=PanW c.N Xg (Up c Q)) (ops.drop n) n Jf a' w' (λj=>by simp) (by rw[Vy];exact hq) (j5 (λe a w hq=>by
   cases e with
   | normal=>exact hq
   | panic ch=>obtain⟨_,hfz,h⟩:=hq;exact⟨hfz.size,hfz.defers,h⟩
   | _=>exact Xn hq (by rintro⟨_,_,h⟩;exact h)) h2)
  rwa [Vy] at this) _ _ _ _ H
 rw[hl,show n+(ops.toArray.size-n)=ops.toArray.size by simp;omega] at H2;exact H2
end
end
end
section
def YZ (l:List Nat):Int:=if ZQ.isPrefixOf l then 1 else if l=ZK then -1 else 0
def dp (ls:List (List Nat)):Int:=(ls.map YZ).sum
theorem FB (l:List Nat)(ls:List (List Nat)):dp (l::ls)=YZ l+dp ls:=by simp[dp]
theorem fQK (a b:List (List Nat)):dp (a++b)=dp a+dp b:=by simp[dp]
theorem P9 (a:List (List Nat)):dp a.reverse=dp a:=by
 induction a with
 | nil=>rfl
 | cons x a ih=>rw[rI,fQK,ih,FB,FB];simp[dp];omega
def kF:List (List Nat)->List (List Nat)->Nat->Nat->Int->Nat
 | x::a,y::b,k,best,o=>if x=y then kF a b (k+1) (if o+YZ x=0 then k+1 else best) (o+YZ x)else best
 | _,_,_,best,_=>best
def kG (a b:List (List Nat))(o:Int)(q:Nat):Prop:=1<=q/\q<=a.length/\q<=b.length/\a.take q=b.take q/\o+dp (a.take q)=0
theorem FC {x y:List Nat}{a b:List (List Nat)}{o:Int}{q:Nat}(hq:1<=q):kG (x::a) (y::b) o (q+1)↔x=y/\kG a b (o+YZ x) q:=by
 unfold kG;simp only[Q6,uI,List.cons.injEq,FB];constructor
 ·rintro⟨_,h2,h3,⟨rfl,h4⟩,h5⟩;exact⟨rfl,hq,by omega,by omega,h4,by omega⟩
 ·rintro⟨rfl,_,h2,h3,h4,h5⟩;exact⟨by omega,by omega,by omega,⟨rfl,h4⟩,by omega⟩
theorem Ra:∀(a b:List (List Nat))(k best:Nat)(o:Int),((∀q,¬kG a b o q)/\kF a b k best o=best)∨∃p,kG a b o p/\(∀q,kG a b o q->q<=p)/\kF a b k best o=k+p
 | [],b,k,best,o=>.inl ⟨λq h=>by have:=h.1;have:=h.2.1;simp at this;omega,by cases b<;>rfl⟩
 | x::a,[],k,best,o=>.inl ⟨λq h=>by have:=h.1;have:=h.2.2.1;simp at this;omega,rfl⟩
 | x::a,y::b,k,best,o=>by
  rw[kF];by_cases Xu:x=y
  ·rw[Qf Xu];have one:kG (x::a) (y::b) o 1↔o+YZ x=0:=by
    unfold kG;simp[Xu,dp]
   rcases Ra a b (k+1) (if o+YZ x=0 then k+1 else best) (o+YZ x)with⟨h1,h2⟩ | ⟨p,h1,h2,h3⟩
   ·have lst:∀q,kG (x::a) (y::b) o q->q=1:=λq hq=>by
     have:=hq.1
     match q,hq with
     | 1,_=>rfl
     | q+2,hq=>exact Xn ((FC (by omega)).1 hq).2 (h1 _)
    by_cases h0:o+YZ x=0
    ·rw[Qf h0] at h2 ⊢;exact .inr ⟨1,one.2 h0,λq hq=>by rw[lst q hq];exact QB _,h2⟩
    ·rw[if_neg h0] at h2 ⊢;exact .inl ⟨λq hq=>by have:=lst q hq;subst this;exact h0 (one.1 hq),h2⟩
   ·refine .inr ⟨p+1,(FC h1.1).2 ⟨Xu,h1⟩,λq hq=>?_,by rw[h3];omega⟩
    match q,hq with
    | 0,_=>omega
    | 1,_=>omega
    | q+2,hq=>have:=h2 _ ((FC (by omega)).1 hq).2;omega
  ·rw[if_neg Xu];refine .inl ⟨λq hq=>?_,rfl⟩
   match q,hq with
   | 0,hq=>exact Xn hq.1 (by omega)
   | q+1,hq=>have:=hq.2.2.2.1;simp at this;exact Xu this.1
def Yt (a b:List (List Nat)):Nat:=kF a b 0 0 0
theorem FD (a b:List (List Nat)):Yt a b<=a.length/\Yt a b<=b.length/\a.take (Yt a b)=b.take (Yt a b)/\dp (a.take (Yt a b))=0/\∀q,q<=a.length->q<=b.length->a.take q=b.take q->dp (a.take q)=0->q<=Yt a b:=by
 unfold Yt;rcases Ra a b 0 0 0 with⟨h1,h2⟩ | ⟨p,h1,h2,h3⟩
 ·rw[h2];refine⟨Xr _,Xr _,rfl,rfl,λq q1 q2 q3 q4=>?_⟩;by_cases h0:q=0
  ·omega
  ·exact Xn ⟨by omega,q1,q2,q3,by omega⟩ (h1 q)
 ·rw[h3,Wh];obtain⟨p1,p2,p3,p4,p5⟩:=h1;refine⟨p2,p3,p4,by omega,λq q1 q2 q3 q4=>?_⟩;by_cases h0:q=0
  ·omega
  ·exact h2 q ⟨by omega,q1,q2,q3,by omega⟩
def fX (a b:List (List Nat)):Nat:=Yt a.reverse b.reverse
theorem sV {α:Type}(a:List α)(q:Nat)(h:q<=a.length):a.reverse.take q=(a.drop (a.length-q)).reverse:=by
 rw[List.take_reverse]
theorem Rb (a b:List (List Nat)):fX a b<=a.length/\fX a b<=b.length/\a.drop (a.length-fX a b)=b.drop (b.length-fX a b)/\dp (a.drop (a.length-fX a b))=0/\∀q,q<=a.length->q<=b.length->a.drop (a.length-q)=b.drop (b.length-q)->dp (a.drop (a.length-q))=0->q<=fX a b:=by
 obtain⟨h1,h2,h3,h4,h5⟩:=FD a.reverse b.reverse;rw[List.length_reverse] at h1 h2;unfold fX;rw[sV _ _ h1,sV _ _ h2] at h3;rw[sV _ _ h1,P9] at h4;refine⟨h1,h2,by simpa using h3,h4,λq q1 q2 q3 q4=>h5 q (by simpa using q1) (by simpa using q2) ?_ ?_⟩
 ·rw[sV _ _ q1,sV _ _ q2,q3]
 ·rw[sV _ _ q1,P9];exact q4
def VJ (nm:List (List Nat))(v:Nat)(ng:Bool):List Nat:=ZQ++((if ng then [33] else [])++(nm[v]?).getD [])
def bO (nm:List (List Nat))(v:Nat)(h l:List (List Nat)):List (List Nat):=
 let p:=Yt h l
 let h1:=h.drop p
 let l1:=l.drop p
 let s:=fX h1 l1
 let h2:=h1.take (h1.length-s)
 let l2:=l1.take (l1.length-s)
 h.take p++((if h2=[] then VJ nm v true::l2 else VJ nm v false::(h2++if l2=[] then [] else V0::l2))++ZK::h1.drop (h1.length-s))
inductive Tr where
 | nil
 | ln (s:List Nat) (r:Tr)
 | sc (v:Nat) (ng:Bool) (h l r:Tr)
def fl (nm:List (List Nat)):Tr->List (List Nat)
 | .nil=>[]
 | .ln s r=>s::fl nm r
 | .sc v ng h .nil r=>VJ nm v ng::(fl nm h++ZK::fl nm r)
 | .sc v ng h l r=>VJ nm v ng::(fl nm h++V0::(fl nm l++ZK::fl nm r))
deriving instance DecidableEq for Dir
def Z0:List Nat->List (List Nat)
 | []=>[[]]
 | b::l=>if b=10 then [10]::Z0 l else match Z0 l with
  | []=>[[b]]
  | s::ls=>(b::s)::ls
theorem FE:∀l,Z0 l≠ []
 | []=>by simp[Z0]
 | b::l=>by
  unfold Z0;split
  ·simp
  ·split<;>simp
theorem Ai:∀l,(Z0 l).length=l.count 10+1
 | []=>rfl
 | b::l=>by
  have ih:=Ai l;unfold Z0;split
  ·rename_i h;subst h;simp[ih]
  ·rename_i h;rw[List.count_cons_of_ne h];split
   ·rename_i e;exact Xn e (FE l)
   ·rename_i e;rw[e] at ih;exact ih
theorem Aj:∀{l},10∉l->Z0 l=[l]
 | [],_=>rfl
 | b::l,h=>by
  simp only[Q1,not_or] at h;unfold Z0;rw[if_neg (λe=>h.1 e.symm),Aj h.2]
def WO (l:List Nat):List Nat:=l.takeWhile (λb=>b !=10)
theorem fQL {l:List Nat}(h:10∈l):(WO l).length<l.length:=by
 unfold WO;induction l with
 | nil=>cases h
 | cons b l ih=>
  by_cases hb:b=10
  ·subst hb;simp
  ·have h1:(b !=10)=true:=by simpa using hb
   rw[WD,Qf h1];simp only[Q6,Nat.add_lt_add_iff_right];exact ih ((Q1.1 h).resolve_left (λe=>hb e.symm))
theorem FF:∀{l},10∈l->Z0 l=l.take ((WO l).length+1)::Z0 (l.drop ((WO l).length+1))
 | [],h=>by cases h
 | b::l,h=>by
  by_cases hb:b=10
  ·subst hb;rw[Z0,Qf rfl];have e:WO (10::l)=[]:=by simp[WO]
   rw[e]<;>rfl
  ·have h1:(b !=10)=true:=by simpa using hb
   have e:WO (b::l)=b::WO l:=by unfold WO;rw[WD,Qf h1]
   have ih:=FF ((Q1.1 h).resolve_left (λe=>hb e.symm));rw[Z0,if_neg hb,ih,e]<;>rfl
theorem Rc:∀{l},(∀x∈l,x<256)->∀s∈Z0 l,(∀x∈s,x<256)/\s.length<=l.length
 | [],_,s,hs=>by
  have:s=[]:=by simpa [Z0] using hs
  subst this;exact⟨(λx hx=>by cases hx),QB _⟩
 | b::l,h,s,hs=>by
  have ih:=Rc (l:=l) (λx hx=>h x (by simp[hx]));unfold Z0 at hs;split at hs
  ·rcases Q1.1 hs with rfl | hs
   ·exact⟨by decide,by simp⟩
   ·exact⟨(ih s hs).1,Nat.le_succ_of_le (ih s hs).2⟩
  ·split at hs
   ·rename_i e;exact Xn e (FE l)
   ·rename_i t ts e;rw[e] at ih;rcases Q1.1 hs with rfl | hs
    ·have:=ih t (by simp);exact⟨λx hx=>(Q1.1 hx).elim (λe=>e▸h b (by simp)) (this.1 x),by simp;exact this.2⟩
    ·have:=ih s (by simp[hs]);exact⟨this.1,Nat.le_succ_of_le this.2⟩
def ap (l:List Nat):List (List Nat):=if(Z0 l).getLast? =some [] then(Z0 l).dropLast else Z0 l
theorem Re:∀{l},Wt l->Z0 l=(QR l).map (·++ [10])++ [[]]
 | [],_=>rfl
 | b::l,h=>by
  have hl:Wt l:=by
   cases l with
   | nil=>exact .inl rfl
   | cons c l=>right;rcases h with h | h;cases h;simpa using h
  have ih:=Re hl;unfold Z0 QR;by_cases hb:b=10
  ·subst hb;rw[Qf rfl,Qf rfl,ih]<;>rfl
  ·rw[if_neg hb,if_neg hb,ih];cases Ks:QR l with
   | nil=>
    have:=V4 hl;rw[Ks] at this;have:l=[]:=this.symm;subst this;rcases h with h | h
    ·cases h
    ·simp at h;exact Xn h hb
   | cons t ls=>rfl
theorem vU {l:List Nat}(h:Wt l):ap l=(QR l).map (·++ [10]):=by
 unfold ap;rw[Re h,Qf (by simp)];simp
def bP (s:List Nat):Bool:=ZQ.isPrefixOf s||pElif.isPrefixOf s||pInc.isPrefixOf s||decide (s=V0++ [10])||decide (s=ZK++ [10])
theorem vV:∀{p r:List Nat},10∉p->p.isPrefixOf (r++ [10])=p.isPrefixOf r
 | [],r,_=>by simp
 | a::p,[],h=>by
  simp only[Q1,not_or] at h;have:(a==10)=false:=by simpa using λe:a=10=>h.1 e.symm
  simp[List.isPrefixOf,this]
 | a::p,b::r,h=>by
  simp only[Q1,not_or] at h;simp only[YF,List.isPrefixOf,vV h.2]
theorem Ak (r:List Nat):bP (r++ [10])=decide (Zn r≠ .txt):=by
 unfold bP;rw[vV (by decide),vV (by decide),vV (by decide)];have e1:∀k:List Nat,decide (r++ [10]=k++ [10])=decide (r=k):=λk=>by simp
 rw[e1,e1];unfold Zn;by_cases h1:ZQ.isPrefixOf r=true
 ·rw[Qf h1,h1];simp
 by_cases h2:pInc.isPrefixOf r=true
 ·rw[if_neg h1,Qf h2,h2];simp
 by_cases h3:pElif.isPrefixOf r=true
 ·rw[if_neg h1,if_neg h2,Qf h3,h3];simp
 by_cases h4:r=V0
 ·rw[if_neg h1,if_neg h2,if_neg h3,Qf h4,Zy h4];simp
 by_cases h5:r=ZK
 ·rw[if_neg h1,if_neg h2,if_neg h3,if_neg h4,Qf h5,Zy h5];simp
 rw[if_neg h1,if_neg h2,if_neg h3,if_neg h4,if_neg h5,fI.2 h1,fI.2 h2,fI.2 h3,Zq h4,Zq h5];simp
def V6 (l:List Nat):Bool:=aX l&&(QR l).all (λs=>decide (Zn s= .txt))
theorem fQM (ls:List (List Nat)):((ls.map (·++ [10])).any bP)= !(ls.all (λs=>decide (Zn s= .txt))):=by
 induction ls with
 | nil=>rfl
 | cons s ls ih=>
  rw[Vl,List.any_cons,yS,ih,Ak,Bool.not_and];congr 1;by_cases h:Zn s= .txt<;>simp[h]
theorem Rf (r:List Nat):ZQ.isPrefixOf (r++ [10])=ZQ.isPrefixOf r:=vV (by decide)
theorem fQN (l:List Nat)(w:World)(hl:∀x∈l,x<256):
  Fn Tryz.prog 209 [.string (Qd l),.string (Qd [10])] w (λv w'=>v= .int .i64 (gP 10 l)/\w=w'):=by
 refine QF (c:=dQa) Qa Tryz.func209 rfl rfl rfl ?_;have h:=Tryz.stringslite_Index_one (Qd l) (UInt8.ofNat 10) w;rw[vS,Af (by decide) hl] at h;refine call (vT h) ?_;rintro _ _ ⟨rfl,rfl⟩;exact⟨rfl,rfl⟩
theorem FG (l p:List Nat)(w:World)(hl:∀x∈l,x<256)(hp:∀x∈p,x<256):
  Fn Tryz.prog 96 [.string (Qd l),.string (Qd p)] w (λv w'=>v= .bool (p.isPrefixOf l)/\w=w'):=by
 refine QF (c:=c96) Qa Tryz.func96 rfl rfl rfl ?_;refine call (Oh l p w hl hp) ?_;rintro _ _ ⟨rfl,rfl⟩;exact⟨rfl,rfl⟩
theorem Rg (ds:List (List Nat))(n i:Nat)(s:List Nat)(hi:ds.length=i)(hn:i<n):
  (XB ds++List.replicate (n-i) (Value.string ⟨#[]⟩)).set i (.string (Qd s))=XB (ds++ [s])++List.replicate (n-(i+1)) (Value.string ⟨#[]⟩):=by
 have hl:(XB ds).length=i:=by rw[aU,hi]
 rw[uN _ _ (by omega),hl,yQ,show n-i=(n-(i+1))+1 by omega,MT,DU];simp[XB]
def Sn (w:World)(A:Option Addr)(n c:Nat)(cs:List Value):Prop:=Sl w 1 A n c cs/\(0<n->∃g o,A=some ⟨g,o,none⟩)
theorem Sn.ext {w w':World}{A:Option Addr}{n c:Nat}{cs:List Value}(h:Sn w A n c cs)(k:Ext w w'):Sn w' A n c cs:=⟨h.1.ext k,h.2⟩
theorem fQO (l:List Nat)(w:World)(hl:∀x∈l,x<256)(QY:l.length<=1000000000):
  Fn Tryz.prog 153 [.string (Qd l),.string (Qd [10]),.int .i64 1,.int .i64 (-1)] w (λu w'=>∃A c,u= .slice A (Z0 l).length c/\Ext w w'/\Sn w' A (Z0 l).length c (XB (Z0 l))):=by
 have JE:=Ai l;have fq:l.count 10<=l.length:=List.count_le_length;have XJ:=Xe l;refine QF (c:={cQC with cuts:=[]}) Qa Tryz.func153 rfl rfl rfl ?_;refine Xy (by decide) ?_;refine Q3 rfl ?_;refine Zh (by decide) ?_;refine call (P7 l 10 w hl (by decide)) ?_;rintro _ _ ⟨rfl,rfl⟩;refine Qi ((l.count 10+1:Nat):Int) (by show((_:Nat):Int)+1=_;omega) (by omega) ?_;refine Qi ((l.length+1:Nat):Int) (by rw[XJ];omega) (by omega) ?_;refine norm (m:=((l.count 10+1:Nat):Int)) (by split<;>omega) ?_;refine zv Qa rfl rfl rfl rfl rfl rfl rfl rfl (by show 16*(l.count 10+1)<=_;omega) (by unfold maxLen;omega) (λw1 Qe Q4 Qh=>?_);refine Qi ((l.count 10:Nat):Int) (by omega) (by omega) ?_;generalize L7:l.count 10=cn at*;refine loop Qa [10,0] (λs:Nat×List (List Nat)×List Nat=>[.int .i64 s.1,.string (Qd s.2.2)]) (λs w'=>Mod (·=w.heap.size) w1 w'/\s.1<=cn/\s.2.1.length=s.1/\Z0 l=s.2.1++Z0 s.2.2/\(∀x∈s.2.2,x<256)/\s.2.2.length<=l.length/\Blk w' w.heap.size 9 (XB s.2.1++List.replicate (cn+1-s.1) (Value.string ⟨#[]⟩))) (λs _=>cn-s.1) (0,[],l) rfl ⟨Mod.refl _ _,Xr _,rfl,rfl,hl,QB _,Qh⟩ ?_;rintro⟨i,ds,r⟩ w2 ⟨nu,hi,iI,Kt,d4,jJ,Qx⟩;simp only at hi iI Kt d4 jJ Qx;have QJ:=Xe r;have Bs:=QC List.length Kt;rw[Qq,JE,iI] at Bs;refine Qz (λc1=>?_) (λc1=>?_)
 ·have QZ:i<cn:=by simp only at c1;omega
  have hm:10∈r:=Classical.byContradiction (λhh=>by rw[Aj hh] at Bs;simp at Bs;omega);have hhd:=fQL hm;have e1:gP 10 r=((WO r).length:Nat):=by unfold gP WO;rw[Qf hm]
  have ym:=fQN r w2 d4;rw[e1] at ym;refine call ym ?_;rintro _ _ ⟨rfl,rfl⟩;refine XD (by omega) ?_;refine Qi (((WO r).length+1:Nat):Int) (by omega) (by omega) ?_;refine XH (v':=.string (Qd (r.take ((WO r).length+1)))) ⟨by omega,by omega,by rw[QJ];omega⟩ (by rw[KY];rfl) ?_;refine index (j:=i) (by omega) ?_;refine XP Qx (by rw[Qq,aU,List.length_replicate];omega) (λw3 Z1 Qu=>?_);rw[Rg ds (cn+1) i _ iI (by omega)] at Qu;refine Qi (((WO r).length+1:Nat):Int) (by have:(Qd [10]).size=1:=rfl;omega) (by omega) ?_;refine XH (v':=.string (Qd (r.drop ((WO r).length+1)))) ⟨by omega,by rw[QJ];omega,by rw[QJ];omega⟩ (by
   rw[KY,QJ];show Value.string (Qd ((r.take r.length).drop _))=_;rw[Jc (QB _)];rfl) ?_
  refine Qi ((i+1:Nat):Int) (by show((i:Nat):Int)+1=_;omega) (by omega) ?_;refine⟨(i+1,ds++ [r.take ((WO r).length+1)],r.drop ((WO r).length+1)),rfl,⟨nu.trans Z1 (λi hi=>.inl hi),QZ,by simp[iI],?_,λx hx=>d4 x (aM hx),by simp only[Wj];omega,Qu⟩,by show cn-(i+1)<cn-i;omega⟩;simp only;rw[Kt,FF hm];simp
 ·have QZ:i=cn:=by simp only at c1;omega
  subst QZ;have Xi:10∉r:=λhm=>by have h1:=Ai r;have:=List.count_pos_iff.2 hm;omega
  refine index (j:=i) (by omega) ?_;refine XP Qx (by rw[Qq,aU,List.length_replicate];omega) (λw3 Z1 Qu=>?_);rw[Rg ds (i+1) i _ iI (by omega)] at Qu;refine Qi ((i+1:Nat):Int) (by show((i:Nat):Int)+1=_;omega) (by omega) ?_;refine iX Qa rfl rfl rfl rfl rfl rfl (QB _) ?_;have e2:Z0 l=ds++ [r]:=by rw[Kt,Aj Xi]
  have rq:=Sl.own (sz:=1) (n:=i+1) (c:=i+1) Qu (QB _) (by unfold maxLen;omega) (by rw[Qq,aU,Qq,iI];simp);rw[yQ,List.replicate_zero,KW,YT,Jc (by rw[aU,Qq,iI];simp)] at rq;refine⟨_,_,by rw[JE],(nu.trans Z1 (λi hi=>.inl hi)).ext Qe (λi hi=>by omega),?_⟩;rw[JE,e2];exact⟨rq,λ_=>⟨_,_,rfl⟩⟩
theorem fQP (l:List Nat)(w:World)(hl:∀x∈l,x<256)(QY:l.length<=1000000000):
  Fn Tryz.prog 95 [.string (Qd l),.string (Qd [10])] w (λu w'=>∃A c,u= .slice A (Z0 l).length c/\Ext w w'/\Sn w' A (Z0 l).length c (XB (Z0 l))):=by
 refine QF (c:={c95 with cuts:=[]}) Qa Tryz.func95 rfl rfl rfl ?_;refine call (fQO l w hl QY) ?_;rintro _ w1 ⟨A,c,rfl,Qe,KS⟩;exact⟨A,c,rfl,Qe,KS⟩
def sW (w:World)(u:Value)(ls:List (List Nat))(w':World):Prop:=∃A c,u= .slice A ls.length c/\Ext w w'/\Sn w' A ls.length c (XB ls)
theorem Am (l:List Nat)(w:World)(hl:∀x∈l,x<256)(QY:l.length<=1000000000):
  Fn Tryz.prog 46 [.string (Qd l)] w (λu w'=>sW w u (ap l) w'):=by
 have JE:=Ai l;have fq:l.count 10<=l.length:=List.count_le_length;refine QF (c:={c46 with cuts:=[]}) Qa Tryz.func46 rfl rfl rfl ?_;refine call (fQP l w hl QY) ?_;rintro _ w1 ⟨A,c,rfl,Qe,KS⟩;have Zz:=KS.1.le;refine Qi (((Z0 l).length-1:Nat):Int) (by omega) (by omega) ?_;obtain⟨z,hz⟩:∃z,(Z0 l).getLast? =some z:=⟨_,List.getLast?_eq_some_getLast (FE l)⟩
 have W0:(Z0 l)[(Z0 l).length-1]? =some z:=by rw[<-rL];exact hz
 refine KC KS.1 (by omega) (λad u hA hu Xq=>?_);rw[j8 W0] at hu;cases hu;refine load Xq ?_;have Yw:=(Rc hl z (Xm W0)).1;by_cases h0:z=[]
 ·subst h0;refine Q8 rfl ?_;refine Qi (((Z0 l).length-1:Nat):Int) (by omega) (by omega) ?_;refine iX Qa rfl rfl rfl rfl rfl rfl (by omega) ?_;have e:ap l=(Z0 l).dropLast:=by unfold ap;rw[Qf hz]
  have h2:=KS.1.take (m:=(Z0 l).length-1) (by omega);refine⟨A,c,by rw[e,List.length_dropLast],Qe,?_⟩;rw[e,List.length_dropLast];have e3:XB (Z0 l).dropLast=(XB (Z0 l)).take (((Z0 l).length-1)*1):=by
   rw[YT,List.dropLast_eq_take];simp[XB,List.map_take]
  rw[e3];exact⟨h2,λh0=>KS.2 (by omega)⟩
 ·refine XD (λe=>h0 (J8 Yw (by simp) e)) ?_;have e:ap l=Z0 l:=by unfold ap;rw[if_neg (λhh=>h0 (Option.some.inj (hz.symm.trans hh)))]
  exact⟨A,c,by rw[e],Qe,by rw[e];exact KS⟩
theorem fQQ (x z:Bool)(w:World):Fn Tryz.prog 170 [.bool x,.bool false,.bool z] w (λv w'=>v= .bool (Kv 4 x z)/\w=w'):=by
 refine QF (c:={cQQ with cuts:=[]}) Qa Tryz.func170 rfl rfl rfl ?_;cases x with
 | true=>
  refine Q8 rfl ?_;refine Q3 rfl ?_;refine Q3 rfl ?_;exact⟨rfl,rfl⟩
 | false=>
  refine Q3 rfl ?_;refine Q8 rfl ?_;exact⟨by cases z<;>rfl,rfl⟩
structure CPz where
 ox:Nat
 mx:Nat
 lx:Nat
 ax:Nat
 bx:Nat
 pb:Nat
 km:Nat
 mm:Nat
 D:AD
def CPz.caps (p:CPz):List Value:=[VP.ptr p.ox,VP.ptr p.mx,VP.ptr p.lx,VP.ptr p.ax,VP.ptr p.bx]
def CPz.clo (p:CPz):Value:=.func (.func 188) #[] #[VP.ptr p.ox,VP.ptr p.mx,VP.ptr p.lx,VP.ptr p.ax,VP.ptr p.bx]
def CPz.lC (p:CPz):List Value:=[.slice p.D.A p.D.n p.D.c,.int .i64 p.D.ra,.slice none 0 0,.int .i64 0,.slice p.D.B p.D.m p.D.d,.int .i64 p.D.rb]
structure CKz (w:World) (base:Nat) (p:CPz):Prop where
 hF:p.D.op=4
 oxb:Blk w p.ox 205 [.func (.func 170) #[] #[]]
 mxb:Blk w p.mx 272 [.map (some p.mm)]
 lxb:Blk w p.lx 204 p.lC
 axb:Blk w p.ax 273 [p.clo]
 bxb:Blk w p.bx 174 [VP.ptr p.pb]
 as_:SB w p.D.A p.D.n p.D.c p.D.a
 bs:SB w p.D.B p.D.m p.D.d p.D.b
 off:∀k,k=p.ox∨k=p.mx∨k=p.lx∨k=p.ax∨k=p.bx->k<base/\k≠p.pb/\k≠p.km/\k≠p.mm
 rowA:∀ad,p.D.A=some ad->0<p.D.n->ad.block<base/\ad.block≠p.pb/\ad.block≠p.km/\ad.block≠p.mm
 rowB:∀ad,p.D.B=some ad->0<p.D.m->ad.block<base/\ad.block≠p.pb/\ad.block≠p.km/\ad.block≠p.mm
def CSz (p:CPz)(NA:Option Addr):Nat->Prop:=λk=>k=p.mm∨BS p.pb p.km NA k
theorem CSz.moved {w:World}{p:CPz}{A A':Option Addr}(h:Moved w A A'):∀k,CSz p A' k->CSz p A k∨w.heap.size<=k:=by
 rintro k (rfl | hk)
 ·exact .inl (.inl rfl)
 ·rcases BS.moved h k hk with h | h
  ·exact .inl (.inr h)
  ·exact .inr h
theorem CSz.trans {w w1 w2:World}{p:CPz}{A A1:Option Addr}(hm:Mod (CSz p A) w w1)(hv:Moved w A A1)(h:Mod (CSz p A1) w1 w2):Mod (CSz p A) w w2:=hm.trans h (CSz.moved hv)
theorem CSz.no {p:CPz}{base:Nat}{NA:Option Addr}(hr:∀i,Qk NA i->base<=i){k:Nat}(h:k<base/\k≠p.pb/\k≠p.km/\k≠p.mm):¬CSz p NA k:=λe=>by
 obtain⟨h1,h2,h3,h4⟩:=h;rcases e with e | e | e | e
 ·exact h4 e
 ·exact h2 e
 ·exact h3 e
 ·have:=hr k e;omega
theorem CKz.mod {w w':World}{base:Nat}{p:CPz}{NA:Option Addr}(h:CKz w base p)(hr:∀i,Qk NA i->base<=i)(hm:Mod (CSz p NA) w w'):CKz w' base p:=by
 have k:=λk hk=>CSz.no (p:=p) hr (h.off k hk)
 refine⟨h.hF,h.oxb.mod hm (k _ (by simp)),h.mxb.mod hm (k _ (by simp)),h.lxb.mod hm (k _ (by simp)),h.axb.mod hm (k _ (by simp)),h.bxb.mod hm (k _ (by simp)),⟨h.as_.1.modS hm ?_,h.as_.2⟩,⟨h.bs.1.modS hm ?_,h.bs.2⟩,h.off,h.rowA,h.rowB⟩
 ·rintro h0 i ⟨ad,e,rfl⟩;exact CSz.no hr (h.rowA ad e h0)
 ·rintro h0 i ⟨ad,e,rfl⟩;exact CSz.no hr (h.rowB ad e h0)
theorem CKz.ext {w w':World}{base:Nat}{p:CPz}(h:CKz w base p)(k:Ext w w'):CKz w' base p:=
 h.mod (NA:=none) (λi hi=>by obtain⟨_,e,_⟩:=hi;cases e) (Mod.of_ext _ k)
structure CStz (w:World) (base:Nat) (p:CPz) (NA:Option Addr) (nc:Nat) (st:List Br×List Tr3):Prop where
 bd:Bd w base p.pb p.km NA nc st.1
 memo:∃m,MapQ bN w p.mm m/\∀x y:Int,Xz ((x,0,y):I3) m=je st.2 x y
 lt:p.mm<base/\p.mm≠p.pb/\p.mm≠p.km
theorem CStz.ext {w w':World}{base:Nat}{p:CPz}{NA:Option Addr}{nc:Nat}{st:List Br×List Tr3}(h:CStz w base p NA nc st)(k:Ext w w'):CStz w' base p NA nc st:=
 ⟨h.bd.ext k,let ⟨m,h1,h2⟩:=h.memo;⟨m,h1.ext k,h2⟩,h.lt⟩
def fQR (w:World)(base:Nat)(p:CPz)(NA:Option Addr)(st:List Br×List Tr3)(w':World):Prop:=∃NA' nc',CStz w' base p NA' nc' st/\Mod (CSz p NA) w w'/\Moved w NA NA'
theorem Rh (base:Nat)(p:CPz)(ha:Vp p.D.a)(hb:Vp p.D.b)(eo:p.D.n<=1000000000000/\p.D.m<=1000000000000):∀(m:Nat)(x y:Int)(st:List Br×List Tr3)(NA:Option Addr)(nc:Nat)(w:World),
  CKz w base p->CStz w base p NA nc st->0<=x->0<=y->x+y<m->x<p.D.n+2->y<p.D.m+2->(Xo p.D.a p.D.b p.D.op m x y st).2.1.length<=100000000000->
  Fn Tryz.prog 188 (bN (x,0,y)::p.caps) w (λv w'=>v= .int .i64 (Xo p.D.a p.D.b p.D.op m x y st).1/\fQR w base p NA (Xo p.D.a p.D.b p.D.op m x y st).2 w')
 | 0,x,y,st,NA,nc,w,_,_,x0,y0,hm,_,_,_=>by omega
 | m+1,x,y,st,NA,nc,w,hK,hS,x0,y0,hm,hx,hy,XE=>by
  have ih:=Rh base p ha hb eo m;have KV:p.D.a.length=p.D.n:=hK.as_.2;have fu:p.D.b.length=p.D.m:=hK.bs.2;have lD:=hS.bd.top;have LZ:∀i,Qk NA i->base<=i:=λi hi=>(hS.bd.own.rows i hi).1
  refine QF (c:={N4 with cuts:=[1]}) Qa Tryz.func188 rfl rfl rfl ?_;refine new (λw1 Qe Q4 Qh=>?_)
  replace Qh:Blk w1 w.heap.size 242 (dQ (x,0,y)):=Qh;have Kd:=hK.ext Qe;have KS:=hS.ext Qe;have oB:w.heap.size<w1.heap.size:=by omega
  refine fO [] Qa [] (λ_:Unit=>[]) (λ_ w'=>w1=w'/\¬(x<2/\y<2)) ?_ ?_
  ·refine index (j:=0) (by decide) ?_;refine Qo Qh rfl ?_;refine Qz (λc1=>?_) (λc1=>?_)
   ·refine index (j:=1) (by decide) ?_;refine Qo Qh rfl ?_;refine Zh (show(0:Int)<2 by decide) ?_;refine index (j:=2) (by decide) ?_;refine Qo Qh rfl ?_;refine Qz (λc2=>?_) (λc2=>?_)
    ·refine QD Kd.oxb rfl ?_;refine index (j:=0) (by decide) ?_;refine Qo Qh rfl ?_;refine index (j:=1) (by decide) ?_;refine Qo Qh rfl ?_;refine index (j:=2) (by decide) ?_;refine Qo Qh rfl ?_;rw[kn ⟨c1,c2⟩,PP x0 c1 y0 c2,hK.hF];refine call (fQQ (decide (x=1)) (decide (y=1)) w1) ?_;rintro v _ ⟨rfl,rfl⟩;cases Kv 4 (decide (x=1)) (decide (y=1))with
     | true=>
      refine Q8 rfl ?_;exact⟨rfl,NA,nc,KS,Mod.of_ext _ Qe,Moved.refl _ _⟩
     | false=>
      refine Q3 rfl ?_;exact⟨rfl,NA,nc,KS,Mod.of_ext _ Qe,Moved.refl _ _⟩
    ·exact⟨(),rfl,rfl,λhh=>c2 hh.2⟩
   ·exact⟨(),rfl,rfl,λhh=>c1 hh.1⟩
  rintro⟨⟩ _ ⟨rfl,Xu⟩;obtain⟨mq,em,YC⟩:=KS.memo;refine QD Kd.mxb rfl ?_;refine Qt Qh rfl ?_;refine EI (kv:=bN) (a:=((x,0,y):I3)) Qa rfl rfl rfl rfl Ae rfl rfl em ?_;cases k:st.2.find? (λt=>decide (t.1=x/\t.2.1=y))with
  | some t=>
   have bA:Xz ((x,0,y):I3) mq=some (.int .i64 t.2.2):=by rw[YC,je,k]<;>rfl
   refine Q8 (by rw[bA];rfl) ?_;rw[ko Xu k];exact⟨by rw[bA];rfl,NA,nc,KS,Mod.of_ext _ Qe,Moved.refl _ _⟩
  | none=>
  have bA:Xz ((x,0,y):I3) mq=none:=by rw[YC,je,k]<;>rfl
  refine Q3 (by rw[bA];rfl) ?_;have ZC:min (Ql p.D.a x) (Ql p.D.b y)<64:=by
   by_cases c:x<2
   ·have:=am hb (n:=y) (λc2=>Xu ⟨c,c2⟩) (by omega);rw[Z3];split<;>omega
   ·have:=am ha (n:=x) c (by omega);rw[Z3];split<;>omega
  have L0:SB w1 none 0 0 []:=SlS.nil _;have qL:∀w',Ext w1 w'->∀(j:Nat) (v:Value),p.lC[j]? =some v->w'.cell? ((⟨p.lx,0,none⟩:Addr).add j)=some v:=λw' Qb j v hj=>by rw[(Kd.lxb.ext Qb).cell];exact hj
  have qN:∀w',Ext w1 w'->∀(j:Nat) (v:Value),(dQ (x,0,y))[j]? =some v->w'.cell? ((⟨w.heap.size,0,none⟩:Addr).add j)=some v:=λw' Qb j v hj=>by rw[(Qh.ext Qb).cell];exact hj
  refine XK Qa (Ext w1) 17 [(true,0),(true,1),(true,2),(true,3),(true,5),(true,6),(true,7),(true,8),(true,10),(true,11),(true,12),(true,13),(false,4),(false,9),(false,14),(true,15),(true,16)] (by kernel_rfl) (Ext.drew w1) ?_;refine JS (j:=0) (by decide) ?_;refine Xs (vs:=[.slice p.D.A p.D.n p.D.c,.int .i64 p.D.ra]) rfl (λw' Qb j v hj=>by
   rw[add_add,(Kd.lxb.ext Qb).cell]
   match j,hj with
   | 0,hj=>exact hj
   | 1,hj=>exact hj) ?_
  refine index (j:=0) (by decide) ?_;refine QK (v:=.int .i64 x) (λw' Qb=>qN w' Qb 0 _ rfl) ?_;refine JS (j:=1) (by decide) ?_;refine Xs (vs:=[.slice none 0 0,.int .i64 0]) rfl (λw' Qb j v hj=>by
   rw[add_add,(Kd.lxb.ext Qb).cell]
   match j,hj with
   | 0,hj=>exact hj
   | 1,hj=>exact hj) ?_
  refine index (j:=1) (by decide) ?_;refine QK (v:=.int .i64 0) (λw' Qb=>qN w' Qb 1 _ rfl) ?_;refine JS (j:=2) (by decide) ?_;refine Xs (vs:=[.slice p.D.B p.D.m p.D.d,.int .i64 p.D.rb]) rfl (λw' Qb j v hj=>by
   rw[add_add,(Kd.lxb.ext Qb).cell]
   match j,hj with
   | 0,hj=>exact hj
   | 1,hj=>exact hj) ?_
  refine index (j:=2) (by decide) ?_;refine QK (v:=.int .i64 y) (λw' Qb=>qN w' Qb 2 _ rfl) ?_;refine call (dJ p.D.A p.D.n p.D.c p.D.ra x p.D.a _ (Kd.as_.ext (Ext.drew w1)) (by omega)) ?_;rintro u w2 ⟨rfl,Qg⟩;have Xv:=(Ext.drew w1).trans Qg;refine⟨Xv,?_⟩;refine call (dJ none 0 0 0 0 [] _ (L0.ext Xv) (by simp)) ?_;rintro u w3 ⟨rfl,Qj⟩;have XI:=Xv.trans Qj;refine⟨XI,?_⟩;refine call (dJ p.D.B p.D.m p.D.d p.D.rb y p.D.b _ (Kd.bs.ext XI) (by omega)) ?_;rintro u w4 ⟨rfl,Qs⟩;have JN:=XI.trans Qs;refine⟨JN,?_⟩;have wO:Ql [] 0=64:=rfl;rw[wO];have L1: -9223372036854775808<=min (Ql p.D.a x) (Ql p.D.b y):=by
   have pos:∀{d:List Br},Vp d->∀{n:Int},n<d.length+2->0<=Ql d n:=λ{d} hd {n} hn=>by
    by_cases h2:n<2
    ·rw[gL h2];omega
    ·obtain⟨z,hz⟩:=Wq h2 hn;rw[dO h2 hz];exact(hd.2 _ _ hz).1
   have p1:=pos ha (n:=x) (by omega);have p2:=pos hb (n:=y) (by omega);rw[Z3];split<;>omega
  have HF:(if Ql p.D.b y<(if(64:Int)<Ql p.D.a x then 64 else Ql p.D.a x)then Ql p.D.b y else(if(64:Int)<Ql p.D.a x then 64 else Ql p.D.a x))=min (Ql p.D.a x) (Ql p.D.b y):=by
   rw[Z3] at ZC ⊢;split at ZC<;>(try split)<;>(try split)<;>(try split)<;>omega
  refine norm (m:=min (Ql p.D.a x) (Ql p.D.b y)) HF ?_;rw[kr Xu k _ rfl] at XE ⊢;generalize ye:min (Ql p.D.a x) (Ql p.D.b y)=v at*;have Q7:=Qh.ext JN;have VN:=Kd.ext JN;have bi:=KS.ext JN;have XG:=Qe.trans JN;have HG:=JN.size;refine new (λw5 Qw KP nv=>?_);refine new (λw6 QO dX HH=>?_);have XF:=Qw.trans QO;have HI:=nv.ext QO;have Q9:=Q7.ext XF;have bY:=VN.ext XF;have aC:=bi.ext XF;have XR:=XG.trans XF;obtain⟨s1,s2,s3,s4,s5⟩:=Wp ha (n:=x) x0 ZC;obtain⟨t1,t2,t3,t4,t5⟩:=Wp hb (n:=y) y0 ZC;refine loop Qa [64] (λs:Nat=>[.int .i64 s]) (λs w'=>Mod (λi=>i=w4.heap.size∨i=w5.heap.size) w6 w'/\s<=3/\Blk w' w4.heap.size 242 (dQ (if 0<s then(Qm p.D.a x v).1 else 0,0,if 2<s then(Qm p.D.b y v).1 else 0))/\Blk w' w5.heap.size 242 (dQ (if 0<s then(Qm p.D.a x v).2 else 0,0,if 2<s then(Qm p.D.b y v).2 else 0))) (λs _=>3-s) 0 rfl ⟨Mod.refl _ _,Xr _,HI,HH⟩ ?_;rintro s w7 ⟨Xf,qf,eV,cW⟩;have hbz:base<=w4.heap.size:=by have:=Qe.size;omega
  have Ur:w5.heap.size=w4.heap.size+1:=KP;have yf:w.heap.size<w4.heap.size:=by omega
  have yg:∀k,k<w4.heap.size->¬(k=w4.heap.size∨k=w5.heap.size):=λk hk e=>by omega
  have hlx:=hK.off p.lx (by simp);have Xb:Ext w w7:=Xf.ext XR (λi hi=>by omega);have tK:Ext w1 w7:=Xf.ext (JN.trans XF) (λi hi=>by omega);have Ye:Ext w4 w7:=Xf.ext XF (λi hi=>by omega);have Q2:=Q7.ext Ye;have WX:=VN.ext Ye;have Vu:=bi.ext Ye;have Wu:=Xf.size;have nLX:=yg p.lx (by omega);have nB:=yg w.heap.size yf;have h0:Qm [] 0 v=(0,0):=by unfold Qm;rw[Qf (show Ql [] 0≠v by rw[wO];omega)]
  by_cases hs:s<3
  ·rcases(show s=0∨s=1∨s=2 by omega)with rfl | rfl | rfl
   ·refine Zh (show((0:Nat):Int)<3 by decide) ?_;refine XK Qa (Mod (λi=>i=w4.heap.size∨i=w5.heap.size) w7) 17 [(true,0),(true,1),(true,2),(true,3),(true,4),(true,5),(true,6),(true,7),(true,8),(false,9),(true,10),(true,11),(true,12),(true,13),(false,14),(true,15),(false,16)] (by kernel_rfl) (Mod.of_ext _ (Ext.drew w7)) ?_;refine JS (j:=0) (by decide) ?_;refine Xs (vs:=[.slice p.D.A p.D.n p.D.c,.int .i64 p.D.ra]) rfl (λw' Qb j v hj=>by
     rw[add_add,(WX.lxb.mod Qb nLX).cell]
     match j,hj with
     | 0,hj=>exact hj
     | 1,hj=>exact hj) ?_
    refine index (j:=0) (by decide) ?_;refine QK (v:=.int .i64 x) (λw' Qb=>by rw[(Q2.mod Qb nB).cell];rfl) ?_;refine call (jd p.D.A p.D.n p.D.c p.D.ra x v p.D.a _ (WX.as_.ext (Ext.drew w7)) (by omega) ZC) ?_;rintro u w8 ⟨rfl,Xl⟩;have JO:=(Ext.drew w7).trans Xl;refine⟨Mod.of_ext _ JO,?_⟩;refine index (j:=0) (by decide) ?_;refine XP (eV.ext JO) (by simp) (λw9 Zj ij=>?_);have K6:Mod (λi=>i=w4.heap.size∨i=w5.heap.size) w7 w9:=(Mod.of_ext _ JO).trans Zj (λi hi=>.inl (.inl hi));refine⟨K6,?_⟩;have eT:=K6.size;refine index (j:=0) (by decide) ?_;refine XP (((cW.ext JO).mod Zj (by show¬w5.heap.size=w4.heap.size;omega))) (by simp) (λQy Zo eW=>?_);have WY:Mod (λi=>i=w4.heap.size∨i=w5.heap.size) w7 Qy:=K6.trans Zo (λi hi=>.inl (.inr hi));refine⟨WY,?_⟩;have eX:=ij.mod Zo (by show¬w4.heap.size=w5.heap.size;omega);refine Qi ((1:Nat):Int) (by decide) (by decide) ?_;exact⟨1,rfl,⟨Xf.trans WY (λi hi=>.inl hi),by decide,eX,eW⟩,by show 3-1<3-0;decide⟩
   ·refine Zh (show((1:Nat):Int)<3 by decide) ?_;refine XK Qa (Mod (λi=>i=w4.heap.size∨i=w5.heap.size) w7) 17 [(true,0),(true,1),(true,2),(true,3),(true,4),(true,5),(true,6),(true,7),(true,8),(false,9),(true,10),(true,11),(true,12),(true,13),(false,14),(true,15),(false,16)] (by kernel_rfl) (Mod.of_ext _ (Ext.drew w7)) ?_;refine JS (j:=1) (by decide) ?_;refine Xs (vs:=[.slice none 0 0,.int .i64 0]) rfl (λw' Qb j v hj=>by
     rw[add_add,(WX.lxb.mod Qb nLX).cell]
     match j,hj with
     | 0,hj=>exact hj
     | 1,hj=>exact hj) ?_
    refine index (j:=1) (by decide) ?_;refine QK (v:=.int .i64 0) (λw' Qb=>by rw[(Q2.mod Qb nB).cell];rfl) ?_;refine call (jd none 0 0 0 0 v [] _ (SlS.nil _) (by decide) ZC) ?_;rintro u w8 ⟨rfl,Xl⟩;have JO:=(Ext.drew w7).trans Xl;refine⟨Mod.of_ext _ JO,?_⟩;refine index (j:=1) (by decide) ?_;refine XP (eV.ext JO) (by simp) (λw9 Zj ij=>?_);have K6:Mod (λi=>i=w4.heap.size∨i=w5.heap.size) w7 w9:=(Mod.of_ext _ JO).trans Zj (λi hi=>.inl (.inl hi));refine⟨K6,?_⟩;have eT:=K6.size;refine index (j:=1) (by decide) ?_;refine XP (((cW.ext JO).mod Zj (by show¬w5.heap.size=w4.heap.size;omega))) (by simp) (λQy Zo eW=>?_);have WY:Mod (λi=>i=w4.heap.size∨i=w5.heap.size) w7 Qy:=K6.trans Zo (λi hi=>.inl (.inr hi));refine⟨WY,?_⟩;have eX:=ij.mod Zo (by show¬w4.heap.size=w5.heap.size;omega);refine Qi ((2:Nat):Int) (by decide) (by decide) ?_;rw[h0] at eX eW;exact⟨2,rfl,⟨Xf.trans WY (λi hi=>.inl hi),by decide,eX,eW⟩,by show 3-2<3-1;decide⟩
   ·refine Zh (show((2:Nat):Int)<3 by decide) ?_;refine XK Qa (Mod (λi=>i=w4.heap.size∨i=w5.heap.size) w7) 17 [(true,0),(true,1),(true,2),(true,3),(true,4),(true,5),(true,6),(true,7),(true,8),(false,9),(true,10),(true,11),(true,12),(true,13),(false,14),(true,15),(false,16)] (by kernel_rfl) (Mod.of_ext _ (Ext.drew w7)) ?_;refine JS (j:=2) (by decide) ?_;refine Xs (vs:=[.slice p.D.B p.D.m p.D.d,.int .i64 p.D.rb]) rfl (λw' Qb j v hj=>by
     rw[add_add,(WX.lxb.mod Qb nLX).cell]
     match j,hj with
     | 0,hj=>exact hj
     | 1,hj=>exact hj) ?_
    refine index (j:=2) (by decide) ?_;refine QK (v:=.int .i64 y) (λw' Qb=>by rw[(Q2.mod Qb nB).cell];rfl) ?_;refine call (jd p.D.B p.D.m p.D.d p.D.rb y v p.D.b _ (WX.bs.ext (Ext.drew w7)) (by omega) ZC) ?_;rintro u w8 ⟨rfl,Xl⟩;have JO:=(Ext.drew w7).trans Xl;refine⟨Mod.of_ext _ JO,?_⟩;refine index (j:=2) (by decide) ?_;refine XP (eV.ext JO) (by simp) (λw9 Zj ij=>?_);have K6:Mod (λi=>i=w4.heap.size∨i=w5.heap.size) w7 w9:=(Mod.of_ext _ JO).trans Zj (λi hi=>.inl (.inl hi));refine⟨K6,?_⟩;have eT:=K6.size;refine index (j:=2) (by decide) ?_;refine XP (((cW.ext JO).mod Zj (by show¬w5.heap.size=w4.heap.size;omega))) (by simp) (λQy Zo eW=>?_);have WY:Mod (λi=>i=w4.heap.size∨i=w5.heap.size) w7 Qy:=K6.trans Zo (λi hi=>.inl (.inr hi));refine⟨WY,?_⟩;have eX:=ij.mod Zo (by show¬w4.heap.size=w5.heap.size;omega);refine Qi ((3:Nat):Int) (by decide) (by decide) ?_;exact⟨3,rfl,⟨Xf.trans WY (λi hi=>.inl hi),by decide,eX,eW⟩,by show 3-3<3-2;decide⟩
  ·have:s=3:=by omega
   subst this;refine XD (show¬((3:Nat):Int)<3 by decide) ?_
   replace eV:Blk w7 w4.heap.size 242 (dQ ((Qm p.D.a x v).1,0,(Qm p.D.b y v).1)):=eV
   replace cW:Blk w7 w5.heap.size 242 (dQ ((Qm p.D.a x v).2,0,(Qm p.D.b y v).2)):=cW;have cq:Ql p.D.a x=v∨Ql p.D.b y=v:=by rw[<-ye,Z3];split<;>simp
   have dec:(Qm p.D.a x v).1+(Qm p.D.b y v).1<x+y/\(Qm p.D.a x v).2+(Qm p.D.b y v).2<x+y:=by
    rcases cq with e | e
    ·have:=s5 e;omega
    ·have:=t5 e;omega
   have HJ:=sT ha hb p.D.op m (Qm p.D.a x v).1 (Qm p.D.b y v).1 st s1 t1 (by omega) (by omega);have HK:=sT ha hb p.D.op m (Qm p.D.a x v).2 (Qm p.D.b y v).2 (Xo p.D.a p.D.b p.D.op m (Qm p.D.a x v).1 (Qm p.D.b y v).1 st).2 s3 t3 (by omega) (by omega);have mo2:=mo p.D.a p.D.b p.D.op m (Qm p.D.a x v).2 (Qm p.D.b y v).2 (Xo p.D.a p.D.b p.D.op m (Qm p.D.a x v).1 (Qm p.D.b y v).1 st).2;have c1:=ih (Qm p.D.a x v).1 (Qm p.D.b y v).1 st NA nc w7 WX Vu s1 t1 (by omega) (by omega) (by omega);have c2:=λN1 n1 w' h1 h2=>ih (Qm p.D.a x v).2 (Qm p.D.b y v).2 (Xo p.D.a p.D.b p.D.op m (Qm p.D.a x v).1 (Qm p.D.b y v).1 st).2 N1 n1 w' h1 h2 s3 t3 (by omega) (by omega) (by omega)
   generalize (Xo p.D.a p.D.b p.D.op m (Qm p.D.a x v).1 (Qm p.D.b y v).1 st)=r0 at*;generalize (Xo p.D.a p.D.b p.D.op m (Qm p.D.a x v).2 (Qm p.D.b y v).2 r0.2)=r1 at*;have ul:=vv ⟨v,r0.1,r1.1⟩ r1.2.1;have ul2:(ZZ ⟨v,r0.1,r1.1⟩ r1.2.1).1.length<=r1.2.1.length+1:=by
    unfold ZZ;split
    ·exact yV _
    ·split
     ·exact yV _
     ·simp
   simp only at XE;refine QD WX.axb rfl ?_;refine Qt eV rfl ?_;refine call (c1 (by omega)) ?_;rintro _ QH ⟨rfl,N1,n1,qh,Z2,wP⟩;have HL:=cW.lt;have jw:=hS.bd.own.rows;obtain⟨l1,l2,l3⟩:=hS.lt;obtain⟨b1,b2,b3⟩:=hS.bd.lt;have new:∀k,w.heap.size<=k->¬CSz p NA k:=λk hk e=>by
    rcases e with e | e | e | e
    ·omega
    ·omega
    ·omega
    ·have:=(jw k e).2;omega
   have eY:=WX.mod LZ Z2;have HM:=cW.mod Z2 (new _ (by omega));have Z8:=Q2.mod Z2 (new _ (QB _));have bU:∀i,Qk N1 i->base<=i:=λi hi=>(qh.bd.own.rows i hi).1
   have wQ:∀k,w.heap.size<=k->k<w7.heap.size->¬CSz p N1 k:=λk hk h7 e=>by
    rcases CSz.moved wP k e with e | e
    ·exact new k hk e
    ·omega
   have tL:=Z2.size;have L3:=Q2.lt;refine XK Qa (Mod (CSz p N1) QH) 8 [(true,0),(true,1),(true,2),(true,3),(true,4),(false,5),(false,6),(true,7)] (by kernel_rfl) (Mod.of_ext _ (Ext.drew QH)) ?_;have nof:=λk hk=>CSz.no (p:=p) bU (eY.off k hk)
   refine QK (v:=VP.ptr p.pb) (λw' Qb=>by rw[(eY.bxb.mod Qb (nof _ (by simp))).cell0];rfl) ?_;refine QK (v:=p.clo) (λw' Qb=>by rw[(eY.axb.mod Qb (nof _ (by simp))).cell0];rfl) ?_;refine Xs (vs:=dQ ((Qm p.D.a x v).2,0,(Qm p.D.b y v).2)) rfl (λw' Qb j v hj=>by rw[(HM.mod Qb (wQ _ (by omega) HL)).cell];exact hj) ?_;refine call (c2 N1 n1 _ (eY.ext (Ext.drew QH)) (qh.ext (Ext.drew QH)) (by omega)) ?_;rintro _ Xa ⟨rfl,N2,n2,bj,Vs,tG⟩;have ld:Mod (CSz p N1) QH Xa:=(Mod.of_ext _ (Ext.drew QH)).trans Vs (λi hi=>.inl hi);have wS:Moved QH N1 N2:=tG.back (Ext.drew QH).size;refine⟨ld,?_⟩;have Y3:∀i,Qk N2 i->base<=i:=λi hi=>(bj.bd.own.rows i hi).1
   refine call (PN base p.pb p.km N2 n2 r1.2.1 ⟨v,r0.1,r1.1⟩ Xa bj.bd (by omega)) ?_;rintro _ X6 ⟨rfl,N3,n3,cX,Kj,HN⟩;have HO:Mod (CSz p N2) Xa X6:=Kj.mono (λi hi=>.inl (.inr hi));have lf:Mod (CSz p N1) QH X6:=CSz.trans ld wS HO;refine⟨lf,?_⟩;have kQe:=eY.mod bU ld;have HP:=eY.mod bU lf;have K5:=Z8.mod lf (wQ _ (QB _) L3);obtain⟨HQ,wx,HS⟩:=bj.memo;have HT:MapQ bN X6 p.mm HQ:=wx.mod Kj (λe=>by
    rcases e with e | e | e
    ·exact l2 e
    ·exact l3 e
    ·have:=Y3 _ e;omega)
   refine QD HP.mxb rfl ?_;refine Qt K5 rfl ?_;refine r8 (kv:=bN) (a:=((x,0,y):I3)) Qa rfl rfl rfl rfl Ae rfl rfl rfl HT (λZk KQ kQf HU=>?_);have ZI:∀k,k≠p.mm->¬(k=p.mm):=λk h=>h
   obtain⟨d1,d2,d3⟩:=cX.lt;have HV:∀i,Qk N3 i->base<=i:=λi hi=>(cX.own.rows i hi).1
   obtain⟨kq,L4,L5⟩:=cX.known;have HW:Bd Zk base p.pb p.km N3 n3 (ZZ ⟨v,r0.1,r1.1⟩ r1.2.1).1:=⟨cX.blk.mod KQ (λe=>l2 e.symm),cX.own.mod KQ (λi hi e=>by have:=HV i hi;have e':i=p.mm:=e;omega),⟨kq,L4.mod KQ (λe=>l3 e.symm),L5⟩,cX.lt,Zc cX.top KQ.size⟩
   have HX:Mod (CSz p NA) w w7:=Mod.of_ext _ Xb;have kQg:Moved w NA NA:=Moved.refl _ _;have wT:Mod (CSz p NA) w QH:=HX.trans Z2 (λi hi=>.inl hi);have wU:Moved w NA N1:=wP.back Xb.size;have HY:Mod (CSz p NA) w X6:=CSz.trans wT wU lf;have ny:Mod (CSz p NA) w Zk:=HY.trans KQ (λi hi=>.inl (.inl hi));have HZ:Moved w NA N3:=wU.trans (wS.trans HN ld.size) wT.size;refine⟨rfl,N3,n3,⟨HW,⟨_,HU,λx' y'=>?_⟩,hS.lt⟩,ny,HZ⟩;have Xi:r1.2.2.find? (λt=>decide (t.1=x/\t.2.1=y))=none:=by
    rw[uL];intro t ht hh;simp only[Vm] at hh;rcases HK t ht with h1 | h1
    ·rcases HJ t h1 with h2 | h2
     ·have:=uL.1 k t h2;simp only[Vm] at this;exact this hh
     ·omega
    ·omega
   rw[aS,HS,je,je,List.find?_append];by_cases Yk:(x',y')=(x,y)
   ·cases Yk;rw[Qf rfl,Xi];simp
   ·rw[if_neg (λe=>Yk (by cases e;rfl))];have: [(x,y,(ZZ ⟨v,r0.1,r1.1⟩ r1.2.1).2)].find? (λt:Tr3=>decide (t.1=x'/\t.2.1=y'))=none:=by
     rw[MZ]
     ·rfl
     ·simp only[Vm];exactλe=>Yk (by rw[e.1,e.2])
    rw[this];simp
theorem fQS (A:Option Addr)(n c:Nat)(a:List Br)(ra:Int)(B:Option Addr)(m d:Nat)(b:List Br)(rb:Int)(w:World)(h:SB w A n c a)(h':SB w B m d b)(ha:Vp a)(hb:Vp b)(r0:0<=ra)(r1:ra<n+2)(s0:0<=rb)(s1:rb<m+2)(hn:n<=1000000000000)(hm:m<=1000000000000)
  (XE:(kt a ra b rb 4).2.1.length<=100000000000):
  Fn Tryz.prog 128 [.agg #[.slice A n c,.int .i64 ra,.slice none 0 0,.int .i64 0,.slice B m d,.int .i64 rb],.func (.func 170) #[] #[]] w (vt w (VF a ra b rb 4)):=by
 have KV:=h.2;have fu:=h'.2;refine QF (c:={NZ with cuts:=[]}) Qa Tryz.func128 rfl rfl rfl ?_;refine new (λw1 Qe Q4 Qh=>?_);refine new (λw2 Qg Zb Qx=>?_);refine new (λw3 Qj JC Qu=>?_);refine call (PS w3) ?_;rintro _ w4 ⟨rfl,Qs,KO,Q7,H0⟩;refine new (λw5 Qw KP QG=>?_);refine XP (j:=0) QG (by decide) (λw6 K4 Q9=>?_);have XF:Ext w4 w6:=K4.ext Qw (λi hi=>by omega);refine r7 Qa bN rfl ?_;intro w7 Xb Wu H1;refine new (λw8 Xl Yw Xw=>?_);refine XP (j:=0) Xw (by decide) (λw9 Zj JD=>?_);have VO:Ext w7 w9:=Zj.ext Xl (λi hi=>by omega);refine new (λQy XT wJ JM=>?_);refine XP (j:=0) JM (by decide) (λQH Z2 Z8=>?_);have z6:=K4.size;have z9:=Zj.size;have Bo:=Z2.size;have gh:Ext w9 QH:=Z2.ext XT (λi hi=>by omega);have lg:Ext w6 QH:=(Xb.trans VO).trans gh;have cY:Ext w4 QH:=XF.trans lg;have KR:=Qs;have lh:Ext w3 QH:=Qs.trans cY;have Y7:Ext w QH:=((Qe.trans Qg).trans Qj).trans lh
 let D:AD:=⟨A,n,c,a,ra,B,m,d,b,rb,4⟩
 let p:CPz:=⟨w1.heap.size,w7.heap.size,w.heap.size,w9.heap.size,w4.heap.size,w3.heap.size+1,w3.heap.size,w6.heap.size,D⟩
 have wV:=Z8.lt;have hK:CKz QH QH.heap.size p:=by
  refine⟨rfl,Qx.ext (Qj.trans lh),JD.ext gh,Qh.ext ((Qg.trans Qj).trans lh),Z8,Q9.ext lg,h.ext Y7,h'.ext Y7,λk hk=>?_,λad e h0=>?_,λad e h0=>?_⟩
  ·simp only[p] at hk ⊢;rcases hk with rfl | rfl | rfl | rfl | rfl<;>omega
  ·have:=SB.lt h ad e h0;simp only[p];omega
  ·have:=SB.lt h' ad e h0;simp only[p];omega
 have hS:CStz QH QH.heap.size p none 0 ([],[]):=by
  refine⟨⟨Q7.ext cY,Own.nil _ _ _ _,⟨[],H0.ext cY,λ_=>rfl⟩,?_,QB _⟩,⟨[],H1.ext (VO.trans gh),λ_ _=>rfl⟩,?_⟩
  ·simp only[p];omega
  ·simp only[p];omega
 have Xi:∀i,Qk none i->QH.heap.size<=i:=λi hi=>by obtain⟨_,e,_⟩:=hi;cases e
 have nof:=λk hk=>CSz.no (p:=p) Xi (hK.off k hk)
 refine XK Qa (Mod (CSz p none) QH) 14 [(true,0),(true,1),(true,2),(true,3),(true,4),(true,5),(true,6),(true,7),(true,8),(true,9),(true,10),(true,11),(false,12),(false,13)] (by kernel_rfl) (Mod.of_ext _ (Ext.drew QH)) ?_;refine QK (v:=VP.ptr p.pb) (λw' Qb=>by rw[(hK.bxb.mod Qb (nof _ (by simp))).cell0];rfl) ?_;refine QK (v:=p.clo) (λw' Qb=>by rw[(hK.axb.mod Qb (nof _ (by simp))).cell0];rfl) ?_;refine JS (j:=0) (by decide) ?_;refine QK (v:=.int .i64 ra) (λw' Qb=>by rw[add_add,(hK.lxb.mod Qb (nof _ (by simp))).cell];rfl) ?_;refine JS (j:=1) (by decide) ?_;refine QK (v:=.int .i64 0) (λw' Qb=>by rw[add_add,(hK.lxb.mod Qb (nof _ (by simp))).cell];rfl) ?_;refine JS (j:=2) (by decide) ?_;refine QK (v:=.int .i64 rb) (λw' Qb=>by rw[add_add,(hK.lxb.mod Qb (nof _ (by simp))).cell];rfl) ?_;have inv:=vx ha hb 4 (ra.toNat+rb.toNat+1) ra rb ([],[]) ⟨λj x hx=>by simp at hx,λt ht=>by simp at ht⟩ r0 s0 (by omega) (by omega);refine call (Rh QH.heap.size p ha hb ⟨hn,hm⟩ (ra.toNat+rb.toNat+1) ra rb ([],[]) none 0 _ (hK.ext (Ext.drew QH)) (hS.ext (Ext.drew QH)) r0 s0 (by omega) r1 s1 XE) ?_;rintro _ Xa ⟨rfl,NA,nc,bj,H3,tG⟩;have Vs:Mod (CSz p none) QH Xa:=(Mod.of_ext _ (Ext.drew QH)).trans H3 (λi hi=>.inl hi);refine⟨Vs,?_⟩;have kQh:(Xo a b 4 (ra.toNat+rb.toNat+1) ra rb ([],[])).2.1.length<=100000000000:=XE;have wW:SB Xa NA _ nc _:=⟨bj.bd.own.sl,rfl⟩
 refine call (EY p.pb (.map (some p.km)) NA _ nc _ _ Xa bj.bd.blk wW inv.1.1 (by show(Xo a b 4 (ra.toNat+rb.toNat+1) ra rb ([],[])).2.1.length<=_;omega) inv.2.1 inv.2.2 (SB.lt wW)) ?_;rintro _ X6 ⟨OA,k,oc,rfl,XI,wX,ii⟩;have Kj:Mod (CSz p none) QH X6:=Vs.trans (Mod.of_ext (CSz p none) XI) (λi hi=>.inl hi);refine⟨Kj,?_⟩;have nres:¬CSz p none w2.heap.size:=CSz.no (p:=p) Xi (by simp only[p];omega);have K5:=(Qu.ext lh).mod Kj nres;refine Qv K5 rfl (sc rfl) (λZk eQ _ J2=>?_);have KQ:Mod (·=w2.heap.size) X6 Zk:=nQQ eQ rfl;refine Qt J2 rfl ?_;have qk:Ext w X6:=Kj.ext Y7 (λi hi=>by
  rcases hi with e | e | e | ⟨_,e,_⟩
  ·simp only[p] at e;omega
  ·simp only[p] at e;omega
  ·simp only[p] at e;omega
  ·cases e)
 have Us:=Vs.size;have nr:∀i,Qk OA i->¬i=w2.heap.size:=λi hi e=>by have:=ii i hi;omega
 refine⟨OA,k,oc,rfl,KQ.ext qk (λi hi=>by omega),⟨wX.1.modS KQ (λ_ i hi=>nr i hi),wX.2⟩,λi hi=>by have:=ii i hi;have:=Y7.size;omega⟩
end
section
section
structure RP where
 r:Nat
 q:Nat
 nq:Nat
 NA:Option Addr
 nn:Nat
 nc:Nat
 nm:List (List Nat)
 FA:Option Addr
 nf:Nat
 cf:Nat
 fs:List (List Nat×List Nat)
def cL (x:List Nat×List Nat):List Value:=[.string (Qd x.1),.string (Qd x.2)]
theorem FH (x:List Nat×List Nat):(cL x).length=2:=rfl
structure FileOk (x:List Nat×List Nat):Prop where
 n8:∀b∈x.1,b<256
 t8:∀b∈x.2,b<256
 nl:x.1.length<=9223372036854775807
 tl:x.2.length<=1048576
 ok:Wt x.2
structure RPok (w0:World) (p:RP):Prop where
 nms:Sl w0 1 p.NA p.nn p.nc (XB p.nm)
 nmb:Ku p.nm
 nmk:p.nm.length<=12
 fls:SlS cL 2 w0 p.FA p.nf p.cf p.fs
 flb:∀x∈p.fs,FileOk x
 nqm:MapAt VX w0 p.nq (YG (p.fs.map (·.1)) 0 [])
structure RM where
 OA:Option Addr
 oc:Nat
 BA:Option Addr
 bc:Nat
 L:List DV
 pa:Value
 T:Nat->Prop
structure RV where
 d:Nat
 fl:Nat
 ln:Nat
 rd:List Nat
 g:Gs
def mC (x:Sg×DV):List Value:=[.int .i64 x.1.f,.int .i64 x.1.t,.int .i64 x.1.fl,.int .i64 x.1.at_,.slice x.2.A x.2.n x.2.c,.int .i64 x.2.r]
theorem fQT (x:Sg×DV):(mC x).length=6:=rfl
def cM (l:List Sg)(L:List DV):List Value:=(l.zip L).flatMap mC
abbrev kH (p:RP)(m:RM)(v:RV):List Value:=[.slice p.NA p.nn p.nc,.slice p.FA p.nf p.cf,.map (some p.nq),.map (some p.q),.int .i64 v.d,m.pa,.slice m.BA v.g.tx.length m.bc,.slice m.OA v.g.sg.length m.oc,.bool v.g.fr,.int .i64 v.fl,.int .i64 v.ln]
def RS (p:RP)(m:RM):Nat->Prop:=λk=>k=p.r∨k=p.q∨Qk m.OA k∨Qk m.BA k
def TS (p:RP)(m:RM):Nat->Prop:=λk=>RS p m k∨m.T k
structure Rr (w0 w:World) (base:Nat) (p:RP) (m:RM) (v:RV):Prop where
 e0:Ext w0 w
 lor:w0.heap.size<=p.r
 loq:w0.heap.size<=p.q
 rb:p.r<base
 qb:p.q<base
 ne:p.r≠p.q
 top:base<=w.heap.size
 pa:m.pa= .pointer none∨m.pa= .pointer (some (JV p.r 5))
 blk:Blk w p.r 157 (kH p m v)
 txt:Own w base 5 1 m.BA v.g.tx.length m.bc (Vb v.g.tx)
 out:Own w base 48 6 m.OA v.g.sg.length m.oc (cM v.g.sg m.L)
 len:m.L.length=v.g.sg.length
 dgs:∀(j:Nat) (s:Sg) (x:DV),v.g.sg[j]? =some s->m.L[j]? =some x->DgO w (TS p m) p.nm.length x s.o
 rdm:∃mp,MapAt aV w p.q mp/\(mp.map (·.1)).Nodup/\∀n:Nat,Xz (n:Int) mp=if n∈v.rd then some (.bool true)else none
 tl:v.g.tx.length<=1048576
 sl:v.g.sg.length<=65536
 b8:∀x∈v.g.tx,x<256
 nf:v.g.fr=false->v.g.sg≠ []∨v.rd=[]
 tt:∀i,m.T i->i<w.heap.size
section
variable {w0 w w':World} {base:Nat} {p:RP} {m:RM} {v:RV}
theorem Rr.lo (h:Rr w0 w base p m v):∀i,RS p m i->w0.heap.size<=i:=λi hi=>by
 have:=h.lor;have:=h.loq;have:=h.rb;rcases hi with rfl | rfl | hi | hi
 ·assumption
 ·assumption
 ·have:=(h.out.rows i hi).1;omega
 ·have:=(h.txt.rows i hi).1;omega
theorem Rr.hi (h:Rr w0 w base p m v):∀i,RS p m i->i<w.heap.size:=λi hi=>by
 have:=h.rb;have:=h.qb;have:=h.top;rcases hi with rfl | rfl | hi | hi
 ·omega
 ·omega
 ·exact(h.out.rows i hi).2
 ·exact(h.txt.rows i hi).2
theorem Rr.ext (h:Rr w0 w base p m v)(k:Ext w w'):Rr w0 w' base p m v:=
 ⟨h.e0.trans k,h.lor,h.loq,h.rb,h.qb,h.ne,Zc h.top k.size,h.pa,h.blk.ext k,h.txt.ext k,h.out.ext k,h.len,λj s x h1 h2=>(h.dgs j s x h1 h2).ext k,let ⟨mp,h1,h2⟩:=h.rdm;⟨mp,h1.ext k,h2⟩,h.tl,h.sl,h.b8,h.nf,λi hi=>VT (h.tt i hi) k.size⟩
theorem RS.moved {m':RM}(h1:Moved w m.OA m'.OA)(h2:Moved w m.BA m'.BA):∀k,RS p m' k->RS p m k∨w.heap.size<=k:=by
 rintro k (rfl | rfl | hk | hk)
 ·exact .inl (.inl rfl)
 ·exact .inl (.inr (.inl rfl))
 ·rcases h1.rows k hk with h | h
  ·exact .inl (.inr (.inr (.inl h)))
  ·exact .inr h
 ·rcases h2.rows k hk with h | h
  ·exact .inl (.inr (.inr (.inr h)))
  ·exact .inr h
theorem TS.moved {m':RM}(hT:m'.T=m.T)(h1:Moved w m.OA m'.OA)(h2:Moved w m.BA m'.BA):∀k,TS p m' k->TS p m k∨w.heap.size<=k:=by
 rintro k (hk | hk)
 ·rcases RS.moved (p:=p) h1 h2 k hk with h | h
  ·exact .inl (.inl h)
  ·exact .inr h
 ·exact .inl (.inr (by rw[<-hT];exact hk))
theorem Rr.hiT (h:Rr w0 w base p m v):∀i,TS p m i->i<w.heap.size:=λi hi=>hi.elim (h.hi i) (h.tt i)
theorem Rr.nrow (h:Rr w0 w base p m v):¬Qk m.OA p.r/\¬Qk m.BA p.r:=by
 have:=h.rb;exact⟨λhi=>by have:=(h.out.rows _ hi).1;omega,λhi=>by have:=(h.txt.rows _ hi).1;omega⟩
theorem Rr.put (h:Rr w0 w base p m v){v':RV}(hm:Mod (·=p.r) w w')(hB:Blk w' p.r 157 (kH p m v'))(h1:v'.g.tx=v.g.tx)(h2:v'.g.sg=v.g.sg)(h3:v'.rd=v.rd)(h4:v'.g.fr=false->v'.g.sg≠ []∨v'.rd=[]):Rr w0 w' base p m v':=by
 have hE:=hm.ext h.e0 (λi hi=>by subst hi;exact h.lor);refine⟨hE,h.lor,h.loq,h.rb,h.qb,h.ne,Zc h.top hm.size,h.pa,hB,?_,?_,by rw[h2];exact h.len,λj s x hs hx=>?_,?_,by rw[h1];exact h.tl,by rw[h2];exact h.sl,by rw[h1];exact h.b8,h4,λi hi=>VT (h.tt i hi) hm.size⟩
 ·rw[h1];exact h.txt.mod hm (λi hi e=>by subst e;exact h.nrow.2 hi)
 ·rw[h2];exact h.out.mod hm (λi hi e=>by subst e;exact h.nrow.1 hi)
 ·rw[h2] at hs;exact(h.dgs j s x hs hx).keep hm (λi hi=>.inl (.inl (.inl hi)))
 ·obtain⟨mp,k1,k2⟩:=h.rdm;rw[h3];exact⟨mp,k1.mod hm (λe=>h.ne e.symm),k2⟩
end
def FI (w0 w:World)(base:Nat)(p:RP)(m:RM)(v:RV)(w':World):Prop:=∃m',m'.T=m.T/\Rr w0 w' base p m' v/\Mod (RS p m) w w'/\Moved w m.OA m'.OA/\Moved w m.BA m'.BA
def fY (e f l:Int):List PanicEntry:=[{v:=.iface 160 (.agg #[.int .i64 e,.int .i64 f,.int .i64 l]),recovered:=false}]
section
variable {w0:World} {base:Nat} {p:RP} {m:RM} {v:RV}
theorem aq (e:Int)(w:World)(h:Rr w0 w base p m v):
  FnP Tryz.prog 148 [.pointer (some ⟨p.r,0,none⟩),.int .i64 e] w (λ_ _=>False) (λch w'=>ch=fY e v.fl v.ln/\Ext w w'):=by
 refine aR (c:={cQz with cuts:=[]}) Qa Tryz.func148 rfl rfl rfl ?_;have hB:=h.blk;refine pu Qa 12 (by kernel_rfl) ?_;refine QK (v:=.int .i64 v.fl) (λw' Qb=>by subst Qb;rw[(hB.ext (Ext.drew w)).cell];rfl) ?_;refine QK (v:=.int .i64 v.ln) (λw' Qb=>by subst Qb;rw[(hB.ext (Ext.drew w)).cell];rfl) ?_;exact pD rfl rfl ⟨rfl,Ext.drew w⟩
theorem An (x:DV)(w:World):Fn Tryz.prog 202 [.pointer (some ⟨p.r,0,none⟩),Xk x.A x.n x.c x.r,.int .i64 0] w (λu w'=>u=Xk x.A x.n x.c x.r/\Ext w w'):=by
 refine QF (c:={cQ6 with cuts:=[]}) Qa Tryz.func202 rfl rfl rfl ?_;refine new (λw1 Qe Q4 Qh=>?_);refine new (λw2 Qg Zb Qx=>?_);refine ac rfl ?_;refine Qt (Qh.ext Qg) rfl ?_;refine Qv Qx rfl (sc rfl) (λw3 Z7 _ Qu=>?_);have Qj:Ext w1 w3:=X9 Qg Qx Z7;refine Qt Qu rfl ?_;exact⟨rfl,Qe.trans Qj⟩
def Ri (w:World)(k:Nat)(o:BF)(u:Value)(w':World):Prop:=∃x:DV,u=Xk x.A x.n x.c x.r/\Ext w w'/\SB w' x.A x.n x.c x.nd/\Set1 k x.nd x.r o/\∀i,Qk x.A i->w.heap.size<=i
theorem Rj (s:List Nat)(w:World)(hP:RPok w0 p)(h:Rr w0 w base p m v)(h8:∀x∈s,x<256)(hl:s.length<=1000000000000):
  FnP Tryz.prog 144 [.pointer (some ⟨p.r,0,none⟩),.string (Qd s)] w (λu w'=>∃o,VH p.nm s= .ok o/\Ri w p.nm.length o u w') (λch w'=>∃e,VH p.nm s= .error e/\ch=fY e v.fl v.ln/\Ext w w'):=by
 refine aR (c:={cQv with cuts:=[]}) Qa Tryz.func144 rfl rfl rfl ?_;refine new (λw1 Qe Q4 Qh=>?_);refine QD (h.blk.ext Qe) rfl ?_;refine call (OH p.nm p.NA p.nn p.nc s w1 ((hP.nms.ext h.e0).ext Qe) hP.nmb h8 hl) ?_;rw[fQe];have lH:VH p.nm s=match fW p.nm s with
  | .ok t=>.ok (evF t)
  | .error e=>.error (if e=2 then 2 else 71):=rfl
 cases iB:fW p.nm s with
 | ok t=>
  rw[iB] at lH;obtain⟨k1,k2,k3⟩:=fQf iB;rintro _ w2 ⟨G,mg,cG,rfl,Qg,hG⟩;have hk:=hP.nmk;refine Jp rfl ?_;refine call (fQr G mg cG _ p.nm.length hk w2 hG (PB (k2.mono (by omega)) k3) (sL t _ 0 k2)) ?_;rintro _ w3 ⟨D,md,cD,nd,r,rfl,Qj,hD,hS,hR⟩;rw[Fe] at hS;refine call (An ⟨D,md,cD,nd,r⟩ w3) ?_;rintro _ w4 ⟨rfl,Qs⟩;have JN:=(Qg.trans Qj).trans Qs;refine Qv (Qh.ext JN) rfl (sc rfl) (λw5 JH _ QG=>?_);have Je:Mod (·=w.heap.size) w4 w5:=nQQ JH rfl;refine Qt QG rfl ?_;have Zb:=Qg.size;exact⟨_,lH,⟨D,md,cD,nd,r⟩,rfl,Je.ext (Qe.trans JN) (λi hi=>by omega),SB.mod (hD.ext Qs) Je (λi hi e=>by have:=hR i hi;omega),hS,λi hi=>by have:=hR i hi;omega⟩
 | error e=>
  rw[iB] at lH;rintro _ w2 ⟨G,mg,cG,rfl,Qg,hG⟩;have Xv:=Qe.trans Qg;have h2:=h.ext Xv;rcases fQg iB with rfl | rfl | rfl | rfl
  ·refine Xy (by decide) ?_;refine Xy (by decide) ?_;refine XO (aq 71 w2 h2) (λ_ _ hf=>hf.elim) ?_;rintro ch w3 ⟨rfl,Qj⟩;exact⟨_,lH,rfl,Xv.trans Qj⟩
  ·refine Xy (by decide) ?_;refine Jp rfl ?_;refine XO (aq 2 w2 h2) (λ_ _ hf=>hf.elim) ?_;rintro ch w3 ⟨rfl,Qj⟩;exact⟨_,lH,rfl,Xv.trans Qj⟩
  ·refine Xy (by decide) ?_;refine Xy (by decide) ?_;refine XO (aq 71 w2 h2) (λ_ _ hf=>hf.elim) ?_;rintro ch w3 ⟨rfl,Qj⟩;exact⟨_,lH,rfl,Xv.trans Qj⟩
  ·refine Xy (by decide) ?_;refine Xy (by decide) ?_;refine XO (aq 71 w2 h2) (λ_ _ hf=>hf.elim) ?_;rintro ch w3 ⟨rfl,Qj⟩;exact⟨_,lH,rfl,Xv.trans Qj⟩
theorem Rk (k:Nat)(hk:k<=12)(x y:DV)(o o':BF)(w:World)(hx:SB w x.A x.n x.c x.nd)(hxs:Set1 k x.nd x.r o)(hy:SB w y.A y.n y.c y.nd)(gp:Set1 k y.nd y.r o'):
  Fn Tryz.prog 146 [.pointer (some ⟨p.r,0,none⟩),Xk x.A x.n x.c x.r,Xk y.A y.n y.c y.r] w (λu w'=>∃a b:DV,u= .tuple #[Xk a.A a.n a.c a.r,Xk b.A b.n b.c b.r]/\Ext w w'/\SB w' a.A a.n a.c a.nd/\Set1 k a.nd a.r (ZW o o')/\(∀i,Qk a.A i->w.heap.size<=i)/\SB w' b.A b.n b.c b.nd/\Set1 k b.nd b.r (KG o o')/\∀i,Qk b.A i->w.heap.size<=i):=by
 refine QF (c:={cQx with cuts:=[]}) Qa Tryz.func146 rfl rfl rfl ?_;refine new (λw1 Qe Q4 Qh=>?_);refine new (λw2 Qg Zb Qx=>?_);refine new (λw3 Qj JC Qu=>?_);refine new (λw4 Qs KO Q7=>?_);have KR:=Qj.trans Qs;have J1:=Qg.trans KR;have XG:=Qe.trans J1;refine Qt (Qh.ext J1) rfl ?_;refine Qt (Qx.ext KR) rfl ?_;have hx4:=hx.ext XG;have H6:=hy.ext XG;refine call (vP x.A x.n x.c x.nd x.r y.A y.n y.c y.nd y.r w4 hx4 H6) ?_;rw[gM hk hxs gp 0];have c1:Set1 k _ _ (ZW o o'):=(eC hxs gp 0).congr (λe=>by simp[Kv]);generalize VF x.nd x.r y.nd y.r 0=D at*;obtain⟨D1,D2⟩:=D;rintro _ w5 ⟨PA,pn,pc,rfl,Qw,qm,bq⟩;refine call (An ⟨PA,pn,pc,D1,D2⟩ w5) ?_;rintro _ w6 ⟨rfl,QO⟩;have XF:=Qw.trans QO;refine Qv ((Qu.ext Qs).ext XF) rfl (sc rfl) (λw7 ZB _ Q2=>?_);have Xf:Mod (·=w2.heap.size) w6 w7:=nQQ ZB rfl;have XR:=XG.trans XF;have Vt:Ext w w7:=Xf.ext XR (λi hi=>by omega);have n12:¬w.heap.size=w2.heap.size:=by omega
 have Bu:¬w1.heap.size=w2.heap.size:=by omega
 have nz:=((Qh.ext J1).ext XF).mod Xf n12;have kQj:=((Qx.ext KR).ext XF).mod Xf Bu;have kQk:=(Q7.ext XF).mod Xf (by show¬w3.heap.size=w2.heap.size;omega);have lk:=SB.mod (qm.ext QO) Xf (λi hi e=>by have:=bq i hi;omega);refine XK Qa (Ext w7) 12 [(true,0),(true,1),(true,2),(true,3),(false,4),(true,5),(true,6),(false,7),(false,8),(true,9),(true,10),(false,11)] (by kernel_rfl) (Ext.drew w7) ?_;refine Xs (vs:=x.cells) rfl (λw' Qb j u hj=>by rw[(nz.ext Qb).cell];exact hj) ?_;refine Xs (vs:=y.cells) rfl (λw' Qb j u hj=>by rw[(kQj.ext Qb).cell];exact hj) ?_;have hd:=Ext.drew w7;refine call (Fs y.A y.n y.c y.nd y.r _ ((hy.ext Vt).ext hd)) ?_;have c0:Set1 k [] 0 (λ_=>false):=aW k false;rw[gM hk gp c0 3];have c2:Set1 k _ _ (λe=> !o' e):=(eC gp c0 3).congr (λe=>by simp[Kv]);generalize VF y.nd y.r [] 0 3=F at*;obtain⟨F1,F2⟩:=F;rintro _ w8 ⟨QA,qn,qc,rfl,Xl,hQ8,tM⟩;refine⟨hd.trans Xl,?_⟩;refine call (An ⟨QA,qn,qc,F1,F2⟩ w8) ?_;rintro _ w9 ⟨rfl,Xt⟩;have VO:=(hd.trans Xl).trans Xt;refine⟨VO,?_⟩;refine call (vP x.A x.n x.c x.nd x.r QA qn qc F1 F2 w9 ((hx.ext Vt).ext VO) (hQ8.ext Xt)) ?_;rw[gM hk hxs c2 0];have c3:Set1 k _ _ (KG o o'):=(eC hxs c2 0).congr (λe=>by simp[Kv]);generalize VF x.nd x.r F1 F2 0=G at*;obtain⟨G1,G2⟩:=G;rintro _ Qy ⟨RA,rn,rc,rfl,XT,kQl,im⟩;refine⟨VO.trans XT,?_⟩;refine call (An ⟨RA,rn,rc,G1,G2⟩ Qy) ?_;rintro _ QH ⟨rfl,Z9⟩;have io:=(VO.trans XT).trans Z9;refine⟨io,?_⟩;refine Qv (kQk.ext io) rfl (sc rfl) (λXa qp _ Vh=>?_);have Vs:Mod (·=w3.heap.size) QH Xa:=nQQ qp rfl;have tN:Ext w Xa:=Vs.ext (Vt.trans io) (λi hi=>by omega);have Uu:=(Q2.ext io).mod Vs (by show¬w2.heap.size=w3.heap.size;omega);have Wu:=Vt.size;have eT:=VO.size;have kQm:=Vs.size;have mQE:=io.size;have Ut:=XF.size;have mQF:=Xf.size;have kQn:=SB.mod (lk.ext io) Vs (λi hi e=>by have:=bq i hi;omega);have Hu:=SB.mod (kQl.ext Z9) Vs (λi hi e=>by have:=im i hi;omega);have tO:=Ext.drew Xa;have Uv:¬w3.heap.size=w2.heap.size:=by omega
 refine XK Qa (λw'=>Mod (λi=>i=w2.heap.size∨i=w3.heap.size) Xa w'/\Blk w' w2.heap.size 32 (⟨PA,pn,pc,D1,D2⟩:DV).cells/\Blk w' w3.heap.size 32 (⟨RA,rn,rc,G1,G2⟩:DV).cells) 4 [(true,0),(true,1),(false,2),(false,3)] (by kernel_rfl) ⟨Mod.of_ext _ tO,Uu.ext tO,Vh.ext tO⟩ ?_;refine Xs (vs:=(⟨PA,pn,pc,D1,D2⟩:DV).cells) rfl (λw' Qb j u hj=>by rw[Qb.2.1.cell];exact hj) ?_;refine Xs (vs:=(⟨RA,rn,rc,G1,G2⟩:DV).cells) rfl (λw' Qb j u hj=>by rw[Qb.2.2.cell];exact hj) ?_;refine Qv (Uu.ext tO) rfl (sc rfl) (λX6 wZ _ K5=>?_);have Kj:Mod (·=w2.heap.size) Xa.drew X6:=nQQ wZ rfl;have Uw:Mod (λi=>i=w2.heap.size∨i=w3.heap.size) Xa X6:=(Mod.of_ext _ tO).trans Kj (λi hi=>.inl (.inl hi));have Ux:=(Vh.ext tO).mod Kj Uv;refine⟨⟨Uw,K5,Ux⟩,?_⟩;refine Qv Ux rfl (sc rfl) (λZk eQ _ J2=>?_);have KQ:Mod (·=w3.heap.size) X6 Zk:=nQQ eQ rfl;have Uy:=K5.mod KQ (λe=>Uv e.symm);have ny:=Uw.trans KQ (λi hi=>.inl (.inr hi));refine⟨⟨ny,Uy,J2⟩,?_⟩;refine Qt Uy rfl ?_;refine Qt J2 rfl ?_;have Bv:Ext w Zk:=ny.ext tN (λi hi=>by rcases hi with rfl | rfl<;>omega);exact⟨⟨PA,pn,pc,D1,D2⟩,⟨RA,rn,rc,G1,G2⟩,rfl,Bv,SB.mod kQn ny (λi hi e=>by have:=bq i hi;omega),c1,λi hi=>by have:=bq i hi;have:=XG.size;omega,
  SB.mod Hu ny (λi hi e=>by have:=im i hi;omega),c3,λi hi=>by have:=im i hi;omega⟩
theorem Rl (w:World)(h:Rr w0 w base p m v)(hd:v.d<=64):
  FnP Tryz.prog 145 [.pointer (some ⟨p.r,0,none⟩)] w (λ_ w'=>v.d≠64/\Rr w0 w' base p m {v with d:=v.d+1}/\Mod (·=p.r) w w') (λch w'=>v.d=64/\ch=fY 2 v.fl v.ln/\Ext w w'):=by
 refine aR (c:={cQw with cuts:=[]}) Qa Tryz.func145 rfl rfl rfl ?_;refine Qo h.blk rfl ?_;refine X3 (λh1=>?_) (λh1=>?_)
 ·refine XO (aq 2 w h) (λ_ _ hf=>hf.elim) ?_;rintro ch w1 ⟨rfl,Qe⟩;exact⟨by omega,rfl,Qe⟩
 ·refine Qo h.blk rfl ?_;refine Qi ((v.d+1:Nat):Int) (by show((v.d:Nat):Int)+1=_;omega) (by omega) ?_;refine XP h.blk (show 4<11 by decide) (λw1 eL Qh=>?_);exact⟨λe=>h1 (by omega),h.put eL Qh rfl rfl rfl h.nf,eL⟩
theorem fQU (ix:List Nat->Option Nat)(rd s:List Nat):cI ix rd s=if s.length<2∨s.head? ≠some 34∨s.getLast? ≠some 34∨s.count 34≠2 then .error 71 else match ix ((s.drop 1).take (s.length-2))with
  | none=>.error 73
  | some n=>if n∈rd then .error 73 else .ok n:=rfl
theorem Ao {ix:List Nat->Option Nat}{rd s:List Nat}(h:s.length<2∨s.head? ≠some 34∨s.getLast? ≠some 34∨s.count 34≠2):cI ix rd s= .error 71:=Qf h
theorem fQV {p:RP}(hP:RPok w0 p):Ku (p.fs.map (·.1)):=λs hs=>by
 obtain⟨x,hx,rfl⟩:=X7.1 hs;exact⟨(hP.flb x hx).n8,(hP.flb x hx).nl⟩
theorem fQW {α:Type} [DecidableEq α]{kv:α->Value}{c:Cx}{o:Oper}{S:Env}{t ke e:Nat}{r rk re:TyRow}{x y:Operand}{q:Nat}{mm:List (α×Value)}{a:α}{C:World->Prop}{K:Env->Prop}(hg:c.g.Ok)(ho:o.op= .lookup t x y true)(hr:QT c.g.tys t=some r)(hd:r.d= .map ke e)(bw:QT c.g.tys ke=some rk)(X2:QT c.g.tys e=some re)(hk:KeyV rk.d kv)
  (hx:S.ev x=some (.map (some q))) (hy:S.ev y=some (kv a)) (hm:∀w,C w->MapAt kv w q mm) {v':Value} {b:Bool} (hv:(Xz a mm).getD re.z=v') (hb:(Xz a mm).isSome=b) (k:Xd c S o.dst (.v (.tuple #[v',.bool b])) K):cA c o S C K:=by
 subst hv hb;refine bQO (v:=.tuple #[(Xz a mm).getD re.z,.bool (Xz a mm).isSome]) (λb w hf hw=>?_) k;have e1:=hf.ev hx;have e2:=hf.ev hy;have:=Ey (w:=w) (a:=a) hg hr hd bw X2 hk (hm w hw) true;simp only[execOp,ho,e1,e2];simp only[Sem.run_bind,this,Result.andThen_ok];cases Xz a mm<;>simp
theorem fQX (s:List Nat)(w:World)(hP:RPok w0 p)(h:Rr w0 w base p m v)(h8:∀x∈s,x<256)(hl:s.length<=1000000000000):
  FnP Tryz.prog 147 [.pointer (some ⟨p.r,0,none⟩),.string (Qd s)] w (λu w'=>∃n:Nat,cI (Jd (p.fs.map (·.1))) v.rd s= .ok n/\u= .int .i64 n/\Ext w w') (λch w'=>∃e,cI (Jd (p.fs.map (·.1))) v.rd s= .error e/\ch=fY e v.fl v.ln/\Ext w w'):=by
 refine aR (c:={cQy with cuts:=[]}) Qa Tryz.func147 rfl rfl rfl ?_;have XJ:=Xe s;have cj:=WJ h8;refine Qz (λh1=>?_) (λh1=>?_)
 ·have hs:s.length<2:=by rw[XJ] at h1;omega
  refine XO (aq 71 w h) (λ_ _ hf=>hf.elim) ?_;rintro ch w1 ⟨rfl,Qe⟩;exact⟨_,Ao (.inl hs),rfl,Qe⟩
 have hs:¬s.length<2:=by rw[XJ] at h1;omega
 refine dE (j:=0) (by omega) (λx hx gr=>?_);rw[cj] at hx;have aQJ:s.head? =some x:=by rw[List.head?_eq_getElem?];exact hx
 refine bI (λh2=>?_) (λh2=>?_)
 ·refine XO (aq 71 w h) (λ_ _ hf=>hf.elim) ?_;rintro ch w1 ⟨rfl,Qe⟩;exact⟨_,Ao (.inr (.inl (by rw[aQJ];intro e;cases e;exact h2 rfl))),rfl,Qe⟩
 have kQo:x=34:=by omega
 refine Qi ((s.length-1:Nat):Int) (by rw[XJ];omega) (by omega) ?_;refine dE (j:=s.length-1) (by omega) (λy hy hyl=>?_);rw[cj] at hy;have oC:s.getLast? =some y:=by rw[rL];exact hy
 refine bI (λh3=>?_) (λh3=>?_)
 ·refine XO (aq 71 w h) (λ_ _ hf=>hf.elim) ?_;rintro ch w1 ⟨rfl,Qe⟩;exact⟨_,Ao (.inr (.inr (.inl (by rw[oC];intro e;cases e;exact h3 rfl)))),rfl,Qe⟩
 have kQp:y=34:=by omega
 refine call (P7 s 34 w h8 (by decide)) ?_;rintro _ _ ⟨rfl,rfl⟩;refine bI (λh4=>?_) (λh4=>?_)
 ·refine XO (aq 71 w h) (λ_ _ hf=>hf.elim) ?_;rintro ch w1 ⟨rfl,Qe⟩;exact⟨_,Ao (.inr (.inr (.inr (by omega)))),rfl,Qe⟩
 have hcond:¬(s.length<2∨s.head? ≠some 34∨s.getLast? ≠some 34∨s.count 34≠2):=by
  rintro(h | h | h | h)
  ·exact hs h
  ·rw[aQJ,kQo] at h;exact h rfl
  ·rw[oC,kQp] at h;exact h rfl
  ·omega
 have iJ:cI (Jd (p.fs.map (·.1))) v.rd s=match Jd (p.fs.map (·.1)) ((s.drop 1).take (s.length-2))with
  | none=>.error 73
  | some n=>if n∈v.rd then .error 73 else .ok n:=if_neg hcond
 have hn8:∀b∈(s.drop 1).take (s.length-2),b<256:=λb hb=>h8 b (aM (aN hb))
 have W5:=ET (fQV hP) _ hn8;have hB:=h.blk;refine XK Qa (Ext w) 15 [(true,0),(true,1),(true,2),(true,3),(true,4),(true,5),(true,6),(true,7),(true,8),(true,9),(true,10),(true,11),(true,12),(true,13),(true,14)] (by kernel_rfl) (Ext.drew w) ?_;refine QK (v:=.map (some p.nq)) (λw' Qb=>by rw[(hB.ext Qb).cell];rfl) ?_;refine Qi ((s.length-1:Nat):Int) (by rw[XJ];omega) (by omega) ?_;refine XH (v':=.string (Qd ((s.drop 1).take (s.length-2)))) ⟨by omega,by omega,by rw[XJ];omega⟩ ?_ ?_
 ·rw[KY];simp only[gE,Int.toNat_one];rw[fE];congr 3
 generalize xP:(s.drop 1).take (s.length-2)=nm at*;refine fQW (kv:=VX) (a:=Qd nm) (v':=.int .i64 ((Jd (p.fs.map (·.1)) nm).getD 0:Nat)) (b:=(Jd (p.fs.map (·.1)) nm).isSome) Qa rfl rfl rfl rfl rfl nQR rfl rfl (λw' Qb=>(hP.nqm.ext h.e0).ext Qb) (by rw[W5];cases Jd (p.fs.map (·.1)) nm<;>rfl) (by rw[W5];cases Jd (p.fs.map (·.1)) nm<;>rfl) ?_;have Qe:=Ext.drew w;have tv:=h.ext Qe;obtain⟨mp,k1,k2,k3⟩:=tv.rdm;cases Kr:Jd (p.fs.map (·.1)) nm with
 | none=>
  rw[Kr] at iJ;refine Q8 rfl ?_;refine XO (aq 73 _ tv) (λ_ _ hf=>hf.elim) ?_;rintro ch w1 ⟨rfl,Qg⟩;exact⟨_,iJ,rfl,Qe.trans Qg⟩
 | some n=>
  rw[Kr] at iJ;simp only at iJ;refine Q3 rfl ?_;refine Qo tv.blk rfl ?_;refine EX (kv:=aV) (a:=(n:Int)) (v:=.bool (decide (n∈v.rd))) Qa rfl rfl rfl rfl rfl (KeyV.int .i64) rfl rfl k1 (by rw[k3 n];by_cases hm:n∈v.rd<;>simp[hm]) ?_;by_cases hm:n∈v.rd
  ·rw[Qf hm] at iJ;refine Zh hm ?_;refine XO (aq 73 _ tv) (λ_ _ hf=>hf.elim) ?_;rintro ch w1 ⟨rfl,Qg⟩;exact⟨_,iJ,rfl,Qe.trans Qg⟩
  ·rw[if_neg hm] at iJ;refine XD hm ?_;exact⟨n,iJ,rfl,Qe⟩
end
end
section
theorem fQY {α:Type}{f:α->List Value}(hf:∀x,∀u∈f x,JG u=true)(l:List α):∀u∈l.flatMap f,JG u=true:=λu hu=>by
 obtain⟨x,_,hx⟩:=WE.1 hu;exact hf x u hx
theorem fQZ (x:Br):∀u∈x.cells,JG u=true:=sc rfl
theorem fQ0 (k:Nat)(hk:k<=12)(x:DV)(o:BF)(w:World)(hx:SB w x.A x.n x.c x.nd)(hs:Set1 k x.nd x.r o):
  Fn Tryz.prog 206 [Xk x.A x.n x.c x.r] w (Ri w k o):=by
 have QY:=hx.2;have hl:=hs.len hk;refine QF (c:={cQ9 with cuts:=[]}) Qa Tryz.func206 rfl rfl rfl ?_;refine new (λw1 Qe Q4 Qh=>?_);refine new (λw2 Qg Zb Qx=>?_);have Q5:=Qe.trans Qg;have Vh:=Qh.ext Qg;refine XK Qa (Ext w2) 6 [(true,0),(true,1),(true,3),(true,4),(false,2),(true,5)] (by kernel_rfl) (Ext.drew w2) ?_;refine QK (v:=.slice x.A x.n x.c) (λw' Qb=>by rw[(Vh.ext Qb).cell];rfl) ?_;refine QK (v:=.int .i64 x.r) (λw' Qb=>by rw[(Vh.ext Qb).cell];rfl) ?_;have hd:=Ext.drew w2;have hz:=hd.size;refine Z4 (base:=w2.drew.heap.size) Qa rfl rfl rfl rfl rfl (by decide) rfl rfl ⟨_,rfl⟩ rfl rfl (Own.nil _ _ _ _) ((hx.ext Q5).ext hd).1 (fQY fQZ _) (by unfold maxLen;omega) (by show(0+x.n)*24<=_;omega) (QB _) ?_;intro A' c' w3 XC mX Bg;have Yy:Ext w2 w3:=XC.ext hd (λi hi=>by obtain⟨_,e,_⟩:=hi;cases e);refine⟨Yy,?_⟩;refine Qv (Qx.ext Yy) rfl (sc rfl) (λw4 cT _ Q7=>?_);have KH:Mod (·=w1.heap.size) w3 w4:=nQQ cT rfl;refine Qt Q7 rfl ?_;have jG:∀i,Qk A' i->w2.heap.size<=i:=λi hi=>by have:=(mX.rows i hi).1;omega
 refine⟨⟨A',0+x.n,c',x.nd,x.r⟩,rfl,KH.ext (Q5.trans Yy) (λi hi=>by omega),?_,hs,λi hi=>by have:=jG i hi;have:=Q5.size;omega⟩;refine SB.mod ⟨?_,by show x.nd.length=0+x.n;omega⟩ KH (λi hi e=>by have:=jG i hi;omega);simpa using mX.sl
theorem FJ {l:List Sg}{L:List DV}(h:L.length=l.length)(s:Sg)(x:DV):cM (l++ [s]) (L++ [x])=cM l L++mC (s,x):=by
 unfold cM;rw[List.zip_append h.symm];simp
theorem Rm {l:List Sg}{L:List DV}(h:L.length=l.length):(cM l L).length=l.length*6:=by
 unfold cM;rw[dG fQT];simp[h]
theorem fQ1 (x:Sg×DV):∀u∈mC x,JG u=true:=sc rfl
theorem Aq {w:World}{base e sz n c j:Nat}{a:Addr}{xs:List Value}{v:Value}{K:World->Prop}(h:Own w base e sz (some a) n c xs)(hn:0<n)(hj:j<n*sz)
  (k:∀w1,Mod (Qk (some a)) w w1->Own w1 base e sz (some a) n c (xs.set j v)->K w1):dx w (a.add j) v K:=by
 have _:=hn;have hr:=h.row;have QY:=hr.1;rcases hr.2 with⟨hv,_⟩ | ⟨g,cap,ZD,hv,hb,hg,og,lz,XY,qZ⟩
 ·cases hv
 ·cases hv;have hB:Blk w g e ZD.toList:=by unfold Blk;rw[hg]
  have hjc:j<ZD.toList.length:=by
   have:ZD.size=c*sz:=XY;have h2:n*sz<=c*sz:=bG _ og;simp only[Array.length_toList];omega
  refine XP hB hjc (λw1 hm Qh=>k w1 (hm.mono (λi hi=>.inl ⟨_,rfl,hi.symm⟩)) ⟨⟨by rw[fB];exact QY,.inr ⟨g,c,(ZD.toList.set j v).toArray,rfl,hb,Qh,og,lz,by simpa using XY,?_⟩⟩⟩);have ht:ZD.toList.take (n*sz)=xs:=qZ;show((ZD.toList.set j v).toArray.toList).take (n*sz)=xs.set j v;rw[<-ht];simp only[List.take_set]
theorem fQ2 {l:List Sg}{L:List DV}(h:L.length=l.length)(s:Sg)(x:DV)(t:Nat):(cM (l++ [s]) (L++ [x])).set (l.length*6+1) (.int .i64 t)=cM (l++ [{s with t:=t}]) (L++ [x]):=by
 rw[FJ h,FJ h,uN _ _ (by rw[Rm h];omega),Rm h];congr 1;rw[show l.length*6+1-l.length*6=1 by omega]<;>rfl
theorem FK {a b:List Nat}(ha:∀x∈a,x<256)(hb:∀x∈b,x<256):∀x∈a++b,x<256:=λx hx=>by
 rcases XM.1 hx with h | h
 ·exact ha x h
 ·exact hb x h
section
variable {w0:World} {base:Nat} {p:RP}
theorem Rn {s:List Nat}{fl at_:Nat}{k:BF}{g:Gs}(h:1048576<g.tx.length+s.length∨(g.fr=true/\g.sg.length=65536)):KZ s fl at_ k g=none:=Qf h
theorem fQ3 {s:List Nat}{fl at_:Nat}{k:BF}{g:Gs}(h:¬(1048576<g.tx.length+s.length∨(g.fr=true/\g.sg.length=65536))):KZ s fl at_ k g=some ⟨g.tx++s,my (g.tx.length+s.length) (if g.fr then g.sg++ [⟨g.tx.length,0,fl,at_,k⟩] else g.sg),false⟩:=if_neg h
theorem fQ4:vQ 157 11 5:=by unfold vQ;kernel_rfl
theorem Rr.app {m:RM}{v v':RV}{w w1 w2:World}(h:Rr w0 w base p m v)(s:Sg)(x:DV){A':Option Addr}{c':Nat}(Zt:Mod (Qk m.OA) w w1)(ho:Own w1 base 48 6 A' (v.g.sg.length+1) c' (cM v.g.sg m.L++mC (s,x)))(hv:Moved w m.OA A')(XQ:Mod (·=p.r) w1 w2)
  (hx:DgO w (TS p m) p.nm.length x s.o) (hl:v.g.sg.length<65536) (e1:v'.g.tx=v.g.tx) (e2:v'.g.sg=v.g.sg++ [s]) (e3:v'.rd=v.rd) (hB:Blk w2 p.r 157 (kH p {m with OA:=A',oc:=c',L:=m.L++ [x]} v')):Rr w0 w2 base p {m with OA:=A',oc:=c',L:=m.L++ [x]} v':=by
 have QJ:=TS.moved (p:=p) (m:=m) (m':={m with OA:=A',oc:=c',L:=m.L++ [x]}) rfl hv (Moved.refl w m.BA);have ZI:Mod (RS p m) w w2:=(Zt.mono (S':=RS p m) (λi hi=>.inl (.inr (.inr (.inl hi))))).trans XQ (λi hi=>.inl (.inl hi));have Dn:∀i,Qk A' i->¬i=p.r:=λi hi e=>by subst e;have:=(ho.rows _ hi).1;have:=h.rb;omega
 have XJ:=h.top;have Q4:=Zt.size;have Zb:=XQ.size;refine⟨ZI.ext h.e0 h.lo,h.lor,h.loq,h.rb,h.qb,h.ne,by omega,h.pa,hB,?_,?_,?_,?_,?_,by rw[e1];exact h.tl,?_,by rw[e1];exact h.b8,λ_=>.inl (by rw[e2];simp),λi hi=>VT (h.tt i hi) (by omega)⟩
 ·rw[e1];exact(h.txt.mod Zt (λi hi hj=>h.txt.apart h.out (by decide) hi hj)).mod XQ (λi hi e=>by subst e;exact h.nrow.2 hi)
 ·rw[e2];have:=ho.mod XQ Dn;rw[FJ h.len,Qq];exact this
 ·rw[e2];show(m.L++ [x]).length=_;rw[Qq,Qq,h.len]<;>rfl
 ·rw[e2];intro j s1 x1 bZ eN;have eN:(m.L++ [x])[j]? =some x1:=eN;rcases pK bZ with⟨hj,bZ⟩ | ⟨hj,bZ⟩
  ·rw[fD (by rw[h.len];exact hj)] at eN;exact(h.dgs j s1 x1 bZ eN).step (ZI.mono (λi hi=>.inl (.inl hi))) QJ
  ·rw[WC (by rw[h.len];exact hj),h.len] at eN;obtain⟨h0,rfl⟩:=kz bZ;obtain⟨_,rfl⟩:=kz eN;exact hx.step (ZI.mono (λi hi=>.inl (.inl hi))) QJ
 ·obtain⟨mp,k1,k2⟩:=h.rdm;rw[e3];exact⟨mp,(k1.mod Zt (k1.apart h.out)).mod XQ (λe=>h.ne e.symm),k2⟩
 ·rw[e2,Qq];simp;omega
theorem fQ5 {l:List Sg}{L:List DV}(h:L.length=l.length)(hn:l≠ []):∃l' s L' x,l=l'++ [s]/\L=L'++ [x]/\L'.length=l'.length:=by
 rcases uO l with rfl | ⟨l',s,rfl⟩
 ·exact Xn rfl hn
 rcases uO L with rfl | ⟨L',x,rfl⟩
 ·simp at h
 ·exact⟨l',s,L',x,by simp,by simp,by simpa using h⟩
theorem add_fn (m:RM)(v:RV)(s:List Nat)(at_:Nat)(k:DV)(o:BF)(w:World)(hP:RPok w0 p)(h:Rr w0 w base p m v)(hk:DgO w (RS p m) p.nm.length k o)(h8:∀x∈s,x<256)(LT:s.length<=1048577)(lQS:v.rd≠ []):
  FnP Tryz.prog 150 [.pointer (some ⟨p.r,0,none⟩),.string (Qd s),.int .i64 at_,Xk k.A k.n k.c k.r] w (λ_ w'=>∃g',KZ s v.fl at_ o v.g=some g'/\FI w0 w base p m {v with g:=g'} w') (λch w'=>KZ s v.fl at_ o v.g=none/\ch=fY 2 v.fl v.ln/\Ext w w'):=by
 have iH:=Xe s;have Wc:=h.tl;have nQA:=h.sl;refine aR (c:={cQB with cuts:=[2,4]}) Qa Tryz.func150 rfl rfl rfl ?_;refine new (λw1 Qe Q4 Qh=>?_);have h1:=h.ext Qe;refine call (fQu p.r 157 5 (kH p m v) m.BA m.bc v.g.tx.length w1 h1.blk rfl) ?_;rintro _ _ ⟨rfl,rfl⟩;refine NK [] Qa (λw2=>w1=w2/\¬(1048576<v.g.tx.length+s.length∨(v.g.fr=true/\v.g.sg.length=65536))) ?_ ?_
 ·refine Qi ((v.g.tx.length+s.length:Nat):Int) (by rw[iH];omega) (by omega) ?_;refine Qz (λc1=>?_) (λc1=>?_)
  ·refine XO (aq 2 w1 h1) (λ_ _ hf=>hf.elim) ?_;rintro ch w2 ⟨rfl,Qg⟩;exact⟨Rn (.inl (by omega)),rfl,Qe.trans Qg⟩
  refine Qo h1.blk rfl ?_;refine WI (λf1=>?_) (λf1=>?_)
  ·refine Qo h1.blk rfl ?_;refine X3 (λc2=>?_) (λc2=>?_)
   ·refine XO (aq 2 w1 h1) (λ_ _ hf=>hf.elim) ?_;rintro ch w2 ⟨rfl,Qg⟩;exact⟨Rn (.inr ⟨f1,by omega⟩),rfl,Qe.trans Qg⟩
   ·exact⟨rfl,rfl,by omega⟩
  ·exact⟨rfl,rfl,by rw[f1];intro hh;rcases hh with hh | ⟨hh,_⟩;omega;cases hh⟩
 rintro _ ⟨rfl,q9⟩;have lQT:=fQ3 (s:=s) (fl:=v.fl) (at_:=at_) (k:=o) (g:=v.g) q9;refine NK [] Qa (FI w0 w1 base p m {v with g:=⟨v.g.tx,if v.g.fr then v.g.sg++ [⟨v.g.tx.length,0,v.fl,at_,o⟩] else v.g.sg,false⟩}) ?_ ?_
 ·refine Qo h1.blk rfl ?_;refine WI (λf1=>?_) (λf1=>?_)
  ·have f1:v.g.fr=true:=f1;have Dt:v.g.sg.length<65536:=by
    rcases Nat.lt_or_ge v.g.sg.length 65536 with hh | hh
    ·exact hh
    ·exact Xn (Or.inr ⟨f1,by omega⟩) q9
   have lI:=h.hi;have lF:¬RS p m w.heap.size:=λhh=>by have:=lI _ hh;omega
   have nrow:=h.nrow;refine XK Qa (Mod (Qk m.OA) w1) 18 [(true,0),(true,1),(true,2),(true,3),(true,4),(true,5),(true,6),(true,7),(true,8),(true,9),(true,10),(true,11),(false,12),(true,13),(false,14),(false,15),(true,16),(true,17)] (by kernel_rfl) (Mod.of_ext _ (Ext.drew w1)) ?_;refine QK (v:=.slice m.OA v.g.sg.length m.oc) (λw' Qb=>by rw[(h1.blk.mod Qb nrow.1).cell];rfl) ?_;refine QK (v:=.int .i64 v.fl) (λw' Qb=>by rw[(h1.blk.mod Qb nrow.1).cell];rfl) ?_;refine Xs (vs:=k.cells) rfl (λw' Qb j u hj=>by rw[(Qh.mod Qb (λhh=>lF (.inr (.inr (.inl hh))))).cell];exact hj) ?_;have hd:=Ext.drew w1;have Bw:=hk.ext Qe;refine call (fQ0 p.nm.length hP.nmk k o w1.drew (Bw.sb.ext hd) Bw.st) ?_;rintro _ w2 ⟨x,rfl,Qg,Hj,hxs,Do⟩;have Xv:=hd.trans Qg;refine⟨Mod.of_ext _ Xv,?_⟩;refine Xh Qa [mC (⟨v.g.tx.length,0,v.fl,at_,o⟩,x)] rfl rfl rfl rfl rfl ⟨rfl,rfl,⟨⟩⟩ rfl (λcs hh=>by simp only[QN] at hh;subst hh;rfl) rfl (by decide) (by decide) ?_;intro w3 Qj JC Qu;have XI:=Xv.trans Qj;refine⟨Mod.of_ext _ XI,?_⟩;have h3:=h1.ext XI;have qf:Sl w3 6 (some ⟨w2.heap.size,0,none⟩) 1 1 (mC (⟨v.g.tx.length,0,v.fl,at_,o⟩,x)):=Sl.own (sz:=6) (n:=1) Qu (QB _) (by decide) (by simp[mC]);refine Z4 Qa rfl rfl rfl rfl rfl (by decide) rfl rfl ⟨_,rfl⟩ rfl rfl h3.out qf (fQ1 _) (by unfold maxLen;omega) (by show(v.g.sg.length+1)*64<=_;omega) h3.top ?_;intro A' c' w4 X5 qg Bx;refine⟨(Mod.of_ext (Qk m.OA) XI).trans X5 (λi hi=>.inl hi),?_⟩;refine XP (h3.blk.mod X5 nrow.1) (show 7<11 by decide) (λw5 XS QG=>?_);refine XP QG (show 8<11 by decide) (λw6 K2 Q9=>?_);have Uz:Mod (·=p.r) w4 w6:=XS.trans K2 (λi hi=>.inl hi);have kQq:=h1.hiT;have xY:DgO w3 (TS p m) p.nm.length x o:=(DgO.new (S:=TS p m) Hj hxs Do (λi hi=>by have:=kQq i hi;have:=hd.size;omega)).ext Qj;have hx3:DgO w3 (TS p m) p.nm.length x (⟨v.g.tx.length,0,v.fl,at_,o⟩:Sg).o:=xY;rw[f1,Qf rfl];refine⟨rfl,⟨{m with OA:=A',oc:=c',L:=m.L++ [x]},rfl,h3.app ⟨v.g.tx.length,0,v.fl,at_,o⟩ x X5 qg Bx Uz hx3 Dt rfl rfl rfl ?_,?_,Bx.back XI.size,Moved.refl _ _⟩⟩
   ·have e:(v.g.sg++ [(⟨v.g.tx.length,0,v.fl,at_,o⟩:Sg)]).length=v.g.sg.length+1:=by simp
    show Blk w6 p.r 157 [.slice p.NA p.nn p.nc,.slice p.FA p.nf p.cf,.map (some p.nq),.map (some p.q),.int .i64 v.d,m.pa,.slice m.BA v.g.tx.length m.bc,.slice A' (v.g.sg++ [(⟨v.g.tx.length,0,v.fl,at_,o⟩:Sg)]).length c',.bool false,.int .i64 v.fl,.int .i64 v.ln];rw[e];exact Q9
   ·exact((Mod.of_ext (RS p m) XI).trans X5 (λi hi=>.inl (.inr (.inr (.inl hi))))).trans Uz (λi hi=>.inl (.inl hi))
  ·have f1:v.g.fr=false:=f1;have e:({v with g:=⟨v.g.tx,if v.g.fr then v.g.sg++ [⟨v.g.tx.length,0,v.fl,at_,o⟩] else v.g.sg,false⟩}:RV)=v:=by
    obtain⟨d,fl,ln,rd,⟨tx,sg,fr⟩⟩:=v;simp only at f1;subst f1;rfl
   rw[e];exact⟨rfl,m,rfl,h1,Mod.refl _ _,Moved.refl _ _,Moved.refl _ _⟩
 rintro w2 ⟨m2,Wv,h2,XQ,Kb,Bf⟩;generalize mQG:(if v.g.fr then v.g.sg++ [(⟨v.g.tx.length,0,v.fl,at_,o⟩:Sg)] else v.g.sg)=Y8 at*;have QU:Y8≠ []:=(h2.nf rfl).resolve_right lQS;have JZ:=h2.sl;simp only at JZ;obtain⟨l',s0,L',x0,e1,e2,e3⟩:=fQ5 (l:=Y8) h2.len QU;have js:0<Y8.length:=uP.2 QU;obtain⟨oa,Kf,_⟩:=h2.out.sl.at_ js;have Kf:m2.OA=some oa:=Kf;have lQU:vQ 157 (kH p m2 {v with g:=⟨v.g.tx,Y8,false⟩}).length 5:=by rw[show(kH p m2 {v with g:=⟨v.g.tx,Y8,false⟩}).length=11 from rfl];exact fQ4
 refine call (fQt base p.r 157 5 m2.pa (kH p m2 {v with g:=⟨v.g.tx,Y8,false⟩}) m2.BA m2.bc v.g.tx (Qd s) w2 lQU (show 6<11 by decide) h2.pa h2.blk rfl rfl h2.txt h2.rb h2.top (by rw[iH];omega)) ?_;rintro _ w3 ⟨B',b',Qu,xa,XC,aA⟩;rw[iH,WJ h8] at xa;rw[iH] at Qu;have UA:=h2.nrow;have UB:Own w3 base 48 6 m2.OA Y8.length m2.oc (cM Y8 m2.L):=h2.out.mod XC (λi hi hj=>by
  rcases hj with rfl | hj
  ·exact UA.1 hi
  ·exact h2.out.apart h2.txt (by decide) hi hj)
 have hd:=Ext.drew w3;have UC:=Qu.ext hd;refine pu Qa 16 (by kernel_rfl) ?_;refine QK (v:=.slice m2.OA Y8.length m2.oc) (λw' Qb=>by subst Qb;rw[UC.cell];rfl) ?_;refine QK (v:=.slice m2.OA Y8.length m2.oc) (λw' Qb=>by subst Qb;rw[UC.cell];rfl) ?_;refine Qi ((Y8.length-1:Nat):Int) (by omega) (by omega) ?_;refine Qi ((v.g.tx.length+s.length:Nat):Int) (by rw[iH];omega) (by omega) ?_;rw[Kf];refine JS (j:=Y8.length-1) (by omega) ?_;have UD:=UB.ext hd;rw[Kf] at UD;have Zz:Y8.length=l'.length+1:=by rw[e1];simp
 show dx _ ((oa.add ((Y8.length-1)*6)).add 1) _ _;rw[add_add];refine Aq UD js (by omega) (λw4 X5 H7=>?_);have Xq:(cM Y8 m2.L).set ((Y8.length-1)*6+1) (.int .i64 ((v.g.tx.length+s.length:Nat):Int))=cM (my (v.g.tx.length+s.length) Y8) m2.L:=by
  have e:(l'++ [s0]).length-1=l'.length:=by simp
  rw[e1,e2,gO,e,fQ2 e3]
 rw[Xq] at H7;have xb:(my (v.g.tx.length+s.length) Y8).length=Y8.length:=by rw[e1,gO];simp
 have xd:Mod (Qk m2.OA) w3 w4:=by rw[Kf];exact(Mod.of_ext _ hd).trans X5 (λi hi=>.inl hi)
 have lQV:∀i,Qk B' i->¬Qk m2.OA i:=λi hi hj=>UB.apart xa (by decide) hj hi
 have hall:Mod (RS p m2) w2 w4:=(XC.mono (S':=RS p m2) (λi hi=>by
   rcases hi with rfl | hi
   ·exact .inl (.inl rfl)
   ·exact .inl (.inr (.inr (.inr hi))))).trans xd (λi hi=>.inl (.inr (.inr (.inl hi))))
 have JC:=XC.size;have KO:=xd.size;have mQH:=h2.top;refine⟨_,lQT,{m2 with BA:=B',bc:=b',pa:=.pointer (some (JV p.r 5))},Wv,⟨hall.ext h2.e0 h2.lo,h2.lor,h2.loq,h2.rb,h2.qb,h2.ne,by omega,.inr rfl,?_,?_,?_,?_,?_,?_,?_,?_,?_,λ_=>?_,λi hi=>VT (h2.tt i hi) (by omega)⟩,?_,?_,?_⟩
 all_goals try simp only
 ·have e:(v.g.tx++s).length=v.g.tx.length+s.length:=by simp
  show Blk w4 p.r 157 [.slice p.NA p.nn p.nc,.slice p.FA p.nf p.cf,.map (some p.nq),.map (some p.q),.int .i64 v.d,.pointer (some (JV p.r 5)),.slice B' (v.g.tx++s).length b',.slice m2.OA (my (v.g.tx.length+s.length) Y8).length m2.oc,.bool false,.int .i64 v.fl,.int .i64 v.ln];rw[e,xb];exact Qu.mod xd UA.1
 ·rw[Qq];exact xa.mod xd lQV
 ·rw[xb];rw[<-Kf] at H7;exact H7
 ·rw[xb];exact h2.len
 ·intro j s1 x1 bZ eN;have QJ:=TS.moved (p:=p) (m:=m2) (m':={m2 with BA:=B',bc:=b',pa:=.pointer (some (JV p.r 5))}) rfl (Moved.refl w2 m2.OA) aA;have key:∃s2,Y8[j]? =some s2/\s2.o=s1.o:=by
   rw[e1,gO] at bZ;rw[e1];rcases pK bZ with⟨hj,bZ⟩ | ⟨hj,bZ⟩
   ·exact⟨s1,by rw[fD hj];exact bZ,rfl⟩
   ·obtain⟨h0,rfl⟩:=kz bZ;exact⟨s0,by rw[WC hj,h0];rfl,rfl⟩
  obtain⟨s2,kS,lH⟩:=key;rw[<-lH];exact(h2.dgs j s2 x1 kS eN).step (hall.mono (λi hi=>.inl (.inl hi))) QJ
 ·obtain⟨mp,k1,k2⟩:=h2.rdm;refine⟨mp,(k1.mod XC (λhj=>?_)).mod xd (k1.apart h2.out),k2⟩;rcases hj with e | hj
  ·exact h2.ne e.symm
  ·exact k1.apart h2.txt hj
 ·rw[Qq];omega
 ·rw[xb];exact JZ
 ·exact FK h.b8 h8
 ·exact .inl (by rw[<-uP,xb];exact js)
 ·exact(((Mod.of_ext (RS p m) Qe).trans XQ (λi hi=>.inl hi)).trans hall (λi hi=>by
   rcases RS.moved (p:=p) Kb Bf i hi with hh | hh
   ·exact .inl hh
   ·exact .inr (by have:=Qe.size;omega)))
 ·exact Kb.back Qe.size
 ·exact(Bf.trans aA XQ.size).back Qe.size
end
end
section
theorem Rr.modT {w0 w w':World}{base:Nat}{p:RP}{m:RM}{v:RV}{U T':Nat->Prop}(h:Rr w0 w base p m v)(hm:Mod U w w')(hU:∀i,U i->m.T i)(aG:∀i,U i->¬RS p m i)(iK:∀i,U i->w0.heap.size<=i)(hT:∀i,T' i->m.T i∨w.heap.size<=i)(Xc:∀i,T' i->i<w'.heap.size):
  Rr w0 w' base p {m with T:=T'} v:=
 ⟨hm.ext h.e0 iK,h.lor,h.loq,h.rb,h.qb,h.ne,Zc h.top hm.size,h.pa,h.blk.mod hm (λhu=>aG _ hu (.inl rfl)),h.txt.mod hm (λi hi hu=>aG _ hu (.inr (.inr (.inr hi)))),h.out.mod hm (λi hi hu=>aG _ hu (.inr (.inr (.inl hi)))),h.len,
  λj s x h1 h2=>(h.dgs j s x h1 h2).step (hm.mono (λi hi=>.inl (.inr (hU i hi)))) (λi hi=>hi.elim (λhr=>.inl (.inl hr)) (λht=>(hT i ht).elim (λh=>.inl (.inr h)) .inr)),
  let ⟨mp,h1,h2⟩:=h.rdm;⟨mp,h1.mod hm (λhu=>aG _ hu (.inr (.inl rfl))),h2⟩,h.tl,h.sl,h.b8,h.nf,Xc⟩
theorem fQ6 {j m:Nat}{vs l:List Value}(h:j+vs.length<=m)(hm:m<=l.length):(KX j vs l).take m=KX j vs (l.take m):=by
 have hx:(l.take m).length=m:=by rw[K8];omega
 rw[i5 j vs l (by omega),i5 j vs (l.take m) (by omega)];rw[DP,DP,Qq,K8];rw[List.take_take,Jc (l:=vs) (by omega),List.take_take];rw[show min m j=j by omega,show min j m=j by omega,fE];congr 2;omega
theorem Ro {P:Program}{w:World}{base e sz n c j:Nat}{a:Addr}{xs vs:List Value}{K:World->Prop}(h:Own w base e sz (some a) n c xs)(hj:j+vs.length<=n*sz)(gq:∀u∈vs,JG u=true)
  (k:∀w1,Mod (Qk (some a)) w w1->Own w1 base e sz (some a) n c (KX j vs xs)->K w1):lU P w (a.add j) vs K:=by
 have hr:=h.row;have QY:=hr.1;rcases hr.2 with⟨hv,_⟩ | ⟨g,cap,ZD,hv,hb,hg,og,lz,XY,qZ⟩
 ·cases hv
 ·cases hv;have hB:Blk w g e ZD.toList:=by unfold Blk;rw[hg]
  have fq:ZD.toList.length=c*sz:=by simpa using XY
  have h2:n*sz<=c*sz:=bG _ og;refine i6 hB (by omega) gq (λw1 hm _ Qh=>k w1 (nQQ hm ⟨_,rfl,rfl⟩) ⟨⟨by rw[NM _ _ _ (by omega)];exact QY,.inr ⟨g,c,(KX j vs ZD.toList).toArray,rfl,hb,Qh,og,lz,?_,?_⟩⟩⟩)
  ·have:=NM j vs ZD.toList (by omega);simp only[List.size_toArray];omega
  ·have ht:ZD.toList.take (n*sz)=xs:=qZ;show((KX j vs ZD.toList).toArray.toList).take (n*sz)=_;rw[<-ht,<-fQ6 hj (by omega)]
theorem Rp {w:World}{base e sz n c o i:Nat}{a:Addr}{xs:List Value}{u:Value}{K:Value->Prop}(h:Own w base e sz (some a) n c xs)(hn:0<n)(hv:xs[o+i]? =some u)(k:K u):gF w ((a.add o).add i) K:=by
 obtain⟨ad,e1,hc⟩:=h.sl.at_ hn;cases e1;exact load (by rw[add_add];exact hc _ _ hv) k
theorem Ar {w:World}{base e sz n c o i:Nat}{a:Addr}{xs:List Value}{u:Value}(h:Own w base e sz (some a) n c xs)(hn:0<n)(hv:xs[o+i]? =some u):w.cell? ((a.add o).add i)=some u:=by
 obtain⟨ad,e1,hc⟩:=h.sl.at_ hn;cases e1;rw[add_add];exact hc _ _ hv
structure SeV where
 s:Se
 x:DV
 y:DV
def SeV.cells (z:SeV):List Value:=[.slice z.x.A z.x.n z.x.c,.int .i64 z.x.r,.slice z.y.A z.y.n z.y.c,.int .i64 z.y.r,.bool z.s.ot,.int .i64 z.s.ln]
theorem fQ7 (z:SeV):z.cells.length=6:=rfl
theorem fQ8 (z:SeV):∀u∈z.cells,JG u=true:=sc rfl
abbrev WQ:TypeId:=232
theorem vW {pre:List Value}{z:SeV}{i:Nat}{u:Value}(h:z.cells[i]? =some u):(pre++z.cells)[pre.length+i]? =some u:=by rw[WC (by omega)];rw[show pre.length+i-pre.length=i by omega];exact h
theorem fQ9 {pre:List Value}{z:SeV}{i:Nat}{u:Value}:(pre++z.cells).set (pre.length+i) u=pre++z.cells.set i u:=by rw[uN _ _ (by omega)];rw[show pre.length+i-pre.length=i by omega]
theorem Rq (vs:List Value)(i:Nat)(z:List Value):∀(pre:List Value),KX (pre.length+i) vs (pre++z)=pre++KX i vs z
 | []=>by simp
 | a::pre=>by
  rw[Q6,show pre.length+1+i=(pre.length+i)+1 by omega];show a::KX (pre.length+i) vs (pre++z)=_;rw[Rq vs i z pre]<;>rfl
section
variable {w0:World} {base:Nat} {p:RP}
def gQa (w:World)(k:Nat)(nm:List (List Nat))(base n c:Nat)(a:Addr)(pre:List Value)(z:SeV)(bB:Bool)(s:List Nat)(u:Value)(w':World):Prop:=
 z.s.ot=false/\Mod (Qk (some a)) w w'/\if bB then u=Xk z.y.A z.y.n z.y.c z.y.r/\Own w' base WQ 6 (some a) n c (pre++(⟨{z.s with ot:=true},z.x,z.y⟩:SeV).cells)
  else∃(o:BF) (b d:DV),VH nm s= .ok o/\u=Xk b.A b.n b.c b.r/\SB w' b.A b.n b.c b.nd/\Set1 k b.nd b.r (ZW z.s.re o)/\(∀i,Qk b.A i->w.heap.size<=i)/\SB w' d.A d.n d.c d.nd/\Set1 k d.nd d.r (KG z.s.re o)/\(∀i,Qk d.A i->w.heap.size<=i)/\
   Own w' base WQ 6 (some a) n c (pre++(⟨{z.s with re:=KG z.s.re o},z.x,d⟩:SeV).cells)
theorem Rs (m:RM)(v:RV)(a:Addr)(n c:Nat)(pre:List Value)(z:SeV)(bB:Bool)(s:List Nat)(w:World)(hP:RPok w0 p)(h:Rr w0 w base p m v)(ho:Own w base WQ 6 (some a) n c (pre++z.cells))(hT:∀i,Qk (some a) i->m.T i)(ur:pre.length+6=n*6)
  (hy:DgO w (TS p m) p.nm.length z.y z.s.re) (h8:∀x∈s,x<256) (hl:s.length<=1000000000000) (fa:w0.heap.size<=base):
  FnP Tryz.prog 149 [.pointer (some ⟨p.r,0,none⟩),.pointer (some (a.add pre.length)),.bool bB,.string (Qd s)] w (gQa w p.nm.length p.nm base n c a pre z bB s)
   (λch w'=>∃e,(z.s.ot=true/\e=71∨z.s.ot=false/\bB=false/\VH p.nm s= .error e)/\ch=fY e v.fl v.ln/\Mod (Qk (some a)) w w'):=by
 have js:0<n:=by omega
 have We:Qk (some a) a.block:=⟨a,rfl,rfl⟩
 have aG:∀i,Qk (some a) i->¬RS p m i:=λi hi hr=>by
  have hb:=(ho.rows i hi).1;have:=h.rb;have:=h.qb;rcases hr with rfl | rfl | hr | hr
  ·omega
  ·omega
  ·exact ho.apart h.out (by decide) hi hr
  ·exact ho.apart h.txt (by decide) hi hr
 have iK:∀i,Qk (some a) i->w0.heap.size<=i:=λi hi=>by have:=(ho.rows i hi).1;omega
 refine aR (c:={cQA with cuts:=[]}) Qa Tryz.func149 rfl rfl rfl ?_;refine new (λw1 Qe Q4 Qh=>?_);have dY:=ho.ext Qe;have h1:=h.ext Qe;refine Rp dY js (vW (i:=4) (u:=.bool z.s.ot) rfl) ?_;refine WI (λht=>?_) (λht=>?_)
 ·refine XO (aq 71 w1 h1) (λ_ _ hf=>hf.elim) ?_;rintro ch w2 ⟨rfl,Qg⟩;exact⟨71,.inl ⟨ht,rfl⟩,rfl,Mod.of_ext _ (Qe.trans Qg)⟩
 have ht:z.s.ot=false:=ht;have yget:∀(i:Nat) (u:Value),z.y.cells[i]? =some u->z.cells[2+i]? =some u:=λi u hi=>match i,hi with
  | 0,hi=>hi
  | 1,hi=>hi
  | _+2,hi=>nomatch hi
 refine Kn (vs:=z.y.cells) rfl (λi u hi=>?_) ?_
 ·show w1.cell? (((a.add pre.length).add 2).add i)=some u;rw[add_add];exact Ar dY js (vW (yget i u hi))
 refine new (λw2 Qg Zb Qx=>?_);have gf:=dY.ext Qg;have h2:=h1.ext Qg;refine Qv Qx rfl (sc rfl) (λw3 Z7 JC Qu=>?_);have XI:Ext w1 w3:=X9 Qg Qx Z7;have xa:=dY.ext XI;have h3:=h1.ext XI;show dx w3 ((a.add pre.length).add 4) _ _;rw[add_add];refine Aq xa js (by omega) (λw4 X5 xe=>?_);rw[fQ9] at xe;have xe:Own w4 base WQ 6 (some a) n c (pre++(⟨{z.s with ot:=bB},z.x,z.y⟩:SeV).cells):=xe;have QX:=Qe.trans XI;have bg:Mod (Qk (some a)) w w4:=(Mod.of_ext _ QX).trans X5 (λi hi=>.inl hi);have h4:Rr w0 w4 base p m v:=h3.modT X5 hT aG iK (λi hi=>.inl hi) (λi hi=>VT (h3.tt i hi) X5.size);have By:¬Qk (some a) w.heap.size:=λhi=>by have:=(ho.rows _ hi).2;omega
 have H8:¬Qk (some a) w1.heap.size:=λhi=>by have:=(ho.rows _ hi).2;omega
 have H9:=XI.size;have J2:=(Qh.ext XI).mod X5 By;have jt:=Qu.mod X5 H8;have KO:=X5.size;cases bB with
 | true=>
  refine Q3 rfl ?_;refine Qt jt rfl ?_;refine Qv J2 rfl (sc rfl) (λw5 JH _ QG=>?_);have Je:Mod (·=w.heap.size) w4 w5:=nQQ JH rfl;refine Qt QG rfl ?_;exact⟨ht,bg.trans Je (λi hi=>.inr (by omega)),rfl,xe.mod Je (λi hi e=>by subst e;exact By hi)⟩
 | false=>
  refine Q8 rfl ?_;have K7:z.cells=(⟨{z.s with ot:=false},z.x,z.y⟩:SeV).cells:=by
   obtain⟨⟨ou,re,ot,ln⟩,x,y⟩:=z;simp only at ht;subst ht;rfl
  have hoC:∀w',Mod (·=w1.heap.size) w4 w'->Own w' base WQ 6 (some a) n c (pre++z.cells):=λw' Qb=>by
   rw[K7];exact xe.mod Qb (λi hi e=>by subst e;exact H8 hi)
  refine fQJ Qa (λch w'=>∃e,(z.s.ot=true/\e=71∨z.s.ot=false/\false=false/\VH p.nm s= .error e)/\ch=fY e v.fl v.ln/\Mod (Qk (some a)) w w') (λch S w' hp=>hp) (Mod (·=w1.heap.size) w4) 14 [(true,0),(true,1),(true,2),(true,3),(true,4),(true,5),(true,6),(true,7),(false,8),(false,9),(true,10),(true,11),(true,12),(false,13)] (by kernel_rfl) (Mod.of_ext _ (Ext.drew w4)) ?_;refine Xs (vs:=z.y.cells) rfl (λw' Qb i u hi=>?_) ?_
  ·show w'.cell? (((a.add pre.length).add 2).add i)=some u;rw[add_add];exact Ar (hoC w' Qb) js (vW (yget i u hi))
  have hd:=Ext.drew w4;refine XO (Rj s w4.drew hP (h4.ext hd) h8 hl) ?_ ?_
  rotate_left
  ·rintro ch w5 ⟨e,he,rfl,Qw⟩;exact⟨e,.inr ⟨ht,rfl,he⟩,rfl,bg.trans (Mod.of_ext _ (hd.trans Qw)) (λi hi=>.inl hi)⟩
  rintro _ w5 ⟨o,he,t,rfl,Qw,ht5,gm,Ds⟩;have aB:=hd.trans Qw;have H6:SB w4 z.y.A z.y.n z.y.c z.y.nd:=SB.modo (hy.sb.ext QX) X5 (λad e h0 hi=>hy.off ad e h0 (.inr (hT _ hi)));refine⟨Mod.of_ext _ aB,?_⟩;refine call (Rk p.nm.length hP.nmk z.y t z.s.re o w5 (H6.ext aB) hy.st ht5 gm) ?_;rintro _ w6 ⟨b,d,rfl,QO,hb6,yo,oE,hd6,iI,cr⟩;have XF:=aB.trans QO;have Ut:=XF.size;have Ur:=aB.size;refine⟨Mod.of_ext _ XF,?_⟩;refine Qv (jt.ext XF) rfl (sc rfl) (λw7 ZB _ Q2=>?_);have Xf:Mod (·=w1.heap.size) w6 w7:=nQQ ZB rfl;have tF:Mod (·=w1.heap.size) w4 w7:=(Mod.of_ext _ XF).trans Xf (λi hi=>.inl hi);refine⟨tF,?_⟩;have Ia:=hoC w7 tF;show lU _ w7 ((a.add pre.length).add 2) _ _;rw[add_add];refine Ro Ia (by show pre.length+2+2<=_;omega) (sc rfl) (λw8 JB Bz=>?_);rw[Rq] at Bz;have Bz:Own w8 base WQ 6 (some a) n c (pre++(⟨{z.s with re:=KG z.s.re o},z.x,d⟩:SeV).cells):=Bz;have kQr:=Q2.mod JB H8;refine Qt kQr rfl ?_;have qq:=((J2.ext XF).mod Xf (by show¬w.heap.size=w1.heap.size;omega)).mod JB By;refine Qv qq rfl (sc rfl) (λw9 eZ _ JD=>?_);have Zj:Mod (·=w.heap.size) w8 w9:=nQQ eZ rfl;refine Qt JD rfl ?_;have mQI:=bg.size;have keep:∀x:DV,(∀i,Qk x.A i->w5.heap.size<=i)->SB w6 x.A x.n x.c x.nd->SB w9 x.A x.n x.c x.nd:=λx hr hx=>
   SB.mod (SB.mod (SB.mod hx Xf (λi hi e=>by have:=hr i hi;omega)) JB (λi hi hj=>by have:=hr i hi;have:=(ho.rows i hj).2;omega)) Zj (λi hi e=>by have:=hr i hi;omega)
  have hall:Mod (Qk (some a)) w w9:=((bg.trans tF (λi hi=>.inr (by omega))).trans JB (λi hi=>.inl hi)).trans Zj (λi hi=>.inr (by omega));refine⟨ht,hall,o,b,d,he,rfl,keep b oE hb6,yo,λi hi=>by have:=oE i hi;omega,keep d cr hd6,iI,λi hi=>by have:=cr i hi;omega,Bz.mod Zj (λi hi e=>by subst e;exact By hi)⟩
end
end
end
section
section
theorem gQb (l:List Nat)(w:World)(hl:∀x∈l,x<256)(QY:l.length<=1000000000000):
  Fn Tryz.prog 143 [.string (Qd l),.string (Qd [32])] w (λv w'=>v= .tuple #[.string (Qd (JK l)),.string (Qd (if 32∈l then Ve l else [])),.bool (decide (32∈l))]/\Ext w w'):=
 (fQB l w hl QY).mono λv w' h=>by
  obtain⟨h1,h2⟩:=h;refine⟨?_,h2⟩;rw[h1];by_cases hm:32∈l
  ·rw[Qf hm,Qf hm,Zy hm]
  ·rw[if_neg hm,if_neg hm,Zq hm,Fx hm]
section
variable {nm:List (List Nat)} {fl d0:Nat} {inc:List Nat->Nat->Nat->BF->Gs->Except Pl Gs} {s:List Nat} {ls:List (List Nat)} {ln at_:Nat} {k:BF} {op:List Se} {g:Gs} {r:List Nat}
theorem As (h:Zn s= .ifd r):ZX nm fl d0 inc (s::ls) ln at_ k op g=match VH nm r with
   | .error e=>.error ⟨e,fl,((ln+1:Nat):Int)⟩
   | .ok d=>if d0+op.length=64 then .error ⟨2,fl,((ln+1:Nat):Int)⟩else ZX nm fl d0 inc ls (ln+1) (at_+s.length+1) (ZW k d) (⟨k,KG k d,false,ln+1⟩::op) {g with fr:=true}:=by
 rw[ZX.eq_def];simp only[h]<;>rfl
theorem vX (h:Zn s= .inc r):ZX nm fl d0 inc (s::ls) ln at_ k op g=match inc r (ln+1) (d0+op.length) k g with
   | .error p=>.error p
   | .ok g'=>ZX nm fl d0 inc ls (ln+1) (at_+s.length+1) k op {g' with fr:=true}:=by
 rw[ZX.eq_def];simp only[h]<;>rfl
theorem At (h:Zn s= .elif r):ZX nm fl d0 inc (s::ls) ln at_ k op g=match op with
   | []=>.error ⟨72,fl,((ln+1:Nat):Int)⟩
   | x::Xx=>if x.ot then .error ⟨71,fl,((ln+1:Nat):Int)⟩else match VH nm r with
    | .error e=>.error ⟨e,fl,((ln+1:Nat):Int)⟩
    | .ok d=>ZX nm fl d0 inc ls (ln+1) (at_+s.length+1) (ZW x.re d) ({x with re:=KG x.re d}::Xx) {g with fr:=true}:=by
 rw[ZX.eq_def];simp only[h]<;>rfl
theorem Av (h:Zn s= .els):ZX nm fl d0 inc (s::ls) ln at_ k op g=match op with
   | []=>.error ⟨72,fl,((ln+1:Nat):Int)⟩
   | x::Xx=>if x.ot then .error ⟨71,fl,((ln+1:Nat):Int)⟩else ZX nm fl d0 inc ls (ln+1) (at_+s.length+1) x.re ({x with ot:=true}::Xx) {g with fr:=true}:=by
 rw[ZX.eq_def];simp only[h]<;>rfl
theorem FL (h:Zn s= .en):ZX nm fl d0 inc (s::ls) ln at_ k op g=match op with
   | []=>.error ⟨72,fl,((ln+1:Nat):Int)⟩
   | x::Xx=>ZX nm fl d0 inc ls (ln+1) (at_+s.length+1) x.ou Xx {g with fr:=true}:=by
 rw[ZX.eq_def];simp only[h]<;>rfl
theorem kI (h:Zn s= .txt):ZX nm fl d0 inc (s::ls) ln at_ k op g=match KZ (s++ [10]) fl at_ k g with
   | none=>.error ⟨2,fl,((ln+1:Nat):Int)⟩
   | some g'=>ZX nm fl d0 inc ls (ln+1) (at_+s.length+1) k op g':=by
 rw[ZX.eq_def];simp only[h]<;>rfl
end
theorem Own.take {w:World}{base e sz n c k:Nat}{A:Option Addr}{cs:List Value}(h:Own w base e sz A n c cs)(hk:k<=n):Own w base e sz A k c (cs.take (k*sz)):=by
 have hr:=h.row;have hl:=hr.1;have Xj:k*sz<=n*sz:=bG _ hk;refine⟨⟨by rw[K8];omega,?_⟩⟩;rcases hr.2 with⟨hv,hx⟩ | ⟨g,cap,ZD,hv,hb,hg,og,lz,XY,qZ⟩
 ·cases hv;obtain rfl:k=0:=by omega
  exact .inl ⟨rfl,by simp⟩
 ·cases hv;refine .inr ⟨g,c,ZD,rfl,hb,hg,by omega,lz,XY,?_⟩;have ht:ZD.toList.take (n*sz)=cs:=qZ;rw[<-ht,List.take_take,jQ Xj]
theorem FM {ix:List Nat->Option Nat}{rd s:List Nat}{n:Nat}(h:cI ix rd s= .ok n):n∉rd/\∃t,ix t=some n:=by
 unfold cI at h;split at h
 ·cases h
 split at h
 ·cases h
 ·rename_i m hm;split at h
  ·cases h
  ·rename_i hn;cases h;exact⟨hn,_,hm⟩
structure LS where
 k:DV
 o:BF
 z:List SeV
 m:RM
 g:Gs
 ln:Nat
 at_:Nat
 ls:List (List Nat)
 A:Option Addr
 c:Nat
def V7 (z:List SeV):List Value:=z.flatMap SeV.cells
theorem Aw (z:List SeV):(V7 z).length=z.length*6:=dG fQ7 z
theorem mD (z:List SeV)(x:SeV):V7 (z++ [x])=V7 z++x.cells:=by simp[V7]
def Jr (p:RP)(m:RM)(A:Option Addr)(bk:Nat):Nat->Prop:=λi=>RS p m i∨Qk A i∨i=bk
abbrev mE:=List Nat->Nat->Nat->BF->Gs->Except Pl Gs
structure FrI (w0 w:World) (base:Nat) (p:RP) (m:RM) (v:RV) (n bk:Nat) (text:List Nat) (inc:mE) (res:Except Pl Gs) (s:LS) (w':World):Prop where
 rr:Rr w0 w' base p s.m ⟨v.d+s.z.length,n,s.ln,n::v.rd,s.g⟩
 tt:s.m.T=λi=>m.T i∨Qk s.A i∨i=bk
 kb:Blk w' bk 32 s.k.cells
 kd:DgO w' (TS p s.m) p.nm.length s.k s.o
 ow:Own w' base WQ 6 s.A s.z.length s.c (V7 s.z)
 zx:∀z∈s.z,DgO w' (TS p s.m) p.nm.length z.x z.s.ou
 zy:∀z∈s.z,DgO w' (TS p s.m) p.nm.length z.y z.s.re
 dr:text.drop s.at_=Qp s.ls
 al:s.at_+(Qp s.ls).length=text.length
 li:kB s.ls
 rs:ZX p.nm n v.d inc s.ls s.ln s.at_ s.o (s.z.reverse.map (·.s)) s.g=res
 mw:Mod (RS p m) w w'
 ma:Moved w m.OA s.m.OA
 mb:Moved w m.BA s.m.BA
 nw:∀i,Qk s.A i->w.heap.size<=i
 dl:v.d+s.z.length<=64
 lb:s.ln+s.ls.length<=1048576
section
variable {w0 w w' KT:World} {base:Nat} {p:RP} {m:RM} {v:RV} {n bk:Nat} {text:List Nat} {inc:mE} {res:Except Pl Gs} {s s':LS}
theorem FrI.sub (h:FrI w0 w base p m v n bk text inc res s w'):∀i,Jr p s.m s.A bk i->TS p s.m i:=λi hi=>by
 rcases hi with hi | hi | hi
 ·exact .inl hi
 ·exact .inr (by rw[h.tt];exact .inr (.inl hi))
 ·exact .inr (by rw[h.tt];exact .inr (.inr hi))
theorem FrI.kp (h:FrI w0 w base p m v n bk text inc res s w')(hm:Mod (Jr p s.m s.A bk) w' KT)(tt:s'.m.T=λi=>m.T i∨Qk s'.A i∨i=bk)(hA:Moved w' s.A s'.A)(hO:Moved w' s.m.OA s'.m.OA)(hB:Moved w' s.m.BA s'.m.BA){x:DV}{o:BF}(hx:DgO w' (TS p s.m) p.nm.length x o):DgO KT (TS p s'.m) p.nm.length x o:=
 hx.step (hm.mono (λi hi=>.inl (h.sub i hi))) (λi hi=>by
  rcases hi with hi | hi
  ·rcases RS.moved (p:=p) hO hB i hi with h1 | h1
   ·exact .inl (.inl h1)
   ·exact .inr h1
  ·rw[tt] at hi;rcases hi with hi | hi | hi
   ·exact .inl (.inr (by rw[h.tt];exact .inl hi))
   ·rcases hA.rows i hi with h1 | h1
    ·exact .inl (.inr (by rw[h.tt];exact .inr (.inl h1)))
    ·exact .inr h1
   ·exact .inl (.inr (by rw[h.tt];exact .inr (.inr hi))))
theorem FrI.mw' (h:FrI w0 w base p m v n bk text inc res s w')(gt:w.heap.size<=bk)(hm:Mod (Jr p s.m s.A bk) w' KT):Mod (RS p m) w KT:=
 h.mw.trans hm (λi hi=>by
  rcases hi with hi | hi | hi
  ·exact RS.moved (p:=p) h.ma h.mb i hi
  ·exact .inr (h.nw i hi)
  ·exact .inr (by omega))
theorem FrI.go (h:FrI w0 w base p m v n bk text inc res s w')(gt:w.heap.size<=bk)(hm:Mod (Jr p s.m s.A bk) w' KT)(rr:Rr w0 KT base p s'.m ⟨v.d+s'.z.length,n,s'.ln,n::v.rd,s'.g⟩)(tt:s'.m.T=λi=>m.T i∨Qk s'.A i∨i=bk)(hA:Moved w' s.A s'.A)(hO:Moved w' s.m.OA s'.m.OA)(hB:Moved w' s.m.BA s'.m.BA)
  (kb:Blk KT bk 32 s'.k.cells) (kd:DgO KT (TS p s'.m) p.nm.length s'.k s'.o) (ow:Own KT base WQ 6 s'.A s'.z.length s'.c (V7 s'.z)) (zx:∀z∈s'.z,DgO KT (TS p s'.m) p.nm.length z.x z.s.ou) (zy:∀z∈s'.z,DgO KT (TS p s'.m) p.nm.length z.y z.s.re)
  {l:List Nat} (Ks:s.ls=l::s'.ls) (bA:s'.at_=s.at_+l.length+1) (rs:ZX p.nm n v.d inc s'.ls s'.ln s'.at_ s'.o (s'.z.reverse.map (·.s)) s'.g=res) (dl:v.d+s'.z.length<=64) (gw:s'.ln=s.ln+1):FrI w0 w base p m v n bk text inc res s' KT:=by
 have cr:=h.dr;have KV:=h.al;have uy:=h.lb;have yp:=h.li;rw[Ks,V3] at cr KV;rw[Ks] at uy yp;have hz:=h.mw.size;refine⟨rr,tt,kb,kd,ow,zx,zy,?_,?_,λt ht=>yp t (by simp[ht]),rs,h.mw' gt hm,h.ma.trans hO hz,h.mb.trans hB hz,λi hi=>?_,dl,?_⟩
 ·rw[bA,show s.at_+l.length+1=s.at_+(l.length+1) by omega,<-lP,cr,<-lP,List.drop_left' rfl]<;>rfl
 ·rw[bA];simp only[Qq,Q6] at KV;omega
 ·rcases hA.rows i hi with h1 | h1
  ·exact h.nw i h1
  ·omega
 ·rw[gw];simp only[Q6] at uy;omega
theorem FrI.line (h:FrI w0 w base p m v n bk text inc res s w')(ht:text.length<=1048576){l:List Nat}{ls:List (List Nat)}(Ks:s.ls=l::ls):10∉l/\s.at_+l.length+1<=text.length/\text.drop s.at_=l++10::Qp ls/\(text.drop s.at_).take l.length=l/\(text.drop s.at_).take (l.length+1)=l++ [10]:=by
 have cr:=h.dr;have KV:=h.al;have yp:=h.li;have _:=ht;rw[Ks,V3] at cr KV;rw[Ks] at yp;simp only[Qq,Q6] at KV;refine⟨yp l (by simp),by omega,cr,by rw[cr];exact List.take_left' rfl,?_⟩;rw[cr,show l++10::Qp ls=(l++ [10])++Qp ls by simp];exact List.take_left' (by simp)
theorem Rr.putq (h:Rr w0 w base p m v){v':RV}(hm:Mod (λi=>i=p.r∨i=p.q) w w')(hB:Blk w' p.r 157 (kH p m v'))(h1:v'.g.tx=v.g.tx)(h2:v'.g.sg=v.g.sg)(h4:v'.g.fr=false->v'.g.sg≠ []∨v'.rd=[])
  (hq:∃mp,MapAt aV w' p.q mp/\(mp.map (·.1)).Nodup/\∀n:Nat,Xz (n:Int) mp=if n∈v'.rd then some (.bool true)else none):Rr w0 w' base p m v':=by
 have hE:=hm.ext h.e0 (λi hi=>by rcases hi with rfl | rfl;exact h.lor;exact h.loq);have Ib:=h.rb;have hb2:=h.qb;refine⟨hE,h.lor,h.loq,h.rb,h.qb,h.ne,Zc h.top hm.size,h.pa,hB,?_,?_,by rw[h2];exact h.len,λj s x hs hx=>?_,hq,by rw[h1];exact h.tl,by rw[h2];exact h.sl,by rw[h1];exact h.b8,h4,λi hi=>VT (h.tt i hi) hm.size⟩
 ·rw[h1];exact h.txt.mod hm (λi hi e=>by have:=(h.txt.rows i hi).1;rcases e with rfl | rfl<;>omega)
 ·rw[h2];exact h.out.mod hm (λi hi e=>by have:=(h.out.rows i hi).1;rcases e with rfl | rfl<;>omega)
 ·rw[h2] at hs;exact(h.dgs j s x hs hx).keep hm (λi hi=>.inl (.inl (hi.elim .inl (λe=>.inr (.inl e)))))
end
end
section
def mF (p:RP)(f n:Nat)(rd:List Nat):mE:=λr ln d k g=>match cI (Jd (p.fs.map (·.1))) (n::rd) r with
 | .error e=>.error ⟨e,n,ln⟩
 | .ok m=>if d=64 then .error ⟨2,n,ln⟩else WN p.nm p.fs f (n::rd) (d+1) m k g
def gQc (w0:World)(base:Nat)(p:RP)(f:Nat):Prop:=∀(m:RM)(v:RV)(n:Nat)(k:DV)(o:BF)(w:World),Rr w0 w base p m v->DgO w (TS p m) p.nm.length k o->n<p.fs.length->n∉v.rd->v.d<=64->65<=f+v.d->
 FnP Tryz.prog 92 [.pointer (some ⟨p.r,0,none⟩),.int .i64 n,Xk k.A k.n k.c k.r] w (λ_ w'=>∃g',WN p.nm p.fs f v.rd v.d n o v.g= .ok g'/\FI w0 w base p m {v with g:=g'} w') (λch w'=>∃q,WN p.nm p.fs f v.rd v.d n o v.g= .error q/\ch=fY q.e q.f q.l/\Mod (RS p m) w w')
set_option maxRecDepth 2000 in
theorem Rt (w0:World)(base:Nat)(p:RP)(hP:RPok w0 p)(fa:w0.heap.size<=base):∀f,gQc w0 base p f
 | 0=>λm v n k o w h hk hn hr hd hf=>Xn hf (by omega)
 | f+1=>λm v n k o w h hk hn hr hd hf=>by
  have ih:=Rt w0 base p hP fa f;have hx:p.fs[n]? =some p.fs[n]:=Xp hn;have yq:=hP.flb _ (M1 hn);have lQW:WN p.nm p.fs (f+1) v.rd v.d n o v.g=ZX p.nm n v.d (mF p f n v.rd) (QR (p.fs[n].2)) 0 0 o [] {v.g with fr:=true}:=by
   rw[WN,hx]<;>rfl
  generalize aJ:WN p.nm p.fs (f+1) v.rd v.d n o v.g=res at*;generalize Du:p.fs[n].2=text at*;have dV:∀x∈text,x<256:=by rw[<-Du];exact yq.t8
  have Wc:text.length<=1048576:=by rw[<-Du];exact yq.tl
  have L8:Qp (QR text)=text:=V4 (by rw[<-Du];exact yq.ok);have ct:=hP.fls.2;refine aR (c:={c92 with cuts:=[]}) Qa Tryz.func92 rfl rfl rfl ?_;refine new (λw1 Qe Q4 Qh=>?_)
  let m1:RM:={m with T:=λi=>m.T i∨Qk (none:Option Addr) i∨i=w.heap.size}
  have yb:=h.tt;have h1:Rr w0 w1 base p m1 v:=h.modT (U:=λ_=>False) (Mod.of_ext _ Qe) (λi hi=>hi.elim) (λi hi=>hi.elim) (λi hi=>hi.elim) (λi hi=>by
    rcases hi with hi | hi | hi
    ·exact .inl hi
    ·obtain⟨_,e,_⟩:=hi;cases e
    ·exact .inr (by omega)) (λi hi=>by
    rcases hi with hi | hi | hi
    ·have:=yb i hi;omega
    ·obtain⟨_,e,_⟩:=hi;cases e
    ·omega)
  refine XK Qa (Ext w1) 10 [(true,0),(true,1),(true,2),(true,3),(true,4),(true,5),(true,6),(true,7),(true,8),(true,9)] (by kernel_rfl) (Ext.drew w1) ?_;refine QK (v:=.int .i64 v.fl) (λw' Qb=>by rw[(h1.blk.ext Qb).cell];rfl) ?_;refine QK (v:=.int .i64 v.ln) (λw' Qb=>by rw[(h1.blk.ext Qb).cell];rfl) ?_;have BB:=Ext.drew w1;have h2:=h1.ext BB;have Qx:=Qh.ext BB;generalize w1.drew=w2 at*;obtain⟨mp,uv,hnd,ru⟩:=h2.rdm;refine Qo h2.blk rfl ?_;refine j7 (kv:=aV) (a:=(n:Int)) Qa rfl rfl rfl rfl rfl (KeyV.int .i64) rfl rfl rfl uv (λw3 Z7 JC XC=>?_);have Z1:Mod (·=p.q) w2 w3:=nQQ Z7 rfl;have kQs:((Ze (n:Int) (Value.bool true) mp).map (·.1)).Nodup:=(P4 _ _ _ hnd).1;have kQt:∀j:Nat,Xz (j:Int) (Ze (n:Int) (Value.bool true) mp)=if j∈n::v.rd then some (.bool true)else none:=λj=>by
   rw[aS];by_cases hj:j=n
   ·subst hj;simp
   ·rw[if_neg (λe=>hj (by omega)),ru j];simp[hj]
  have oE:=h2.blk.mod Z1 h2.ne;refine XP oE (show 9<11 by decide) (λw4 X5 Q7=>?_);refine XP Q7 (show 10<11 by decide) (λw5 XS QG=>?_);refine XP QG (show 8<11 by decide) (λw6 K2 Q9=>?_);have UE:Mod (·=p.r) w3 w6:=(X5.trans XS (λi hi=>.inl hi)).trans K2 (λi hi=>.inl hi);have BC:Mod (λi=>i=p.r∨i=p.q) w2 w6:=(Z1.mono (S':=λi=>i=p.r∨i=p.q) (λi hi=>.inl (.inr hi))).trans UE (λi hi=>.inl (.inl hi));have h6:Rr w0 w6 base p m1 ⟨v.d,n,0,n::v.rd,{v.g with fr:=true}⟩:=h2.putq BC Q9 rfl rfl (λe=>by cases e) ⟨_,XC.mod UE (λe=>h2.ne e.symm),kQs,kQt⟩;have gt:¬(w.heap.size=p.r∨w.heap.size=p.q):=λe=>by have:=h.rb;have:=h.qb;have:=h.top;rcases e with e | e<;>omega
  have lQX:=Qx.mod BC gt;have XR:Mod (RS p m) w w6:=((Mod.of_ext (RS p m) Qe).trans (Mod.of_ext (RS p m) BB) (λi hi=>.inl hi)).trans (BC.mono (S':=RS p m) (λi hi=>.inl (hi.elim .inl (λe=>.inr (.inl e))))) (λi hi=>.inl hi);refine Qo Q9 rfl ?_;refine Zv FH (hP.fls.ext h6.e0) rfl (by omega) (λpp x Yk hc=>?_);obtain rfl:p.fs[n]=x:=Option.some.inj (hx.symm.trans Yk);refine load (hc 1 _ rfl) ?_;rw[Du];have Bw:DgO w1 (TS p m1) p.nm.length k o:=hk.step (Mod.of_ext _ Qe) (λi hi=>by
   rcases hi with hi | hi | hi | hi
   ·exact .inl (.inl hi)
   ·exact .inl (.inr hi)
   ·obtain⟨_,e,_⟩:=hi;cases e
   ·exact .inr (by omega))
  have Ic:DgO w6 (TS p m1) p.nm.length k o:=(Bw.ext BB).keep BC (λi hi=>.inl (.inl (hi.elim .inl (λe=>.inr (.inl e)))));have co:(QR text).length<=text.length:=by have:=sS (QR text);rw[L8] at this;exact this
  refine loop Qa [8,10] (λs:LS=>[.slice s.A s.z.length s.c,.int .i64 s.at_]) (λs w'=>FrI w0 w base p m v n w.heap.size text (mF p f n v.rd) res s w') (λs _=>s.ls.length) ⟨k,o,[],m1,{v.g with fr:=true},0,0,QR text,none,0⟩ rfl
   ⟨h6,rfl,lQX,Ic,Own.nil _ _ _ _,(λz hz=>by cases hz),(λz hz=>by cases hz),(by rw[L8];rfl),(by rw[L8];simp),kC text,lQW.symm,XR,Moved.refl _ _,Moved.refl _ _,(λi hi=>by obtain⟨_,e,_⟩:=hi;cases e),hd,(by show 0+(QR text).length<=_;omega)⟩ ?_
  rintro s w7 hI;have h7:=hI.rr;have KV:=hI.al;refine Qz (λc1=>?_) (λc1=>?_)
  rotate_left
  ·have Ks:s.ls=[]:=by
    have hs:=Xe text;have:=sS s.ls;exact Wg (by omega)
   have h7z:=hI.rr;have QJ:=hI.rs;rw[Ks] at QJ;refine Qz (λhz=>?_) (λhz=>?_)
   ·obtain⟨z',x,K7⟩:∃z' x,s.z=z'++ [x]:=by
     rcases uO s.z with h0 | ⟨z',x,h0⟩
     ·rw[h0] at hz;exact Xn hz (by decide)
     ·exact⟨z',x,by rw[h0];simp⟩
    have rv:s.z.length=z'.length+1:=by rw[K7];simp
    have lJ:s.z.reverse.map (·.s)=x.s::z'.reverse.map (·.s):=by rw[K7];simp
    obtain⟨oa,Kf,_⟩:=hI.ow.sl.at_ (by omega:0<s.z.length);have Ia:Own w7 base WQ 6 (some oa) s.z.length s.c (V7 z'++x.cells):=by rw[<-Kf,<-mD,<-K7];exact hI.ow
    have Vy:=hI.dl;refine Qi ((z'.length:Nat):Int) (by omega) (by omega) ?_;rw[Kf];refine JS (j:=z'.length) (by omega) ?_;rw[show z'.length*6=(V7 z').length from (Aw z').symm];refine Rp Ia (by omega) (vW (i:=5) (u:=.int .i64 x.s.ln) rfl) ?_;refine XP h7.blk (show 10<11 by decide) (λw8 JB Xw=>?_);have h8:Rr w0 w8 base p s.m ⟨v.d+s.z.length,n,x.s.ln,n::v.rd,s.g⟩:=h7.put JB Xw rfl rfl rfl h7.nf;refine XO (aq 72 w8 h8) (λ_ _ hf=>hf.elim) ?_;rintro ch w9 ⟨rfl,Xt⟩;refine⟨⟨72,n,x.s.ln⟩,?_,rfl,hI.mw' (QB _) ((JB.mono (S':=Jr p s.m s.A w.heap.size) (λi hi=>.inl (.inl (.inl hi)))).trans (Mod.of_ext _ Xt) (λi hi=>.inl hi))⟩;rw[<-QJ,ZX.eq_def,lJ]
   ·have fd:s.z=[]:=Wg (by omega);obtain⟨mq,k1,k2,k3⟩:=h7.rdm;refine Qo h7.blk rfl ?_;refine fQw (kv:=aV) (a:=(n:Int)) Qa rfl rfl rfl rfl rfl (KeyV.int .i64) rfl rfl k1 (λw8 ZL Yw JB=>?_);refine XP (h7.blk.mod ZL h7.ne) (show 9<11 by decide) (λw9 eO JD=>?_);refine XP JD (show 10<11 by decide) (λQy Ju JM=>?_);refine XP JM (show 8<11 by decide) (λQH lm Z8=>?_);have UF:Mod (·=p.r) w8 QH:=(eO.trans Ju (λi hi=>.inl hi)).trans lm (λi hi=>.inl hi);have Id:Mod (λi=>i=p.r∨i=p.q) w7 QH:=(ZL.mono (S':=λi=>i=p.r∨i=p.q) (λi hi=>.inl (.inr hi))).trans UF (λi hi=>.inl (.inl hi));have Ie:v.d+s.z.length=v.d:=by rw[fd]<;>rfl
    rw[Ie] at Z8;have ZS:Rr w0 QH base p s.m ⟨v.d,v.fl,v.ln,v.rd,{s.g with fr:=true}⟩:=h7.putq Id Z8 rfl rfl (λe=>by cases e) ⟨_,JB.mod UF (λe=>h7.ne e.symm),(k2.sublist ((PY (n:Int) mq).map _)),λj=>by
     rw[P0 _ _ _ k2];by_cases hj:j=n
     ·subst hj;rw[Qf rfl,if_neg hr]
     ·rw[if_neg (λe=>hj (by omega)),k3 j];simp[hj]⟩
    have XU:Rr w0 QH base p {s.m with T:=m.T} ⟨v.d,v.fl,v.ln,v.rd,{s.g with fr:=true}⟩:=ZS.modT (U:=λ_=>False) (Mod.refl _ _) (λi hi=>hi.elim) (λi hi=>hi.elim) (λi hi=>hi.elim) (λi hi=>.inl (by rw[hI.tt];exact .inl hi)) (λi hi=>by
     have:=yb i hi;have:=hI.mw.size;have:=Id.size;omega)
    refine⟨{s.g with fr:=true},?_,{s.m with T:=m.T},rfl,XU,hI.mw' (QB _) (Id.mono (λi hi=>.inl (.inl (hi.elim .inl (λe=>.inr (.inl e)))))),hI.ma,hI.mb⟩;rw[<-QJ,ZX.eq_def,fd]<;>rfl
  ·cases Ks:s.ls with
   | nil=>
    have hs:=Xe text;rw[Ks] at KV;have:(Qp ([]:List (List Nat))).length=0:=rfl;omega
   | cons l ls=>
    obtain⟨l1,l2,l3,l4,l5⟩:=hI.line Wc Ks;have XJ:=Xe text;have gi:∀x∈l,x<256:=λx hx=>dV x (aM (by rw[l3];simp[hx]:x∈text.drop s.at_))
    have uy:=hI.lb;refine XH (v':=.string (Qd (text.drop s.at_))) ⟨by omega,by rw[XJ];omega,by rw[XJ];omega⟩ ?_ ?_
    ·rw[KY,XJ];simp only[gE];rw[Jc (QB _)]
    refine call (Fw (text.drop s.at_) 10 w7 (λx hx=>dV x (aM hx)) (by decide)) ?_;rintro _ _ ⟨rfl,rfl⟩;have Kr:gP 10 (text.drop s.at_)=(l.length:Nat):=by
     unfold gP;rw[Qf (by rw[l3];simp),l3,List.takeWhile_append_of_pos (λx hx=>by simpa using λe=>l1 (by rw[<-e];exact hx))];simp
    rw[Kr];refine Qi ((s.at_+l.length:Nat):Int) (by show((s.at_:Nat):Int)+_=_;omega) (by omega) ?_;refine Qi ((s.at_+l.length+1:Nat):Int) (by omega) (by omega) ?_;refine Qi ((s.at_+l.length:Nat):Int) (by omega) (by omega) ?_;refine XH (v':=.string (Qd l)) ⟨by omega,by omega,by rw[XJ];omega⟩ ?_ ?_
    ·rw[KY];simp only[gE];rw[fE,show s.at_+l.length-s.at_=l.length by omega,l4]
    refine Qo h7.blk rfl ?_;refine Qi ((s.ln+1:Nat):Int) (by show((s.ln:Nat):Int)+1=_;omega) (by omega) ?_;refine XP h7.blk (show 10<11 by decide) (λw8 JB Xw=>?_);have h8:Rr w0 w8 base p s.m ⟨v.d+s.z.length,n,s.ln+1,n::v.rd,s.g⟩:=h7.put JB Xw rfl rfl rfl h7.nf;refine call (gQb l w8 gi (by omega)) ?_;rintro _ w9 ⟨rfl,Xt⟩;have h9:=h8.ext Xt;have jK:w.heap.size<=w.heap.size:=QB _;have fe:Mod (Jr p s.m s.A w.heap.size) w7 w9:=(JB.mono (S':=Jr p s.m s.A w.heap.size) (λi hi=>.inl (.inl (.inl hi)))).trans (Mod.of_ext _ Xt) (λi hi=>.inl hi);have npr:¬w.heap.size=p.r:=λe=>gt (.inl e)
    have cd:Blk w9 w.heap.size 32 s.k.cells:=(hI.kb.mod JB npr).ext Xt;have qr:∀{x:DV} {o:BF},DgO w7 (TS p s.m) p.nm.length x o->DgO w9 (TS p s.m) p.nm.length x o:=λhx=>hI.kp fe hI.tt (Moved.refl _ _) (Moved.refl _ _) (Moved.refl _ _) hx
    have d5:=qr hI.kd;have nopr:∀i,Qk s.A i->¬i=p.r:=λi hi e=>by have:=(hI.ow.rows i hi).1;have:=h7.rb;omega
    have Ww:Own w9 base WQ 6 s.A s.z.length s.c (V7 s.z):=(hI.ow.mod JB nopr).ext Xt;have QJ:=hI.rs;rw[Ks] at QJ;have oy:(((Qd (JK l)).size:Int)<(Qd l).size)↔32∈l:=by rw[Xe,Xe,<-P8];omega
    have Vy:=hI.dl;have mQJ:l.length<=1048576:=by omega
    have mQK:=fe.size;have mQL:=hI.mw.size;have Xg:∀(q:Pl) (ch:List PanicEntry) (w':World),res= .error q->ch=fY q.e q.f q.l->Mod (Jr p s.m s.A w.heap.size) w9 w'->∃q,res= .error q/\ch=fY q.e q.f q.l/\Mod (RS p m) w w':=λq ch w' h1 h2 h3=>⟨q,h1,h2,hI.mw' jK (fe.trans h3 (λi hi=>.inl hi))⟩
    have L9:∀i,Qk s.A i->w0.heap.size<=i:=λi hi=>by have:=(Ww.rows i hi).1;omega
    have oF:∀i,Qk s.A i->¬RS p s.m i:=λi hi hr=>by
     have hb:=(Ww.rows i hi).1;have:=h9.rb;have:=h9.qb;rcases hr with rfl | rfl | hr | hr
     ·omega
     ·omega
     ·exact Ww.apart h9.out (by decide) hi hr
     ·exact Ww.apart h9.txt (by decide) hi hr
    have yr:∀i,Qk s.A i->s.m.T i:=λi hi=>by rw[hI.tt];exact .inr (.inl hi)
    have nbk:¬RS p s.m w.heap.size:=λhr=>by
     have:=h.rb;have:=h.qb;have:=h.top;rcases hr with e | e | hr | hr
     ·omega
     ·omega
     ·exact cd.apart h9.out (by decide) hr
     ·exact cd.apart h9.txt (by decide) hr
    have hhA:∀i,Qk s.A i->i<w9.heap.size:=λi hi=>(Ww.rows i hi).2
    have nbA:¬Qk s.A w.heap.size:=cd.apart Ww (by decide);have nprA:¬Qk s.A p.r:=λhi=>nopr _ hi rfl
    by_cases P1:JK l=mB/\32∈l
    ·have XX:=fQC P1.1 P1.2;rw[Qf P1.2];have d4:∀x∈Ve l,x<256:=λx hx=>gi x (aM hx)
     have jJ:(Ve l).length<=1000000000000:=by unfold Ve;rw[Wj];omega
     refine Zh (by rw[P1.1];rfl) ?_;refine Zh (oy.2 P1.2) ?_;refine XO (Rj (Ve l) w9 hP h9 d4 jJ) ?_ ?_
     rotate_left
     ·rintro ch Qy ⟨e,he,rfl,XT⟩;refine Xg ⟨e,n,((s.ln+1:Nat):Int)⟩ _ Qy ?_ rfl (Mod.of_ext _ XT);rw[<-QJ,As XX,he]
     rintro _ Qy ⟨d,he,t,rfl,XT,kQu,gm,Ds⟩;refine new (λQH Z9 tL Z8=>?_);refine Qv Z8 rfl (sc rfl) (λXa qp _ Vh=>?_);have tP:Ext Qy Xa:=X9 Z9 Z8 qp;have lq:=XT.trans tP;have XU:=h9.ext lq;have mQM:=lq.size;have kQv:=XT.size;refine XO (Rl Xa XU Vy) ?_ ?_
     rotate_left
     ·rintro ch X6 ⟨ip,rfl,XI⟩;refine Xg ⟨2,n,((s.ln+1:Nat):Int)⟩ _ X6 ?_ rfl (Mod.of_ext _ (lq.trans XI));have ip:v.d+(s.z.reverse.map (·.s)).length=64:=by simpa using ip
      rw[<-QJ,As XX,he];simp only[Qf ip]
     rintro _ X6 ⟨qt,KJ,ce⟩;have qt:¬v.d+s.z.length=64:=qt;have UG:=(cd.ext lq).mod ce npr;have n10r:¬Qy.heap.size=p.r:=λe=>by have:=h9.rb;have:=h9.top;omega
     have kQw:=Vh.mod ce n10r;refine Qt UG rfl ?_;refine Qt kQw rfl ?_;have If:=(d5.ext lq).keep ce (λi hi=>.inl (.inl (.inl hi)));have kQx:SB X6 t.A t.n t.c t.nd:=SB.mod (kQu.ext tP) ce (λi hi e=>by have:=Ds i hi;have:=h9.rb;have:=h9.top;omega);refine call (Rk p.nm.length hP.nmk s.k t s.o d X6 If.sb If.st kQx gm) ?_;rintro _ Zk ⟨a,b,rfl,JN,kQy,has,xX,kQz,yo,oE⟩;refine new (λKy Jm mQN tQ=>?_);refine new (λaD Yf kQA Y9=>?_);have tR:=Jm.trans Yf;refine Qv (tQ.ext Yf) rfl (sc rfl) (λVv Ig _ nz=>?_);have qu:Mod (·=Zk.heap.size) aD Vv:=nQQ Ig rfl;have nA:Ext Zk Vv:=qu.ext tR (λi hi=>by omega);refine Qv (Y9.mod qu (by show¬Ky.heap.size=Zk.heap.size;omega)) rfl (sc rfl) (λVi kQB _ qq=>?_);have xf:Mod (·=Ky.heap.size) Vv Vi:=nQQ kQB rfl;have UH:Ext Zk Vi:=xf.ext nA (λi hi=>by omega);have kQC:=nz.mod xf (by show¬Zk.heap.size=Ky.heap.size;omega);have nC:=JN.trans UH;have aE:=KJ.ext nC;have BD:=UG.ext nC;have mQO:=If.ext nC;have kQD:=(Ww.ext lq).mod ce nopr;have kQE:=kQD.ext nC;have hd:=Ext.drew Vi;have mQP:=nC.size;have mQQ:=ce.size;have mQR:=JN.size;have mQS:=tR.size;have n15A:¬Qk s.A Ky.heap.size:=λhi=>by have:=hhA _ hi;omega
     refine XK Qa (Mod (Qk s.A) Vi) 11 [(true,0),(true,1),(true,2),(true,3),(true,4),(true,5),(true,6),(true,7),(false,8),(false,9),(true,10)] (by kernel_rfl) (Mod.of_ext _ hd) ?_;refine Xs (vs:=s.k.cells) rfl (λw' Qb j u hj=>by rw[(BD.mod Qb nbA).cell];exact hj) ?_;refine Xs (vs:=b.cells) rfl (λw' Qb j u hj=>by rw[(qq.mod Qb n15A).cell];exact hj) ?_;refine QK (v:=.int .i64 ((s.ln+1:Nat):Int)) (λw' Qb=>by rw[(aE.blk.mod Qb nprA).cell];rfl) ?_
     let zn:SeV:=⟨⟨s.o,KG s.o d,false,s.ln+1⟩,s.k,b⟩
     refine Xh Qa [zn.cells] rfl rfl rfl rfl rfl ⟨rfl,rfl,⟨⟩⟩ rfl (λcs hh=>by simp only[QN] at hh;subst hh;rfl) rfl (by decide) (by decide) ?_;intro cg lr UI xg;have qv:=hd.trans lr;refine⟨Mod.of_ext _ qv,?_⟩;have kQF:Sl cg 6 (some ⟨Vi.drew.heap.size,0,none⟩) 1 1 zn.cells:=Sl.own (sz:=6) (n:=1) xg (QB _) (by decide) (by simp[SeV.cells]);refine Z4 Qa rfl rfl rfl rfl rfl (by decide) rfl rfl ⟨_,rfl⟩ rfl rfl (kQE.ext qv) kQF (fQ8 zn) (by unfold maxLen;omega) (by show(s.z.length+1)*80<=_;omega) (aE.ext qv).top ?_;intro A' c' YO BG BH BI;have qw:Mod (Qk s.A) Vi YO:=(Mod.of_ext (Qk s.A) qv).trans BG (λi hi=>.inl hi);refine⟨qw,?_⟩;have n14A:¬Qk s.A Zk.heap.size:=λhi=>by have:=hhA _ hi;omega
     refine Qt (kQC.mod qw n14A) rfl ?_;refine Qv (BD.mod qw nbA) rfl (sc rfl) (λiq xi _ tS=>?_);have jx:Mod (·=w.heap.size) YO iq:=nQQ xi rfl;have kQG:Mod (Jr p s.m s.A w.heap.size) Vi iq:=(qw.mono (S':=Jr p s.m s.A w.heap.size) (λi hi=>.inl (.inr (.inl hi)))).trans jx (λi hi=>.inl (.inr (.inr hi)));have UJ:=qw.size;have d6:Rr w0 YO base p {s.m with T:=λi=>m.T i∨Qk A' i∨i=w.heap.size} ⟨v.d+s.z.length+1,n,s.ln+1,n::v.rd,s.g⟩:=aE.modT qw yr oF L9 (λi hi=>by
       rcases hi with hi | hi | hi
       ·exact .inl (by rw[hI.tt];exact .inl hi)
       ·rcases BI.rows i hi with h1 | h1
        ·exact .inl (by rw[hI.tt];exact .inr (.inl h1))
        ·exact .inr (by have:=qv.size;omega)
       ·exact .inl (by rw[hI.tt];exact .inr (.inr hi))) (λi hi=>by
       rcases hi with hi | hi | hi
       ·have:=yb i hi;omega
       ·exact(BH.rows i hi).2
       ·have:=BD.lt;omega)
     have ff:Rr w0 iq base p {s.m with T:=λi=>m.T i∨Qk A' i∨i=w.heap.size} ⟨v.d+s.z.length+1,n,s.ln+1,n::v.rd,s.g⟩:=d6.modT jx (λi hi=>.inr (.inr hi)) (λi hi=>by subst hi;exact nbk) (λi hi=>by have:=h.e0.size;omega) (λi hi=>.inl hi) (λi hi=>VT (d6.tt i hi) jx.size);refine XP ff.blk (show 8<11 by decide) (λbr BJ qx=>?_);have jy:Rr w0 br base p {s.m with T:=λi=>m.T i∨Qk A' i∨i=w.heap.size} ⟨v.d+s.z.length+1,n,s.ln+1,n::v.rd,{s.g with fr:=true}⟩:=ff.put BJ qx rfl rfl rfl (λe=>by cases e);have aQK:Mod (Jr p s.m s.A w.heap.size) w9 Vi:=((Mod.of_ext _ lq).trans (ce.mono (S':=Jr p s.m s.A w.heap.size) (λi hi=>.inl (.inl (.inl hi)))) (λi hi=>.inl hi)).trans (Mod.of_ext _ nC) (λi hi=>.inl hi);have aQL:Mod (Jr p s.m s.A w.heap.size) Vi br:=kQG.trans BJ (λi hi=>.inl (.inl (.inl hi)));have aQM:Mod (Jr p s.m s.A w.heap.size) w7 br:=(fe.trans aQK (λi hi=>.inl hi)).trans aQL (λi hi=>.inl hi);have aQN:Moved w7 s.A A':=BI.back (by have:=fe.size;have:=aQK.size;have:=qv.size;omega);have nQB:(λi=>m.T i∨Qk A' i∨i=w.heap.size)=(λi=>m.T i∨Qk A' i∨i=w.heap.size):=rfl
     let s':LS:=⟨a,ZW s.o d,s.z++ [zn],{s.m with T:=λi=>m.T i∨Qk A' i∨i=w.heap.size},{s.g with fr:=true},s.ln+1,s.at_+l.length+1,ls,A',c'⟩
     have kp:∀{x:DV} {o:BF},DgO w7 (TS p s.m) p.nm.length x o->DgO br (TS p s'.m) p.nm.length x o:=λhx=>hI.kp (s':=s') aQM rfl aQN (Moved.refl _ _) (Moved.refl _ _) hx
     have yu:(s.z++ [zn]).length=s.z.length+1:=by simp
     have lQY:∀i,TS p s.m i->i<X6.heap.size:=λi hi=>by
      have:=h9.hiT i hi;omega
     have fresh:∀(x:DV) (ox:BF),(∀i,Qk x.A i->X6.heap.size<=i)->SB Zk x.A x.n x.c x.nd->Set1 p.nm.length x.nd x.r ox->DgO br (TS p s'.m) p.nm.length x ox:=λx ox hr hx hs=>by
      have e1:DgO Vi (TS p s.m) p.nm.length x ox:=⟨hx.ext UH,hs,λad e _ hh=>by have:=hr _ ⟨ad,e,rfl⟩;have:=lQY _ hh;omega⟩
      exact e1.step (aQL.mono (λi hi=>.inl (hI.sub i hi))) (λi hi=>by
       rcases hi with hi | hi
       ·exact .inl (.inl hi)
       ·rcases hi with hi | hi | hi
        ·exact .inl (.inr (by rw[hI.tt];exact .inl hi))
        ·rcases BI.rows i hi with h1 | h1
         ·exact .inl (.inr (by rw[hI.tt];exact .inr (.inl h1)))
         ·exact .inr (by have:=qv.size;omega)
        ·exact .inl (.inr (by rw[hI.tt];exact .inr (.inr hi))))
     refine⟨s',?_,?_,?_⟩
     ·show Has _ _;have e:(((s.z++ [zn]).length:Nat):Int)=((s.z.length+1:Nat):Int):=by rw[yu]
      simp only[s',yu];rfl
     ·refine hI.go (s':=s') jK aQM ?_ rfl aQN (Moved.refl _ _) (Moved.refl _ _) ?_ ?_ ?_ ?_ ?_ Ks rfl ?_ ?_ rfl
      ·show Rr w0 br base p _ ⟨v.d+(s.z++ [zn]).length,n,s.ln+1,n::v.rd,{s.g with fr:=true}⟩;rw[yu];exact jy
      ·exact tS.mod BJ npr
      ·exact fresh a _ xX kQy has
      ·show Own br base WQ 6 A' (s.z++ [zn]).length c' (V7 (s.z++ [zn]));rw[yu,mD];exact(BH.mod jx (λi hi e=>by subst e;exact(BD.mod qw nbA).apart BH (by decide) hi)).mod BJ (λi hi e=>by subst e;have:=(BH.rows _ hi).1;have:=h.rb;omega)
      ·intro z hz;simp only[s',XM,QN] at hz;rcases hz with hz | rfl
       ·exact kp (hI.zx z hz)
       ·exact kp hI.kd
      ·intro z hz;simp only[s',XM,QN] at hz;rcases hz with hz | rfl
       ·exact kp (hI.zy z hz)
       ·exact fresh b _ oE kQz yo
      ·have ip:¬v.d+(s.z.reverse.map (·.s)).length=64:=by simpa using qt
       rw[As XX,he] at QJ;simp only[if_neg ip] at QJ;rw[<-QJ];simp[s',zn]
      ·show v.d+(s.z++ [zn]).length<=64;rw[yu];omega
     ·show ls.length<(l::ls).length;simp
    have Zm:v.d+(s.z.reverse.map (·.s)).length=v.d+s.z.length:=by simp
    have d4:∀x∈Ve l,x<256:=λx hx=>gi x (aM hx)
    have jJ:(Ve l).length<=1000000000000:=by unfold Ve;rw[Wj];omega
    by_cases P2:JK l=pO/\32∈l
    ·have XX:=fQD P2.1 P2.2;rw[Qf P2.2];refine XD (by rw[P2.1];decide) ?_;refine Zh (by rw[P2.1];rfl) ?_;refine Zh (oy.2 P2.2) ?_;refine XO (fQX (Ve l) w9 hP h9 d4 jJ) ?_ ?_
     rotate_left
     ·rintro ch Qy ⟨e,he,rfl,XT⟩;refine Xg ⟨e,n,((s.ln+1:Nat):Int)⟩ _ Qy ?_ rfl (Mod.of_ext _ XT);rw[<-QJ,vX XX];have hi:mF p f n v.rd (Ve l) (s.ln+1) (v.d+(s.z.reverse.map (·.s)).length) s.o s.g= .error ⟨e,n,((s.ln+1:Nat):Int)⟩:=by
       unfold mF;rw[show cI (Jd (p.fs.map (·.1))) (n::v.rd) (Ve l)= .error e from he]
      rw[hi]
     rintro _ Qy ⟨n',he,rfl,XT⟩;have he:cI (Jd (p.fs.map (·.1))) (n::v.rd) (Ve l)= .ok n':=he;have XN:=h9.ext XT;refine XO (Rl Qy XN Vy) ?_ ?_
     rotate_left
     ·rintro ch QH ⟨ip,rfl,Z9⟩;refine Xg ⟨2,n,((s.ln+1:Nat):Int)⟩ _ QH ?_ rfl (Mod.of_ext _ (XT.trans Z9));have ip:v.d+(s.z.reverse.map (·.s)).length=64:=by simpa using ip
      rw[<-QJ,vX XX];have hi:mF p f n v.rd (Ve l) (s.ln+1) (v.d+(s.z.reverse.map (·.s)).length) s.o s.g= .error ⟨2,n,((s.ln+1:Nat):Int)⟩:=by
       unfold mF;rw[he];simp only[Qf ip]
      rw[hi]
     rintro _ QH ⟨qt,ZS,lm⟩;have qt:¬v.d+s.z.length=64:=qt;have ip:¬v.d+(s.z.reverse.map (·.s)).length=64:=by simpa using qt
     have UK:=(cd.ext XT).mod lm npr;refine Qt UK rfl ?_;obtain⟨ut,tn,yv⟩:=FM he;have Kq:n'<p.fs.length:=by have:=kA yv;simpa using this
     have kQH:=(d5.ext XT).keep lm (λi hi=>.inl (.inl (.inl hi)));have iJ:∀R,WN p.nm p.fs f (n::v.rd) (v.d+s.z.length+1) n' s.o s.g=R->mF p f n v.rd (Ve l) (s.ln+1) (v.d+(s.z.reverse.map (·.s)).length) s.o s.g=R:=λR hR=>by
      unfold mF;rw[he];simp only[if_neg ip];rw[Zm];exact hR
     have Ma:Mod (Jr p s.m s.A w.heap.size) w9 QH:=(Mod.of_ext _ XT).trans (lm.mono (S':=Jr p s.m s.A w.heap.size) (λi hi=>.inl (.inl (.inl hi)))) (λi hi=>.inl hi);refine XO (ih s.m ⟨v.d+s.z.length+1,n,s.ln+1,n::v.rd,s.g⟩ n' s.k s.o QH ZS kQH Kq ut (by show v.d+s.z.length+1<=64;omega) (by show 65<=f+(v.d+s.z.length+1);omega)) ?_ ?_
     rotate_left
     ·rintro ch Xa ⟨q,hq,rfl,Vw⟩;refine Xg q _ Xa ?_ rfl (Ma.trans Vw (λi hi=>.inl (.inl hi)));rw[<-QJ,vX XX,iJ _ hq]
     rintro _ Xa ⟨g',Vz,m',gy,XU,Vw,kQI,kQJ⟩;refine Qo XU.blk rfl ?_;refine Qi ((v.d+s.z.length:Nat):Int) (by show((v.d+s.z.length+1:Nat):Int)-1=_;omega) (by omega) ?_;refine XP XU.blk (show 4<11 by decide) (λX6 ce K5=>?_);have KJ:Rr w0 X6 base p m' ⟨v.d+s.z.length,n,s.ln+1,n::v.rd,g'⟩:=XU.put ce K5 rfl rfl rfl XU.nf;refine XP KJ.blk (show 8<11 by decide) (λZk BK J2=>?_);have Vx:Rr w0 Zk base p m' ⟨v.d+s.z.length,n,s.ln+1,n::v.rd,{g' with fr:=true}⟩:=KJ.put BK J2 rfl rfl rfl (λe=>by cases e);have Ih:Mod (·=p.r) Xa Zk:=ce.trans BK (λi hi=>.inl hi);have lQZ:Mod (Jr p s.m s.A w.heap.size) w9 Zk:=(Ma.trans Vw (λi hi=>.inl (.inl hi))).trans Ih (λi hi=>.inl (.inl (.inl hi)));have aQO:Mod (Jr p s.m s.A w.heap.size) w7 Zk:=fe.trans lQZ (λi hi=>.inl hi);have hzm:=Ma.size;have KI:Moved w7 s.m.OA m'.OA:=kQI.back (by omega);have d7:Moved w7 s.m.BA m'.BA:=kQJ.back (by omega)
     let s':LS:=⟨s.k,s.o,s.z,m',{g' with fr:=true},s.ln+1,s.at_+l.length+1,ls,s.A,s.c⟩
     have Wv:s'.m.T=λi=>m.T i∨Qk s'.A i∨i=w.heap.size:=by show m'.T=_;rw[gy,hI.tt]
     have kp:∀{x:DV} {o:BF},DgO w7 (TS p s.m) p.nm.length x o->DgO Zk (TS p s'.m) p.nm.length x o:=λhx=>hI.kp (s':=s') aQO Wv (Moved.refl _ _) KI d7 hx
     have kQK:Own Zk base WQ 6 s.A s.z.length s.c (V7 s.z):=((((Ww.ext XT).mod lm nopr).mod Vw oF).mod Ih nopr)
     have kQL:=(UK.mod Vw nbk).mod Ih npr;refine⟨s',rfl,?_,?_⟩
     ·refine hI.go (s':=s') jK aQO Vx Wv (Moved.refl _ _) KI d7 kQL (kp hI.kd) kQK (λz hz=>kp (hI.zx z hz)) (λz hz=>kp (hI.zy z hz)) Ks rfl ?_ Vy rfl;rw[vX XX,iJ _ Vz] at QJ;exact QJ
     ·show ls.length<(l::ls).length;simp
    by_cases P3:JK l=sU/\32∈l
    ·have XX:=fQE P3.1 P3.2;rw[Qf P3.2];refine XD (by rw[P3.1];decide) ?_;refine XD (by rw[P3.1];decide) ?_;refine Zh (by rw[P3.1];rfl) ?_;refine Zh (oy.2 P3.2) ?_;refine X3 (λhz=>?_) (λhz=>?_)
     ·have fd:s.z=[]:=Wg (by omega);refine XO (aq 72 w9 h9) (λ_ _ hf=>hf.elim) ?_;rintro ch Qy ⟨rfl,XT⟩;refine Xg ⟨72,n,((s.ln+1:Nat):Int)⟩ _ Qy ?_ rfl (Mod.of_ext _ XT);rw[<-QJ,At XX,fd]<;>rfl
     obtain⟨z',x,K7⟩:∃z' x,s.z=z'++ [x]:=by
      rcases uO s.z with h0 | ⟨z',x,h0⟩
      ·exact Xn (by rw[h0];rfl) hz
      ·exact⟨z',x,by rw[h0];simp⟩
     have rv:s.z.length=z'.length+1:=by rw[K7];simp
     have lJ:s.z.reverse.map (·.s)=x.s::z'.reverse.map (·.s):=by rw[K7];simp
     obtain⟨oa,Kf,_⟩:=Ww.sl.at_ (by omega:0<s.z.length);have oG:Qk (some oa)=Qk s.A:=by rw[Kf]
     have xj:Own w9 base WQ 6 (some oa) s.z.length s.c (V7 z'++x.cells):=by rw[<-Kf,<-mD,<-K7];exact Ww
     have fw:x∈s.z:=by rw[K7];simp
     have Yk:=qr (hI.zx x fw);have Xu:=qr (hI.zy x fw);have JE:=Aw z';have Dv:∀i,TS p s.m i->i<w9.heap.size:=h9.hiT
     refine Qi ((z'.length:Nat):Int) (by omega) (by omega) ?_;rw[Kf];refine JS (j:=z'.length) (by omega) ?_;rw[show z'.length*6=(V7 z').length from JE.symm];refine XD (λe=>by have e2:l=ZK:=J8 gi (by decide) e;have:=P3.2;rw[e2] at this;exact Xn this (by decide)) ?_;have yw:decide (Qd l=(⟨#[35,101,108,115,101]⟩:ByteArray))=false:=Zq (λe=>by have e2:l=V0:=J8 gi (by decide) e;have:=P3.2;rw[e2] at this;exact Xn this (by decide));refine XO (Rs s.m ⟨v.d+s.z.length,n,s.ln+1,n::v.rd,s.g⟩ oa s.z.length s.c (V7 z') x (decide (Qd l=(⟨#[35,101,108,115,101]⟩:ByteArray))) (Ve l) w9 hP h9 xj (by rw[oG];exact yr) (by rw[JE];omega) Xu d4 jJ fa) ?_ ?_
     rotate_left
     ·rintro ch Qy ⟨e,he,rfl,Ju⟩;refine Xg ⟨e,n,((s.ln+1:Nat):Int)⟩ _ Qy ?_ rfl (Ju.mono (λi hi=>.inl (.inr (.inl (by rw[<-oG];exact hi)))));rw[yw] at he;rw[<-QJ,At XX,lJ];rcases he with⟨h1,rfl⟩ | ⟨h1,_,h3⟩
      ·simp only[h1,if_true]
      ·simp only[h1,h3];rfl
     rintro u Qy ⟨dm,Ju,aJ⟩;rw[yw,if_neg (by decide)] at aJ;obtain⟨o',b,d',fj,rfl,qy,yo,oE,nD,iI,cr,Ii⟩:=aJ
     let zn:SeV:=⟨{x.s with re:=KG x.s.re o'},x.x,d'⟩
     let nk:DV:=b
     let no:BF:=ZW x.s.re o'
     rw[oG] at Ju;have Ij:=cd.mod Ju nbA;have XN:Rr w0 Qy base p s.m ⟨v.d+s.z.length,n,s.ln+1,n::v.rd,s.g⟩:=h9.modT Ju yr oF L9 (λi hi=>.inl hi) (λi hi=>VT (h9.tt i hi) Ju.size);refine Qv Ij rfl (sc rfl) (λQH xk _ Z8=>?_);have Z2:Mod (·=w.heap.size) Qy QH:=nQQ xk rfl;have ZS:Rr w0 QH base p s.m ⟨v.d+s.z.length,n,s.ln+1,n::v.rd,s.g⟩:=XN.modT Z2 (λi hi=>by rw[hI.tt];exact .inr (.inr hi)) (λi hi=>by subst hi;exact nbk) (λi hi=>by have:=h.e0.size;omega) (λi hi=>.inl hi) (λi hi=>VT (XN.tt i hi) Z2.size);refine XP ZS.blk (show 8<11 by decide) (λXa Vw Vh=>?_);have XU:Rr w0 Xa base p s.m ⟨v.d+s.z.length,n,s.ln+1,n::v.rd,{s.g with fr:=true}⟩:=ZS.put Vw Vh rfl rfl rfl (λe=>by cases e);have yx:Mod (Jr p s.m s.A w.heap.size) Qy Xa:=(Z2.mono (S':=Jr p s.m s.A w.heap.size) (λi hi=>.inl (.inr (.inr hi)))).trans Vw (λi hi=>.inl (.inl (.inl hi)));have yy:Mod (Jr p s.m s.A w.heap.size) w9 Xa:=(Ju.mono (S':=Jr p s.m s.A w.heap.size) (λi hi=>.inl (.inr (.inl hi)))).trans yx (λi hi=>.inl hi);have oH:Mod (Jr p s.m s.A w.heap.size) w7 Xa:=fe.trans yy (λi hi=>.inl hi);have lK:(z'++ [zn]).length=s.z.length:=by rw[rv];simp
     let s':LS:=⟨nk,no,z'++ [zn],s.m,{s.g with fr:=true},s.ln+1,s.at_+l.length+1,ls,s.A,s.c⟩
     have kp:∀{x:DV} {o:BF},DgO w7 (TS p s.m) p.nm.length x o->DgO Xa (TS p s'.m) p.nm.length x o:=λhx=>hI.kp (s':=s') oH hI.tt (Moved.refl _ _) (Moved.refl _ _) (Moved.refl _ _) hx
     have fresh:∀(x:DV) (ox:BF),(∀i,Qk x.A i->w9.heap.size<=i)->SB Qy x.A x.n x.c x.nd->Set1 p.nm.length x.nd x.r ox->DgO Xa (TS p s'.m) p.nm.length x ox:=λx ox hr hx hs=>by
      have e1:DgO Qy (TS p s.m) p.nm.length x ox:=⟨hx,hs,λad e _ hh=>by have:=hr _ ⟨ad,e,rfl⟩;have:=Dv _ hh;omega⟩
      exact e1.step (yx.mono (λi hi=>.inl (hI.sub i hi))) (λi hi=>.inl hi)
     refine⟨s',?_,?_,?_⟩
     ·show Has _ _;simp only[s',lK];rw[Kf]<;>rfl
     ·refine hI.go (s':=s') jK oH ?_ hI.tt (Moved.refl _ _) (Moved.refl _ _) (Moved.refl _ _) ?_ ?_ ?_ ?_ ?_ Ks rfl ?_ ?_ rfl
      ·show Rr w0 Xa base p _ ⟨v.d+(z'++ [zn]).length,n,s.ln+1,n::v.rd,{s.g with fr:=true}⟩;rw[lK];exact XU
      ·exact Z8.mod Vw npr
      ·exact fresh b _ oE qy yo
      ·show Own Xa base WQ 6 s.A (z'++ [zn]).length s.c (V7 (z'++ [zn]));rw[lK,mD];have Ik:Own Qy base WQ 6 s.A s.z.length s.c (V7 z'++zn.cells):=by rw[Kf];exact Ii
       exact(Ik.mod Z2 (λi hi e=>by subst e;exact nbA hi)).mod Vw nopr
      ·intro z hz;simp only[s',XM,QN] at hz;rcases hz with hz | rfl
       ·exact kp (hI.zx z (by rw[K7];simp[hz]))
       ·exact kp (hI.zx x fw)
      ·intro z hz;simp only[s',XM,QN] at hz;rcases hz with hz | rfl
       ·exact kp (hI.zy z (by rw[K7];simp[hz]))
       ·exact fresh d' _ cr nD iI
      ·rw[At XX,lJ] at QJ;simp only[dm,fj] at QJ;rw[<-QJ];simp[s',zn,no,dm]
      ·show v.d+(z'++ [zn]).length<=64;rw[lK];omega
     ·show ls.length<(l::ls).length;simp
    have lQ0:=fQF P1 P2 P3;by_cases nE:l=V0
    ·have XX:Zn l= .els:=by rw[nE]<;>rfl
     have Xi:32∉l:=by rw[nE];decide
     have Jj:JK l=V0:=by rw[Fx Xi,nE]
     rw[if_neg Xi];refine XD (by rw[Jj];decide) ?_;refine XD (by rw[Jj];decide) ?_;refine XD (by rw[Jj];decide) ?_;refine Zh (by rw[nE];rfl) ?_;refine X3 (λhz=>?_) (λhz=>?_)
     ·have fd:s.z=[]:=Wg (by omega);refine XO (aq 72 w9 h9) (λ_ _ hf=>hf.elim) ?_;rintro ch Qy ⟨rfl,XT⟩;refine Xg ⟨72,n,((s.ln+1:Nat):Int)⟩ _ Qy ?_ rfl (Mod.of_ext _ XT);rw[<-QJ,Av XX,fd]<;>rfl
     obtain⟨z',x,K7⟩:∃z' x,s.z=z'++ [x]:=by
      rcases uO s.z with h0 | ⟨z',x,h0⟩
      ·exact Xn (by rw[h0];rfl) hz
      ·exact⟨z',x,by rw[h0];simp⟩
     have rv:s.z.length=z'.length+1:=by rw[K7];simp
     have lJ:s.z.reverse.map (·.s)=x.s::z'.reverse.map (·.s):=by rw[K7];simp
     obtain⟨oa,Kf,_⟩:=Ww.sl.at_ (by omega:0<s.z.length);have oG:Qk (some oa)=Qk s.A:=by rw[Kf]
     have xj:Own w9 base WQ 6 (some oa) s.z.length s.c (V7 z'++x.cells):=by rw[<-Kf,<-mD,<-K7];exact Ww
     have fw:x∈s.z:=by rw[K7];simp
     have Yk:=qr (hI.zx x fw);have Xu:=qr (hI.zy x fw);have JE:=Aw z';have Dv:∀i,TS p s.m i->i<w9.heap.size:=h9.hiT
     refine Qi ((z'.length:Nat):Int) (by omega) (by omega) ?_;rw[Kf];refine JS (j:=z'.length) (by omega) ?_;rw[show z'.length*6=(V7 z').length from JE.symm];refine XD (by rw[nE];decide) ?_;have yw:decide (Qd l=(⟨#[35,101,108,115,101]⟩:ByteArray))=true:=Zy (by rw[nE];rfl);refine XO (Rs s.m ⟨v.d+s.z.length,n,s.ln+1,n::v.rd,s.g⟩ oa s.z.length s.c (V7 z') x (decide (Qd l=(⟨#[35,101,108,115,101]⟩:ByteArray))) [] w9 hP h9 xj (by rw[oG];exact yr) (by rw[JE];omega) Xu (λx hx=>by cases hx) (by decide) fa) ?_ ?_
     rotate_left
     ·rintro ch Qy ⟨e,he,rfl,Ju⟩;refine Xg ⟨e,n,((s.ln+1:Nat):Int)⟩ _ Qy ?_ rfl (Ju.mono (λi hi=>.inl (.inr (.inl (by rw[<-oG];exact hi)))));rw[yw] at he;rw[<-QJ,Av XX,lJ];rcases he with⟨h1,rfl⟩ | ⟨_,h2,_⟩
      ·simp only[h1,if_true]
      ·cases h2
     rintro u Qy ⟨dm,Ju,aJ⟩;rw[yw,Qf rfl] at aJ;obtain⟨rfl,Ii⟩:=aJ
     let zn:SeV:=⟨{x.s with ot:=true},x.x,x.y⟩
     let nk:DV:=x.y
     let no:BF:=x.s.re
     rw[oG] at Ju;have Ij:=cd.mod Ju nbA;have XN:Rr w0 Qy base p s.m ⟨v.d+s.z.length,n,s.ln+1,n::v.rd,s.g⟩:=h9.modT Ju yr oF L9 (λi hi=>.inl hi) (λi hi=>VT (h9.tt i hi) Ju.size);refine Qv Ij rfl (sc rfl) (λQH xk _ Z8=>?_);have Z2:Mod (·=w.heap.size) Qy QH:=nQQ xk rfl;have ZS:Rr w0 QH base p s.m ⟨v.d+s.z.length,n,s.ln+1,n::v.rd,s.g⟩:=XN.modT Z2 (λi hi=>by rw[hI.tt];exact .inr (.inr hi)) (λi hi=>by subst hi;exact nbk) (λi hi=>by have:=h.e0.size;omega) (λi hi=>.inl hi) (λi hi=>VT (XN.tt i hi) Z2.size);refine XP ZS.blk (show 8<11 by decide) (λXa Vw Vh=>?_);have XU:Rr w0 Xa base p s.m ⟨v.d+s.z.length,n,s.ln+1,n::v.rd,{s.g with fr:=true}⟩:=ZS.put Vw Vh rfl rfl rfl (λe=>by cases e);have yx:Mod (Jr p s.m s.A w.heap.size) Qy Xa:=(Z2.mono (S':=Jr p s.m s.A w.heap.size) (λi hi=>.inl (.inr (.inr hi)))).trans Vw (λi hi=>.inl (.inl (.inl hi)));have yy:Mod (Jr p s.m s.A w.heap.size) w9 Xa:=(Ju.mono (S':=Jr p s.m s.A w.heap.size) (λi hi=>.inl (.inr (.inl hi)))).trans yx (λi hi=>.inl hi);have oH:Mod (Jr p s.m s.A w.heap.size) w7 Xa:=fe.trans yy (λi hi=>.inl hi);have lK:(z'++ [zn]).length=s.z.length:=by rw[rv];simp
     let s':LS:=⟨nk,no,z'++ [zn],s.m,{s.g with fr:=true},s.ln+1,s.at_+l.length+1,ls,s.A,s.c⟩
     have kp:∀{x:DV} {o:BF},DgO w7 (TS p s.m) p.nm.length x o->DgO Xa (TS p s'.m) p.nm.length x o:=λhx=>hI.kp (s':=s') oH hI.tt (Moved.refl _ _) (Moved.refl _ _) (Moved.refl _ _) hx
     have fresh:∀(x:DV) (ox:BF),(∀i,Qk x.A i->w9.heap.size<=i)->SB Qy x.A x.n x.c x.nd->Set1 p.nm.length x.nd x.r ox->DgO Xa (TS p s'.m) p.nm.length x ox:=λx ox hr hx hs=>by
      have e1:DgO Qy (TS p s.m) p.nm.length x ox:=⟨hx,hs,λad e _ hh=>by have:=hr _ ⟨ad,e,rfl⟩;have:=Dv _ hh;omega⟩
      exact e1.step (yx.mono (λi hi=>.inl (hI.sub i hi))) (λi hi=>.inl hi)
     refine⟨s',?_,?_,?_⟩
     ·show Has _ _;simp only[s',lK];rw[Kf]<;>rfl
     ·refine hI.go (s':=s') jK oH ?_ hI.tt (Moved.refl _ _) (Moved.refl _ _) (Moved.refl _ _) ?_ ?_ ?_ ?_ ?_ Ks rfl ?_ ?_ rfl
      ·show Rr w0 Xa base p _ ⟨v.d+(z'++ [zn]).length,n,s.ln+1,n::v.rd,{s.g with fr:=true}⟩;rw[lK];exact XU
      ·exact Z8.mod Vw npr
      ·exact kp (hI.zy x fw)
      ·show Own Xa base WQ 6 s.A (z'++ [zn]).length s.c (V7 (z'++ [zn]));rw[lK,mD];have Ik:Own Qy base WQ 6 s.A s.z.length s.c (V7 z'++zn.cells):=by rw[Kf];exact Ii
       exact(Ik.mod Z2 (λi hi e=>by subst e;exact nbA hi)).mod Vw nopr
      ·intro z hz;simp only[s',XM,QN] at hz;rcases hz with hz | rfl
       ·exact kp (hI.zx z (by rw[K7];simp[hz]))
       ·exact kp (hI.zx x fw)
      ·intro z hz;simp only[s',XM,QN] at hz;rcases hz with hz | rfl
       ·exact kp (hI.zy z (by rw[K7];simp[hz]))
       ·exact kp (hI.zy x fw)
      ·rw[Av XX,lJ] at QJ;simp only[dm] at QJ;rw[<-QJ];simp[s',zn,no]
      ·show v.d+(z'++ [zn]).length<=64;rw[lK];omega
     ·show ls.length<(l::ls).length;simp
    by_cases nF:l=ZK
    ·have XX:Zn l= .en:=by rw[nF]<;>rfl
     have Xi:32∉l:=by rw[nF];decide
     have Jj:JK l=ZK:=by rw[Fx Xi,nF]
     refine XD (by rw[Jj];decide) ?_;refine XD (by rw[Jj];decide) ?_;refine XD (by rw[Jj];decide) ?_;refine XD (by rw[nF];decide) ?_;refine Zh (by rw[nF];rfl) ?_;refine X3 (λhz=>?_) (λhz=>?_)
     ·have fd:s.z=[]:=Wg (by omega);refine XO (aq 72 w9 h9) (λ_ _ hf=>hf.elim) ?_;rintro ch Qy ⟨rfl,XT⟩;refine Xg ⟨72,n,((s.ln+1:Nat):Int)⟩ _ Qy ?_ rfl (Mod.of_ext _ XT);rw[<-QJ,FL XX,fd]<;>rfl
     obtain⟨z',x,K7⟩:∃z' x,s.z=z'++ [x]:=by
      rcases uO s.z with h0 | ⟨z',x,h0⟩
      ·exact Xn (by rw[h0];rfl) hz
      ·exact⟨z',x,by rw[h0];simp⟩
     have rv:s.z.length=z'.length+1:=by rw[K7];simp
     have lJ:s.z.reverse.map (·.s)=x.s::z'.reverse.map (·.s):=by rw[K7];simp
     obtain⟨oa,Kf,_⟩:=Ww.sl.at_ (by omega:0<s.z.length);have oG:Qk (some oa)=Qk s.A:=by rw[Kf]
     have xj:Own w9 base WQ 6 (some oa) s.z.length s.c (V7 z'++x.cells):=by rw[<-Kf,<-mD,<-K7];exact Ww
     have fw:x∈s.z:=by rw[K7];simp
     have Yk:=qr (hI.zx x fw);have Xu:=qr (hI.zy x fw);have JE:=Aw z';have Dv:∀i,TS p s.m i->i<w9.heap.size:=h9.hiT
     refine Qi ((z'.length:Nat):Int) (by omega) (by omega) ?_;rw[Kf];refine JS (j:=z'.length) (by omega) ?_;rw[show z'.length*6=(V7 z').length from JE.symm];refine Zh (by rw[nF];rfl) ?_;refine Kn (vs:=x.x.cells) rfl (λi u hi=>?_) ?_
     ·show w9.cell? (((oa.add (V7 z').length).add 0).add i)=some u;rw[add_add];refine Ar xj (by omega) (vW ?_)
      match i,hi with
      | 0,hi=>exact hi
      | 1,hi=>exact hi
      | _+2,hi=>exact nomatch hi
     refine Qv cd rfl (sc rfl) (λQy ir _ JM=>?_);have Zo:Mod (·=w.heap.size) w9 Qy:=nQQ ir rfl;have XN:Rr w0 Qy base p s.m ⟨v.d+s.z.length,n,s.ln+1,n::v.rd,s.g⟩:=h9.modT Zo (λi hi=>by rw[hI.tt];exact .inr (.inr hi)) (λi hi=>by subst hi;exact nbk) (λi hi=>by have:=h.e0.size;omega) (λi hi=>.inl hi) (λi hi=>VT (h9.tt i hi) Zo.size);refine Qi ((z'.length:Nat):Int) (by omega) (by omega) ?_;refine iX (h:=z'.length) Qa rfl rfl rfl rfl rfl rfl (by have:=Ww.sl.le;omega) ?_;refine Qo XN.blk rfl ?_;refine Qi ((v.d+z'.length:Nat):Int) (by show((v.d+s.z.length:Nat):Int)-1=_;omega) (by omega) ?_;refine XP XN.blk (show 4<11 by decide) (λQH lm Z8=>?_);have ZS:Rr w0 QH base p s.m ⟨v.d+z'.length,n,s.ln+1,n::v.rd,s.g⟩:=XN.put lm Z8 rfl rfl rfl XN.nf;refine XP ZS.blk (show 8<11 by decide) (λXa Vw Vh=>?_);have XU:Rr w0 Xa base p s.m ⟨v.d+z'.length,n,s.ln+1,n::v.rd,{s.g with fr:=true}⟩:=ZS.put Vw Vh rfl rfl rfl (λe=>by cases e);have Il:Mod (·=p.r) Qy Xa:=lm.trans Vw (λi hi=>.inl hi);have yy:Mod (Jr p s.m s.A w.heap.size) w9 Xa:=(Zo.mono (S':=Jr p s.m s.A w.heap.size) (λi hi=>.inl (.inr (.inr hi)))).trans Il (λi hi=>.inl (.inl (.inl hi)));have oH:Mod (Jr p s.m s.A w.heap.size) w7 Xa:=fe.trans yy (λi hi=>.inl hi)
     let s':LS:=⟨x.x,x.s.ou,z',s.m,{s.g with fr:=true},s.ln+1,s.at_+l.length+1,ls,s.A,s.c⟩
     have kp:∀{x:DV} {o:BF},DgO w7 (TS p s.m) p.nm.length x o->DgO Xa (TS p s'.m) p.nm.length x o:=λhx=>hI.kp (s':=s') oH hI.tt (Moved.refl _ _) (Moved.refl _ _) (Moved.refl _ _) hx
     refine⟨s',?_,?_,?_⟩
     ·show Has _ _;simp only[s'];rw[Kf]<;>rfl
     ·refine hI.go (s':=s') jK oH XU hI.tt (Moved.refl _ _) (Moved.refl _ _) (Moved.refl _ _) (JM.mod Il npr) (kp (hI.zx x fw)) ?_ (λz hz=>kp (hI.zx z (by rw[K7];simp[show z∈z' from hz]))) (λz hz=>kp (hI.zy z (by rw[K7];simp[show z∈z' from hz]))) Ks rfl ?_ ?_ rfl
      ·have ht:=Ww.take (k:=z'.length) (by omega);rw[K7,mD,List.take_left' (by rw[JE])] at ht;exact(ht.mod Zo (λi hi e=>by subst e;exact nbA hi)).mod Il nopr
      ·rw[FL XX,lJ] at QJ;rw[<-QJ]
      ·show v.d+z'.length<=64;omega
     ·show ls.length<(l::ls).length;simp
    have XX:Zn l= .txt:=by rw[lQ0,if_neg nE,if_neg nF]
    have BL:¬Qd l=(⟨#[35,101,108,115,101]⟩:ByteArray):=λe=>nE (J8 gi (by decide) e)
    have BM:¬Qd l=(⟨#[35,101,110,100]⟩:ByteArray):=λe=>nF (J8 gi (by decide) e)
    have tT:∀x∈JK l,x<256:=λx hx=>gi x ((uJ _).subset hx)
    by_cases q1:JK l=mB
    ·refine Zh (by rw[q1];rfl) ?_;refine XD (λe=>P1 ⟨q1,oy.1 e⟩) ?_;refine XD (by rw[q1];decide) ?_;refine XD (by rw[q1];decide) ?_;refine XD BL ?_;refine XD BM ?_;have J4:=Ext.drew w9;refine pu Qa 7 (by kernel_rfl) ?_;refine XH (v':=.string (Qd (l++ [10]))) ⟨by omega,by omega,by rw[XJ];omega⟩ ?_ ?_
     ·rw[KY];simp only[gE];rw[fE,show s.at_+l.length+1-s.at_=l.length+1 by omega,l5]
     refine Xs (vs:=s.k.cells) rfl (λw' Qb j u hj=>by subst Qb;rw[(cd.ext J4).cell];exact hj) ?_;have rx:=h9.ext J4;have ry:DgO w9.drew (RS p s.m) p.nm.length s.k s.o:=⟨d5.sb.ext J4,d5.st,λad e h0 hh=>d5.off ad e h0 (.inl hh)⟩
     refine XO (add_fn s.m ⟨v.d+s.z.length,n,s.ln+1,n::v.rd,s.g⟩ (l++ [10]) s.at_ s.k s.o w9.drew hP rx ry (λx hx=>by
      rcases XM.1 hx with hx | hx
      ·exact gi x hx
      ·simp only[QN] at hx;omega) (by rw[Qq];simp;omega) (M3 _ _)) ?_ ?_
     rotate_left
     ·rintro ch Qy ⟨hg,rfl,XT⟩;refine Xg ⟨2,n,((s.ln+1:Nat):Int)⟩ _ Qy ?_ rfl (Mod.of_ext _ (J4.trans XT));rw[<-QJ,kI XX,show KZ (l++ [10]) n s.at_ s.o s.g=none from hg]
     rintro _ Qy ⟨g',Vz,m',gy,XN,Ju,qz,qA⟩;have rz:Mod (Jr p s.m s.A w.heap.size) w9 Qy:=(Mod.of_ext _ J4).trans Ju (λi hi=>.inl (.inl hi));have iL:Mod (Jr p s.m s.A w.heap.size) w7 Qy:=fe.trans rz (λi hi=>.inl hi);have yz:=J4.size;have KI:Moved w7 s.m.OA m'.OA:=qz.back (by omega);have d7:Moved w7 s.m.BA m'.BA:=qA.back (by omega)
     let s':LS:=⟨s.k,s.o,s.z,m',g',s.ln+1,s.at_+l.length+1,ls,s.A,s.c⟩
     have Wv:s'.m.T=λi=>m.T i∨Qk s'.A i∨i=w.heap.size:=by show m'.T=_;rw[gy,hI.tt]
     have kp:∀{x:DV} {o:BF},DgO w7 (TS p s.m) p.nm.length x o->DgO Qy (TS p s'.m) p.nm.length x o:=λhx=>hI.kp (s':=s') iL Wv (Moved.refl _ _) KI d7 hx
     refine⟨s',rfl,?_,?_⟩
     ·refine hI.go (s':=s') jK iL XN Wv (Moved.refl _ _) KI d7 ((cd.ext J4).mod Ju nbk) (kp hI.kd) ((Ww.ext J4).mod Ju oF) (λz hz=>kp (hI.zx z hz)) (λz hz=>kp (hI.zy z hz)) Ks rfl ?_ Vy rfl;rw[kI XX,show KZ (l++ [10]) n s.at_ s.o s.g=some g' from Vz] at QJ;exact QJ
     ·show ls.length<(l::ls).length;simp
    refine XD (λe=>q1 (J8 tT (by decide) e)) ?_;by_cases q2:JK l=pO
    ·refine Zh (by rw[q2];rfl) ?_;refine XD (λe=>P2 ⟨q2,oy.1 e⟩) ?_;refine XD (by rw[q2];decide) ?_;refine XD BL ?_;refine XD BM ?_;have J4:=Ext.drew w9;refine pu Qa 7 (by kernel_rfl) ?_;refine XH (v':=.string (Qd (l++ [10]))) ⟨by omega,by omega,by rw[XJ];omega⟩ ?_ ?_
     ·rw[KY];simp only[gE];rw[fE,show s.at_+l.length+1-s.at_=l.length+1 by omega,l5]
     refine Xs (vs:=s.k.cells) rfl (λw' Qb j u hj=>by subst Qb;rw[(cd.ext J4).cell];exact hj) ?_;have rx:=h9.ext J4;have ry:DgO w9.drew (RS p s.m) p.nm.length s.k s.o:=⟨d5.sb.ext J4,d5.st,λad e h0 hh=>d5.off ad e h0 (.inl hh)⟩
     refine XO (add_fn s.m ⟨v.d+s.z.length,n,s.ln+1,n::v.rd,s.g⟩ (l++ [10]) s.at_ s.k s.o w9.drew hP rx ry (λx hx=>by
      rcases XM.1 hx with hx | hx
      ·exact gi x hx
      ·simp only[QN] at hx;omega) (by rw[Qq];simp;omega) (M3 _ _)) ?_ ?_
     rotate_left
     ·rintro ch Qy ⟨hg,rfl,XT⟩;refine Xg ⟨2,n,((s.ln+1:Nat):Int)⟩ _ Qy ?_ rfl (Mod.of_ext _ (J4.trans XT));rw[<-QJ,kI XX,show KZ (l++ [10]) n s.at_ s.o s.g=none from hg]
     rintro _ Qy ⟨g',Vz,m',gy,XN,Ju,qz,qA⟩;have rz:Mod (Jr p s.m s.A w.heap.size) w9 Qy:=(Mod.of_ext _ J4).trans Ju (λi hi=>.inl (.inl hi));have iL:Mod (Jr p s.m s.A w.heap.size) w7 Qy:=fe.trans rz (λi hi=>.inl hi);have yz:=J4.size;have KI:Moved w7 s.m.OA m'.OA:=qz.back (by omega);have d7:Moved w7 s.m.BA m'.BA:=qA.back (by omega)
     let s':LS:=⟨s.k,s.o,s.z,m',g',s.ln+1,s.at_+l.length+1,ls,s.A,s.c⟩
     have Wv:s'.m.T=λi=>m.T i∨Qk s'.A i∨i=w.heap.size:=by show m'.T=_;rw[gy,hI.tt]
     have kp:∀{x:DV} {o:BF},DgO w7 (TS p s.m) p.nm.length x o->DgO Qy (TS p s'.m) p.nm.length x o:=λhx=>hI.kp (s':=s') iL Wv (Moved.refl _ _) KI d7 hx
     refine⟨s',rfl,?_,?_⟩
     ·refine hI.go (s':=s') jK iL XN Wv (Moved.refl _ _) KI d7 ((cd.ext J4).mod Ju nbk) (kp hI.kd) ((Ww.ext J4).mod Ju oF) (λz hz=>kp (hI.zx z hz)) (λz hz=>kp (hI.zy z hz)) Ks rfl ?_ Vy rfl;rw[kI XX,show KZ (l++ [10]) n s.at_ s.o s.g=some g' from Vz] at QJ;exact QJ
     ·show ls.length<(l::ls).length;simp
    refine XD (λe=>q2 (J8 tT (by decide) e)) ?_;by_cases q3:JK l=sU
    ·refine Zh (by rw[q3];rfl) ?_;refine XD (λe=>P3 ⟨q3,oy.1 e⟩) ?_;refine XD BL ?_;refine XD BM ?_;have J4:=Ext.drew w9;refine pu Qa 7 (by kernel_rfl) ?_;refine XH (v':=.string (Qd (l++ [10]))) ⟨by omega,by omega,by rw[XJ];omega⟩ ?_ ?_
     ·rw[KY];simp only[gE];rw[fE,show s.at_+l.length+1-s.at_=l.length+1 by omega,l5]
     refine Xs (vs:=s.k.cells) rfl (λw' Qb j u hj=>by subst Qb;rw[(cd.ext J4).cell];exact hj) ?_;have rx:=h9.ext J4;have ry:DgO w9.drew (RS p s.m) p.nm.length s.k s.o:=⟨d5.sb.ext J4,d5.st,λad e h0 hh=>d5.off ad e h0 (.inl hh)⟩
     refine XO (add_fn s.m ⟨v.d+s.z.length,n,s.ln+1,n::v.rd,s.g⟩ (l++ [10]) s.at_ s.k s.o w9.drew hP rx ry (λx hx=>by
      rcases XM.1 hx with hx | hx
      ·exact gi x hx
      ·simp only[QN] at hx;omega) (by rw[Qq];simp;omega) (M3 _ _)) ?_ ?_
     rotate_left
     ·rintro ch Qy ⟨hg,rfl,XT⟩;refine Xg ⟨2,n,((s.ln+1:Nat):Int)⟩ _ Qy ?_ rfl (Mod.of_ext _ (J4.trans XT));rw[<-QJ,kI XX,show KZ (l++ [10]) n s.at_ s.o s.g=none from hg]
     rintro _ Qy ⟨g',Vz,m',gy,XN,Ju,qz,qA⟩;have rz:Mod (Jr p s.m s.A w.heap.size) w9 Qy:=(Mod.of_ext _ J4).trans Ju (λi hi=>.inl (.inl hi));have iL:Mod (Jr p s.m s.A w.heap.size) w7 Qy:=fe.trans rz (λi hi=>.inl hi);have yz:=J4.size;have KI:Moved w7 s.m.OA m'.OA:=qz.back (by omega);have d7:Moved w7 s.m.BA m'.BA:=qA.back (by omega)
     let s':LS:=⟨s.k,s.o,s.z,m',g',s.ln+1,s.at_+l.length+1,ls,s.A,s.c⟩
     have Wv:s'.m.T=λi=>m.T i∨Qk s'.A i∨i=w.heap.size:=by show m'.T=_;rw[gy,hI.tt]
     have kp:∀{x:DV} {o:BF},DgO w7 (TS p s.m) p.nm.length x o->DgO Qy (TS p s'.m) p.nm.length x o:=λhx=>hI.kp (s':=s') iL Wv (Moved.refl _ _) KI d7 hx
     refine⟨s',rfl,?_,?_⟩
     ·refine hI.go (s':=s') jK iL XN Wv (Moved.refl _ _) KI d7 ((cd.ext J4).mod Ju nbk) (kp hI.kd) ((Ww.ext J4).mod Ju oF) (λz hz=>kp (hI.zx z hz)) (λz hz=>kp (hI.zy z hz)) Ks rfl ?_ Vy rfl;rw[kI XX,show KZ (l++ [10]) n s.at_ s.o s.g=some g' from Vz] at QJ;exact QJ
     ·show ls.length<(l::ls).length;simp
    ·refine XD (λe=>q3 (J8 tT (by decide) e)) ?_;refine XD BL ?_;refine XD BM ?_;have J4:=Ext.drew w9;refine pu Qa 7 (by kernel_rfl) ?_;refine XH (v':=.string (Qd (l++ [10]))) ⟨by omega,by omega,by rw[XJ];omega⟩ ?_ ?_
     ·rw[KY];simp only[gE];rw[fE,show s.at_+l.length+1-s.at_=l.length+1 by omega,l5]
     refine Xs (vs:=s.k.cells) rfl (λw' Qb j u hj=>by subst Qb;rw[(cd.ext J4).cell];exact hj) ?_;have rx:=h9.ext J4;have ry:DgO w9.drew (RS p s.m) p.nm.length s.k s.o:=⟨d5.sb.ext J4,d5.st,λad e h0 hh=>d5.off ad e h0 (.inl hh)⟩
     refine XO (add_fn s.m ⟨v.d+s.z.length,n,s.ln+1,n::v.rd,s.g⟩ (l++ [10]) s.at_ s.k s.o w9.drew hP rx ry (λx hx=>by
      rcases XM.1 hx with hx | hx
      ·exact gi x hx
      ·simp only[QN] at hx;omega) (by rw[Qq];simp;omega) (M3 _ _)) ?_ ?_
     rotate_left
     ·rintro ch Qy ⟨hg,rfl,XT⟩;refine Xg ⟨2,n,((s.ln+1:Nat):Int)⟩ _ Qy ?_ rfl (Mod.of_ext _ (J4.trans XT));rw[<-QJ,kI XX,show KZ (l++ [10]) n s.at_ s.o s.g=none from hg]
     rintro _ Qy ⟨g',Vz,m',gy,XN,Ju,qz,qA⟩;have rz:Mod (Jr p s.m s.A w.heap.size) w9 Qy:=(Mod.of_ext _ J4).trans Ju (λi hi=>.inl (.inl hi));have iL:Mod (Jr p s.m s.A w.heap.size) w7 Qy:=fe.trans rz (λi hi=>.inl hi);have yz:=J4.size;have KI:Moved w7 s.m.OA m'.OA:=qz.back (by omega);have d7:Moved w7 s.m.BA m'.BA:=qA.back (by omega)
     let s':LS:=⟨s.k,s.o,s.z,m',g',s.ln+1,s.at_+l.length+1,ls,s.A,s.c⟩
     have Wv:s'.m.T=λi=>m.T i∨Qk s'.A i∨i=w.heap.size:=by show m'.T=_;rw[gy,hI.tt]
     have kp:∀{x:DV} {o:BF},DgO w7 (TS p s.m) p.nm.length x o->DgO Qy (TS p s'.m) p.nm.length x o:=λhx=>hI.kp (s':=s') iL Wv (Moved.refl _ _) KI d7 hx
     refine⟨s',rfl,?_,?_⟩
     ·refine hI.go (s':=s') jK iL XN Wv (Moved.refl _ _) KI d7 ((cd.ext J4).mod Ju nbk) (kp hI.kd) ((Ww.ext J4).mod Ju oF) (λz hz=>kp (hI.zx z hz)) (λz hz=>kp (hI.zy z hz)) Ks rfl ?_ Vy rfl;rw[kI XX,show KZ (l++ [10]) n s.at_ s.o s.g=some g' from Vz] at QJ;exact QJ
     ·show ls.length<(l::ls).length;simp
end
end
section
section
structure FileB (x:List Nat×List Nat):Prop where
 n8:∀b∈x.1,b<256
 t8:∀b∈x.2,b<256
 nl:x.1.length<=9223372036854775807
 tl:x.2.length<=9223372036854775807
def mG (q:Pl):List Value:=[.int .i64 q.e,.int .i64 q.f,.int .i64 q.l]
def plO (o:Option Pl):Pl:=o.getD ⟨0,0,0⟩
def badB (b:Nat):Bool:=decide (b<32)||b==34||b==127
theorem gQd (s:List Nat):mA s=(decide (s≠ []) && !(s.any badB)):=by
 unfold mA;congr 1;rw[List.any_eq_not_all_not,Bool.not_not];congr 1;funext b;unfold badB;have e:decide (32<=b)= !decide (b<32):=by by_cases h:b<32<;>simp[h]<;>omega
 rw[e];by_cases h1:b=34<;>by_cases h2:b=127<;>by_cases h3:b<32<;>simp[h1,h2,h3,bne]
def au (x:List Nat×List Nat)(seen:List (List Nat)):Bool:=decide (x.1=[])||decide (x.1∈seen)||(decide (x.2≠ [])&&x.2.getLast? !=some 10)
theorem Ax (x:List Nat×List Nat)(seen:List (List Nat)):(au x seen||x.1.any badB)=true↔¬(mA x.1=true/\x.1∉seen/\aX x.2=true):=by
 rw[gQd];unfold au aX;by_cases h1:x.1=[]<;>by_cases h2:x.1∈seen<;>by_cases h3:x.2=[]<;>by_cases h4:x.2.getLast? =some 10<;>simp[h1,h2,h3,h4]
structure CkI (w0:World) (q:Nat) (fs:List (List Nat×List Nat)) (res:Option Pl) (i:Nat) (w:World):Prop where
 e:Ext w0 w
 mp:∃m,MapAt VX w q m/\∀s:List Nat,(∀x∈s,x<256)->Xz (Qd s) m=if s∈(fs.take i).map (·.1)then some (.bool true)else none
 rs:cJ (fs.drop i) ((fs.take i).map (·.1)) i=res
 le:i<=fs.length
 qo:w0.heap.size<=q
theorem CkI.ext {w0 w w':World}{q:Nat}{fs:List (List Nat×List Nat)}{res:Option Pl}{i:Nat}(h:CkI w0 q fs res i w)(k:Ext w w'):CkI w0 q fs res i w':=⟨h.e.trans k,let ⟨m,h1,h2⟩:=h.mp;⟨m,h1.ext k,h2⟩,h.rs,h.le,h.qo⟩
theorem gQe (fs:List (List Nat×List Nat))(FA:Option Addr)(nf cf:Nat)(w:World)(h:SlS cL 2 w FA nf cf fs)(hb:∀x∈fs,FileB x)(hnf:nf<=1000000000000):
  Fn Tryz.prog 90 [.slice FA nf cf] w (λu w'=>u= .agg (mG (plO (YJ fs))).toArray/\Ext w w'):=by
 have QY:=h.2;refine QF (c:={c90 with cuts:=[]}) Qa Tryz.func90 rfl rfl rfl ?_;refine new (λw1 Qe Q4 Qh=>?_);refine Qz (λc1=>?_) (λc1=>?_)
 ·refine Qv Qh rfl (sc rfl) (λw2 cU _ Qx=>?_);refine Qt Qx rfl ?_;refine⟨?_,X9 Qe Qh cU⟩;unfold YJ;rw[Qf (by omega)]<;>rfl
 have KL:YJ fs=cJ fs [] 0:=by unfold YJ;rw[if_neg (by omega)]
 refine vi Qa VX rfl (λw2 Qg Zb XQ=>?_);have Q5:=Qe.trans Qg;refine loop Qa [15] (λi:Nat=>[.int .i64 i]) (λi w'=>CkI w1 w1.heap.size fs (YJ fs) i w') (λi _=>fs.length-i) 0 rfl ⟨Qg,⟨[],XQ,λs _=>by simp[Xz]⟩,by rw[KL];rfl,Xr _,QB _⟩ ?_;rintro i w3 hI;have QX:Ext w w3:=Qe.trans hI.e;refine Qz (λc2=>?_) (λc2=>?_)
 ·have hi:i<nf:=by omega
  refine Zv FH (h.ext QX) rfl hi (λpp x hx hc=>?_);refine Kn (vs:=cL x) rfl hc ?_;refine new (λw4 Qs KO Q7=>?_);refine Qv Q7 rfl (sc rfl) (λw5 JH _ QG=>?_);have Yd:Ext w3 w5:=X9 Qs Q7 JH;have xm:=hI.ext Yd;obtain⟨m,XS,ru⟩:=xm.mp;have Ji:=hb x (Xm hx);have aK:=Xe x.1;have gm:=Xe x.2;have Kl:=Ji.nl;refine Qo QG rfl ?_;by_cases p1:x.1=[]
  ·refine Zh (by rw[p1];rfl) ?_;refine Qo QG rfl ?_;have e0:au x ((fs.take i).map (·.1))=true:=by simp[au,p1]
   refine loop Qa [47,6] (λs:Nat×Bool=>[.int .i64 s.1,.bool s.2]) (λs w'=>Ext w5 w'/\s.1<=x.1.length/\s.2=(au x ((fs.take i).map (·.1))||(x.1.take s.1).any badB)) (λs _=>x.1.length-s.1) (0,true) rfl ⟨Ext.refl _,Xr _,by rw[e0];simp⟩ ?_;rintro⟨k,b⟩ w6 ⟨Zw,hk,Vj⟩;simp only at hk Vj;have JP:=xm.ext Zw;have Q9:=QG.ext Zw;refine Qz (λc3=>?_) (λc3=>?_)
   ·have Jk:k<x.1.length:=by rw[aK] at c3;simp only at c3;omega
    obtain⟨y,hy⟩:∃y,x.1[k]? =some y:=⟨_,Xp Jk⟩
    have dt:(x.1.take (k+1)).any badB=((x.1.take k).any badB||badB y):=by
     rw[K9,hy];simp
    have fin:∀b',b'=(b||badB y)->b'=(au x ((fs.take i).map (·.1))||(x.1.take (k+1)).any badB):=λb' e=>by rw[e,Vj,dt,DZ]
    cases b with
    | true=>
     refine Q8 rfl ?_;refine Qi ((k+1:Nat):Int) (by show((k:Nat):Int)+1=_;omega) (by omega) ?_;exact⟨(k+1,true),rfl,⟨Zw,Jk,fin true rfl⟩,by show x.1.length-(k+1)<x.1.length-k;omega⟩
    | false=>
     have idx:∀K:Int->Prop,K (y:Int)->eu (Qd x.1) ((k:Nat):Int) K:=λK hK=>by
      refine dE (by rw[aK];exact Jk) (λz hz _=>?_);rw[WJ Ji.n8,hy] at hz;cases hz;exact hK
     refine Q3 rfl ?_;refine Qo Q9 rfl ?_;refine idx _ ?_;refine Qz (λd1=>?_) (λd1=>?_)
     ·refine Qi ((k+1:Nat):Int) (by show((k:Nat):Int)+1=_;omega) (by omega) ?_;exact⟨(k+1,true),rfl,⟨Zw,Jk,fin true (by
                                have:y<32:=by omega
                                simp[badB,this])⟩,by show x.1.length-(k+1)<x.1.length-k;omega⟩
     refine Qo Q9 rfl ?_;refine idx _ ?_;refine X3 (λd2=>?_) (λd2=>?_)
     ·refine Qi ((k+1:Nat):Int) (by show((k:Nat):Int)+1=_;omega) (by omega) ?_;exact⟨(k+1,true),rfl,⟨Zw,Jk,fin true (by
                                have:y=34:=by omega
                                simp[badB,this])⟩,by show x.1.length-(k+1)<x.1.length-k;omega⟩
     refine Qo Q9 rfl ?_;refine idx _ ?_;refine Qi ((k+1:Nat):Int) (by show((k:Nat):Int)+1=_;omega) (by omega) ?_;refine⟨(k+1,((y:Int)==127)),rfl,⟨Zw,Jk,fin _ ?_⟩,by show x.1.length-(k+1)<x.1.length-k;omega⟩;have n1:¬y<32:=by omega
     have n2:¬y=34:=by omega
     by_cases n3:y=127
     ·subst n3;rfl
     ·have:((y:Int)==127)=false:=by simp;omega
      rw[this];simp[badB,n1,n2,n3]
   ·have Jk:k=x.1.length:=by rw[aK] at c3;simp only at c3;omega
    subst Jk;rw[lR] at Vj;have hall:=Ax x ((fs.take i).map (·.1));have fx:fs.drop i=x::fs.drop (i+1):=by
     rw[W9 (by omega)];congr 1;exact Option.some.inj ((Xp (by omega)).symm.trans hx)
    have QJ:=JP.rs;rw[fx,cJ] at QJ;have Y9:=((Qh.ext hI.e).ext Yd).ext Zw;refine WI (λd1=>?_) (λd1=>?_)
    ·have d1:b=true:=d1;rw[Qf (hall.1 (by rw[<-Vj,d1]))] at QJ;refine Qv Y9 rfl (sc rfl) (λw7 ZB _ Q2=>?_);refine Qt Q2 rfl ?_;have Xf:Mod (·=w.heap.size) w6 w7:=nQQ ZB rfl;exact⟨by rw[<-QJ];rfl,Xf.ext (Qe.trans JP.e) (λi hi=>by omega)⟩
    have d1:b=false:=d1;have X0:=λhh=>(hall.2 hh).symm.trans (Vj.symm.trans d1)
    rw[if_neg (λhh=>by have:=X0 hh;cases this)] at QJ;refine Qo Q9 rfl ?_;refine Qz (λd2=>?_) (λd2=>?_)
    ·rw[Qf (by omega)] at QJ;refine Qv Y9 rfl (sc rfl) (λw7 ZB _ Q2=>?_);refine Qt Q2 rfl ?_;have Xf:Mod (·=w.heap.size) w6 w7:=nQQ ZB rfl;exact⟨by rw[<-QJ];rfl,Xf.ext (Qe.trans JP.e) (λi hi=>by omega)⟩
    rw[if_neg (by omega)] at QJ;refine Qo Q9 rfl ?_;have K2:=XS.ext Zw;refine j7 (kv:=VX) (a:=Qd x.1) Qa rfl rfl rfl rfl rfl nQR rfl rfl rfl K2 (λw7 ZB Wu Kc=>?_);have Xf:Mod (·=w1.heap.size) w6 w7:=nQQ ZB rfl;refine Qi ((i+1:Nat):Int) (by show((i:Nat):Int)+1=_;omega) (by omega) ?_;have Wd:(fs.take (i+1)).map (·.1)=(fs.take i).map (·.1)++ [x.1]:=by rw[K9,hx];simp
    refine⟨i+1,rfl,⟨Xf.ext JP.e (λi hi=>by omega),⟨_,Kc,λs hs=>?_⟩,by rw[Wd];exact QJ,by omega,QB _⟩,by show fs.length-(i+1)<fs.length-i;omega⟩;rw[aS,Wd];by_cases du:s=x.1
    ·subst du;simp
    ·rw[if_neg (λe=>du (J8 hs Ji.n8 e)),ru s hs];simp[du]
  refine XD (λe=>p1 (J8 Ji.n8 (by simp) e)) ?_;refine Qo QG rfl ?_;refine EX (kv:=VX) (a:=Qd x.1) (v:=.bool (decide (x.1∈(fs.take i).map (·.1)))) Qa rfl rfl rfl rfl rfl nQR rfl rfl XS (by
   rw[ru x.1 Ji.n8];by_cases hm:x.1∈(fs.take i).map (·.1)
   ·rw[Qf hm,Zy hm]<;>rfl
   ·rw[if_neg hm,Zq hm];rfl) ?_
  by_cases p2:x.1∈(fs.take i).map (·.1)
  ·refine Zh p2 ?_;refine Qo QG rfl ?_;have e0:au x ((fs.take i).map (·.1))=true:=by unfold au;rw[Zy p2];simp
   refine loop Qa [47,6] (λs:Nat×Bool=>[.int .i64 s.1,.bool s.2]) (λs w'=>Ext w5 w'/\s.1<=x.1.length/\s.2=(au x ((fs.take i).map (·.1))||(x.1.take s.1).any badB)) (λs _=>x.1.length-s.1) (0,true) rfl ⟨Ext.refl _,Xr _,by rw[e0];simp⟩ ?_;rintro⟨k,b⟩ w6 ⟨Zw,hk,Vj⟩;simp only at hk Vj;have JP:=xm.ext Zw;have Q9:=QG.ext Zw;refine Qz (λc3=>?_) (λc3=>?_)
   ·have Jk:k<x.1.length:=by rw[aK] at c3;simp only at c3;omega
    obtain⟨y,hy⟩:∃y,x.1[k]? =some y:=⟨_,Xp Jk⟩
    have dt:(x.1.take (k+1)).any badB=((x.1.take k).any badB||badB y):=by
     rw[K9,hy];simp
    have fin:∀b',b'=(b||badB y)->b'=(au x ((fs.take i).map (·.1))||(x.1.take (k+1)).any badB):=λb' e=>by rw[e,Vj,dt,DZ]
    cases b with
    | true=>
     refine Q8 rfl ?_;refine Qi ((k+1:Nat):Int) (by show((k:Nat):Int)+1=_;omega) (by omega) ?_;exact⟨(k+1,true),rfl,⟨Zw,Jk,fin true rfl⟩,by show x.1.length-(k+1)<x.1.length-k;omega⟩
    | false=>
     have idx:∀K:Int->Prop,K (y:Int)->eu (Qd x.1) ((k:Nat):Int) K:=λK hK=>by
      refine dE (by rw[aK];exact Jk) (λz hz _=>?_);rw[WJ Ji.n8,hy] at hz;cases hz;exact hK
     refine Q3 rfl ?_;refine Qo Q9 rfl ?_;refine idx _ ?_;refine Qz (λd1=>?_) (λd1=>?_)
     ·refine Qi ((k+1:Nat):Int) (by show((k:Nat):Int)+1=_;omega) (by omega) ?_;exact⟨(k+1,true),rfl,⟨Zw,Jk,fin true (by
                                have:y<32:=by omega
                                simp[badB,this])⟩,by show x.1.length-(k+1)<x.1.length-k;omega⟩
     refine Qo Q9 rfl ?_;refine idx _ ?_;refine X3 (λd2=>?_) (λd2=>?_)
     ·refine Qi ((k+1:Nat):Int) (by show((k:Nat):Int)+1=_;omega) (by omega) ?_;exact⟨(k+1,true),rfl,⟨Zw,Jk,fin true (by
                                have:y=34:=by omega
                                simp[badB,this])⟩,by show x.1.length-(k+1)<x.1.length-k;omega⟩
     refine Qo Q9 rfl ?_;refine idx _ ?_;refine Qi ((k+1:Nat):Int) (by show((k:Nat):Int)+1=_;omega) (by omega) ?_;refine⟨(k+1,((y:Int)==127)),rfl,⟨Zw,Jk,fin _ ?_⟩,by show x.1.length-(k+1)<x.1.length-k;omega⟩;have n1:¬y<32:=by omega
     have n2:¬y=34:=by omega
     by_cases n3:y=127
     ·subst n3;rfl
     ·have:((y:Int)==127)=false:=by simp;omega
      rw[this];simp[badB,n1,n2,n3]
   ·have Jk:k=x.1.length:=by rw[aK] at c3;simp only at c3;omega
    subst Jk;rw[lR] at Vj;have hall:=Ax x ((fs.take i).map (·.1));have fx:fs.drop i=x::fs.drop (i+1):=by
     rw[W9 (by omega)];congr 1;exact Option.some.inj ((Xp (by omega)).symm.trans hx)
    have QJ:=JP.rs;rw[fx,cJ] at QJ;have Y9:=((Qh.ext hI.e).ext Yd).ext Zw;refine WI (λd1=>?_) (λd1=>?_)
    ·have d1:b=true:=d1;rw[Qf (hall.1 (by rw[<-Vj,d1]))] at QJ;refine Qv Y9 rfl (sc rfl) (λw7 ZB _ Q2=>?_);refine Qt Q2 rfl ?_;have Xf:Mod (·=w.heap.size) w6 w7:=nQQ ZB rfl;exact⟨by rw[<-QJ];rfl,Xf.ext (Qe.trans JP.e) (λi hi=>by omega)⟩
    have d1:b=false:=d1;have X0:=λhh=>(hall.2 hh).symm.trans (Vj.symm.trans d1)
    rw[if_neg (λhh=>by have:=X0 hh;cases this)] at QJ;refine Qo Q9 rfl ?_;refine Qz (λd2=>?_) (λd2=>?_)
    ·rw[Qf (by omega)] at QJ;refine Qv Y9 rfl (sc rfl) (λw7 ZB _ Q2=>?_);refine Qt Q2 rfl ?_;have Xf:Mod (·=w.heap.size) w6 w7:=nQQ ZB rfl;exact⟨by rw[<-QJ];rfl,Xf.ext (Qe.trans JP.e) (λi hi=>by omega)⟩
    rw[if_neg (by omega)] at QJ;refine Qo Q9 rfl ?_;have K2:=XS.ext Zw;refine j7 (kv:=VX) (a:=Qd x.1) Qa rfl rfl rfl rfl rfl nQR rfl rfl rfl K2 (λw7 ZB Wu Kc=>?_);have Xf:Mod (·=w1.heap.size) w6 w7:=nQQ ZB rfl;refine Qi ((i+1:Nat):Int) (by show((i:Nat):Int)+1=_;omega) (by omega) ?_;have Wd:(fs.take (i+1)).map (·.1)=(fs.take i).map (·.1)++ [x.1]:=by rw[K9,hx];simp
    refine⟨i+1,rfl,⟨Xf.ext JP.e (λi hi=>by omega),⟨_,Kc,λs hs=>?_⟩,by rw[Wd];exact QJ,by omega,QB _⟩,by show fs.length-(i+1)<fs.length-i;omega⟩;rw[aS,Wd];by_cases du:s=x.1
    ·subst du;simp
    ·rw[if_neg (λe=>du (J8 hs Ji.n8 e)),ru s hs];simp[du]
  refine XD p2 ?_;refine Qo QG rfl ?_;by_cases p3:x.2=[]
  ·refine Q3 (by rw[p3];rfl) ?_;refine Qo QG rfl ?_;have e0:au x ((fs.take i).map (·.1))=false:=by unfold au;rw[Zq p1,Zq p2,p3]<;>rfl
   refine loop Qa [47,6] (λs:Nat×Bool=>[.int .i64 s.1,.bool s.2]) (λs w'=>Ext w5 w'/\s.1<=x.1.length/\s.2=(au x ((fs.take i).map (·.1))||(x.1.take s.1).any badB)) (λs _=>x.1.length-s.1) (0,false) rfl ⟨Ext.refl _,Xr _,by rw[e0];simp⟩ ?_;rintro⟨k,b⟩ w6 ⟨Zw,hk,Vj⟩;simp only at hk Vj;have JP:=xm.ext Zw;have Q9:=QG.ext Zw;refine Qz (λc3=>?_) (λc3=>?_)
   ·have Jk:k<x.1.length:=by rw[aK] at c3;simp only at c3;omega
    obtain⟨y,hy⟩:∃y,x.1[k]? =some y:=⟨_,Xp Jk⟩
    have dt:(x.1.take (k+1)).any badB=((x.1.take k).any badB||badB y):=by
     rw[K9,hy];simp
    have fin:∀b',b'=(b||badB y)->b'=(au x ((fs.take i).map (·.1))||(x.1.take (k+1)).any badB):=λb' e=>by rw[e,Vj,dt,DZ]
    cases b with
    | true=>
     refine Q8 rfl ?_;refine Qi ((k+1:Nat):Int) (by show((k:Nat):Int)+1=_;omega) (by omega) ?_;exact⟨(k+1,true),rfl,⟨Zw,Jk,fin true rfl⟩,by show x.1.length-(k+1)<x.1.length-k;omega⟩
    | false=>
     have idx:∀K:Int->Prop,K (y:Int)->eu (Qd x.1) ((k:Nat):Int) K:=λK hK=>by
      refine dE (by rw[aK];exact Jk) (λz hz _=>?_);rw[WJ Ji.n8,hy] at hz;cases hz;exact hK
     refine Q3 rfl ?_;refine Qo Q9 rfl ?_;refine idx _ ?_;refine Qz (λd1=>?_) (λd1=>?_)
     ·refine Qi ((k+1:Nat):Int) (by show((k:Nat):Int)+1=_;omega) (by omega) ?_;exact⟨(k+1,true),rfl,⟨Zw,Jk,fin true (by
                                have:y<32:=by omega
                                simp[badB,this])⟩,by show x.1.length-(k+1)<x.1.length-k;omega⟩
     refine Qo Q9 rfl ?_;refine idx _ ?_;refine X3 (λd2=>?_) (λd2=>?_)
     ·refine Qi ((k+1:Nat):Int) (by show((k:Nat):Int)+1=_;omega) (by omega) ?_;exact⟨(k+1,true),rfl,⟨Zw,Jk,fin true (by
                                have:y=34:=by omega
                                simp[badB,this])⟩,by show x.1.length-(k+1)<x.1.length-k;omega⟩
     refine Qo Q9 rfl ?_;refine idx _ ?_;refine Qi ((k+1:Nat):Int) (by show((k:Nat):Int)+1=_;omega) (by omega) ?_;refine⟨(k+1,((y:Int)==127)),rfl,⟨Zw,Jk,fin _ ?_⟩,by show x.1.length-(k+1)<x.1.length-k;omega⟩;have n1:¬y<32:=by omega
     have n2:¬y=34:=by omega
     by_cases n3:y=127
     ·subst n3;rfl
     ·have:((y:Int)==127)=false:=by simp;omega
      rw[this];simp[badB,n1,n2,n3]
   ·have Jk:k=x.1.length:=by rw[aK] at c3;simp only at c3;omega
    subst Jk;rw[lR] at Vj;have hall:=Ax x ((fs.take i).map (·.1));have fx:fs.drop i=x::fs.drop (i+1):=by
     rw[W9 (by omega)];congr 1;exact Option.some.inj ((Xp (by omega)).symm.trans hx)
    have QJ:=JP.rs;rw[fx,cJ] at QJ;have Y9:=((Qh.ext hI.e).ext Yd).ext Zw;refine WI (λd1=>?_) (λd1=>?_)
    ·have d1:b=true:=d1;rw[Qf (hall.1 (by rw[<-Vj,d1]))] at QJ;refine Qv Y9 rfl (sc rfl) (λw7 ZB _ Q2=>?_);refine Qt Q2 rfl ?_;have Xf:Mod (·=w.heap.size) w6 w7:=nQQ ZB rfl;exact⟨by rw[<-QJ];rfl,Xf.ext (Qe.trans JP.e) (λi hi=>by omega)⟩
    have d1:b=false:=d1;have X0:=λhh=>(hall.2 hh).symm.trans (Vj.symm.trans d1)
    rw[if_neg (λhh=>by have:=X0 hh;cases this)] at QJ;refine Qo Q9 rfl ?_;refine Qz (λd2=>?_) (λd2=>?_)
    ·rw[Qf (by omega)] at QJ;refine Qv Y9 rfl (sc rfl) (λw7 ZB _ Q2=>?_);refine Qt Q2 rfl ?_;have Xf:Mod (·=w.heap.size) w6 w7:=nQQ ZB rfl;exact⟨by rw[<-QJ];rfl,Xf.ext (Qe.trans JP.e) (λi hi=>by omega)⟩
    rw[if_neg (by omega)] at QJ;refine Qo Q9 rfl ?_;have K2:=XS.ext Zw;refine j7 (kv:=VX) (a:=Qd x.1) Qa rfl rfl rfl rfl rfl nQR rfl rfl rfl K2 (λw7 ZB Wu Kc=>?_);have Xf:Mod (·=w1.heap.size) w6 w7:=nQQ ZB rfl;refine Qi ((i+1:Nat):Int) (by show((i:Nat):Int)+1=_;omega) (by omega) ?_;have Wd:(fs.take (i+1)).map (·.1)=(fs.take i).map (·.1)++ [x.1]:=by rw[K9,hx];simp
    refine⟨i+1,rfl,⟨Xf.ext JP.e (λi hi=>by omega),⟨_,Kc,λs hs=>?_⟩,by rw[Wd];exact QJ,by omega,QB _⟩,by show fs.length-(i+1)<fs.length-i;omega⟩;rw[aS,Wd];by_cases du:s=x.1
    ·subst du;simp
    ·rw[if_neg (λe=>du (J8 hs Ji.n8 e)),ru s hs];simp[du]
  ·have n3:¬Qd x.2=(⟨#[]⟩:ByteArray):=λe=>p3 (J8 Ji.t8 (by simp) e)
   refine Q8 (by simp[n3]) ?_;refine Qo QG rfl ?_;refine Qo QG rfl ?_;have Wc:=Ji.tl;have W6:0<x.2.length:=uP.2 p3;refine Qi ((x.2.length-1:Nat):Int) (by rw[gm];omega) (by omega) ?_;refine dE (j:=x.2.length-1) (by omega) (λz hz Yw=>?_);rw[WJ Ji.t8] at hz;have oC:x.2.getLast? =some z:=by rw[rL];exact hz
   refine Qo QG rfl ?_;have e0:au x ((fs.take i).map (·.1))=((z:Int) !=10):=by
    unfold au;rw[Zq p1,Zq p2,Zy p3,oC];by_cases XN:z=10
    ·subst XN;decide
    ·have e1:((z:Int) !=10)=true:=by simp;omega
     rw[e1];simp[XN]
   refine loop Qa [47,6] (λs:Nat×Bool=>[.int .i64 s.1,.bool s.2]) (λs w'=>Ext w5 w'/\s.1<=x.1.length/\s.2=(au x ((fs.take i).map (·.1))||(x.1.take s.1).any badB)) (λs _=>x.1.length-s.1) (0,((z:Int) !=10)) rfl ⟨Ext.refl _,Xr _,by rw[e0];simp⟩ ?_;rintro⟨k,b⟩ w6 ⟨Zw,hk,Vj⟩;simp only at hk Vj;have JP:=xm.ext Zw;have Q9:=QG.ext Zw;refine Qz (λc3=>?_) (λc3=>?_)
   ·have Jk:k<x.1.length:=by rw[aK] at c3;simp only at c3;omega
    obtain⟨y,hy⟩:∃y,x.1[k]? =some y:=⟨_,Xp Jk⟩
    have dt:(x.1.take (k+1)).any badB=((x.1.take k).any badB||badB y):=by
     rw[K9,hy];simp
    have fin:∀b',b'=(b||badB y)->b'=(au x ((fs.take i).map (·.1))||(x.1.take (k+1)).any badB):=λb' e=>by rw[e,Vj,dt,DZ]
    cases b with
    | true=>
     refine Q8 rfl ?_;refine Qi ((k+1:Nat):Int) (by show((k:Nat):Int)+1=_;omega) (by omega) ?_;exact⟨(k+1,true),rfl,⟨Zw,Jk,fin true rfl⟩,by show x.1.length-(k+1)<x.1.length-k;omega⟩
    | false=>
     have idx:∀K:Int->Prop,K (y:Int)->eu (Qd x.1) ((k:Nat):Int) K:=λK hK=>by
      refine dE (by rw[aK];exact Jk) (λz hz _=>?_);rw[WJ Ji.n8,hy] at hz;cases hz;exact hK
     refine Q3 rfl ?_;refine Qo Q9 rfl ?_;refine idx _ ?_;refine Qz (λd1=>?_) (λd1=>?_)
     ·refine Qi ((k+1:Nat):Int) (by show((k:Nat):Int)+1=_;omega) (by omega) ?_;exact⟨(k+1,true),rfl,⟨Zw,Jk,fin true (by
                                have:y<32:=by omega
                                simp[badB,this])⟩,by show x.1.length-(k+1)<x.1.length-k;omega⟩
     refine Qo Q9 rfl ?_;refine idx _ ?_;refine X3 (λd2=>?_) (λd2=>?_)
     ·refine Qi ((k+1:Nat):Int) (by show((k:Nat):Int)+1=_;omega) (by omega) ?_;exact⟨(k+1,true),rfl,⟨Zw,Jk,fin true (by
                                have:y=34:=by omega
                                simp[badB,this])⟩,by show x.1.length-(k+1)<x.1.length-k;omega⟩
     refine Qo Q9 rfl ?_;refine idx _ ?_;refine Qi ((k+1:Nat):Int) (by show((k:Nat):Int)+1=_;omega) (by omega) ?_;refine⟨(k+1,((y:Int)==127)),rfl,⟨Zw,Jk,fin _ ?_⟩,by show x.1.length-(k+1)<x.1.length-k;omega⟩;have n1:¬y<32:=by omega
     have n2:¬y=34:=by omega
     by_cases n3:y=127
     ·subst n3;rfl
     ·have:((y:Int)==127)=false:=by simp;omega
      rw[this];simp[badB,n1,n2,n3]
   ·have Jk:k=x.1.length:=by rw[aK] at c3;simp only at c3;omega
    subst Jk;rw[lR] at Vj;have hall:=Ax x ((fs.take i).map (·.1));have fx:fs.drop i=x::fs.drop (i+1):=by
     rw[W9 (by omega)];congr 1;exact Option.some.inj ((Xp (by omega)).symm.trans hx)
    have QJ:=JP.rs;rw[fx,cJ] at QJ;have Y9:=((Qh.ext hI.e).ext Yd).ext Zw;refine WI (λd1=>?_) (λd1=>?_)
    ·have d1:b=true:=d1;rw[Qf (hall.1 (by rw[<-Vj,d1]))] at QJ;refine Qv Y9 rfl (sc rfl) (λw7 ZB _ Q2=>?_);refine Qt Q2 rfl ?_;have Xf:Mod (·=w.heap.size) w6 w7:=nQQ ZB rfl;exact⟨by rw[<-QJ];rfl,Xf.ext (Qe.trans JP.e) (λi hi=>by omega)⟩
    have d1:b=false:=d1;have X0:=λhh=>(hall.2 hh).symm.trans (Vj.symm.trans d1)
    rw[if_neg (λhh=>by have:=X0 hh;cases this)] at QJ;refine Qo Q9 rfl ?_;refine Qz (λd2=>?_) (λd2=>?_)
    ·rw[Qf (by omega)] at QJ;refine Qv Y9 rfl (sc rfl) (λw7 ZB _ Q2=>?_);refine Qt Q2 rfl ?_;have Xf:Mod (·=w.heap.size) w6 w7:=nQQ ZB rfl;exact⟨by rw[<-QJ];rfl,Xf.ext (Qe.trans JP.e) (λi hi=>by omega)⟩
    rw[if_neg (by omega)] at QJ;refine Qo Q9 rfl ?_;have K2:=XS.ext Zw;refine j7 (kv:=VX) (a:=Qd x.1) Qa rfl rfl rfl rfl rfl nQR rfl rfl rfl K2 (λw7 ZB Wu Kc=>?_);have Xf:Mod (·=w1.heap.size) w6 w7:=nQQ ZB rfl;refine Qi ((i+1:Nat):Int) (by show((i:Nat):Int)+1=_;omega) (by omega) ?_;have Wd:(fs.take (i+1)).map (·.1)=(fs.take i).map (·.1)++ [x.1]:=by rw[K9,hx];simp
    refine⟨i+1,rfl,⟨Xf.ext JP.e (λi hi=>by omega),⟨_,Kc,λs hs=>?_⟩,by rw[Wd];exact QJ,by omega,QB _⟩,by show fs.length-(i+1)<fs.length-i;omega⟩;rw[aS,Wd];by_cases du:s=x.1
    ·subst du;simp
    ·rw[if_neg (λe=>du (J8 hs Ji.n8 e)),ru s hs];simp[du]
 ·have hi:i=fs.length:=by have:=hI.le;omega
  have QJ:=hI.rs;rw[hi,D3,cJ] at QJ;refine Qv (Qh.ext hI.e) rfl (sc rfl) (λw4 cT _ Q7=>?_);refine Qt Q7 rfl ?_;have KH:Mod (·=w.heap.size) w3 w4:=nQQ cT rfl;exact⟨by rw[<-QJ];rfl,KH.ext QX (λi hi=>by omega)⟩
end
section
theorem sY {P:Program}{ops:Array Oper}{rest:List Nat}{i:Nat}{o:Oper}{Q:Exit->Act->List Frame->World->Prop}{a:Act}{cs cs':List Frame}{w:World}{v:Value}{d:Nat}(hi:ops[i]? =some o)(h1:o.op= .call ⟨.builtin .recover, #[], #[]⟩)(hd:o.dst=some d)(hg:o.guard=none)
  (LQ:recoverD cs=some (v,cs')∨(recoverD cs=none/\v= .nilIface/\cs'=cs)) (h:wpOpsS P ops Q rest (a.put (some d) v) cs' w):wpOpsS P ops Q (i::rest) a cs w:=by
 have e1:(execOp a.eval o).run P w= .ok .recover w:=by
  simp only[execOp,h1,resolve,invoke,builtin];simp
 unfold wpOpsS;rw[hi];simp only;rw[Qf (by simp[Region.wanted,hg]),e1,hd];rcases LQ with hr | ⟨hr,rfl,rfl⟩
 ·simp only[hr];exact h
 ·simp only[hr];exact h
theorem Jy {c:Cx}(hg:c.g.Ok){P:Program}(hP:c.g.P=P){ops:Array Oper}{rest:List Nat}{i:Nat}{o:Oper}{Q:Exit->Act->List Frame->World->Prop}{a:Act}{cs:List Frame}{w:World}{S:Env}{K:Env->World->Prop}(hi:ops[i]? =some o)(Kz:o.guard=none)(hf:Fits c.N S a)
  (h:dz c o S w K (λ_ _ _=>False)) (hk:∀S' a' w',Fits c.N S' a'->K S' w'->wpOpsS P ops Q rest a' cs w'):wpOpsS P ops Q (i::rest) a cs w:=by
 subst hP;have h1:=pq hg h hf;unfold wpOpsS;rw[hi];simp only;rw[Qf (by simp[Region.wanted,Kz])];have h2:=Oper.wp_mono (K':=λa' w'=>wpOpsS c.g.P ops Q rest a' cs w') (λa' w' ⟨S',QW,hK⟩=>hk _ _ _ QW hK) h1;unfold Oper.wp at h2;generalize (execOp a.eval o).run c.g.P w=r at*;cases r with
 | ok n w'=>
  cases n<;>simp only[Oper.upon] at h2 ⊢ <;> first | exact h2 | exact h2.elim | skip
  exact h2.mono λe KT he=>by
   cases e with
   | returned v=>exact he
   | panicked ch=>obtain⟨_,_,he⟩:=he;exact he.elim
   | outgrown=>obtain⟨_,_,_,_,he⟩:=he;exact he.elim
 | halt x w'=>cases x<;>simp only[Oper.upon] at h2 ⊢ <;> first | exact h2 | (obtain⟨_,_,h2⟩:=h2;exact h2.elim) | (obtain⟨_,_,_,_,h2⟩:=h2;exact h2.elim)
theorem gQf {c:Cx}{o:Oper}{S:Env}{w:World}{K:Env->World->Prop}{Q:Zg}{x:Operand}{tx t:Nat}{fs:Array Field}{v:Value}{r:TyRow}(hg:c.g.Ok)(ho:o.op= .typeAssert x tx t true)(hr:QT c.g.tys t=some r)(hd:r.d= .struct fs)(hx:S.ev x=some (.iface t v))
  (kk:Xd c S o.dst (.v (.tuple #[v,.bool true])) (λS=>K S w)):X8 c o S w K Q:=by
 have Q0:=(hg.row hr).1;rw[hd] at Q0;refine Jx (w':=w) (v:=.tuple #[v,.bool true]) (λa hf=>?_) kk;have e1:=hf.ev hx;simp only[execOp,ho,e1];simp[Instr.typeAssert,ZU Q0]
theorem gQg {c:Cx}{o:Oper}{S:Env}{w:World}{K:Env->World->Prop}{Q:Zg}{x:Operand}{tx t:Nat}{fs:Array Field}{r:TyRow}(hg:c.g.Ok)(ho:o.op= .typeAssert x tx t true)(hr:QT c.g.tys t=some r)(hd:r.d= .struct fs)(hx:S.ev x=some .nilIface)
  (kk:Xd c S o.dst (.v (.tuple #[r.z,.bool false])) (λS=>K S w)):X8 c o S w K Q:=by
 obtain⟨Q0,i,hi,_,_,hz⟩:=hg.row hr;rw[hd] at Q0;refine Jx (w':=w) (v:=.tuple #[r.z,.bool false]) (λa hf=>?_) kk;have e1:=hf.ev hx;simp only[execOp,ho,e1];simp[Instr.typeAssert,ZU Q0,zeroValue,typeInfo,hi,hz]
def gQh (f e:Nat)(q:Pl)(w w':World):Prop:=Blk w' f 41 [.string (Qd []),.slice none 0 0]/\Blk w' e 93 (mG q)/\Mod (λi=>i=f∨i=e) w w'
theorem gQi (f e:Nat)(q:Pl)(w:World)(UL UM:List Value)(XE:UL.length=2)(JZ:UM.length=3)(QU:f≠e)(hf:Blk w f 41 UL)(he:Blk w e 93 UM):
  CallsD Tryz.prog 91 #[.pointer (some ⟨f,0,none⟩),.pointer (some ⟨e,0,none⟩)] (.panicking (fY q.e q.f q.l)) w
   (λen u' w'=>∃v,en= .returned v/\settle u'= .returning/\gQh f e q w w'):=by
 refine callsD_of_wpS Tryz.func91 rfl λc₀ cs hu=>?_
 have J5:=fN (N:=Tryz.f91.ntmps) [.pointer (some ⟨f,0,none⟩),.pointer (some ⟨e,0,none⟩)] (gD rfl) [(0,.v (.pointer (some ⟨f,0,none⟩))),(1,.v (.pointer (some ⟨e,0,none⟩)))] (by
  intro k x hk
  match k,hk with
  | 0,hk=>cases hk;rfl
  | 1,hk=>cases hk;rfl
  | k+2,hk=>exact nomatch (show(none:Option Ent)=some x from hk))
 have J0:=J5.put (d:=5) (by decide) (.v (.iface 160 (.agg #[.int .i64 q.e,.int .i64 q.f,.int .i64 q.l])));refine wpS_seq (wpS_region ?_);show wpOpsS _ _ _ [0,1,2,3,4,5,6,7] _ _ _;refine sY (o:=_) (cs':={c₀ with mode:=.panicking [{v:=.iface 160 (.agg #[.int .i64 q.e,.int .i64 q.f,.int .i64 q.l]),recovered:=true}]}::cs) (v:=.iface 160 (.agg #[.int .i64 q.e,.int .i64 q.f,.int .i64 q.l])) (d:=5) rfl rfl rfl rfl (.inl (by simp[recoverD,hu,fY])) ?_;generalize bC:Act.put _ (some 5) _=act;have iu:Fits ae.N [(5,.v (.iface 160 (.agg #[.int .i64 q.e,.int .i64 q.f,.int .i64 q.l]))),(0,.v (.pointer (some ⟨f,0,none⟩))),(1,.v (.pointer (some ⟨e,0,none⟩)))] act:=by rw[<-bC];exact J0
 clear bC J0 J5;generalize Zx: #[_,_,_,_,_,_,_,_]=xo;have h1:=(QC (λ(x:Array Oper)=>x[1]?) Zx).symm;have h2:=(QC (λ(x:Array Oper)=>x[2]?) Zx).symm;have h3:=(QC (λ(x:Array Oper)=>x[3]?) Zx).symm;have h4:=(QC (λ(x:Array Oper)=>x[4]?) Zx).symm;have h5:=(QC (λ(x:Array Oper)=>x[5]?) Zx).symm;have h6:=(QC (λ(x:Array Oper)=>x[6]?) Zx).symm;have h7:=(QC (λ(x:Array Oper)=>x[7]?) Zx).symm;clear Zx;refine Jy (c:=ae) Qa rfl h1 rfl iu (K:=λS' w'=>S'=[(6,Ent.v (.tuple #[.agg #[.int .i64 q.e,.int .i64 q.f,.int .i64 q.l],.bool true])),(5,.v (.iface 160 (.agg #[.int .i64 q.e,.int .i64 q.f,.int .i64 q.l]))),(0,.v (.pointer (some ⟨f,0,none⟩))),(1,.v (.pointer (some ⟨e,0,none⟩)))]/\w=w') (gQf Qa rfl rfl rfl rfl ⟨rfl,rfl⟩) ?_;rintro _ a1 _ Zf ⟨rfl,rfl⟩;refine Jy (c:=ae) Qa rfl h2 rfl Zf (K:=λS' w'=>S'=_/\w=w') ⟨rfl,rfl⟩ ?_;rintro _ a2 _ ZR ⟨rfl,rfl⟩;refine Jy (c:=ae) Qa rfl h3 rfl ZR (K:=λS' w'=>S'=_/\w=w') ⟨rfl,rfl⟩ ?_;rintro _ a3 _ iv ⟨rfl,rfl⟩;refine Jy (c:=ae) Qa rfl h4 rfl iv (K:=λS' w'=>S'=_/\w=w') ⟨rfl,rfl⟩ ?_;rintro _ a4 _ iw ⟨rfl,rfl⟩;refine Jy (c:=ae) Qa rfl h5 rfl iw (K:=λS' w'=>S'=(2,.v (.pointer (some ⟨w.heap.size,0,none⟩)))::_/\Ext w w'/\w'.heap.size=w.heap.size+1/\∃ps:List Value,Blk w' w.heap.size 160 ps/\ps.length=3) (new (λw1 Qe Q4 Qh=>⟨rfl,Qe,Q4,_,Qh,rfl⟩)) ?_;rintro _ a5 w5 J0 ⟨rfl,Qw,KP,ps,QG,ci⟩;refine Jy (c:=ae) Qa rfl h6 rfl J0 (K:=λS' w'=>S'=_/\Ext w w'/\w.heap.size+1<=w'.heap.size/\Blk w' w.heap.size 160 (mG q)) (Qv QG (by rw[ci];rfl) (sc rfl) (λw6 Y4 dX Q9=>⟨rfl,X9 Qw QG Y4,by omega,Q9⟩)) ?_;rintro _ a6 w6 bV ⟨rfl,QO,dX,Q9⟩;refine Jy (c:=ae) Qa rfl h7 rfl bV (K:=λS' w'=>S'=_/\w6=w') ⟨rfl,rfl⟩ ?_;rintro _ a7 _ Im ⟨rfl,rfl⟩;unfold wpOpsS;refine mf (c:=ae) Qa rfl Im ?_;refine Q8 rfl ?_;have nf:f≠w.heap.size:=λe=>by have:=hf.lt;omega
 have ne:e≠w.heap.size:=λe=>by have:=he.lt;omega
 have kQM:=hf.ext QO;have kQN:=he.ext QO;refine XK Qa (λw'=>Mod (λi=>i=f∨i=e) w6 w') 5 [(true,0),(true,1),(true,2),(false,3),(false,4)] (by kernel_rfl) (Mod.of_ext _ (Ext.drew w6)) ?_;refine Xs (vs:=mG q) rfl (λw' Qb j u hj=>by rw[add_add,(Q9.mod Qb (λhh=>hh.elim (λe=>nf e.symm) (λe=>ne e.symm))).cell];simpa using hj) ?_;have hd:=Ext.drew w6;refine Qv (kQM.ext hd) (by rw[XE];rfl) (sc rfl) (λw8 Y5 _ Xw=>?_);have ZL:Mod (·=f) w6.drew w8:=nQQ Y5 rfl;have xp:Mod (λi=>i=f∨i=e) w6 w8:=(Mod.of_ext _ hd).trans ZL (λi hi=>.inl (.inl hi));refine⟨xp,?_⟩;refine Qv ((kQN.ext hd).mod ZL (λhh=>QU hh.symm)) (by rw[JZ];rfl) (sc rfl) (λw9 eZ _ JD=>?_);have Zj:Mod (·=e) w8 w9:=nQQ eZ rfl;have UN:Mod (λi=>i=f∨i=e) w6 w9:=xp.trans Zj (λi hi=>.inl (.inr hi));refine⟨UN,?_⟩;exact⟨_,rfl,rfl,Xw.mod Zj QU,JD,(Mod.of_ext _ QO).trans UN (λi hi=>.inl hi)⟩
theorem gQj (f e:Nat)(w:World):
  CallsD Tryz.prog 91 #[.pointer (some ⟨f,0,none⟩),.pointer (some ⟨e,0,none⟩)] .returning w
   (λen u' w'=>∃v,en= .returned v/\settle u'= .returning/\Ext w w'):=by
 refine callsD_of_wpS Tryz.func91 rfl λc₀ cs hu=>?_
 have J5:=fN (N:=Tryz.f91.ntmps) [.pointer (some ⟨f,0,none⟩),.pointer (some ⟨e,0,none⟩)] (gD rfl) [(0,.v (.pointer (some ⟨f,0,none⟩))),(1,.v (.pointer (some ⟨e,0,none⟩)))] (by
  intro k x hk
  match k,hk with
  | 0,hk=>cases hk;rfl
  | 1,hk=>cases hk;rfl
  | k+2,hk=>exact nomatch (show(none:Option Ent)=some x from hk))
 have J0:=J5.put (d:=5) (by decide) (.v .nilIface);refine wpS_seq (wpS_region ?_);show wpOpsS _ _ _ [0,1,2,3,4,5,6,7] _ _ _;refine sY (o:=_) (cs':={c₀ with mode:=.returning}::cs) (v:=.nilIface) (d:=5) rfl rfl rfl rfl (.inr ⟨by simp[recoverD,hu],rfl,by rw[<-hu]⟩) ?_;generalize bC:Act.put _ (some 5) _=act;have iu:Fits ae.N [(5,.v .nilIface),(0,.v (.pointer (some ⟨f,0,none⟩))),(1,.v (.pointer (some ⟨e,0,none⟩)))] act:=by rw[<-bC];exact J0
 clear bC J0 J5;generalize Zx: #[_,_,_,_,_,_,_,_]=xo;have h1:=(QC (λ(x:Array Oper)=>x[1]?) Zx).symm;have h2:=(QC (λ(x:Array Oper)=>x[2]?) Zx).symm;have h3:=(QC (λ(x:Array Oper)=>x[3]?) Zx).symm;have h4:=(QC (λ(x:Array Oper)=>x[4]?) Zx).symm;have h5:=(QC (λ(x:Array Oper)=>x[5]?) Zx).symm;have h6:=(QC (λ(x:Array Oper)=>x[6]?) Zx).symm;have h7:=(QC (λ(x:Array Oper)=>x[7]?) Zx).symm;clear Zx;refine Jy (c:=ae) Qa rfl h1 rfl iu (K:=λS' w'=>S'=_/\w=w') (gQg Qa rfl rfl rfl rfl ⟨rfl,rfl⟩) ?_;rintro _ a1 _ Zf ⟨rfl,rfl⟩;refine Jy (c:=ae) Qa rfl h2 rfl Zf (K:=λS' w'=>S'=_/\w=w') ⟨rfl,rfl⟩ ?_;rintro _ a2 _ ZR ⟨rfl,rfl⟩;refine Jy (c:=ae) Qa rfl h3 rfl ZR (K:=λS' w'=>S'=_/\w=w') ⟨rfl,rfl⟩ ?_;rintro _ a3 _ iv ⟨rfl,rfl⟩;refine Jy (c:=ae) Qa rfl h4 rfl iv (K:=λS' w'=>S'=_/\w=w') ⟨rfl,rfl⟩ ?_;rintro _ a4 _ iw ⟨rfl,rfl⟩;refine Jy (c:=ae) Qa rfl h5 rfl iw (K:=λS' w'=>S'=(2,.v (.pointer (some ⟨w.heap.size,0,none⟩)))::_/\Ext w w'/\w'.heap.size=w.heap.size+1/\∃ps:List Value,Blk w' w.heap.size 160 ps/\ps.length=3) (new (λw1 Qe Q4 Qh=>⟨rfl,Qe,Q4,_,Qh,rfl⟩)) ?_;rintro _ a5 w5 J0 ⟨rfl,Qw,KP,ps,QG,ci⟩;refine Jy (c:=ae) Qa rfl h6 rfl J0 (K:=λS' w'=>S'=_/\Ext w w') (Qv QG (by rw[ci];rfl) (sc rfl) (λw6 Y4 dX Q9=>⟨rfl,X9 Qw QG Y4⟩)) ?_;rintro _ a6 w6 bV ⟨rfl,QO⟩;refine Jy (c:=ae) Qa rfl h7 rfl bV (K:=λS' w'=>S'=_/\w6=w') ⟨rfl,rfl⟩ ?_;rintro _ a7 _ Im ⟨rfl,rfl⟩;unfold wpOpsS;refine mf (c:=ae) Qa rfl Im ?_;refine Q3 rfl ?_;exact⟨_,rfl,rfl,QO⟩
end
section
theorem gQk {nm:List (List Nat)}(hb:Ku nm):(dI nm Wn).2=if ZF nm then 0 else 1:=by
 by_cases h:ZF nm=true
 ·rw[Qf h,show Wn=ZP nm 0 (.c true) from rfl,eQW h (eQX hb h) (.c true) trivial (by decide)]
 ·rw[if_neg h];unfold dI;rw[if_neg h]
structure SgIn (w:World) (k:Nat) (A:Option Addr) (n c:Nat) (sg:List Sg) (L:List DV):Prop where
 sl:Sl w 6 A n c (cM sg L)
 n:sg.length=n
 len:L.length=sg.length
 dg:∀(j:Nat) (s:Sg) (x:DV),sg[j]? =some s->L[j]? =some x->SB w x.A x.n x.c x.nd/\Set1 k x.nd x.r s.o
theorem SgIn.ext {w w':World}{k:Nat}{A:Option Addr}{n c:Nat}{sg:List Sg}{L:List DV}(h:SgIn w k A n c sg L)(hE:Ext w w'):SgIn w' k A n c sg L:=⟨h.sl.ext hE,h.n,h.len,λj s x h1 h2=>⟨(h.dg j s x h1 h2).1.ext hE,(h.dg j s x h1 h2).2⟩⟩
structure GsOk (g:Gs):Prop where
 b8:∀x∈g.tx,x<256
 tl:g.tx.length<=1048576
 sl:g.sg.length<=65536
abbrev Ru (tx:List Nat)(A:Option Addr)(n c:Nat):Value:=.agg #[.string (Qd tx),.slice A n c]
def gQl (k:Nat)(w:World)(r:Except Pl Gs)(u:Value)(w':World):Prop:=Ext w w'/\match r with
 | .error q=>u= .tuple #[Ru [] none 0 0,.agg (mG q).toArray]
 | .ok g=>GsOk g/\∃A c L,u= .tuple #[Ru g.tx A g.sg.length c,.agg (mG ⟨0,0,0⟩).toArray]/\SgIn w' k A g.sg.length c g.sg L
theorem Rv:∀(l:List (List Nat×List Nat))(seen:List (List Nat))(i:Nat)(q:Pl),cJ l seen i=some q->q.e≠0
 | [],_,_,_,h=>by cases h
 | x::l,seen,i,q,h=>by
  unfold cJ at h;split at h
  ·cases h;exact(by decide:(70:Int)≠0)
  split at h
  ·cases h;exact(by decide:(2:Int)≠0)
  ·exact Rv l _ _ q h
theorem Rw {fs:List (List Nat×List Nat)}{q:Pl}(h:YJ fs=some q):q.e≠0:=by
 unfold YJ at h;split at h
 ·cases h;decide
 ·exact Rv _ _ _ _ h
theorem Ay:∀(l:List (List Nat×List Nat))(seen:List (List Nat))(i:Nat),cJ l seen i=none->∀x∈l,mA x.1=true/\aX x.2=true/\x.2.length<=1048576
 | [],_,_,_,x,hx=>by cases hx
 | y::l,seen,i,h,x,hx=>by
  unfold cJ at h;split at h
  ·cases h
  split at h
  ·cases h
  ·rename_i h1 h2;have h1:=Decidable.not_not.1 h1;rcases Q1.1 hx with rfl | hx
   ·exact⟨h1.1,h1.2.2,by omega⟩
   ·exact Ay l _ _ h x hx
theorem mH {l:List Nat}(h:aX l=true):Wt l:=by
 unfold aX at h;rw[Bool.or_eq_true] at h;rcases h with h | h
 ·exact .inl (aQ h)
 ·exact .inr (by simpa using h)
theorem gQm {fs:List (List Nat×List Nat)}(h:YJ fs=none)(hb:∀x∈fs,FileB x):fs.length<=256/\∀x∈fs,FileOk x:=by
 unfold YJ at h;split at h
 ·cases h
 ·rename_i hl;refine⟨by omega,λx hx=>?_⟩;obtain⟨h1,h2,h3⟩:=Ay _ _ _ h x hx;have lF:=hb x hx;exact⟨lF.n8,lF.t8,lF.nl,h3,mH h2⟩
theorem gQn {w7 w':World}{nq:Nat}{m:List (ByteArray×Value)}(h:w7.heap.size=nq+1)(hm:Mod (·=nq) w7 w')(hq:MapAt VX w' nq m):∃w0,Ext w0 w'/\w0.heap.size=nq+1/\MapAt VX w0 nq m/\∀w,Ext w w7->w.heap.size<=nq->Ext w w0:=by
 obtain⟨bs,ck,hl,hb⟩:=hq.ex;refine⟨{w7 with heap:=w7.heap.setIfInBounds nq (.map (XV VX m bs).toArray ck)},⟨hm.os,hm.tape,hm.output,?_,λi hi _=>?_⟩,by simp[h],⟨bs,ck,hl,?_⟩,λw hE Zz=>⟨hE.os,hE.tape,hE.output,?_,λi hi hn=>?_⟩⟩
 ·simpa using hm.size
 ·simp only[Array.size_setIfInBounds] at hi;simp only[DQ];by_cases e:nq=i
  ·subst e;rw[Qf rfl,Qf (by omega),hb]
  ·rw[if_neg e];exact hm.block i hi (λe2=>e e2.symm)
 ·simp[h]
 ·simpa using hE.size
 ·simp only[DQ];rw[if_neg (by omega)];exact hE.block i hi hn
theorem Rx (nm:List (List Nat))(NA:Option Addr)(nn nc:Nat)(fs:List (List Nat×List Nat))(FA:Option Addr)(nf cf:Nat)(root:List Nat)(w:World)(hN:Sl w 1 NA nn nc (XB nm))(VR:Ku nm)(hk:nm.length<=12)(hF:SlS cL 2 w FA nf cf fs)(Dw:∀x∈fs,FileB x)(hnf:nf<=1000000000000)(d4:∀x∈root,x<256):
  Fn Tryz.prog 43 [.slice NA nn nc,.slice FA nf cf,.string (Qd root)] w (gQl nm.length w (V5 nm fs root)):=by
 refine vq (c:={c43 with cuts:=[]}) Qa Tryz.func43 rfl rfl rfl ?_;refine ZN (ZA Qa ?_);refine new (λw1 Qe Q4 Qh=>?_);refine new (λw2 Qg Zb Qx=>?_);have Q5:=Qe.trans Qg;refine ZN (ZA Qa ?_);refine call (OH nm NA nn nc Wn w2 (hN.ext Q5) VR (by decide) (by decide)) ?_;rintro _ w3 ⟨G,mg,cG,rfl,Qj,hG⟩;have QX:=Q5.trans Qj;have Dx:=(Qh.ext Qg).ext Qj;have hBp:=Qx.ext Qj;have QU:w1.heap.size≠w.heap.size:=by omega
 have iB:=gQk VR;have WA:V5 nm fs root=if ZF nm=false then .error ⟨30, -1,0⟩else match YJ fs with
  | some p=>.error p
  | none=>match Jd (fs.map (·.1)) root with
   | none=>.error ⟨73, -1,0⟩
   | some n=>WN nm fs 65 [] 0 n (λ_=>true) ⟨[],[],false⟩:=rfl
 rw[iB];cases X0:ZF nm with
 | false=>
  rw[Qf X0] at WA;refine rV (by decide) ?_;refine Qv Dx rfl (sc rfl) (λw4 cT _ Q7=>?_);have KH:Mod (·=w.heap.size) w3 w4:=nQQ cT rfl;refine Qv (hBp.mod KH QU) rfl (sc rfl) (λw5 JH _ QG=>?_);have Je:Mod (·=w1.heap.size) w4 w5:=nQQ JH rfl;refine ja Qa rfl (.inl rfl) ?_;refine Qt (Q7.mod Je QU.symm) rfl ?_;refine Qt QG rfl ?_;rw[WA];exact⟨Je.ext (KH.ext QX (λi hi=>by omega)) (λi hi=>by omega),rfl⟩
 | true=>
  rw[if_neg (by rw[X0];decide)] at WA;refine ac rfl ?_;refine ZN (ZA Qa ?_);refine call (gQe fs FA nf cf w3 (hF.ext QX) Dw hnf) ?_;rintro _ w4 ⟨rfl,Qs⟩;refine new (λw5 Qw KP QG=>?_);refine Qv QG rfl (sc rfl) (λw6 Y4 _ Q9=>?_);have XF:Ext w4 w6:=X9 Qw QG Y4;have bt:=Qs.trans XF;have XR:=QX.trans bt;have UO:=Dx.ext bt;have UP:=hBp.ext bt;refine Qo Q9 rfl ?_;cases KL:YJ fs with
  | some q=>
   rw[KL] at WA Q9;refine rV (Rw KL) ?_;have n4:¬w4.heap.size=w.heap.size:=by have:=Qj.size;have:=Qs.size;omega
   have n41:¬w4.heap.size=w1.heap.size:=by have:=Qs.size;have:=Qj.size;omega
   have hd:=Ext.drew w6;refine XK Qa (λw'=>Mod (λi=>i=w.heap.size∨i=w1.heap.size) w6 w') 4 [(true,0),(true,1),(false,2),(false,3)] (by kernel_rfl) (Mod.of_ext _ hd) ?_;refine Xs (vs:=mG q) rfl (λw' Qb j u hj=>by rw[(Q9.mod Qb (λhh=>hh.elim n4 n41)).cell];exact hj) ?_;refine Qv (UO.ext hd) rfl (sc rfl) (λw7 ZB _ Q2=>?_);have Xf:Mod (·=w.heap.size) w6.drew w7:=nQQ ZB rfl;have UQ:Mod (λi=>i=w.heap.size∨i=w1.heap.size) w6 w7:=(Mod.of_ext _ hd).trans Xf (λi hi=>.inl (.inl hi));refine⟨UQ,?_⟩;refine Qv ((UP.ext hd).mod Xf QU) rfl (sc rfl) (λw8 Y5 _ Xw=>?_);have ZL:Mod (·=w1.heap.size) w7 w8:=nQQ Y5 rfl;have xp:=UQ.trans ZL (λi hi=>.inl (.inr hi));refine⟨xp,?_⟩;refine ja Qa rfl (.inl rfl) ?_;refine Qt (Q2.mod ZL QU.symm) rfl ?_;refine Qt Xw rfl ?_;rw[WA];exact⟨xp.ext XR (λi hi=>by rcases hi with rfl | rfl<;>omega),rfl⟩
  | none=>
  rw[KL] at WA;refine ac rfl ?_;obtain⟨ZT,yq⟩:=gQm KL Dw;have QY:=hF.2;refine ZN (ZA Qa ?_);refine vi Qa VX rfl (λw7 Xb Wu Kc=>?_);refine vi Qa aV rfl (λw8 Xl Yw JB=>?_);refine new (λw9 Xt eT JD=>?_);have VO:=Xl.trans Xt;have nG:=Xb.trans VO;have UR:=XR.trans nG;have BO:=JB.ext Xt;have G9:=Kc.ext VO;have Mb:Ku (fs.map (·.1)):=λs hs=>by
   obtain⟨x,hx,rfl⟩:=X7.1 hs;exact⟨(Dw x hx).n8,(Dw x hx).nl⟩
  have nrq:¬w8.heap.size=w6.heap.size:=by omega
  refine ZN (ZA Qa ?_);refine loop Qa [40] (λi:Nat=>[.int .i64 i]) (λi w'=>Mod (·=w6.heap.size) w9 w'/\MapAt VX w' w6.heap.size (YG ((fs.map (·.1)).take i) 0 [])/\i<=fs.length) (λi _=>fs.length-i) 0 rfl ⟨Mod.refl _ _,G9,Xr _⟩ ?_;rintro i Qy ⟨Zo,Ju,mQT⟩;refine Qz (λc2=>?_) (λc2=>?_)
  ·have hi:i<nf:=by omega
   have nH:Ext w Qy:=Zo.ext UR (λi hi=>by have:=XR.size;omega);refine Zv FH (hF.ext nH) rfl hi (λpp x hx hc=>?_);refine Kn (vs:=cL x) rfl hc ?_;refine new (λQH Z9 tL Z8=>?_);refine Qv Z8 rfl (sc rfl) (λXa qp _ Vh=>?_);have tP:Ext Qy Xa:=X9 Z9 Z8 qp;have hd:=Ext.drew Xa;have hBr:=((JD.mod Zo nrq).ext tP).ext hd;refine pu Qa 7 (by kernel_rfl) ?_;refine QK (v:=.map (some w6.heap.size)) (λw' Qb=>by subst Qb;rw[hBr.cell];rfl) ?_;refine QK (v:=.string (Qd x.1)) (λw' Qb=>by subst Qb;rw[(Vh.ext hd).cell];rfl) ?_;refine j7 (kv:=VX) (a:=Qd x.1) Qa rfl rfl rfl rfl rfl nQR rfl rfl rfl ((Ju.ext tP).ext hd) (λX6 wZ H9 ce=>?_);have Kj:Mod (·=w6.heap.size) Xa.drew X6:=nQQ wZ rfl;refine Qi ((i+1:Nat):Int) (by show((i:Nat):Int)+1=_;omega) (by omega) ?_;refine⟨i+1,rfl,⟨(Zo.trans (Mod.of_ext (·=w6.heap.size) (tP.trans hd)) (λi hi=>.inl hi)).trans Kj (λi hi=>.inl hi),?_,by omega⟩,by show fs.length-(i+1)<fs.length-i;omega⟩;rw[Ow (s:=x.1) (by rw[aL,hx];rfl)];exact ce
  have Dy:i=fs.length:=by omega
  rw[Dy,Jc (by simp)] at Ju;have WY:Mod (·=w6.heap.size) w7 Qy:=(Mod.of_ext _ VO).trans Zo (λi hi=>.inl hi);obtain⟨w0,tC,hws,hwm,hwe⟩:=gQn Wu WY Ju;have US:=JD.mod Zo nrq;have W5:=ET Mb root d4;have nr6:¬w.heap.size=w6.heap.size:=by have:=bt.size;have:=Qj.size;omega
  have kQO:¬w1.heap.size=w6.heap.size:=by have:=bt.size;have:=Qj.size;omega
  have UT:=(UO.ext nG).mod Zo nr6;have UU:=(UP.ext nG).mod Zo kQO;have nH:Ext w Qy:=Zo.ext UR (λi hi=>by have:=XR.size;omega);refine ZN (ZA Qa ?_);refine Qo US rfl ?_;refine vn (kv:=VX) (a:=Qd root) (v:=.int .i64 ((Jd (fs.map (·.1)) root).getD 0:Nat)) (b:=(Jd (fs.map (·.1)) root).isSome) Qa rfl rfl rfl rfl rfl nQR rfl rfl Ju (by rw[W5];cases Jd (fs.map (·.1)) root<;>rfl) (by rw[W5];cases Jd (fs.map (·.1)) root<;>rfl) ?_;refine ZN (ZA Qa ?_);cases Kr:Jd (fs.map (·.1)) root with
  | none=>
   rw[Kr] at WA;refine Q8 rfl ?_;refine Qv UT rfl (sc rfl) (λQH xk _ Z8=>?_);have Z2:Mod (·=w.heap.size) Qy QH:=nQQ xk rfl;refine Qv (UU.mod Z2 QU) rfl (sc rfl) (λXa qp _ Vh=>?_);have Vs:Mod (·=w1.heap.size) QH Xa:=nQQ qp rfl;refine ja Qa rfl (.inl rfl) ?_;refine Qt (Z8.mod Vs QU.symm) rfl ?_;refine Qt Vh rfl ?_;rw[WA];exact⟨Vs.ext (Z2.ext nH (λi hi=>by omega)) (λi hi=>by omega),rfl⟩
  | some n=>
  rw[Kr] at WA;simp only at WA;refine Q3 rfl ?_;have Kl:n<fs.length:=by have:=kA Kr;simpa using this
  refine ZN (vp Qa rfl rfl rfl rfl ⟨_,_,_,_,rfl,rfl,?_⟩);refine ZN (ZA Qa ?_);refine call (cK true Qy) ?_;rintro _ QH ⟨rfl,Z9⟩
  let p:RP:=⟨w8.heap.size,w7.heap.size,w6.heap.size,NA,nn,nc,nm,FA,nf,cf,fs⟩
  let m:RM:=⟨none,0,none,0,[],.pointer none,λi=>i=w.heap.size∨i=w1.heap.size⟩
  let v:RV:=⟨0,0,0,[],⟨[],[],false⟩⟩
  have kQP:Ext w6 w0:=hwe w6 Xb (QB _);have UV:Ext w w0:=XR.trans kQP;have hP:RPok w0 p:=⟨hN.ext UV,VR,hk,hF.ext UV,yq,hwm⟩
  have tL:=Z9.size;have kQv:=Zo.size;have ZS:Rr w0 QH QH.heap.size p m v:=by
   refine⟨tC.trans Z9,?_,?_,?_,?_,?_,QB _,.inl rfl,US.ext Z9,Own.nil _ _ _ _,Own.nil _ _ _ _,rfl,(λj s x hs=>by simp[v] at hs),?_,(Xr _),(Xr _),(λx hx=>by cases hx),(λ_=>.inr rfl),(λi hi=>by
    have:=bt.size;have:=Qj.size;rcases hi with hi | hi<;>rw[hi]<;>omega)⟩
   ·show w0.heap.size<=w8.heap.size;omega
   ·show w0.heap.size<=w7.heap.size;omega
   ·show w8.heap.size<QH.heap.size;omega
   ·show w7.heap.size<QH.heap.size;omega
   ·show w8.heap.size≠w7.heap.size;omega
   ·refine⟨[],(BO.mod Zo (by show¬w7.heap.size=w6.heap.size;omega)).ext Z9,by simp,λn=>by simp[Xz,v]⟩
  have kQQ:DgO QH (TS p m) p.nm.length ⟨none,0,0,[],1⟩ (λ_=>true):=⟨SlS.nil _,aW _ true,λad e=>by cases e⟩
  have kQR:w0.heap.size<=QH.heap.size:=(tC.trans Z9).size;have rm:∀i,RS p m i->i=w8.heap.size∨i=w7.heap.size:=λi hi=>by
   rcases hi with hi | hi | ⟨_,e,_⟩ | ⟨_,e,_⟩
   ·exact .inl hi
   ·exact .inr hi
   ·cases e
   ·cases e
  have kQS:=UT.ext Z9;have kQT:=UU.ext Z9;have mQU:=bt.size;have qf:=Qj.size;have keep:∀w',Mod (RS p m) QH w'->Ext w w'/\Blk w' w.heap.size 41 (JR (.agg #[.string ByteArray.empty,.slice none 0 0]))/\Blk w' w1.heap.size 93 (mG ⟨0,0,0⟩):=λw' hm=>by
   refine⟨hm.ext (nH.trans Z9) (λi hi=>?_),kQS.mod hm (λhi=>?_),kQT.mod hm (λhi=>?_)⟩
   ·have:=XR.size;rcases rm i hi with rfl | rfl<;>omega
   ·rcases rm _ hi with e | e<;>omega
   ·rcases rm _ hi with e | e<;>omega
  refine XO (Rt w0 QH.heap.size p hP kQR 65 m v n ⟨none,0,0,[],1⟩ (λ_=>true) QH ZS kQQ Kl (λhh=>by cases hh) (Xr _) (QB _)) ?_ ?_
  rotate_left
  ·rintro ch Xa ⟨q,hq,rfl,Vw⟩;have hq:WN nm fs 65 [] 0 n (λ_=>true) ⟨[],[],false⟩= .error q:=hq;rw[hq] at WA;obtain⟨Xv,In,Io⟩:=keep Xa Vw;refine ag Qa rfl rfl (args:= #[.pointer (some ⟨w.heap.size,0,none⟩),.pointer (some ⟨w1.heap.size,0,none⟩)]) (by simp) ((gQi _ _ q Xa _ _ rfl rfl QU.symm In Io).mono ?_);rintro e u' X6 ⟨v,rfl,Ip,ii⟩;refine⟨v,rfl,Ip,?_⟩;refine Qt ii.1 rfl ?_;refine Qt ii.2.1 rfl ?_;rw[WA];exact⟨ii.2.2.ext Xv (λi hi=>by rcases hi with rfl | rfl<;>omega),rfl⟩
  rintro _ Xa ⟨g',Vz,m',gy,XU,Vw,_,_⟩;have Vz:WN nm fs 65 [] 0 n (λ_=>true) ⟨[],[],false⟩= .ok g':=Vz;rw[Vz] at WA;obtain⟨Xv,In,Io⟩:=keep Xa Vw;refine ZN (ZA Qa ?_);have nb:=XU.nrow.2;have mQV:=XU.rb;have mQW:=XU.top;have jJ:∀i,Qk m'.BA i->QH.heap.size<=i:=λi hi=>(XU.txt.rows i hi).1
  have nprs:¬(Qk m'.BA w8.heap.size∨w8.heap.size=w.heap.size∨w8.heap.size=w1.heap.size):=λhh=>by
   rcases hh with hh | hh | hh
   ·exact nb hh
   ·omega
   ·omega
  have hd:=Ext.drew Xa;refine XK Qa (Mod (λi=>Qk m'.BA i∨i=w.heap.size∨i=w1.heap.size) Xa) 12 [(true,0),(true,1),(true,2),(true,4),(true,5),(true,6),(true,7),(true,9),(false,3),(true,8),(false,10),(false,11)] (by kernel_rfl) (Mod.of_ext _ hd) ?_;refine QK (v:=.slice m'.OA g'.sg.length m'.oc) (λw' Qb=>by rw[(XU.blk.mod Qb nprs).cell];rfl) ?_;have Wc:=XU.tl;refine call (fQv QH.heap.size w8.heap.size 157 5 (kH p m' {v with g:=g'}) m'.BA m'.bc g'.tx Xa.drew (XU.blk.ext hd) rfl (XU.txt.ext hd) XU.b8 (by simp only at Wc;omega)) ?_;rintro _ X6 ⟨rfl,ce⟩;have Kj:Mod (λi=>Qk m'.BA i∨i=w.heap.size∨i=w1.heap.size) Xa X6:=(Mod.of_ext _ hd).trans ce (λi hi=>.inl (.inl hi));refine⟨Kj,?_⟩;have nsB:¬Qk m'.BA w.heap.size:=λhh=>by have:=jJ _ hh;omega
  have npB:¬Qk m'.BA w1.heap.size:=λhh=>by have:=jJ _ hh;omega
  refine Qv ((In.ext hd).mod ce nsB) rfl (sc rfl) (λZk eQ _ J2=>?_);have KQ:Mod (·=w.heap.size) X6 Zk:=nQQ eQ rfl;have UW:=Kj.trans KQ (λi hi=>.inl (.inr (.inl hi)));refine⟨UW,?_⟩;refine Qv (((Io.ext hd).mod ce npB).mod KQ QU) rfl (sc rfl) (λKy kQU _ tQ=>?_);have UX:Mod (·=w1.heap.size) Zk Ky:=nQQ kQU rfl;have BP:=UW.trans UX (λi hi=>.inl (.inr (.inr hi)));refine⟨BP,?_⟩;have Iq:=J2.mod UX QU.symm;refine ZA Qa ?_;refine fU Qa rfl rfl (.inl rfl) (args:= #[.pointer (some ⟨w.heap.size,0,none⟩),.pointer (some ⟨w1.heap.size,0,none⟩)]) (by simp) ((gQj _ _ Ky).mono ?_);rintro e u' aD ⟨u,rfl,Ir,Yf⟩;refine⟨u,rfl,Ir,?_⟩;refine Qt (Iq.ext Yf) rfl ?_;refine Qt (tQ.ext Yf) rfl ?_;rw[WA];have Jm:Ext w Ky:=BP.ext Xv (λi hi=>by
   rcases hi with hi | rfl | rfl
   ·have:=jJ _ hi;omega
   ·exact QB _
   ·omega)
  have nO:∀i,Qk m'.OA i->¬(Qk m'.BA i∨i=w.heap.size∨i=w1.heap.size):=λi hi hh=>by
   have:=(XU.out.rows i hi).1;rcases hh with hh | rfl | rfl
   ·exact XU.out.apart XU.txt (by decide) hi hh
   ·omega
   ·omega
  refine⟨Jm.trans Yf,⟨XU.b8,XU.tl,XU.sl⟩,m'.OA,m'.oc,m'.L,rfl,SgIn.ext ⟨(XU.out.mod BP nO).sl,rfl,XU.len,λj s x h1 h2=>?_⟩ Yf⟩;have yA:=XU.dgs j s x h1 h2;refine⟨SB.modo yA.sb BP (λad e h0 hh=>?_),yA.st⟩;rcases hh with hh | hh | hh
  ·exact yA.off ad e h0 (.inl (.inr (.inr (.inr hh))))
  ·exact yA.off ad e h0 (.inr (by rw[gy];exact .inl hh))
  ·exact yA.off ad e h0 (.inr (by rw[gy];exact .inr hh))
end
def FN (c:Nat):Nat->Bool:=λi=>decide (c/2^i % 2=1)
def Az (l:List Bool):List Value:=l.map Value.bool
theorem gQo {l:List Bool}{j:Nat}{b:Bool}(h:l[j]? =some b):(Az l)[j]? =some (.bool b):=by simp[Az,h]
structure FhI (w0:World) (g:Nat) (f:List Fz) (e:Nat->Bool) (n s:Nat) (L:List Bool) (w:World):Prop where
 m:Mod (·=g) w0 w
 blk:Blk w g 4 (Az L)
 len:L.length=n
 got:∀j,j<s->∃t,RepF f t j/\L[j]? =some (evF t e)
 rest:∀j,s<=j->j<n->L[j]? =some false
theorem FhI.ext {w0 w w':World}{g:Nat}{f:List Fz}{e:Nat->Bool}{n s:Nat}{L:List Bool}(h:FhI w0 g f e n s L w)(k1:Ext w w'):FhI w0 g f e n s L w':=
 ⟨h.m.trans (Mod.of_ext (·=g) k1) (λ_ hi=>.inl hi),h.blk.ext k1,h.len,h.got,h.rest⟩
theorem FhI.at_ {w0 w:World}{g:Nat}{f:List Fz}{e:Nat->Bool}{n s:Nat}{L:List Bool}(h:FhI w0 g f e n s L w){j:Nat}(hj:j<s){t:Fm}(ht:RepF f t j):(Az L)[j]? =some (.bool (evF t e)):=by
 obtain⟨u,h1,h2⟩:=h.got j hj;rw[nQS ht h1];exact gQo h2
def AA (l:List Nat)(k:Nat):Bool:=decide (k/8<l.length)&&decide ((l[k/8]?.getD 0)/2^(k % 8) % 2=1)
def bQ (l:List Nat):Nat->Nat->Nat->(Nat->Bool)->Bool
 | 0,_,k,_=>AA l k
 | d+1,v,k,e=>if e v then bQ l d (v+1) (k+2^v) e else bQ l d (v+1) k e
theorem AB {nd:List Br}(hw:aj nd){k:Nat}(hk:VIn k nd)(h0:∀b∈nd,0<=b.v){e e':Nat->Bool}(h:∀i,i<k->e i=e' i):∀(m:Nat)(n:Int),n.toNat<m->n<nd.length+2->ev nd n e=ev nd n e'
 | 0,n,hm,_=>by omega
 | m+1,n,hm,hn=>by
  by_cases h2:n<2
  ·rw[JT h2,JT h2]
  obtain⟨b,hb⟩:=Wq h2 hn;obtain⟨b3,b4,b5,b6⟩:=hw _ _ hb;have uz:=Xm hb;have hv:=hk b uz;have eU:=h0 b uz;rw[dN hw h2 hb,dN hw h2 hb,AB hw hk h0 h m b.h (by omega) (by omega),AB hw hk h0 h m b.l (by omega) (by omega),h b.v.toNat (by omega)]
theorem Set1.ext {k:Nat}{nd:List Br}{r:Int}{o:(Nat->Bool)->Bool}(hS:Set1 k nd r o){e e':Nat->Bool}(h:∀i,i<k->e i=e' i):o e=o e':=by
 rw[<-hS.mean e,<-hS.mean e'];refine AB hS.vd.wf hS.vin (λb hb=>?_) h (r.toNat+1) r (by omega) hS.vd.2.2.1;obtain⟨j,hj,rfl⟩:=DS.1 hb;exact(hS.vd.1 j _ (Xp hj)).1
end
section
def gQ (w:World)(k:Nat)(o:(Nat->Bool)->Bool)(v:Value)(w':World):Prop:=∃A n c nd r,v=Xk A n c r/\Ext w w'/\SB w' A n c nd/\Set1 k nd r o/\∀i,Qk A i->w.heap.size<=i
def vY (w:World)(k:Nat)(o:(Nat->Bool)->Bool)(v:Value)(w':World):Prop:=∃A n c nd r,v= .tuple #[Xk A n c r,.int .i64 0]/\Ext w w'/\SB w' A n c nd/\Set1 k nd r o/\∀i,Qk A i->w.heap.size<=i
theorem vZ (b:Bool)(w:World):Fn Tryz.prog 29 [.bool b] w (λv w'=>v=Xk none 0 0 (if b then 1 else 0)/\Ext w w'):=by
 refine QF (c:={c29 with cuts:=[]}) Qa Tryz.func29 rfl rfl rfl ?_;refine new (λw1 Qe Q4 Qh=>?_);cases b with
 | true=>
  refine Q8 rfl ?_;refine Qv Qh rfl (sc rfl) (λw3 Z7 _ Qu=>?_);refine Qt Qu rfl ?_;exact⟨rfl,X9 Qe Qh Z7⟩
 | false=>
  refine Q3 rfl ?_;refine Qv Qh rfl (sc rfl) (λw3 Z7 _ Qu=>?_);refine Qt Qu rfl ?_;exact⟨rfl,X9 Qe Qh Z7⟩
section
variable {k:Nat} (hk:k<=12)
include hk
theorem FO {a b:List Br}{ra rb:Int}{o o':(Nat->Bool)->Bool}(A:Option Addr)(n c:Nat)(B:Option Addr)(m d:Nat)(op:Int)(ho:op≠3/\op≠4)(w:World)(h:SB w A n c a)(h':SB w B m d b)(s:Set1 k a ra o)(s':Set1 k b rb o'):
  Fn Tryz.prog 58 [Xk A n c ra,Xk B m d rb,.int .i64 op] w (gQ w k (λe=>Kv op (o e) (o' e))):=by
 have l1:=s.len hk;have l2:=s'.len hk;have KV:=h.2;have fu:=h'.2;have hb2:=E8 s.vd s'.vd op;have Dq:(a.length+2)*(b.length+2)<=4098*4098:=Nat.mul_le_mul (by omega) (by omega);refine(eQw A n c a ra B m d b rb op w h h' s.vd.dok s'.vd.dok s.vd.2.1 (by have:=s.vd.2.2.1;omega) s'.vd.2.1 (by have:=s'.vd.2.2.1;omega) (by omega) (by omega) (by omega) (by omega) ho).mono ?_;rintro v w' ⟨OA,q,oc,rfl,hE,hO,hR⟩;exact⟨OA,q,oc,_,_,rfl,hE,hO,eC s s' op,hR⟩
theorem gQp {a b:List Br}{ra rb:Int}{o o':(Nat->Bool)->Bool}(A:Option Addr)(n c:Nat)(B:Option Addr)(m d:Nat)(w:World)(h:SB w A n c a)(h':SB w B m d b)(s:Set1 k a ra o)(s':Set1 k b rb o'):
  Fn Tryz.prog 66 [Xk A n c ra,Xk B m d rb] w (gQ w k (λe=>Kv 1 (o e) (o' e))):=by
 refine QF (c:={c66 with cuts:=[]}) Qa Tryz.func66 rfl rfl rfl ?_;refine new (λw1 Qe Q4 Qh=>?_);refine new (λw2 Qg Zb Qx=>?_);refine new (λw3 Qj JC Qu=>?_);have QX:=(Qe.trans Qg).trans Qj;refine Qt ((Qh.ext Qg).ext Qj) rfl ?_;refine Qt (Qx.ext Qj) rfl ?_;refine call (FO hk A n c B m d 1 (by decide) w3 (h.ext QX) (h'.ext QX) s s') ?_;rintro _ w4 ⟨PA,q,pc,nd,r,rfl,Qs,eM,bi,bW⟩;refine Qv (Qu.ext Qs) rfl (sc rfl) (λw5 JH _ QG=>?_);have Je:Mod (·=w2.heap.size) w4 w5:=nQQ JH rfl;refine Qt QG rfl ?_;exact⟨PA,q,pc,nd,r,rfl,Je.ext (QX.trans Qs) (λi hi=>by omega),eM.mod Je (λi hi e=>by have:=bW i hi;omega),bi,λi hi=>by have:=bW i hi;omega⟩
theorem Ry {a b:List Br}{ra rb:Int}{o o':(Nat->Bool)->Bool}(A:Option Addr)(n c:Nat)(B:Option Addr)(m d:Nat)(w:World)(h:SB w A n c a)(h':SB w B m d b)(s:Set1 k a ra o)(s':Set1 k b rb o'):
  Fn Tryz.prog 22 [Xk A n c ra,Xk B m d rb] w (gQ w k (λe=>Kv 0 (o e) (o' e))):=by
 refine QF (c:={c22 with cuts:=[]}) Qa Tryz.func22 rfl rfl rfl ?_;refine new (λw1 Qe Q4 Qh=>?_);refine new (λw2 Qg Zb Qx=>?_);refine new (λw3 Qj JC Qu=>?_);have QX:=(Qe.trans Qg).trans Qj;refine Qt ((Qh.ext Qg).ext Qj) rfl ?_;refine Qt (Qx.ext Qj) rfl ?_;refine call (FO hk A n c B m d 0 (by decide) w3 (h.ext QX) (h'.ext QX) s s') ?_;rintro _ w4 ⟨PA,q,pc,nd,r,rfl,Qs,eM,bi,bW⟩;refine Qv (Qu.ext Qs) rfl (sc rfl) (λw5 JH _ QG=>?_);have Je:Mod (·=w2.heap.size) w4 w5:=nQQ JH rfl;refine Qt QG rfl ?_;exact⟨PA,q,pc,nd,r,rfl,Je.ext (QX.trans Qs) (λi hi=>by omega),eM.mod Je (λi hi e=>by have:=bW i hi;omega),bi,λi hi=>by have:=bW i hi;omega⟩
theorem gQq {a:List Br}{ra:Int}{o:(Nat->Bool)->Bool}(A:Option Addr)(n c:Nat)(w:World)(h:SB w A n c a)(s:Set1 k a ra o):
  Fn Tryz.prog 59 [Xk A n c ra] w (gQ w k (λe=> !o e)):=by
 refine QF (c:={c59 with cuts:=[]}) Qa Tryz.func59 rfl rfl rfl ?_;refine new (λw1 Qe Q4 Qh=>?_);refine new (λw2 Qg Zb Qx=>?_);have Q5:=Qe.trans Qg;have Vh:=Qh.ext Qg;refine XK Qa (Ext w2) 3 [(true,0),(false,1),(false,2)] (by kernel_rfl) (Ext.drew w2) ?_;refine Xs (vs:=[.slice A n c,.int .i64 ra]) rfl (λw' Qb j v hj=>by have:=(Vh.ext Qb).cell j;rw[this];exact hj) ?_;refine call (vZ true _) ?_;rintro _ w3 ⟨rfl,Qj⟩;have Yy:=(Ext.drew w2).trans Qj;refine⟨Yy,?_⟩;have s1:Set1 k [] 1 (λ_=>true):=aW k true;refine call (FO hk A n c none 0 0 2 (by decide) w3 (h.ext (Q5.trans Yy)) (SlS.nil _) s s1) ?_;rintro _ w4 ⟨PA,q,pc,nd,r,rfl,Qs,eM,bi,bW⟩;have J1:=Yy.trans Qs;refine⟨J1,?_⟩;have hz:=(Q5.trans Yy).size;refine Qv (Qx.ext J1) rfl (sc rfl) (λw5 JH _ QG=>?_);have Je:Mod (·=w1.heap.size) w4 w5:=nQQ JH rfl;refine Qt QG rfl ?_;have kQV:=Yy.size;exact⟨PA,q,pc,nd,r,rfl,Je.ext (Q5.trans J1) (λi hi=>by omega),eM.mod Je (λi hi e=>by have:=bW i hi;omega),bi.congr (λe=>by cases o e<;>rfl),λi hi=>by have:=bW i hi;omega⟩
theorem gQr {a b:List Br}{ra rb:Int}{o o':(Nat->Bool)->Bool}(A:Option Addr)(n c:Nat)(B:Option Addr)(m d:Nat)(w:World)(h:SB w A n c a)(h':SB w B m d b)(s:Set1 k a ra o)(s':Set1 k b rb o'):
  Fn Tryz.prog 23 [Xk A n c ra,Xk B m d rb] w (gQ w k (λe=>o e && !o' e)):=by
 refine QF (c:={c23 with cuts:=[]}) Qa Tryz.func23 rfl rfl rfl ?_;refine new (λw1 Qe Q4 Qh=>?_);refine new (λw2 Qg Zb Qx=>?_);refine new (λw3 Qj JC Qu=>?_);have QX:=(Qe.trans Qg).trans Qj;have K5:=(Qh.ext Qg).ext Qj;have nj:=Qx.ext Qj;refine XK Qa (Ext w3) 4 [(true,0),(true,1),(false,2),(false,3)] (by kernel_rfl) (Ext.drew w3) ?_;refine Xs (vs:=[.slice A n c,.int .i64 ra]) rfl (λw' Qb j v hj=>by have:=(K5.ext Qb).cell j;rw[this];exact hj) ?_;refine Xs (vs:=[.slice B m d,.int .i64 rb]) rfl (λw' Qb j v hj=>by have:=(nj.ext Qb).cell j;rw[this];exact hj) ?_;refine call (gQq hk B m d _ (h'.ext (QX.trans (Ext.drew w3))) s') ?_;rintro _ w4 ⟨QA,q1,qc,nd1,r1,rfl,Qs,hQ4,hT4,_⟩;have KR:=(Ext.drew w3).trans Qs;refine⟨KR,?_⟩;refine call (Ry hk A n c QA q1 qc w4 (h.ext (QX.trans KR)) hQ4 s hT4) ?_;rintro _ w5 ⟨PA,q,pc,nd,r,rfl,Qw,qm,dZ,bq⟩;have Yd:=KR.trans Qw;refine⟨Yd,?_⟩;have mQX:=KR.size;refine Qv (Qu.ext Yd) rfl (sc rfl) (λw6 Y4 _ Q9=>?_);have K4:Mod (·=w2.heap.size) w5 w6:=nQQ Y4 rfl;refine Qt Q9 rfl ?_;exact⟨PA,q,pc,nd,r,rfl,K4.ext (QX.trans Yd) (λi hi=>by omega),qm.mod K4 (λi hi e=>by have:=bq i hi;omega),dZ.congr (λe=>by simp[Kv]),λi hi=>by have:=bq i hi;omega⟩
end
theorem FP {k v:Nat}(hv:v<k)(hk:k<=64):Set1 k [⟨(v:Nat),0,1⟩] 2 (λe=>e v):=⟨zX (by omega) (by omega),λb hb=>by simp only[QN] at hb;subst hb;show((v:Nat):Int)<k;omega,λe=>by
 rw[dN (zX (k:=((v:Nat):Int)) (by omega) (by omega)).wf (by decide) (b:=⟨(v:Nat),0,1⟩) rfl,JT (by simp),JT (by simp)];cases h:e v<;>simp[h]⟩
end
noncomputable section
section
structure Sx where
 f:Int
 t:Int
 fl:Int
 at_:Int
 x:DV
def Sx.cells (y:Sx):List Value:=[.int .i64 y.f,.int .i64 y.t,.int .i64 y.fl,.int .i64 y.at_,.slice y.x.A y.x.n y.x.c,.int .i64 y.x.r]
theorem AC (y:Sx):y.cells.length=6:=rfl
structure SX (w:World) (A:Option Addr) (n c:Nat) (L:List Sx):Prop where
 sl:SlS Sx.cells 6 w A n c L
 dg:∀y∈L,SB w y.x.A y.x.n y.x.c y.x.nd
theorem SX.ext {w w':World}{A:Option Addr}{n c:Nat}{L:List Sx}(h:SX w A n c L)(k:Ext w w'):SX w' A n c L:=⟨h.sl.ext k,λy hy=>(h.dg y hy).ext k⟩
def gQs (tx:List Nat)(at_:Int)(y:Sx):Prop:=y.f=at_/\at_<y.t/\y.t<=tx.length/\tx[(y.t-1).toNat]? =some 10/\XL y.x.nd y.x.r=0/\0<=y.fl/\0<=y.at_/\y.at_<=1048576-(y.t-y.f)
def Rz (tx:List Nat):Int->List Sx->Prop
 | at_,[]=>at_=tx.length
 | at_,y::L=>gQs tx at_ y/\Rz tx y.t L
open Classical in
def gQt (tx:List Nat)(L:List Sx):Int:=if 1048576<tx.length∨65536<L.length then 2 else if Rz tx 0 L then 0 else 70
end
section
theorem FQ {α:Type}{l:List α}{i:Nat}{x:α}(h:l[i]? =some x):l.drop i=x::l.drop (i+1):=by
 obtain⟨h1,rfl⟩:=ZY.1 h;exact W9 h1
end
section
abbrev I2:=Int×Int
abbrev gR:I2->Value:=λt=>.agg #[.int .i64 t.1,.int .i64 t.2]
theorem gQu (a b:I2)(n:Nat)(w:World):(Op.equalIn (n+2) 253 (gR a) (gR b)).run Tryz.prog w= .ok (decide (a=b)) w:=by
 obtain⟨i,hi⟩:=M2.1 (show(Tryz.prog.info? 3).isSome=true by kernel_rfl);obtain⟨a0,a1⟩:=a;obtain⟨b0,b1⟩:=b;have e:=run_equalIn_array (w:=w) (n+1) #[.int .i64 a0,.int .i64 a1] #[.int .i64 b0,.int .i64 b1] Tryz.underlying253 hi;rw[Ad,show List.range 2=[0,1] from rfl] at e;refine e.trans ?_;have p0:∀x y:Int,(part 3 #[Value.int .i64 x,.int .i64 y] (0*1)).run Tryz.prog w= .ok (.int .i64 x) w:=λx y=>cy k3 rfl w
 have p1:∀x y:Int,(part 3 #[Value.int .i64 x,.int .i64 y] (1*1)).run Tryz.prog w= .ok (.int .i64 y) w:=λx y=>cy k3 rfl w
 have dd:decide ((a0,a1)=(b0,b1))=(a0==b0&&a1==b1):=by
  by_cases h0:a0=b0<;>by_cases h1:a1=b1<;>simp[h0,h1]
 rw[dd];simp only[Op.eqItems,Sem.run_bind,p0,Result.andThen_ok,vO];cases h0:a0==b0 with
 | false=>simp
 | true=>
  simp only[Bool.not_true,MV,if_false,Sem.run_bind,p1,Result.andThen_ok,vO,cw];cases h1:a1==b1<;>simp
theorem gQv (b:Bool)(a:I2)(n:Nat)(w:World):(Instr.checkKey b (n+2) 253 (gR a)).run Tryz.prog w= .ok () w:=by
 obtain⟨i,hi⟩:=M2.1 (show(Tryz.prog.info? 3).isSome=true by kernel_rfl);have p0:∀x y:Int,(part 3 #[Value.int .i64 x,.int .i64 y] 0).run Tryz.prog w= .ok (.int .i64 x) w:=λx y=>cy k3 rfl w
 have p1:∀x y:Int,(part 3 #[Value.int .i64 x,.int .i64 y] 1).run Tryz.prog w= .ok (.int .i64 y) w:=λx y=>cy k3 rfl w
 have hz:(sizeOf 3).run Tryz.prog w= .ok 1 w:=by rw[<-Ad];exact Go.run_sizeOf w hi
 simp[Instr.checkKey,ZU Tryz.underlying253,ZU Tryz.underlying3,hz,p0,p1,Std.Legacy.Range.forIn_eq_forIn_range',Std.Legacy.Range.size,List.range'_succ]
theorem AE:KeyQ Tryz.prog 253 gR:=
 nQX Tryz.underlying253 (λa b w=>gQu a b 9998 w) (λb a w=>gQv b a 9998 w) (λa=>by simp[Instr.sameBits])
def eD (a:List Br)(x:Int)(b:List Br)(y:Int):Prop:=∃e,ev a x e=true/\ev b y e=true
theorem RB {a:List Br}(h:Rd0 a){x:Int}(h0:0<=x)(h1:x<a.length+2)(hx:x≠0):∃e,ev a x e=true:=by
 apply Classical.byContradiction;intro hn;refine hx (inj h h0 (by decide) h1 (by omega) (λe=>?_));have e1:ev a 0 e=false:=by rw[JT (by decide)]<;>rfl
 rw[e1];cases hc:ev a x e with
 | false=>rfl
 | true=>exact Xn ⟨e,hc⟩ hn
theorem gQw {a b:List Br}(ha:Rd0 a)(hb:Rd0 b){x y:Int}(x0:0<=x)(x1:x<a.length+2)(y0:0<=y)(y1:y<b.length+2){v:Int}(hv:v=min (Ql a x) (Ql b y))(eS:v<64):
  eD a x b y↔eD a (Qm a x v).1 b (Qm b y v).1∨eD a (Qm a x v).2 b (Qm b y v).2:=by
 have l1:v<=Ql a x:=by rw[hv,Z3];split<;>omega
 have l2:v<=Ql b y:=by rw[hv,Z3];split<;>omega
 obtain⟨p1,p2,p3,p4,p5⟩:=sB ha x0 x1 l1 eS;obtain⟨q1,q2,q3,q4,q5⟩:=sB hb y0 y1 l2 eS;have v0:0<=v:=by
  have:=ha.lvl0 x1;have:=hb.lvl0 y1;rw[hv,Z3];split<;>omega
 constructor
 ·rintro⟨e,e1,e2⟩;rw[p1] at e1;rw[q1] at e2;cases he:e v.toNat with
  | true=>rw[he,Qf rfl] at e1 e2;exact .inr ⟨e,e1,e2⟩
  | false=>rw[he,if_neg (by decide)] at e1 e2;exact .inl ⟨e,e1,e2⟩
 ·rintro(⟨e,e1,e2⟩ | ⟨e,e1,e2⟩)
  ·refine⟨Yp e v.toNat false,?_,?_⟩
   ·rw[p1,show Yp e v.toNat false v.toNat=false from Qf rfl,if_neg (by decide),dP ha v.toNat false e _ _ (er _) p4 (by omega)];exact e1
   ·rw[q1,show Yp e v.toNat false v.toNat=false from Qf rfl,if_neg (by decide),dP hb v.toNat false e _ _ (er _) q4 (by omega)];exact e2
  ·refine⟨Yp e v.toNat true,?_,?_⟩
   ·rw[p1,show Yp e v.toNat true v.toNat=true from Qf rfl,Qf rfl,dP ha v.toNat true e _ _ (er _) p5 (by omega)];exact e1
   ·rw[q1,show Yp e v.toNat true v.toNat=true from Qf rfl,Qf rfl,dP hb v.toNat true e _ _ (er _) q5 (by omega)];exact e2
structure MP where
 D:DV
 E:DV
 bo:Nat
 sx:Nat
 ax:Nat
 bx:Nat
 cx:Nat
 q:Nat
def MP.caps (p:MP):List Value:=[VP.ptr p.bo,VP.ptr p.sx,VP.ptr p.ax,VP.ptr p.bx,VP.ptr p.cx]
def MP.clo (p:MP):Value:=.func (.func 166) #[] #[VP.ptr p.bo,VP.ptr p.sx,VP.ptr p.ax,VP.ptr p.bx,VP.ptr p.cx]
structure MK (w:World) (p:MP):Prop where
 bob:Blk w p.bo 4 [.bool true]
 sxb:Blk w p.sx 251 [.map (some p.q)]
 axb:Blk w p.ax 32 p.D.cells
 bxb:Blk w p.bx 32 p.E.cells
 cxb:Blk w p.cx 252 [p.clo]
 as_:SB w p.D.A p.D.n p.D.c p.D.nd
 bs:SB w p.E.A p.E.n p.E.c p.E.nd
 off:p.bo≠p.q/\p.sx≠p.q/\p.ax≠p.q/\p.bx≠p.q/\p.cx≠p.q
 rowA:∀ad,p.D.A=some ad->0<p.D.n->ad.block≠p.q
 rowB:∀ad,p.E.A=some ad->0<p.E.n->ad.block≠p.q
theorem MK.mod {w w':World}{p:MP}(h:MK w p)(hm:Mod (·=p.q) w w'):MK w' p:=by
 obtain⟨o1,o2,o3,o4,o5⟩:=h.off;refine⟨h.bob.mod hm o1,h.sxb.mod hm o2,h.axb.mod hm o3,h.bxb.mod hm o4,h.cxb.mod hm o5,⟨h.as_.1.modS hm ?_,h.as_.2⟩,⟨h.bs.1.modS hm ?_,h.bs.2⟩,h.off,h.rowA,h.rowB⟩
 ·rintro h0 i ⟨ad,e,rfl⟩;exact h.rowA ad e h0
 ·rintro h0 i ⟨ad,e,rfl⟩;exact h.rowB ad e h0
theorem MK.ext {w w':World}{p:MP}(h:MK w p)(k:Ext w w'):MK w' p:=h.mod (Mod.of_ext _ k)
def mI (w:World)(q:Nat)(S:List I2):Prop:=∃m,MapQ gR w q m/\∀t,(Xz t m).getD (.bool false)= .bool (decide (t∈S))
def MtC (p:MP)(x y:Int)(S:List I2)(w:World)(v:Value)(w':World):Prop:=
 Mod (·=p.q) w w'/\∃r:Bool,v= .bool r/\(r=true->eD p.D.nd x p.E.nd y)/\(r=false->¬eD p.D.nd x p.E.nd y/\∃S',mI w' p.q S'/\∀t∈S',t∈S∨¬eD p.D.nd t.1 p.E.nd t.2)
theorem RC (p:MP)(ha:Rd0 p.D.nd)(hb:Rd0 p.E.nd):∀(k:Nat)(x y:Int)(S:List I2)(w:World),
  MK w p->mI w p.q S->(∀t∈S,t.1+t.2<=x+y->¬eD p.D.nd t.1 p.E.nd t.2)->0<=x->0<=y->x<p.D.n+2->y<p.E.n+2->x+y<k->
  Fn Tryz.prog 166 (.int .i64 x:: .int .i64 y::p.caps) w (MtC p x y S w)
 | 0,x,y,_,_,_,_,_,x0,y0,_,_,hk=>by omega
 | k+1,x,y,S,w,hK,hS,Xi,x0,y0,hx,hy,hk=>by
  have ih:=RC p ha hb k;have KV:p.D.nd.length=p.D.n:=hK.as_.2;have fu:p.E.nd.length=p.E.n:=hK.bs.2;refine QF (c:={N0 with cuts:=[]}) Qa Tryz.func166 rfl rfl rfl ?_;refine X3 (λc1=>?_) (λc1=>?_)
  ·exact⟨Mod.refl _ _,false,rfl,λh=>(by cases h),λ_=>⟨(λ⟨e,e1,_⟩=>by rw[c1,JT (by decide)] at e1;cases e1),S,hS,λt ht=>.inl ht⟩⟩
  refine Qz (λc2=>?_) (λc2=>?_)
  ·refine QD hK.bob rfl ?_;by_cases y1:y=1
   ·subst y1;refine Q3 rfl ?_;refine Zh c2 ?_;refine⟨Mod.refl _ _,true,rfl,λ_=>?_,λh=>by cases h⟩;obtain⟨e,he⟩:=RB ha x0 (by omega) c1;exact⟨e,he,by rw[JT (by decide)];rfl⟩
   ·have Is:y=0:=by omega
    subst Is;refine Q8 rfl ?_;exact⟨Mod.refl _ _,false,rfl,λh=>(by cases h),λ_=>⟨(λ⟨e,_,e1⟩=>by rw[JT (by decide)] at e1;cases e1),S,hS,λt ht=>.inl ht⟩⟩
  refine XD c2 ?_;obtain⟨mq,em,YC⟩:=hS;refine QD hK.sxb rfl ?_;refine EZ (kv:=gR) (a:=((x,y):I2)) Qa rfl rfl rfl rfl AE rfl rfl em (YC (x,y)) ?_;refine Qz (λc3=>?_) (λc3=>?_)
  ·exact⟨Mod.refl _ _,false,rfl,λh=>(by cases h),λ_=>⟨Xi (x,y) c3 (lS _),S,⟨mq,em,YC⟩,λt ht=>.inl ht⟩⟩
  refine QD hK.sxb rfl ?_;refine r8 (kv:=gR) (a:=((x,y):I2)) Qa rfl rfl rfl rfl AE rfl rfl rfl em (λw1 eL Q4 nI=>?_);have Kd:=hK.mod eL;have KS:mI w1 p.q ((x,y)::S):=⟨_,nI,λt=>by
   rw[aS];by_cases ht:t=(x,y)
   ·subst ht;simp
   ·rw[if_neg ht,YC t];simp[ht]⟩
  have ZC:min (Ql p.D.nd x) (Ql p.E.nd y)<64:=by
   have:=am hb.dok (n:=y) c2 (by omega);rw[Z3];split<;>omega
  have kV:=ha.lvl0 (n:=x) (by omega);have XE:=hb.lvl0 (n:=y) (by omega);refine XK Qa (Ext w1) 8 [(true,0),(true,1),(true,3),(true,4),(false,2),(false,5),(true,6),(true,7)] (by kernel_rfl) (Ext.drew w1) ?_;refine Xs (vs:=p.D.cells) rfl (λw' Qb j v hj=>by rw[(Kd.axb.ext Qb).cell];exact hj) ?_;refine Xs (vs:=p.E.cells) rfl (λw' Qb j v hj=>by rw[(Kd.bxb.ext Qb).cell];exact hj) ?_;refine call (dJ p.D.A p.D.n p.D.c p.D.r x p.D.nd _ (Kd.as_.ext (Ext.drew w1)) (by omega)) ?_;rintro u w2 ⟨rfl,Qg⟩;have Xv:=(Ext.drew w1).trans Qg;refine⟨Xv,?_⟩;refine call (dJ p.E.A p.E.n p.E.c p.E.r y p.E.nd _ (Kd.bs.ext Xv) (by omega)) ?_;rintro u w3 ⟨rfl,Qj⟩;have XI:=Xv.trans Qj;refine⟨XI,?_⟩;have nX:(if Ql p.E.nd y<Ql p.D.nd x then Ql p.E.nd y else Ql p.D.nd x)=min (Ql p.D.nd x) (Ql p.E.nd y):=by
   rw[Z3];split<;>split<;>omega
  refine norm (m:=min (Ql p.D.nd x) (Ql p.E.nd y)) nX ?_;have rA:=gQw ha hb x0 (by omega) y0 (by omega) (rfl:min (Ql p.D.nd x) (Ql p.E.nd y)=_) ZC;have cq:Ql p.D.nd x=min (Ql p.D.nd x) (Ql p.E.nd y)∨Ql p.E.nd y=min (Ql p.D.nd x) (Ql p.E.nd y):=by rw[Z3];split<;>simp
  generalize ye:min (Ql p.D.nd x) (Ql p.E.nd y)=v at*;obtain⟨s1,s2,s3,s4,s5⟩:=Wp ha.dok (n:=x) x0 ZC;obtain⟨t1,t2,t3,t4,t5⟩:=Wp hb.dok (n:=y) y0 ZC;have dec:(Qm p.D.nd x v).1+(Qm p.E.nd y v).1<x+y/\(Qm p.D.nd x v).2+(Qm p.E.nd y v).2<x+y:=by
   rcases cq with e | e
   ·have:=s5 e;omega
   ·have:=t5 e;omega
  have eP:=Kd.ext XI;refine Qt eP.axb rfl ?_;refine call (jd p.D.A p.D.n p.D.c p.D.r x v p.D.nd _ eP.as_ (by omega) ZC) ?_;rintro u w4 ⟨rfl,Qs⟩;have VN:=eP.ext Qs;refine Qt VN.bxb rfl ?_;refine call (jd p.E.A p.E.n p.E.c p.E.r y v p.E.nd _ VN.bs (by omega) ZC) ?_;rintro u w5 ⟨rfl,Qw⟩;have ju:=VN.ext Qw;have Jm:=(XI.trans Qs).trans Qw;have Je:Mod (·=p.q) w w5:=eL.trans (Mod.of_ext (·=p.q) Jm) (λi hi=>.inl hi);have dZ:mI w5 p.q ((x,y)::S):=let ⟨m,k1,k2⟩:=KS;⟨m,k1.ext Jm,k2⟩;refine QD ju.cxb rfl ?_;refine call (ih (Qm p.D.nd x v).1 (Qm p.E.nd y v).1 ((x,y)::S) w5 ju dZ (λt ht Zz=>by
   rcases Q1.1 ht with rfl | ht
   ·exact Xn Zz (by simp only;omega)
   ·exact Xi t ht (by omega)) s1 t1 (by omega) (by omega) (by omega)) ?_
  rintro _ w6 ⟨K4,r0,rfl,ww,iy⟩;have xq:Mod (·=p.q) w w6:=Je.trans K4 (λi hi=>.inl hi);cases r0 with
  | true=>
   refine Q8 rfl ?_;exact⟨xq,true,rfl,λ_=>rA.2 (.inl (ww rfl)),λh=>by cases h⟩
  | false=>
   obtain⟨n0,S6,aC,xr⟩:=iy rfl;refine Q3 rfl ?_;have bY:=ju.mod K4;refine QD bY.cxb rfl ?_;refine call (ih (Qm p.D.nd x v).2 (Qm p.E.nd y v).2 S6 w6 bY aC (λt ht Zz=>by
    rcases xr t ht with ht | ht
    ·rcases Q1.1 ht with rfl | ht
     ·exact Xn Zz (by simp only;omega)
     ·exact Xi t ht (by omega)
    ·exact ht) s3 t3 (by omega) (by omega) (by omega)) ?_
   rintro _ w7 ⟨Xf,r1,rfl,nt,Zf⟩;have It:Mod (·=p.q) w w7:=xq.trans Xf (λi hi=>.inl hi);refine⟨It,r1,rfl,λh=>rA.2 (.inr (nt h)),λh=>?_⟩;obtain⟨n1,S7,Vu,Iu⟩:=Zf h;have nn:¬eD p.D.nd x p.E.nd y:=λhh=>(rA.1 hh).elim n0 n1
   refine⟨nn,S7,Vu,λt ht=>?_⟩;rcases Iu t ht with ht | ht
   ·rcases xr t ht with ht | ht
    ·rcases Q1.1 ht with rfl | ht
     ·exact .inr nn
     ·exact .inl ht
    ·exact .inr ht
   ·exact .inr ht
theorem gQx (A:Option Addr)(n c:Nat)(a:List Br)(ra:Int)(B:Option Addr)(m d:Nat)(b:List Br)(rb:Int)(w:World)(h:SB w A n c a)(h':SB w B m d b)(ha:VD a ra)(hb:VD b rb):
  Fn Tryz.prog 112 [Xk A n c ra,Xk B m d rb,.bool true] w (λu w'=>∃r:Bool,u= .bool r/\Ext w w'/\(r=true↔eD a ra b rb)):=by
 have KV:=h.2;have fu:=h'.2;refine QF (c:={NY with cuts:=[]}) Qa Tryz.func112 rfl rfl rfl ?_;refine new (λw1 Qe Q4 Qh=>?_);refine new (λw2 Qg Zb Qx=>?_);refine new (λw3 Qj JC Qu=>?_);have QX:=(Qe.trans Qg).trans Qj;refine r7 Qa gR rfl ?_;intro w4 Qs KO Iv;refine new (λw5 Qw KP QG=>?_);refine KD QG (by decide) (λw6 K4 Q9=>?_);have XF:Ext w4 w6:=K4.ext Qw (λi hi=>by omega);refine new (λw7 Xb Wu Q2=>?_);refine KD Q2 (by decide) (λw8 ZL Xw=>?_);have gj:Ext w6 w8:=ZL.ext Xb (λi hi=>by omega);have jz:=XF.trans gj;have lu:=Qs.trans jz;have Y6:=QX.trans lu;have z6:=XF.size
 let p:MP:=⟨⟨A,n,c,a,ra⟩,⟨B,m,d,b,rb⟩,w2.heap.size,w4.heap.size,w.heap.size,w1.heap.size,w6.heap.size,w3.heap.size⟩
 have hK:MK w8 p:=by
  refine⟨Qu.ext lu,Q9.ext gj,Qh.ext ((Qg.trans Qj).trans lu),Qx.ext (Qj.trans lu),Xw,h.ext Y6,h'.ext Y6,?_,λad e h0=>?_,λad e h0=>?_⟩
  ·simp only[p];omega
  ·have:=SB.lt h ad e h0;simp only[p];omega
  ·have:=SB.lt h' ad e h0;simp only[p];omega
 refine QD hK.cxb rfl ?_;refine Qo hK.axb rfl ?_;refine Qo hK.bxb rfl ?_;refine call (RC p ha.rd0 hb.rd0 (ra.toNat+rb.toNat+1) ra rb [] w8 hK ⟨[],Iv.ext jz,λt=>rfl⟩ (λt ht=>by cases ht) ha.2.1 hb.2.1 (by have:=ha.2.2.1;simp only[p];omega) (by have:=hb.2.2.1;simp only[p];omega) (by have:=ha.2.1;have:=hb.2.1;omega)) ?_;rintro _ w9 ⟨Zj,r,rfl,h1,h2⟩;refine⟨r,rfl,Zj.ext Y6 (λi hi=>by simp only[p] at hi;have:=QX.size;omega),⟨h1,λhh=>?_⟩⟩;cases r with
 | true=>rfl
 | false=>exact Xn hh (h2 rfl).1
open Classical in
def pP (a:List Br)(ra:Int)(b:List Br)(rb:Int):Bool:=decide (XL a ra=0/\XL b rb=0/\¬eD a ra b rb)
open Classical in
theorem RD {a:List Br}{ra:Int}{b:List Br}{rb:Int}:pP a ra b rb=true↔XL a ra=0/\XL b rb=0/\¬eD a ra b rb:=by unfold pP;exact decide_eq_true_iff
theorem RE {a:List Br}{ra:Int}{b:List Br}{rb:Int}(h:XL a ra=0/\XL b rb=0/\¬eD a ra b rb):pP a ra b rb=true:=RD.2 h
theorem FR {a:List Br}{ra:Int}{b:List Br}{rb:Int}(h:¬(XL a ra=0/\XL b rb=0/\¬eD a ra b rb)):pP a ra b rb=false:=by
 cases hh:pP a ra b rb with
 | false=>rfl
 | true=>exact Xn (RD.1 hh) h
theorem RF (A:Option Addr)(n c:Nat)(a:List Br)(ra:Int)(B:Option Addr)(m d:Nat)(b:List Br)(rb:Int)(w:World)(h:SB w A n c a)(h':SB w B m d b):
  Fn Tryz.prog 97 [Xk A n c ra,Xk B m d rb] w (λu w'=>u= .bool (pP a ra b rb)/\Ext w w'):=by
 refine QF (c:={c97 with cuts:=[]}) Qa Tryz.func97 rfl rfl rfl ?_;refine new (λw1 Qe Q4 Qh=>?_);refine new (λw2 Qg Zb Qx=>?_);have Q5:=Qe.trans Qg;refine Qt (Qh.ext Qg) rfl ?_;refine Qt Qx rfl ?_;refine Xh Qa [(⟨A,n,c,a,ra⟩:DV).cells,(⟨B,m,d,b,rb⟩:DV).cells] rfl rfl rfl rfl rfl ⟨rfl,rfl,rfl,rfl,⟨⟩⟩ rfl (λcs h=>by simp only[Q1,Jo,Jw] at h;rcases h with rfl | rfl<;>rfl) rfl (by decide) (by decide) ?_;intro w5 Qw KP QG;have J3:=Q5.trans Qw;have hL:SlS DV.cells 2 w5 (some ⟨w2.heap.size,0,none⟩) 2 2 [⟨A,n,c,a,ra⟩,⟨B,m,d,b,rb⟩]:=⟨Sl.own (sz:=2) (n:=2) QG (QB _) (by decide) (by simp[DV.cells]),rfl⟩
 refine call (Ac _ 2 2 _ w5 hL (λx hx=>by
  simp only[Q1,Jo,Jw] at hx;rcases hx with rfl | rfl
  ·exact h.ext J3
  ·exact h'.ext J3)) ?_
 rintro v w6 ⟨rfl,QO⟩;have XR:=J3.trans QO;have ef:cH [(⟨A,n,c,a,ra⟩:DV),⟨B,m,d,b,rb⟩]=if XL a ra≠0 then XL a ra else if XL b rb≠0 then XL b rb else 0:=rfl
 have iy:cH [(⟨A,n,c,a,ra⟩:DV),⟨B,m,d,b,rb⟩]=0↔XL a ra=0/\XL b rb=0:=by
  rw[ef];by_cases h1:XL a ra=0
  ·rw[if_neg (λhh=>hh h1)];by_cases h2:XL b rb=0
   ·rw[if_neg (λhh=>hh h2)];simp[h1,h2]
   ·rw[Qf h2];simp[h2]
  ·rw[Qf h1];simp[h1]
 refine X3 (λc1=>?_) (λc1=>?_)
 ·obtain⟨ca,cb⟩:=iy.1 c1;refine Qt ((Qh.ext Qg).ext (Qw.trans QO)) rfl ?_;refine Qt (Qx.ext (Qw.trans QO)) rfl ?_;refine call (gQx A n c a ra B m d b rb w6 (h.ext XR) (h'.ext XR) (gK.1 ca).2 (gK.1 cb).2) ?_;rintro _ w7 ⟨r,rfl,Xb,hr⟩;refine⟨?_,XR.trans Xb⟩;cases r with
  | true=>rw[FR (λhh=>hh.2.2 (hr.1 rfl))]<;>rfl
  | false=>rw[RE ⟨ca,cb,λhh=>by have:=hr.2 hh;cases this⟩];rfl
 ·exact⟨by rw[FR (λhh=>c1 (iy.2 ⟨hh.1,hh.2.1⟩))],XR⟩
def ixV (l:List Nat):List Value:=l.map (λ(i:Nat)=>Value.int .i64 i)
end
section
def eE (a:List Br)(x:Int)(b:List Br)(y:Int):Prop:=∃e,ev a x e=true/\ev b y e=false
theorem gQy {a b:List Br}(ha:Rd0 a)(hb:Rd0 b){x y:Int}(x0:0<=x)(x1:x<a.length+2)(y0:0<=y)(y1:y<b.length+2){v:Int}(hv:v=min (Ql a x) (Ql b y))(eS:v<64):
  eE a x b y↔eE a (Qm a x v).1 b (Qm b y v).1∨eE a (Qm a x v).2 b (Qm b y v).2:=by
 have l1:v<=Ql a x:=by rw[hv,Z3];split<;>omega
 have l2:v<=Ql b y:=by rw[hv,Z3];split<;>omega
 obtain⟨p1,p2,p3,p4,p5⟩:=sB ha x0 x1 l1 eS;obtain⟨q1,q2,q3,q4,q5⟩:=sB hb y0 y1 l2 eS;have v0:0<=v:=by
  have:=ha.lvl0 x1;have:=hb.lvl0 y1;rw[hv,Z3];split<;>omega
 constructor
 ·rintro⟨e,e1,e2⟩;rw[p1] at e1;rw[q1] at e2;cases he:e v.toNat with
  | true=>rw[he,Qf rfl] at e1 e2;exact .inr ⟨e,e1,e2⟩
  | false=>rw[he,if_neg (by decide)] at e1 e2;exact .inl ⟨e,e1,e2⟩
 ·rintro(⟨e,e1,e2⟩ | ⟨e,e1,e2⟩)
  ·refine⟨Yp e v.toNat false,?_,?_⟩
   ·rw[p1,show Yp e v.toNat false v.toNat=false from Qf rfl,if_neg (by decide),dP ha v.toNat false e _ _ (er _) p4 (by omega)];exact e1
   ·rw[q1,show Yp e v.toNat false v.toNat=false from Qf rfl,if_neg (by decide),dP hb v.toNat false e _ _ (er _) q4 (by omega)];exact e2
  ·refine⟨Yp e v.toNat true,?_,?_⟩
   ·rw[p1,show Yp e v.toNat true v.toNat=true from Qf rfl,Qf rfl,dP ha v.toNat true e _ _ (er _) p5 (by omega)];exact e1
   ·rw[q1,show Yp e v.toNat true v.toNat=true from Qf rfl,Qf rfl,dP hb v.toNat true e _ _ (er _) q5 (by omega)];exact e2
structure MPn where
 D:DV
 E:DV
 bo:Nat
 sx:Nat
 ax:Nat
 bx:Nat
 cx:Nat
 q:Nat
def MPn.caps (p:MPn):List Value:=[VP.ptr p.bo,VP.ptr p.sx,VP.ptr p.ax,VP.ptr p.bx,VP.ptr p.cx]
def MPn.clo (p:MPn):Value:=.func (.func 166) #[] #[VP.ptr p.bo,VP.ptr p.sx,VP.ptr p.ax,VP.ptr p.bx,VP.ptr p.cx]
structure MKn (w:World) (p:MPn):Prop where
 bob:Blk w p.bo 4 [.bool false]
 sxb:Blk w p.sx 251 [.map (some p.q)]
 axb:Blk w p.ax 32 p.D.cells
 bxb:Blk w p.bx 32 p.E.cells
 cxb:Blk w p.cx 252 [p.clo]
 as_:SB w p.D.A p.D.n p.D.c p.D.nd
 bs:SB w p.E.A p.E.n p.E.c p.E.nd
 off:p.bo≠p.q/\p.sx≠p.q/\p.ax≠p.q/\p.bx≠p.q/\p.cx≠p.q
 rowA:∀ad,p.D.A=some ad->0<p.D.n->ad.block≠p.q
 rowB:∀ad,p.E.A=some ad->0<p.E.n->ad.block≠p.q
theorem MKn.mod {w w':World}{p:MPn}(h:MKn w p)(hm:Mod (·=p.q) w w'):MKn w' p:=by
 obtain⟨o1,o2,o3,o4,o5⟩:=h.off;refine⟨h.bob.mod hm o1,h.sxb.mod hm o2,h.axb.mod hm o3,h.bxb.mod hm o4,h.cxb.mod hm o5,⟨h.as_.1.modS hm ?_,h.as_.2⟩,⟨h.bs.1.modS hm ?_,h.bs.2⟩,h.off,h.rowA,h.rowB⟩
 ·rintro h0 i ⟨ad,e,rfl⟩;exact h.rowA ad e h0
 ·rintro h0 i ⟨ad,e,rfl⟩;exact h.rowB ad e h0
theorem MKn.ext {w w':World}{p:MPn}(h:MKn w p)(k:Ext w w'):MKn w' p:=h.mod (Mod.of_ext _ k)
def gQz (p:MPn)(x y:Int)(S:List I2)(w:World)(v:Value)(w':World):Prop:=
 Mod (·=p.q) w w'/\∃r:Bool,v= .bool r/\(r=true->eE p.D.nd x p.E.nd y)/\(r=false->¬eE p.D.nd x p.E.nd y/\∃S',mI w' p.q S'/\∀t∈S',t∈S∨¬eE p.D.nd t.1 p.E.nd t.2)
theorem RG (p:MPn)(ha:Rd0 p.D.nd)(hb:Rd0 p.E.nd):∀(k:Nat)(x y:Int)(S:List I2)(w:World),
  MKn w p->mI w p.q S->(∀t∈S,t.1+t.2<=x+y->¬eE p.D.nd t.1 p.E.nd t.2)->0<=x->0<=y->x<p.D.n+2->y<p.E.n+2->x+y<k->
  Fn Tryz.prog 166 (.int .i64 x:: .int .i64 y::p.caps) w (gQz p x y S w)
 | 0,x,y,_,_,_,_,_,x0,y0,_,_,hk=>by omega
 | k+1,x,y,S,w,hK,hS,Xi,x0,y0,hx,hy,hk=>by
  have ih:=RG p ha hb k;have KV:p.D.nd.length=p.D.n:=hK.as_.2;have fu:p.E.nd.length=p.E.n:=hK.bs.2;refine QF (c:={N0 with cuts:=[]}) Qa Tryz.func166 rfl rfl rfl ?_;refine X3 (λc1=>?_) (λc1=>?_)
  ·exact⟨Mod.refl _ _,false,rfl,λh=>(by cases h),λ_=>⟨(λ⟨e,e1,_⟩=>by rw[c1,JT (by decide)] at e1;cases e1),S,hS,λt ht=>.inl ht⟩⟩
  refine Qz (λc2=>?_) (λc2=>?_)
  ·refine QD hK.bob rfl ?_;by_cases y1:y=1
   ·subst y1;refine Q8 rfl ?_;exact⟨Mod.refl _ _,false,rfl,λh=>(by cases h),λ_=>⟨(λ⟨e,_,e1⟩=>by rw[JT (by decide)] at e1;cases e1),S,hS,λt ht=>.inl ht⟩⟩
   ·have Is:y=0:=by omega
    subst Is;refine Q3 rfl ?_;refine Zh c2 ?_;refine⟨Mod.refl _ _,true,rfl,λ_=>?_,λh=>by cases h⟩;obtain⟨e,he⟩:=RB ha x0 (by omega) c1;exact⟨e,he,by rw[JT (by decide)];rfl⟩
  refine XD c2 ?_;obtain⟨mq,em,YC⟩:=hS;refine QD hK.sxb rfl ?_;refine EZ (kv:=gR) (a:=((x,y):I2)) Qa rfl rfl rfl rfl AE rfl rfl em (YC (x,y)) ?_;refine Qz (λc3=>?_) (λc3=>?_)
  ·exact⟨Mod.refl _ _,false,rfl,λh=>(by cases h),λ_=>⟨Xi (x,y) c3 (lS _),S,⟨mq,em,YC⟩,λt ht=>.inl ht⟩⟩
  refine QD hK.sxb rfl ?_;refine r8 (kv:=gR) (a:=((x,y):I2)) Qa rfl rfl rfl rfl AE rfl rfl rfl em (λw1 eL Q4 nI=>?_);have Kd:=hK.mod eL;have KS:mI w1 p.q ((x,y)::S):=⟨_,nI,λt=>by
   rw[aS];by_cases ht:t=(x,y)
   ·subst ht;simp
   ·rw[if_neg ht,YC t];simp[ht]⟩
  have ZC:min (Ql p.D.nd x) (Ql p.E.nd y)<64:=by
   have:=am hb.dok (n:=y) c2 (by omega);rw[Z3];split<;>omega
  have kV:=ha.lvl0 (n:=x) (by omega);have XE:=hb.lvl0 (n:=y) (by omega);refine XK Qa (Ext w1) 8 [(true,0),(true,1),(true,3),(true,4),(false,2),(false,5),(true,6),(true,7)] (by kernel_rfl) (Ext.drew w1) ?_;refine Xs (vs:=p.D.cells) rfl (λw' Qb j v hj=>by rw[(Kd.axb.ext Qb).cell];exact hj) ?_;refine Xs (vs:=p.E.cells) rfl (λw' Qb j v hj=>by rw[(Kd.bxb.ext Qb).cell];exact hj) ?_;refine call (dJ p.D.A p.D.n p.D.c p.D.r x p.D.nd _ (Kd.as_.ext (Ext.drew w1)) (by omega)) ?_;rintro u w2 ⟨rfl,Qg⟩;have Xv:=(Ext.drew w1).trans Qg;refine⟨Xv,?_⟩;refine call (dJ p.E.A p.E.n p.E.c p.E.r y p.E.nd _ (Kd.bs.ext Xv) (by omega)) ?_;rintro u w3 ⟨rfl,Qj⟩;have XI:=Xv.trans Qj;refine⟨XI,?_⟩;have nX:(if Ql p.E.nd y<Ql p.D.nd x then Ql p.E.nd y else Ql p.D.nd x)=min (Ql p.D.nd x) (Ql p.E.nd y):=by
   rw[Z3];split<;>split<;>omega
  refine norm (m:=min (Ql p.D.nd x) (Ql p.E.nd y)) nX ?_;have rA:=gQy ha hb x0 (by omega) y0 (by omega) (rfl:min (Ql p.D.nd x) (Ql p.E.nd y)=_) ZC;have cq:Ql p.D.nd x=min (Ql p.D.nd x) (Ql p.E.nd y)∨Ql p.E.nd y=min (Ql p.D.nd x) (Ql p.E.nd y):=by rw[Z3];split<;>simp
  generalize ye:min (Ql p.D.nd x) (Ql p.E.nd y)=v at*;obtain⟨s1,s2,s3,s4,s5⟩:=Wp ha.dok (n:=x) x0 ZC;obtain⟨t1,t2,t3,t4,t5⟩:=Wp hb.dok (n:=y) y0 ZC;have dec:(Qm p.D.nd x v).1+(Qm p.E.nd y v).1<x+y/\(Qm p.D.nd x v).2+(Qm p.E.nd y v).2<x+y:=by
   rcases cq with e | e
   ·have:=s5 e;omega
   ·have:=t5 e;omega
  have eP:=Kd.ext XI;refine Qt eP.axb rfl ?_;refine call (jd p.D.A p.D.n p.D.c p.D.r x v p.D.nd _ eP.as_ (by omega) ZC) ?_;rintro u w4 ⟨rfl,Qs⟩;have VN:=eP.ext Qs;refine Qt VN.bxb rfl ?_;refine call (jd p.E.A p.E.n p.E.c p.E.r y v p.E.nd _ VN.bs (by omega) ZC) ?_;rintro u w5 ⟨rfl,Qw⟩;have ju:=VN.ext Qw;have Jm:=(XI.trans Qs).trans Qw;have Je:Mod (·=p.q) w w5:=eL.trans (Mod.of_ext (·=p.q) Jm) (λi hi=>.inl hi);have dZ:mI w5 p.q ((x,y)::S):=let ⟨m,k1,k2⟩:=KS;⟨m,k1.ext Jm,k2⟩;refine QD ju.cxb rfl ?_;refine call (ih (Qm p.D.nd x v).1 (Qm p.E.nd y v).1 ((x,y)::S) w5 ju dZ (λt ht Zz=>by
   rcases Q1.1 ht with rfl | ht
   ·exact Xn Zz (by simp only;omega)
   ·exact Xi t ht (by omega)) s1 t1 (by omega) (by omega) (by omega)) ?_
  rintro _ w6 ⟨K4,r0,rfl,ww,iy⟩;have xq:Mod (·=p.q) w w6:=Je.trans K4 (λi hi=>.inl hi);cases r0 with
  | true=>
   refine Q8 rfl ?_;exact⟨xq,true,rfl,λ_=>rA.2 (.inl (ww rfl)),λh=>by cases h⟩
  | false=>
   obtain⟨n0,S6,aC,xr⟩:=iy rfl;refine Q3 rfl ?_;have bY:=ju.mod K4;refine QD bY.cxb rfl ?_;refine call (ih (Qm p.D.nd x v).2 (Qm p.E.nd y v).2 S6 w6 bY aC (λt ht Zz=>by
    rcases xr t ht with ht | ht
    ·rcases Q1.1 ht with rfl | ht
     ·exact Xn Zz (by simp only;omega)
     ·exact Xi t ht (by omega)
    ·exact ht) s3 t3 (by omega) (by omega) (by omega)) ?_
   rintro _ w7 ⟨Xf,r1,rfl,nt,Zf⟩;have It:Mod (·=p.q) w w7:=xq.trans Xf (λi hi=>.inl hi);refine⟨It,r1,rfl,λh=>rA.2 (.inr (nt h)),λh=>?_⟩;obtain⟨n1,S7,Vu,Iu⟩:=Zf h;have nn:¬eE p.D.nd x p.E.nd y:=λhh=>(rA.1 hh).elim n0 n1
   refine⟨nn,S7,Vu,λt ht=>?_⟩;rcases Iu t ht with ht | ht
   ·rcases xr t ht with ht | ht
    ·rcases Q1.1 ht with rfl | ht
     ·exact .inr nn
     ·exact .inl ht
    ·exact .inr ht
   ·exact .inr ht
theorem gQA (A:Option Addr)(n c:Nat)(a:List Br)(ra:Int)(B:Option Addr)(m d:Nat)(b:List Br)(rb:Int)(w:World)(h:SB w A n c a)(h':SB w B m d b)(ha:VD a ra)(hb:VD b rb):
  Fn Tryz.prog 112 [Xk A n c ra,Xk B m d rb,.bool false] w (λu w'=>∃r:Bool,u= .bool r/\Ext w w'/\(r=true↔eE a ra b rb)):=by
 have KV:=h.2;have fu:=h'.2;refine QF (c:={NY with cuts:=[]}) Qa Tryz.func112 rfl rfl rfl ?_;refine new (λw1 Qe Q4 Qh=>?_);refine new (λw2 Qg Zb Qx=>?_);refine new (λw3 Qj JC Qu=>?_);have QX:=(Qe.trans Qg).trans Qj;refine r7 Qa gR rfl ?_;intro w4 Qs KO Iv;refine new (λw5 Qw KP QG=>?_);refine KD QG (by decide) (λw6 K4 Q9=>?_);have XF:Ext w4 w6:=K4.ext Qw (λi hi=>by omega);refine new (λw7 Xb Wu Q2=>?_);refine KD Q2 (by decide) (λw8 ZL Xw=>?_);have gj:Ext w6 w8:=ZL.ext Xb (λi hi=>by omega);have jz:=XF.trans gj;have lu:=Qs.trans jz;have Y6:=QX.trans lu;have z6:=XF.size
 let p:MPn:=⟨⟨A,n,c,a,ra⟩,⟨B,m,d,b,rb⟩,w2.heap.size,w4.heap.size,w.heap.size,w1.heap.size,w6.heap.size,w3.heap.size⟩
 have hK:MKn w8 p:=by
  refine⟨Qu.ext lu,Q9.ext gj,Qh.ext ((Qg.trans Qj).trans lu),Qx.ext (Qj.trans lu),Xw,h.ext Y6,h'.ext Y6,?_,λad e h0=>?_,λad e h0=>?_⟩
  ·simp only[p];omega
  ·have:=SB.lt h ad e h0;simp only[p];omega
  ·have:=SB.lt h' ad e h0;simp only[p];omega
 refine QD hK.cxb rfl ?_;refine Qo hK.axb rfl ?_;refine Qo hK.bxb rfl ?_;refine call (RG p ha.rd0 hb.rd0 (ra.toNat+rb.toNat+1) ra rb [] w8 hK ⟨[],Iv.ext jz,λt=>rfl⟩ (λt ht=>by cases ht) ha.2.1 hb.2.1 (by have:=ha.2.2.1;simp only[p];omega) (by have:=hb.2.2.1;simp only[p];omega) (by have:=ha.2.1;have:=hb.2.1;omega)) ?_;rintro _ w9 ⟨Zj,r,rfl,h1,h2⟩;refine⟨r,rfl,Zj.ext Y6 (λi hi=>by simp only[p] at hi;have:=QX.size;omega),⟨h1,λhh=>?_⟩⟩;cases r with
 | true=>rfl
 | false=>exact Xn hh (h2 rfl).1
open Classical in
def gS (a:List Br)(ra:Int)(b:List Br)(rb:Int):Bool:=decide (XL a ra=0/\XL b rb=0/\¬eE a ra b rb)
open Classical in
theorem jZk {a:List Br}{ra:Int}{b:List Br}{rb:Int}:gS a ra b rb=true↔XL a ra=0/\XL b rb=0/\¬eE a ra b rb:=by unfold gS;exact decide_eq_true_iff
theorem gQB {a:List Br}{ra:Int}{b:List Br}{rb:Int}(h:XL a ra=0/\XL b rb=0/\¬eE a ra b rb):gS a ra b rb=true:=jZk.2 h
theorem RH {a:List Br}{ra:Int}{b:List Br}{rb:Int}(h:¬(XL a ra=0/\XL b rb=0/\¬eE a ra b rb)):gS a ra b rb=false:=by
 cases hh:gS a ra b rb with
 | false=>rfl
 | true=>exact Xn (jZk.1 hh) h
theorem RI (A:Option Addr)(n c:Nat)(a:List Br)(ra:Int)(B:Option Addr)(m d:Nat)(b:List Br)(rb:Int)(w:World)(h:SB w A n c a)(h':SB w B m d b):
  Fn Tryz.prog 62 [Xk A n c ra,Xk B m d rb] w (λu w'=>u= .bool (gS a ra b rb)/\Ext w w'):=by
 refine QF (c:={c62 with cuts:=[]}) Qa Tryz.func62 rfl rfl rfl ?_;refine new (λw1 Qe Q4 Qh=>?_);refine new (λw2 Qg Zb Qx=>?_);have Q5:=Qe.trans Qg;refine Qt (Qh.ext Qg) rfl ?_;refine Qt Qx rfl ?_;refine Xh Qa [(⟨A,n,c,a,ra⟩:DV).cells,(⟨B,m,d,b,rb⟩:DV).cells] rfl rfl rfl rfl rfl ⟨rfl,rfl,rfl,rfl,⟨⟩⟩ rfl (λcs h=>by simp only[Q1,Jo,Jw] at h;rcases h with rfl | rfl<;>rfl) rfl (by decide) (by decide) ?_;intro w5 Qw KP QG;have J3:=Q5.trans Qw;have hL:SlS DV.cells 2 w5 (some ⟨w2.heap.size,0,none⟩) 2 2 [⟨A,n,c,a,ra⟩,⟨B,m,d,b,rb⟩]:=⟨Sl.own (sz:=2) (n:=2) QG (QB _) (by decide) (by simp[DV.cells]),rfl⟩
 refine call (Ac _ 2 2 _ w5 hL (λx hx=>by
  simp only[Q1,Jo,Jw] at hx;rcases hx with rfl | rfl
  ·exact h.ext J3
  ·exact h'.ext J3)) ?_
 rintro v w6 ⟨rfl,QO⟩;have XR:=J3.trans QO;have ef:cH [(⟨A,n,c,a,ra⟩:DV),⟨B,m,d,b,rb⟩]=if XL a ra≠0 then XL a ra else if XL b rb≠0 then XL b rb else 0:=rfl
 have iy:cH [(⟨A,n,c,a,ra⟩:DV),⟨B,m,d,b,rb⟩]=0↔XL a ra=0/\XL b rb=0:=by
  rw[ef];by_cases h1:XL a ra=0
  ·rw[if_neg (λhh=>hh h1)];by_cases h2:XL b rb=0
   ·rw[if_neg (λhh=>hh h2)];simp[h1,h2]
   ·rw[Qf h2];simp[h2]
  ·rw[Qf h1];simp[h1]
 refine X3 (λc1=>?_) (λc1=>?_)
 ·obtain⟨ca,cb⟩:=iy.1 c1;refine Qt ((Qh.ext Qg).ext (Qw.trans QO)) rfl ?_;refine Qt (Qx.ext (Qw.trans QO)) rfl ?_;refine call (gQA A n c a ra B m d b rb w6 (h.ext XR) (h'.ext XR) (gK.1 ca).2 (gK.1 cb).2) ?_;rintro _ w7 ⟨r,rfl,Xb,hr⟩;refine⟨?_,XR.trans Xb⟩;cases r with
  | true=>rw[RH (λhh=>hh.2.2 (hr.1 rfl))]<;>rfl
  | false=>rw[gQB ⟨ca,cb,λhh=>by have:=hr.2 hh;cases this⟩];rfl
 ·exact⟨by rw[RH (λhh=>c1 (iy.2 ⟨hh.1,hh.2.1⟩))],XR⟩
end
theorem AF (l:List Nat)(w:World)(hl:∀x∈l,x<256):
  Fn Tryz.prog 47 [.string (Qd l)] w (λu w'=>u= .bool (bP l)/\Ext w w'):=by
 refine QF (c:={c47 with cuts:=[]}) Qa Tryz.func47 rfl rfl rfl ?_;refine Xh Qa ([ZQ,pElif,pInc].map (λs=>[Value.string (Qd s)])) rfl rfl rfl rfl rfl ⟨rfl,rfl,rfl,rfl,rfl,rfl,⟨⟩⟩ rfl (λcs h=>by simp only[X7] at h;obtain⟨s,_,rfl⟩:=h;rfl) rfl (by decide) (by decide) ?_;intro w1 Qe Q4 Qh;refine loop Qa [7] (λi:Nat=>[.int .i64 i]) (λi w'=>w1=w'/\i<=3/\([ZQ,pElif,pInc].take i).any (λp=>p.isPrefixOf l)=false) (λi _=>3-i) 0 rfl ⟨rfl,Xr _,rfl⟩ ?_;rintro i _ ⟨rfl,hi,Xi⟩;by_cases h3:i<3
 ·refine Zh (show((i:Nat):Int)<3 by omega) ?_;obtain⟨p,hp⟩:∃p,([ZQ,pElif,pInc]:List (List Nat))[i]? =some p:=⟨_,Xp (show i<3 from h3)⟩
  have hp8:∀x∈p,x<256:=by
   have:∀q∈([ZQ,pElif,pInc]:List (List Nat)),∀x∈q,x<256:=by decide
   exact this p (Xm hp)
  refine index (j:=i) h3 ?_;refine Qo (v:=.string (Qd p)) Qh (by
   rcases(show i=0∨i=1∨i=2 by omega)with rfl | rfl | rfl<;>(cases hp;rfl)) ?_
  refine call (FG l p w1 hl hp8) ?_;rintro _ _ ⟨rfl,rfl⟩;refine WI (λd1=>?_) (λd1=>?_)
  ·refine⟨?_,Qe⟩;have d1:p.isPrefixOf l=true:=d1;have hm:=Xm hp;simp only[Q1,Jo,Jw] at hm;unfold bP;rcases hm with rfl | rfl | rfl<;>rw[d1]<;>simp
  ·have d1:p.isPrefixOf l=false:=d1;refine Qi ((i+1:Nat):Int) (by show((i:Nat):Int)+1=_;omega) (by omega) ?_;refine⟨i+1,rfl,⟨rfl,by omega,?_⟩,by show 3-(i+1)<3-i;omega⟩;rw[K9,hp,List.any_append,Xi];simp[d1]
 ·have hi3:i=3:=by omega
  subst hi3;refine XD (by decide) ?_;have Xi:(ZQ.isPrefixOf l||(pElif.isPrefixOf l||(pInc.isPrefixOf l||false)))=false:=Xi;simp only[Bool.or_eq_false_iff] at Xi;obtain⟨n1,n2,n3,_⟩:=Xi;have e:bP l=(decide (l=V0++ [10])||decide (l=ZK++ [10])):=by unfold bP;rw[n1,n2,n3]<;>rfl
  have q1:(Qd l=(Qd (V0++ [10])))↔l=V0++ [10]:=⟨λhh=>J8 hl (by decide) hh,λhh=>by rw[hh]⟩
  have q2:(Qd l=(Qd (ZK++ [10])))↔l=ZK++ [10]:=⟨λhh=>J8 hl (by decide) hh,λhh=>by rw[hh]⟩
  by_cases c1:l=V0++ [10]
  ·refine Zh (q1.2 c1) ?_;exact⟨by rw[e,Zy c1];rfl,Qe⟩
  ·refine XD (λhh=>c1 (q1.1 hh)) ?_;refine⟨?_,Qe⟩;rw[e,Zq c1,Bool.false_or];by_cases c2:l=ZK++ [10]
   ·rw[Zy c2];exact QC Value.bool (Zy (q2.2 c2))
   ·rw[Zq c2];exact QC Value.bool (Zq (λhh=>c2 (q2.1 hh)))
theorem gQC (l:List Nat)(w:World)(hl:∀x∈l,x<256)(QY:l.length<=1000000000000):
  Fn Tryz.prog 168 [.string (Qd l),.string (Qd [10])] w (λv w'=>v= .bool (l.getLast? ==some 10)/\w=w'):=by
 have XJ:=Xe l;refine QF (c:=cQO) Qa Tryz.func168 rfl rfl rfl ?_;have h1:(Qd [10]).size=1:=rfl;refine Qz (λc1=>?_) (λc1=>?_)
 ·have W6:1<=l.length:=by omega
  refine Qi ((l.length-1:Nat):Int) (by omega) (by omega) ?_;refine XH (v':=.string (Qd (l.drop (l.length-1)))) ⟨by omega,by rw[XJ];omega,by rw[XJ];omega⟩ (by
   rw[KY,XJ];show Value.string (Qd ((l.take l.length).drop _))=_;rw[Jc (QB _)];rfl) ?_
  refine⟨?_,rfl⟩;obtain⟨a,b,rfl⟩:∃a b,l=a++ [b]:=by
   rcases uO l with e | ⟨a,b,e⟩
   ·subst e;simp at W6
   ·exact⟨a,b,by rw[e,List.concat_eq_append]⟩
  have e1:(a++ [b]).drop ((a++ [b]).length-1)=[b]:=by simp
  rw[e1];have hb:b<256:=hl b (by simp);rw[List.getLast?_concat];by_cases qy:b=10
  ·subst qy;simp
  ·have:¬Qd [b]=Qd [10]:=λhh=>qy (by
    have:=J8 (l:=[b]) (m:=[10]) (by simpa using hb) (by decide) hh;simpa using this)
   simp[this,qy]
 ·have kV:l=[]:=Wg (by omega);subst kV;exact⟨rfl,rfl⟩
theorem gQD (l:List Nat)(w:World)(hl:∀x∈l,x<256)(QY:l.length<=1000000000000):
  Fn Tryz.prog 113 [.string (Qd l),.string (Qd [10])] w (λv w'=>v= .bool (l.getLast? ==some 10)/\w=w'):=by
 refine QF (c:=cQb) Qa Tryz.func113 rfl rfl rfl ?_;refine call (gQC l w hl QY) ?_;rintro _ _ ⟨rfl,rfl⟩;exact⟨rfl,rfl⟩
end
section
variable {nm:List (List Nat)} {n:Nat}
def Zi (nm:List (List Nat))(f:Nat->List Nat):Nat->Nat->List Nat->List (List Nat)
 | 0,_,l=>QR (f (l.headD 0))
 | k+1,v,l=>if∀c∈l,f c=f (l.headD 0)then QR (f (l.headD 0))else
  if l.filter (λc=> !c.testBit v)=[]∨l.filter (λc=>c.testBit v)=[] then Zi nm f k (v+1) l else
  if Zi nm f k (v+1) (l.filter (λc=>c.testBit v))=Zi nm f k (v+1) (l.filter (λc=> !c.testBit v))then Zi nm f k (v+1) (l.filter (λc=>c.testBit v))else
  bO nm v (Zi nm f k (v+1) (l.filter (λc=>c.testBit v))) (Zi nm f k (v+1) (l.filter (λc=> !c.testBit v)))
theorem AG {l:List Nat}(h:l≠ []):l.headD 0∈l:=by
 cases l with
 | nil=>exact Xn rfl h
 | cons a l=>simp
theorem sZ {f:Nat->List Nat}{l:List Nat}(hl:l≠ []){t:List Nat}(h:∀c∈l,f c=t):∀k v,Zi nm f k v l=QR t:=by
 have h0:=h _ (AG hl);intro k v;cases k with
 | zero=>rw[Zi,h0]
 | succ k=>rw[Zi,Qf (λc hc=>by rw[h c hc,h0]),h0]
theorem s6 {f:Nat->List Nat}{l:List Nat}(hl:l≠ [])(k v:Nat):Zi nm f (k+1) v l=
  if l.filter (λc=> !c.testBit v)=[]∨l.filter (λc=>c.testBit v)=[] then Zi nm f k (v+1) l else
  if Zi nm f k (v+1) (l.filter (λc=>c.testBit v))=Zi nm f k (v+1) (l.filter (λc=> !c.testBit v))then Zi nm f k (v+1) (l.filter (λc=>c.testBit v))else
  bO nm v (Zi nm f k (v+1) (l.filter (λc=>c.testBit v))) (Zi nm f k (v+1) (l.filter (λc=> !c.testBit v))):=by
 by_cases hc:∀c∈l,f c=f (l.headD 0)
 ·rw[sZ hl hc,sZ hl hc];split
  ·rfl
  ·rename_i h;have h1:l.filter (λc=> !c.testBit v)≠ []:=λe=>h (.inl e)
   have h2:l.filter (λc=>c.testBit v)≠ []:=λe=>h (.inr e)
   rw[sZ h1 (λc hm=>hc c (VU.1 hm).1),sZ h2 (λc hm=>hc c (VU.1 hm).1),Qf rfl]
 ·rw[Zi,if_neg hc]
def Apt (l:List Nat)(v k:Nat):Prop:=∀c∈l,∀c'∈l,(∀i,v<=i->i<v+k->c.testBit i=c'.testBit i)->c=c'
theorem Apt.sub {l m:List Nat}{v k:Nat}(h:Apt l v (k+1))(hm:∀c∈m,c∈l)(he:∀c∈m,∀c'∈m,c.testBit v=c'.testBit v):Apt m (v+1) k:=λc hc c' Jv hb=>h c (hm c hc) c' (hm c' Jv) (λi h1 h2=>by
 by_cases e:i=v
 ·subst e;exact he c hc c' Jv
 ·exact hb i (by omega) (by omega))
end
section
section
def ChG:Nat->List Sg->Nat->Prop
 | a,[],b=>a=b
 | a,s::l,b=>s.f=a/\ChG s.t l b
theorem ChG.snoc {x:Sg}:∀{l:List Sg}{a b:Nat},ChG a (l++ [x]) b↔ChG a l x.f/\x.t=b
 | [],a,b=>by simp only[bF,ChG];exact⟨λh=>⟨h.1.symm,h.2⟩,λh=>⟨h.1.symm,h.2⟩⟩
 | s::l,a,b=>by
  simp only[YF,ChG];rw[ChG.snoc (l:=l)];exact⟨λh=>⟨⟨h.1,h.2.1⟩,h.2.2⟩,λh=>⟨h.1.1,h.1.2,h.2⟩⟩
structure SgOk (fs:List (List Nat×List Nat)) (tx:List Nat) (s:Sg):Prop where
 ft:s.f<s.t
 tl:s.t<=tx.length
 nl:tx[s.t-1]? =some 10
 src:∃x,fs[s.fl]? =some x/\s.at_+(s.t-s.f)<=x.2.length/\(x.2.drop s.at_).take (s.t-s.f)=(tx.take s.t).drop s.f
theorem SgOk.app {fs:List (List Nat×List Nat)}{tx:List Nat}{s:Sg}(h:SgOk fs tx s)(l:List Nat):SgOk fs (tx++l) s:=by
 obtain⟨h1,h2,h3,x,h4,h5,h6⟩:=h;refine⟨h1,by rw[Qq];omega,by rw[fD (by omega)];exact h3,x,h4,h5,?_⟩;rw[DX h2];exact h6
structure GInv (fs:List (List Nat×List Nat)) (g:Gs):Prop where
 ch:ChG 0 g.sg g.tx.length
 ok:∀s∈g.sg,SgOk fs g.tx s
theorem GInv.fr {fs:List (List Nat×List Nat)}{g:Gs}(h:GInv fs g)(b:Bool):GInv fs {g with fr:=b}:=⟨h.ch,h.ok⟩
def gT (n p:Nat)(k:BF)(g:Gs):Prop:=g.fr=false->∃l x,g.sg=l++ [x]/\x.fl=n/\x.at_+(x.t-x.f)=p/\x.o=k
theorem FT {fs:List (List Nat×List Nat)}{n p:Nat}{k:BF}{g g':Gs}{s:List Nat}(h:GInv fs g)(hc:gT n p k g){x:List Nat×List Nat}(hx:fs[n]? =some x)(hs:x.2.drop p=s++x.2.drop (p+s.length))(hp:p+s.length<=x.2.length)(hl:s.getLast? =some 10)
  (ha:KZ s n p k g=some g'):GInv fs g'/\gT n (p+s.length) k g':=by
 unfold KZ at ha;split at ha
 ·cases ha
 cases ha;have Bh:0<s.length:=by
  cases s with
  | nil=>cases hl
  | cons _ _=>simp
 have Kl:(g.tx++s)[g.tx.length+s.length-1]? =some 10:=by
  rw[WC (by omega),show g.tx.length+s.length-1-g.tx.length=s.length-1 by omega,<-rL];exact hl
 cases hf:g.fr with
 | true=>
  rw[Qf rfl,gO];refine⟨⟨?_,λy hy=>?_⟩,λ_=>⟨_,_,rfl,rfl,?_,rfl⟩⟩
  ·simp only;rw[ChG.snoc];exact⟨h.ch,by simp⟩
  ·simp only[XM,QN] at hy;rcases hy with hy | rfl
   ·exact(h.ok y hy).app s
   ·refine⟨by simp only;omega,by simp,Kl,x,hx,by simp only;omega,?_⟩;simp only;rw[show g.tx.length+s.length-g.tx.length=s.length by omega,hs,List.take_left,Jc (by simp),o0]
  ·simp only;omega
 | false=>
  rw[if_neg (by decide)];obtain⟨l,y,e,e1,e2,e3⟩:=hc hf;have Jj:=h.ch;have X0:=h.ok;rw[e] at Jj X0;rw[ChG.snoc] at Jj;obtain⟨q1,q2,q3,z,q4,q5,q6⟩:=X0 y (by simp);rw[e,gO];have hz:z=x:=by rw[e1,hx] at q4;exact(Option.some.inj q4).symm
  subst hz;refine⟨⟨?_,λu hu=>?_⟩,λ_=>⟨_,_,rfl,e1,?_,e3⟩⟩
  ·simp only;rw[ChG.snoc];exact⟨Jj.1,by simp⟩
  ·simp only[XM,QN] at hu;rcases hu with hu | rfl
   ·exact(X0 u (by simp[hu])).app s
   ·refine⟨by simp only;omega,by simp,Kl,z,q4,by simp only;omega,?_⟩;simp only;rw[show g.tx.length+s.length-y.f=(y.t-y.f)+s.length by omega,Jc (l:=g.tx++s) (by simp),M4 (by omega)];rw[List.take_add,lP,e2,hs,List.take_left,q6,Jj.2,lR]
  ·simp only;omega
theorem RJ {nm:List (List Nat)}{fs:List (List Nat×List Nat)}{n d0:Nat}{inc:mE}{x:List Nat×List Nat}(hx:fs[n]? =some x)
  (hi:∀r ln d k g g',inc r ln d k g= .ok g'->GInv fs g->GInv fs g'):∀(ls:List (List Nat)) (ln at_:Nat) (k:BF) (op:List Se) (g g':Gs),
  x.2.drop at_=Qp ls->at_<=x.2.length->GInv fs g->gT n at_ k g->ZX nm n d0 inc ls ln at_ k op g= .ok g'->GInv fs g'/\g'.fr=true
 | [],ln,at_,k,op,g,g',_,_,hg,_,hr=>by
  cases op with
  | nil=>simp only[ZX,Except.ok.injEq] at hr;subst hr;exact⟨hg.fr true,rfl⟩
  | cons _ _=>simp[ZX] at hr
 | s::ls,ln,at_,k,op,g,g',hd,bA,hg,hc,hr=>by
  have XE:x.2.drop at_=(s++ [10])++Qp ls:=by rw[hd,V3];simp
  have hL:(s++ [10]).length=s.length+1:=by simp
  have QY:x.2.length-at_=s.length+1+(Qp ls).length:=by
   have:=QC List.length XE;simp only[Wj,Qq,Q6,Jn] at this;omega
  have az:x.2.drop (at_+s.length+1)=Qp ls:=by
   rw[show at_+s.length+1=at_+(s++ [10]).length by simp;omega,<-lP,XE,o0]
  have ih:=λk op g g' h1 h2 h3=>RJ (nm:=nm) (d0:=d0) hx hi ls (ln+1) (at_+s.length+1) k op g g' az (by omega) h1 h2 h3
  have cf:∀k' (g:Gs),gT n (at_+s.length+1) k' {g with fr:=true}:=λk' g h=>by cases h
  rw[ZX.eq_def] at hr;simp only at hr;cases XX:Zn s with
  | txt=>
   rw[XX] at hr;simp only at hr;cases ha:KZ (s++ [10]) n at_ k g with
   | none=>rw[ha] at hr;cases hr
   | some g1=>
    rw[ha] at hr;simp only at hr;obtain⟨i1,i2⟩:=FT hg hc hx (by rw[hL,<-jP,az];exact XE) (by rw[hL];omega) (by simp) ha;exact ih k op g1 g' i1 (by rw[hL,<-jP] at i2;exact i2) hr
  | ifd r=>
   rw[XX] at hr;simp only at hr;cases hs:VH nm r with
   | error e=>rw[hs] at hr;cases hr
   | ok d=>
    rw[hs] at hr;simp only at hr;split at hr
    ·cases hr
    ·exact ih _ _ _ _ (hg.fr true) (cf _ _) hr
  | inc r=>
   rw[XX] at hr;simp only at hr;cases hs:inc r (ln+1) (d0+op.length) k g with
   | error e=>rw[hs] at hr;cases hr
   | ok g1=>
    rw[hs] at hr;exact ih _ _ _ _ ((hi _ _ _ _ _ _ hs hg).fr true) (cf _ _) hr
  | elif r=>
   rw[XX] at hr;cases op with
   | nil=>cases hr
   | cons y op=>
    simp only at hr;split at hr
    ·cases hr
    ·cases hs:VH nm r with
     | error e=>rw[hs] at hr;cases hr
     | ok d=>rw[hs] at hr;exact ih _ _ _ _ (hg.fr true) (cf _ _) hr
  | els=>
   rw[XX] at hr;cases op with
   | nil=>cases hr
   | cons y op=>
    simp only at hr;split at hr
    ·cases hr
    ·exact ih _ _ _ _ (hg.fr true) (cf _ _) hr
  | en=>
   rw[XX] at hr;cases op with
   | nil=>cases hr
   | cons y op=>exact ih _ _ _ _ (hg.fr true) (cf _ _) hr
theorem RK {nm:List (List Nat)}{fs:List (List Nat×List Nat)}(hf:∀x∈fs,Wt x.2):∀(f:Nat)(rd:List Nat)(d n:Nat)(k:BF)(g g':Gs),n<fs.length->GInv fs g->WN nm fs f rd d n k g= .ok g'->GInv fs g'/\g'.fr=true
 | 0,_,_,_,_,_,_,_,_,hr=>by cases hr
 | f+1,rd,d,n,k,g,g',hn,hg,hr=>by
  have hx:fs[n]? =some fs[n]:=Xp hn;rw[WN,hx] at hr;simp only[uK,fG] at hr;refine RJ hx ?_ (QR fs[n].2) 0 0 k [] {g with fr:=true} g' (by rw[rK,V4 (hf _ (M1 hn))]) (Xr _) (hg.fr true) (λh=>by cases h) hr;intro r ln d' k' g1 g2 hi eK;cases he:cI (Jd (fs.map (·.1))) (n::rd) r with
  | error e=>rw[he] at hi;cases hi
  | ok m=>
   rw[he] at hi;simp only at hi;split at hi
   ·cases hi
   ·have hm:m<fs.length:=by
     obtain⟨_,tn,yv⟩:=FM he;have:=kA yv;simpa using this
    exact(RK hf f _ _ m _ g1 g2 hm eK hi).1
theorem gQE {nm:List (List Nat)}{fs:List (List Nat×List Nat)}{root:List Nat}{g:Gs}(hr:V5 nm fs root= .ok g):GInv fs g/\fs.length<=256/\∀x∈fs,x.2.length<=1048576:=by
 unfold V5 at hr;split at hr
 ·cases hr
 cases KL:YJ fs with
 | some p=>rw[KL] at hr;cases hr
 | none=>
  rw[KL] at hr;simp only at hr;have kQW:fs.length<=256:=by
   unfold YJ at KL;split at KL
   ·cases KL
   ·omega
  have hall:∀x∈fs,mA x.1=true/\aX x.2=true/\x.2.length<=1048576:=by
   unfold YJ at KL;rw[if_neg (by omega)] at KL;exact Ay fs [] 0 KL
  cases Kr:Jd (fs.map (·.1)) root with
  | none=>rw[Kr] at hr;cases hr
  | some n=>
   rw[Kr] at hr;simp only at hr;have hn:n<fs.length:=by have:=kA Kr;simpa using this
   exact⟨(RK (λx hx=>mH (hall x hx).2.1) 65 [] 0 n _ _ g hn (⟨rfl,λs hs=>by cases hs⟩:GInv fs ⟨[],[],false⟩) hr).1,kQW,λx hx=>(hall x hx).2.2⟩
end
section
def mkX (s:Sg)(x:DV):Sx:=⟨s.f,s.t,s.fl,s.at_,x⟩
def AllS (k:Nat):List Sg->List Sx->Prop
 | [],[]=>True
 | s::l,y::m=>(y.f=s.f/\y.t=s.t/\y.fl=s.fl/\y.at_=s.at_/\Set1 k y.x.nd y.x.r s.o)/\AllS k l m
 | _,_=>False
theorem AllS.len {k:Nat}:∀{l:List Sg}{m:List Sx},AllS k l m->l.length=m.length
 | [],[],_=>rfl
 | _::_,_::_,h=>by simp[AllS.len h.2]
theorem AllS.get {k:Nat}:∀{l:List Sg}{m:List Sx}{i:Nat}{s:Sg}{y:Sx},AllS k l m->l[i]? =some s->m[i]? =some y->y.f=s.f/\y.t=s.t/\y.fl=s.fl/\y.at_=s.at_/\Set1 k y.x.nd y.x.r s.o
 | _::_,_::_,0,_,_,h,h1,h2=>by cases h1;cases h2;exact h.1
 | _::_,_::_,i+1,_,_,h,h1,h2=>AllS.get (i:=i) h.2 (by simpa using h1) (by simpa using h2)
theorem gQF {w:World}{k:Nat}{A:Option Addr}{n c:Nat}{sg:List Sg}{L:List DV}(h:SgIn w k A n c sg L):∃M,SX w A n c M/\AllS k sg M:=by
 have key:∀(sg:List Sg) (L:List DV),L.length=sg.length->(∀(j:Nat) (s:Sg) (x:DV),sg[j]? =some s->L[j]? =some x->SB w x.A x.n x.c x.nd/\Set1 k x.nd x.r s.o)->
   ∃M:List Sx,M.flatMap Sx.cells=cM sg L/\M.length=sg.length/\(∀y∈M,SB w y.x.A y.x.n y.x.c y.x.nd)/\AllS k sg M:=by
  intro sg;induction sg with
  | nil=>
   intro L hl _;have:L=[]:=Wg hl;subst this;exact⟨[],rfl,rfl,(λy hy=>by cases hy),⟨⟩⟩
  | cons s sg ih=>
   intro L hl hd;cases L with
   | nil=>cases hl
   | cons x L=>
    obtain⟨M,h1,h2,h3,h4⟩:=ih L (by simpa using hl) (λj s x h1 h2=>hd (j+1) s x (by simpa using h1) (by simpa using h2));obtain⟨d1,d2⟩:=hd 0 s x rfl rfl;refine⟨mkX s x::M,?_,by simp[h2],?_,⟨⟨rfl,rfl,rfl,rfl,d2⟩,h4⟩⟩
    ·rw[Yl,h1]<;>rfl
    ·intro y hy;rcases Q1.1 hy with rfl | hy
     ·exact d1
     ·exact h3 y hy
 obtain⟨M,h1,h2,h3,h4⟩:=key sg L h.len h.dg;exact⟨M,⟨⟨by rw[h1];exact h.sl,by rw[h2];exact h.n⟩,h3⟩,h4⟩
def Vf (tx:List Nat)(s:Sg):List Nat:=(tx.take s.t).drop s.f
structure SrcIn (w:World) (k:Nat) (A:Option Addr) (c:Nat) (g:Gs):Prop where
 ok:GsOk g
 kl:k<=12
 ex:∃M,SX w A g.sg.length c M/\AllS k g.sg M/\gQt g.tx M=0
theorem SrcIn.ext {w w':World}{k:Nat}{A:Option Addr}{c:Nat}{g:Gs}(h:SrcIn w k A c g)(hE:Ext w w'):SrcIn w' k A c g:=⟨h.ok,h.kl,let ⟨M,h1,h2,h3⟩:=h.ex;⟨M,h1.ext hE,h2,h3⟩⟩
section
variable {w:World} {k:Nat} {A:Option Addr} {c:Nat} {g:Gs}
end
end
section
end
end
end Go.Proofs.YtjabbbcdgmlojaaGreatDoor
