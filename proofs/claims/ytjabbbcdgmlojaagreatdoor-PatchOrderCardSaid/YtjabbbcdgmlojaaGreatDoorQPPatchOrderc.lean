/-
  What PPatchOrder rests on, part 3 (wip/shake.py).
  Conditions: none.
-/
import Derived.Test.YtjabbbcdgmlojaaGreatDoorQPPatchOrderb
set_option linter.all false
set_option linter.deprecated false
set_option maxHeartbeats 12800000
namespace Go.Proofs.YtjabbbcdgmlojaaGreatDoor
open Go Go.RowKit
section
structure DgI (w0:World) (g:Nat) (f:List Fz) (k n s:Nat) (L:List DV) (w:World):Prop where
 m:Mod (·=g) w0 w
 blk:Blk w g 32 (L.flatMap DV.cells)
 len:L.length=n
 got:∀j,j<s->∃x t,L[j]? =some x/\RepF f t j/\SB w x.A x.n x.c x.nd/\Set1 k x.nd x.r (evF t)/\∀i,Qi x.A i->g<i
theorem SB.mod {S:Nat->Prop}{w w':World}{A:Option Addr}{n c:Nat}{nd:List Br}(h:SB w A n c nd)(hm:Mod S w w')(hr:∀i,Qi A i->¬S i):SB w' A n c nd:=⟨h.1.modS hm (λ_ i hi=>hr i hi),h.2⟩
theorem DgI.mod {w0 w w':World}{g:Nat}{f:List Fz}{k n s:Nat}{L:List DV}(h:DgI w0 g f k n s L w)(k1:Ext w w'):DgI w0 g f k n s L w':=
 ⟨h.m.trans (Mod.of_ext (·=g) k1) (λ_ hi=>.inl hi),h.blk.ext k1,h.len,λj hj=>by
  obtain⟨x,t,h1,h2,h3,h4,h5⟩:=h.got j hj;exact⟨x,t,h1,h2,h3.ext k1,h4,h5⟩⟩
theorem DgI.put {w0 w w':World}{g:Nat}{f:List Fz}{k n s:Nat}{L:List DV}(h:DgI w0 g f k n s L w)(hs:s<n){x:DV}{t:Fm}(ht:RepF f t s)(hx:SB w x.A x.n x.c x.nd)(hS:Set1 k x.nd x.r (evF t))(hr:∀i,Qi x.A i->g<i)(hm:Mod (·=g) w w')
  (hb:Blk w' g 32 (KH (s*2) x.cells (L.flatMap DV.cells))):DgI w0 g f k n (s+1) (L.set s x) w':=by
 have hl:=h.len;refine⟨h.m.trans hm (λ_ hi=>.inl hi),by rw[<-yT cv L x (by omega)];exact hb,by rw[bZ];exact hl,λj hj=>?_⟩;by_cases Ys:j=s
 ·subst Ys;exact⟨x,t,by rw[gU (by omega)],ht,hx.mod hm (λi hi e=>by have:=hr i hi;omega),hS,hr⟩
 ·obtain⟨y,u,h1,h2,h3,h4,h5⟩:=h.got j (by omega);exact⟨y,u,by rw[ew (λe=>Ys e.symm)];exact h1,h2,h3.mod hm (λi hi e=>by have:=h5 i hi;omega),h4,h5⟩
def DgC (g s:Nat)(L:List DV)(w w':World):Prop:=Mod (·=g) w w'/\∀(j:Nat)(x:DV),j≠s->L[j]? =some x->∀(i:Nat)(v:Value),x.cells[i]? =some v->w'.cell? ((⟨g,0,none⟩:Addr).add (j*2+i))=some v
theorem DgC.of_ext {g s:Nat}{L:List DV}{w w':World}(hb:Blk w g 32 (L.flatMap DV.cells))(h:Ext w w'):DgC g s L w w':=
 ⟨Mod.of_ext _ h,λj x _ hx i v hi=>by rw[(hb.ext h).cell];exact eF cv _ _ _ _ _ hx hi⟩
theorem DgC.put {g s:Nat}{L:List DV}{w w1 w':World}{x:DV}(hs:s<L.length)(h:Ext w w1)(hm:Mod (·=g) w1 w')(hb:Blk w' g 32 (KH (s*2) x.cells (L.flatMap DV.cells))):DgC g s L w w':=
 ⟨(
  Mod.of_ext (·=g) h).trans hm (λ_ hi=>.inl hi),λj y hj hy i v hi=>by
  rw[hb.cell,yT cv L x hs];exact eF cv _ _ _ _ _ (by rw[ew (λe=>hj e.symm)];exact hy) hi⟩
theorem FV.rep {f:List Fz}(h:FV f){i:Nat}(hi:i<f.length):∃t,RepF f t i:=M2 h.2.2.1 i hi
theorem eQY (F:Option Addr)(n cF:Nat)(f:List Fz)(k:Nat)(hk:k<=12)(w:World)(h:SF w F n cF f)(hv:FV f)(Cc:lv k f):
  Fn Tryz.prog 203 [.slice F n cF] w (λv w'=>∃A m c nd r,v= .tuple #[Xg A m c r,.int .i64 0]/\Ext w w'/\SB w' A m c nd/\Set1 k nd r (evF (eJ f))/\∀i,Qi A i->w.heap.size<i):=by
 have hn:=h.2;have hvl:=hv.1;have dO:=hv.2.1;refine QF (c:={cQD with cuts:=[]}) Qa Tryz.func203 rfl rfl rfl ?_;refine new (λw1 Qd Q2 Qh=>?_);refine call (M1 F n cF f w1 (h.ext Qd)) ?_;rintro _ w2 ⟨rfl,Qg⟩;refine Wx (yv hv) ?_;have Q4:=Qd.trans Qg;refine eQX cv (by decide) (⟨none,0,0,[],0⟩:DV) Qa rfl rfl rfl rfl rfl rfl rfl rfl (by show 32*n<=_;omega) (by unfold maxLen;omega) (λw3 Qj JV Qu=>?_);have QQ:=Q4.trans Qj;have iQY:=Q4.size;have X9:w1.heap.size<=w2.heap.size:=Qg.size;refine loop Qa [17] (λs:Nat×List DV=>[.int .i64 s.1]) (λs w'=>DgI w3 w2.heap.size f k n s.1 s.2 w'/\s.1<=n) (λs _=>n-s.1) (0,List.replicate n ⟨none,0,0,[],0⟩) rfl ⟨⟨Mod.refl _ _,Qu,by simp,λj hj=>Xm hj (by simp)⟩,XM _⟩ ?_;rintro⟨s,L⟩ w4 ⟨hI,hs⟩;simp only at hI hs;have Qq:Ext w w4:=hI.m.ext QQ (λi hi=>by omega);have hL:=hI.len;refine QB (λh1=>?_) (λh1=>?_)
 ·have W0:s<n:=by simp only at h1;omega
  refine Zo yr (h.ext Qq) rfl W0 (λp x hx hc=>?_);refine J4 (vs:=x.cells) rfl hc ?_;refine new (λw5 Qt Kv QH=>?_);refine Qx QH rfl (sc rfl) (λw6 Wd cL Xh=>?_);have Xx:Ext w4 w6:=X0 Qt QH Wd;have Jw:=hI.mod Xx;obtain⟨t,ht⟩:=hv.rep (i:=s) (by omega);have Kz:=hI.m.size;have Su:=Xx.size;have c0:Set1 k [] 0 (λ_=>false):=aH k false;have hrc:∀i,Qi (none:Option Addr) i->w2.heap.size<i:=λi hi=>by obtain⟨_,e,_⟩:=hi;cases e
  cases t with
  | c b=>
   cases b with
   | false=>
    have VV:x=⟨0,0,0,0⟩:=Option.some.inj (hx.symm.trans ht);subst VV;refine Qv Xh rfl ?_;refine Jp rfl ?_;refine Qv Xh rfl ?_;refine call (bw false w6) ?_;rintro _ w7 ⟨rfl,Q1⟩;have am:=Jw.mod Q1;refine JC (j:=s) W0 ?_;refine jn (j:=s*2) (vs:=(⟨none,0,0,[],0⟩:DV).cells) am.blk (by rw[co cv,hL];show s*2+2<=n*2;omega) (sc rfl) (λw8 V8 Vs Xp=>?_);have ZA:Mod (·=w2.heap.size) w7 w8:=mQj V8 rfl;have gm:=am.put W0 (x:=⟨none,0,0,[],0⟩) ht (SlS.nil _) (aH k false) hrc ZA Xp;refine Wx rfl ?_;refine Qm ((s+1:Nat):Int) (by show((s:Nat):Int)+1=_;omega) (by omega) ?_;exact⟨(s+1,L.set s ⟨none,0,0,[],0⟩),rfl,⟨gm,by show s+1<=n;omega⟩,by show n-(s+1)<n-s;omega⟩
   | true=>
    have VV:x=⟨1,0,0,0⟩:=Option.some.inj (hx.symm.trans ht);subst VV;refine Qv Xh rfl ?_;refine XP (show¬(1:Int)=0 by decide) ?_;refine Jp rfl ?_;refine Qv Xh rfl ?_;refine call (bw true w6) ?_;rintro _ w7 ⟨rfl,Q1⟩;have am:=Jw.mod Q1;refine JC (j:=s) W0 ?_;refine jn (j:=s*2) (vs:=(⟨none,0,0,[],1⟩:DV).cells) am.blk (by rw[co cv,hL];show s*2+2<=n*2;omega) (sc rfl) (λw8 V8 Vs Xp=>?_);have ZA:Mod (·=w2.heap.size) w7 w8:=mQj V8 rfl;have gm:=am.put W0 (x:=⟨none,0,0,[],1⟩) ht (SlS.nil _) (aH k true) hrc ZA Xp;refine Wx rfl ?_;refine Qm ((s+1:Nat):Int) (by show((s:Nat):Int)+1=_;omega) (by omega) ?_;exact⟨(s+1,L.set s ⟨none,0,0,[],1⟩),rfl,⟨gm,by show s+1<=n;omega⟩,by show n-(s+1)<n-s;omega⟩
  | v q=>
   have VV:x=⟨2,(q:Nat),0,0⟩:=Option.some.inj (hx.symm.trans ht);subst VV;have hq:(q:Int)<k:=Cc _ (Xe hx) rfl;refine Qv Xh rfl ?_;refine XP (show¬(2:Int)=0 by decide) ?_;refine XP (show¬(2:Int)=1 by decide) ?_;refine Jp rfl ?_;refine Qp Xh rfl ?_;refine call (D7 (q:Nat) w6 (by omega) (by omega)) ?_;rintro _ w7 ⟨PA,pn,pc,rfl,Q1,ki,Kg⟩;have am:=Jw.mod Q1;have pW:Set1 k [⟨(q:Nat),0,1⟩] 2 (evF (.v q)):=⟨yN (by omega) (by omega),λb hb=>by simp only[QJ] at hb;subst hb;exact hq,λe=>by
    rw[br (yN (k:=((q:Nat):Int)) (by omega) (by omega)).wf (by decide) (b:=⟨(q:Nat),0,1⟩) rfl,Jr (by simp),Jr (by simp)];cases h:e q<;>simp[evF,h]⟩
   refine JC (j:=s) W0 ?_;refine jn (j:=s*2) (vs:=(⟨PA,pn,pc,[⟨(q:Nat),0,1⟩],2⟩:DV).cells) am.blk (by rw[co cv,hL];show s*2+2<=n*2;omega) (sc rfl) (λw8 V8 Vs Xp=>?_);have ZA:Mod (·=w2.heap.size) w7 w8:=mQj V8 rfl;have gm:=am.put W0 (x:=⟨PA,pn,pc,[⟨(q:Nat),0,1⟩],2⟩) ht ki pW (λi hi=>by have:=Kg i hi;omega) ZA Xp;refine Wx rfl ?_;refine Qm ((s+1:Nat):Int) (by show((s:Nat):Int)+1=_;omega) (by omega) ?_;exact⟨(s+1,L.set s ⟨PA,pn,pc,[⟨(q:Nat),0,1⟩],2⟩),rfl,⟨gm,by show s+1<=n;omega⟩,by show n-(s+1)<n-s;omega⟩
  | not a=>
   obtain⟨j,hj,m7,YI⟩:=ht;have VV:x=⟨3,0,(j:Nat),0⟩:=Option.some.inj (hx.symm.trans m7);subst VV;obtain⟨y,u,hy,hu,pX,iR,wO⟩:=Jw.got j hj;obtain rfl:u=a:=mQl hu YI;have fe:=fM hk iR c0 3;have X6:=dx iR c0 3;have J3:j<n:=by omega
   refine Qv Xh rfl ?_;refine XP (show¬(3:Int)=0 by decide) ?_;refine XP (show¬(3:Int)=1 by decide) ?_;refine XP (show¬(3:Int)=2 by decide) ?_;refine Jp rfl ?_;refine Qp Xh rfl ?_;refine JC (j:=j) J3 ?_;refine eE (j:=j*2) (vs:=y.cells) Jw.blk rfl (λi v hi=>eF cv _ _ _ _ _ hy hi) ?_;refine call (Ea y.A y.n y.c y.nd y.r w6 pX) ?_;rw[fe];rintro _ w7 ⟨PA,pn,pc,rfl,Q1,ki,Kg⟩;have am:=Jw.mod Q1;have ht:RepF f (.not u) s:=⟨j,hj,m7,YI⟩
   generalize Vo y.nd y.r [] 0 3=D at*;obtain⟨D1,D2⟩:=D;have pW:Set1 k D1 D2 (evF (.not u)):=X6.congr (λe=>by simp[J5,evF]);refine JC (j:=s) W0 ?_;refine jn (j:=s*2) (vs:=(⟨PA,pn,pc,D1,D2⟩:DV).cells) am.blk (by rw[co cv,hL];show s*2+2<=n*2;omega) (sc rfl) (λw8 V8 Vs Xp=>?_);have ZA:Mod (·=w2.heap.size) w7 w8:=mQj V8 rfl;have gm:=am.put W0 (x:=⟨PA,pn,pc,D1,D2⟩) ht ki pW (λi hi=>by have:=Kg i hi;omega) ZA Xp;refine Wx rfl ?_;refine Qm ((s+1:Nat):Int) (by show((s:Nat):Int)+1=_;omega) (by omega) ?_;exact⟨(s+1,L.set s ⟨PA,pn,pc,D1,D2⟩),rfl,⟨gm,by show s+1<=n;omega⟩,by show n-(s+1)<n-s;omega⟩
  | and a b=>
   obtain⟨j,l,hj,hl,m7,YI,d9⟩:=ht;have VV:x=⟨4,0,(j:Nat),(l:Nat)⟩:=Option.some.inj (hx.symm.trans m7);subst VV;obtain⟨y,u,hy,hu,pX,iR,wO⟩:=Jw.got j hj;obtain rfl:u=a:=mQl hu YI;obtain⟨z,u',hz,kL,It,wP,hzr⟩:=Jw.got l hl;obtain rfl:u'=b:=mQl kL d9;have fe:=fM hk iR wP 0;have X6:=dx iR wP 0;have J3:j<n:=by omega
   have iS:l<n:=by omega
   refine Qv Xh rfl ?_;refine XP (show¬(4:Int)=0 by decide) ?_;refine XP (show¬(4:Int)=1 by decide) ?_;refine XP (show¬(4:Int)=2 by decide) ?_;refine XP (show¬(4:Int)=3 by decide) ?_;refine Jp rfl ?_;refine XJ Qa (DgC w2.heap.size s L w6) 19 [(true,0),(true,1),(true,2),(true,3),(true,4),(true,5),(true,6),(true,7),(true,8),(true,9),(true,10),(true,11),(false,12),(true,13),(true,14),(true,15),(true,16),(false,17),(true,18)] (by kernel_rfl) (DgC.of_ext Jw.blk (Ext.drew w6)) ?_;have wQ:¬w4.heap.size=w2.heap.size:=by omega
   refine QL (v:=.int .i64 (j:Nat)) (λw' Qb=>by rw[(Xh.mod Qb.1 wQ).cell];rfl) ?_;refine JC (j:=j) J3 ?_;refine Xl (vs:=y.cells) rfl (λw' Qb i v hi=>by rw[add_add];exact Qb.2 j y (by omega) hy i v hi) ?_;refine QL (v:=.int .i64 (l:Nat)) (λw' Qb=>by rw[(Xh.mod Qb.1 wQ).cell];rfl) ?_;refine JC (j:=l) iS ?_;refine Xl (vs:=z.cells) rfl (λw' Qb i v hi=>by rw[add_add];exact Qb.2 l z (by omega) hz i v hi) ?_;refine call (uC y.A y.n y.c y.nd y.r z.A z.n z.c z.nd z.r _ (pX.ext (Ext.drew w6)) (It.ext (Ext.drew w6))) ?_;rw[fe];rintro _ w7 ⟨PA,pn,pc,rfl,Gn,ki,Kg⟩;have Q1:=(Ext.drew w6).trans Gn;have kQA:=(Ext.drew w6).size;refine⟨DgC.of_ext Jw.blk Q1,?_⟩;have am:=Jw.mod Q1;have ht:RepF f (.and u u') s:=⟨j,l,hj,hl,m7,YI,d9⟩
   generalize Vo y.nd y.r z.nd z.r 0=D at*;obtain⟨D1,D2⟩:=D;have pW:Set1 k D1 D2 (evF (.and u u')):=X6.congr (λe=>by simp[J5,evF]);refine JC (j:=s) W0 ?_;refine jn (j:=s*2) (vs:=(⟨PA,pn,pc,D1,D2⟩:DV).cells) am.blk (by rw[co cv,hL];show s*2+2<=n*2;omega) (sc rfl) (λw8 V8 Vs Xp=>?_);have ZA:Mod (·=w2.heap.size) w7 w8:=mQj V8 rfl;have gm:=am.put W0 (x:=⟨PA,pn,pc,D1,D2⟩) ht ki pW (λi hi=>by have:=Kg i hi;omega) ZA Xp;refine⟨DgC.put (by omega) Q1 ZA Xp,?_⟩;refine Wx rfl ?_;refine Qm ((s+1:Nat):Int) (by show((s:Nat):Int)+1=_;omega) (by omega) ?_;exact⟨(s+1,L.set s ⟨PA,pn,pc,D1,D2⟩),rfl,⟨gm,by show s+1<=n;omega⟩,by show n-(s+1)<n-s;omega⟩
  | or a b=>
   obtain⟨j,l,hj,hl,m7,YI,d9⟩:=ht;have VV:x=⟨5,0,(j:Nat),(l:Nat)⟩:=Option.some.inj (hx.symm.trans m7);subst VV;obtain⟨y,u,hy,hu,pX,iR,wO⟩:=Jw.got j hj;obtain rfl:u=a:=mQl hu YI;obtain⟨z,u',hz,kL,It,wP,hzr⟩:=Jw.got l hl;obtain rfl:u'=b:=mQl kL d9;have fe:=fM hk iR wP 1;have X6:=dx iR wP 1;have J3:j<n:=by omega
   have iS:l<n:=by omega
   refine Qv Xh rfl ?_;refine XP (show¬(5:Int)=0 by decide) ?_;refine XP (show¬(5:Int)=1 by decide) ?_;refine XP (show¬(5:Int)=2 by decide) ?_;refine XP (show¬(5:Int)=3 by decide) ?_;refine XP (show¬(5:Int)=4 by decide) ?_;refine Jp rfl ?_;refine XJ Qa (DgC w2.heap.size s L w6) 19 [(true,0),(true,1),(true,2),(true,3),(true,4),(true,5),(true,6),(true,7),(true,8),(true,9),(true,10),(true,11),(false,12),(true,13),(true,14),(true,15),(true,16),(false,17),(true,18)] (by kernel_rfl) (DgC.of_ext Jw.blk (Ext.drew w6)) ?_;have wQ:¬w4.heap.size=w2.heap.size:=by omega
   refine QL (v:=.int .i64 (j:Nat)) (λw' Qb=>by rw[(Xh.mod Qb.1 wQ).cell];rfl) ?_;refine JC (j:=j) J3 ?_;refine Xl (vs:=y.cells) rfl (λw' Qb i v hi=>by rw[add_add];exact Qb.2 j y (by omega) hy i v hi) ?_;refine QL (v:=.int .i64 (l:Nat)) (λw' Qb=>by rw[(Xh.mod Qb.1 wQ).cell];rfl) ?_;refine JC (j:=l) iS ?_;refine Xl (vs:=z.cells) rfl (λw' Qb i v hi=>by rw[add_add];exact Qb.2 l z (by omega) hz i v hi) ?_;refine call (Oj y.A y.n y.c y.nd y.r z.A z.n z.c z.nd z.r _ (pX.ext (Ext.drew w6)) (It.ext (Ext.drew w6))) ?_;rw[fe];rintro _ w7 ⟨PA,pn,pc,rfl,Gn,ki,Kg⟩;have Q1:=(Ext.drew w6).trans Gn;have kQA:=(Ext.drew w6).size;refine⟨DgC.of_ext Jw.blk Q1,?_⟩;have am:=Jw.mod Q1;have ht:RepF f (.or u u') s:=⟨j,l,hj,hl,m7,YI,d9⟩
   generalize Vo y.nd y.r z.nd z.r 1=D at*;obtain⟨D1,D2⟩:=D;have pW:Set1 k D1 D2 (evF (.or u u')):=X6.congr (λe=>by simp[J5,evF]);refine JC (j:=s) W0 ?_;refine jn (j:=s*2) (vs:=(⟨PA,pn,pc,D1,D2⟩:DV).cells) am.blk (by rw[co cv,hL];show s*2+2<=n*2;omega) (sc rfl) (λw8 V8 Vs Xp=>?_);have ZA:Mod (·=w2.heap.size) w7 w8:=mQj V8 rfl;have gm:=am.put W0 (x:=⟨PA,pn,pc,D1,D2⟩) ht ki pW (λi hi=>by have:=Kg i hi;omega) ZA Xp;refine⟨DgC.put (by omega) Q1 ZA Xp,?_⟩;refine Wx rfl ?_;refine Qm ((s+1:Nat):Int) (by show((s:Nat):Int)+1=_;omega) (by omega) ?_;exact⟨(s+1,L.set s ⟨PA,pn,pc,D1,D2⟩),rfl,⟨gm,by show s+1<=n;omega⟩,by show n-(s+1)<n-s;omega⟩
 ·have W0:s=n:=by simp only at h1;omega
  subst W0;obtain⟨y,u,hy,hu,pX,iR,wO⟩:=hI.got (s-1) (by omega);have Ci:=DE (f:=f) (t:=u) (by rw[hn];exact hu);refine Qm ((s-1:Nat):Int) (by omega) (by omega) ?_;refine JC (j:=s-1) (by omega) ?_;refine eE (j:=(s-1)*2) (vs:=y.cells) hI.blk rfl (λi v hi=>eF cv _ _ _ _ _ hy hi) ?_;have QZ:=((Qh.ext Qg).ext Qj).mod hI.m (by show¬w.heap.size=w2.heap.size;omega);refine Qx QZ rfl (sc rfl) (λw5 Jk Kv QH=>?_);have ZW:Mod (·=w.heap.size) w4 w5:=mQj Jk rfl;refine Qs QH rfl ?_;exact⟨y.A,y.n,y.c,y.nd,y.r,rfl,ZW.ext Qq (λi hi=>by omega),pX.mod ZW (λi hi e=>by have:=wO i hi;omega),by rw[Ci];exact iR,λi hi=>by have:=wO i hi;omega⟩
end
section
section
abbrev JH (g o:Nat):Addr:=(⟨g,0,none⟩:Addr).add o
def uD (t m o:Nat):Prop:=liesAt Tryz.prog Tryz.prog.depth t (m/Tryz.prog.cellsOf t) o 109 1=true
theorem Eb (g o:Nat):(JH g o).off=o/\(JH g o).block=g:=by unfold JH;rw[nT];exact⟨rfl,rfl⟩
theorem Ec {w:World}{g t o j:Nat}{cs:List Value}(h:Blk w g t cs):w.cell? ((JH g o).add j)=cs[o+j]? :=by unfold JH;rw[add_add,h.cell]
theorem uE {w:World}{g t o j:Nat}{cs:List Value}{v:Value}{K:Value->Prop}(h:Blk w g t cs)(hv:cs[o+j]? =some v)(k:K v):fC w ((JH g o).add j) K:=load (by rw[Ec h];exact hv) k
theorem Oo {w:World}{g t o j:Nat}{cs:List Value}{v:Value}{K:World->Prop}(h:Blk w g t cs)(hj:o+j<cs.length)(k:∀w1,Mod (·=g) w w1->Blk w1 g t (cs.set (o+j) v)->K w1):fD w ((JH g o).add j) v K:=by
 unfold JH;rw[add_add];exact XK h hj k
theorem eQZ (g t o:Nat)(pa:Value)(cs:List Value)(w:World)(hl:uD t cs.length o)(ho:o<cs.length)(hp:pa= .pointer none∨pa= .pointer (some (JH g o)))(hB:Blk w g t cs)(hc:cs[o]? =some pa):
  Fn Tryz.prog 106 [.pointer (some (JH g o))] w (λ_ w'=>Mod (·=g) w w'/\Blk w' g t (cs.set o (.pointer (some (JH g o))))):=by
 obtain⟨j,hj,lW⟩:=Mw;refine QF (c:=Mn) Qa Tryz.func106 rfl rfl rfl ?_;have d5:w.shape? (JH g o).block=some (t,cs.length):=by rw[(Eb g o).2];exact hB.shape
 have ucs:=Tryz.underlying107;have uus:=Tryz.underlying240;rcases hp with rfl | rfl
 ·refine uE hB (by simpa using hc) ?_;refine Xc rfl ?_;refine Jh (w':=w) (v:=.pointer (some (JH g o))) (λa hf=>?_) ?_
  ·have e1:=hf.ev (show Env.ev _ (.tmp 8)=some (.pointer (some (JH g o))) from rfl);have:=Lib.run_to_unsafe (P:=Tryz.prog) (src:=107) (dst:=240) w (JH g o) ucs uus hj lW d5 (by rw[(Eb g o).1];exact ho);simp only[execOp,e1];simp[aE,this]
  refine Jh (w':=w) (v:=.pointer (some (JH g o))) (λa hf=>?_) ?_
  ·have e1:=hf.ev (show Env.ev _ (.tmp 9)=some (.pointer (some (JH g o))) from rfl);have:=run_callFunc_extern (P:=Tryz.prog) (e:=Extern.AbiNoEscape.same) Tryz.func159 (by kernel_rfl) (by kernel_rfl) (by kernel_rfl) (by kernel_rfl) #[.pointer (some (JH g o))] w;rw[Lib.run_noEscape] at this;simp only[execOp,resolve,invoke];simp[Deferred.ofValue,Act.eval] at e1 ⊢;simp[e1,aE,this]
  refine Jh (w':=w) (v:=.pointer (some (JH g o))) (λa hf=>?_) ?_
  ·have e1:=hf.ev (show Env.ev _ (.tmp 10)=some (.pointer (some (JH g o))) from rfl);have:=Lib.run_from_unsafe (P:=Tryz.prog) (src:=240) (dst:=107) (u:=109) w (JH g o) uus ucs hj d5 (by rw[(Eb g o).1];exact hl);simp only[execOp,e1];simp[aE,this]
  refine Oo hB (by simpa using ho) (λw1 hm Qh=>?_);exact⟨hm,by simpa using Qh⟩
 ·refine uE hB (by simpa using hc) ?_;refine Xt rfl ?_;refine uE hB (by simpa using hc) ?_;refine Jh (w':=w) (v:=.bool false) (λa hf=>?_) ?_
  ·have e1:=hf.ev (show Env.ev _ (.tmp 17)=some (.pointer (some (JH g o))) from rfl);have e2:=hf.ev (show Env.ev _ (.tmp 18)=some (.pointer (some (JH g o))) from rfl);have:=Lib.run_neq_ptr_same (P:=Tryz.prog) (tp:=107) w (JH g o) ucs hj;simp only[execOp,e1,e2,eqGuard];simp[aE,this]
  refine Xt rfl ?_;refine⟨Mod.refl _ _,?_⟩;have e:cs.set o (.pointer (some (JH g o)))=cs:=by
   apply CG;intro i;by_cases hi:i=o
   ·subst hi;rw[gU ho,hc]
   ·rw[ew (λe=>hi e.symm)]
  rw[e];exact hB
theorem eQ0 (base g t o:Nat)(pa:Value)(cs:List Value)(A:Option Addr)(c:Nat)(out:List Nat)(s:ByteArray)(w:World)(hl:uD t cs.length o)(ho:o+1<cs.length)(hp:pa= .pointer none∨pa= .pointer (some (JH g o)))(hB:Blk w g t cs)
  (hc:cs[o]? =some pa) (Kw:cs[o+1]? =some (.slice A out.length c)) (cU:Own w base 5 1 A out.length c (Ji out)) (jX:g<base) (top:base<=w.heap.size) (hs:out.length+s.size<=140737488355328):
  Fn Tryz.prog 56 [.pointer (some (JH g o)),.string s] w (λ_ w'=>∃A' c',Blk w' g t ((cs.set o (.pointer (some (JH g o)))).set (o+1) (.slice A' (out.length+s.size) c'))/\Own w' base 5 1 A' (out.length+s.size) c' (Ji (out++Yv s))/\Mod (BldS g A) w w'/\Moved w A A'):=by
 refine QF (c:=Mk) Qa Tryz.func56 rfl rfl rfl ?_;refine call (eQZ g t o pa cs w hl (by omega) hp hB hc) ?_;rintro v w1 ⟨Zj,Qh⟩;have Vv:=cU.rows;have hn:¬Qi A g:=λh=>by have:=(Vv g h).1;omega
 have oV:=cU.mod Zj (λk hk e=>hn (e▸hk));refine uE Qh (v:=.slice A out.length c) (show(cs.set o (.pointer (some (JH g o))))[o+1]? =_ by rw[ew (by omega)];exact Kw) ?_;refine Mu Qa rfl rfl rfl rfl rfl rfl rfl rfl rfl rfl rfl oV hs (by have:=Zj.size;omega) ?_;intro A' c' w2 XL cI lX;refine Oo (Qh.mod XL hn) (by simpa using ho) (λw3 Xo Qu=>?_);have oW:=cI.rows;refine⟨A',c',Qu,?_,?_,lX.back Zj.size⟩
 ·rw[yj,<-Mv];exact cI.mod Xo (λk hk e=>by have:=(oW k hk).1;omega)
 ·exact((Zj.mono (S':=BldS g A) (λi hi=>.inl (.inl hi))).trans XL (λi hi=>.inl (.inr hi))).trans Xo (λi hi=>.inl (.inl hi))
theorem eQ1 (g t o:Nat)(cs:List Value)(A:Option Addr)(c n:Nat)(w:World)(hB:Blk w g t cs)(Kw:cs[o+1]? =some (.slice A n c)):
  Fn Tryz.prog 205 [.pointer (some (JH g o))] w (λv w'=>v= .int .i64 n/\w=w'):=by
 refine QF (c:=cQE) Qa Tryz.func205 rfl rfl rfl ?_;refine uE hB Kw ?_;exact⟨rfl,rfl⟩
theorem eQ2 (base g t o:Nat)(cs:List Value)(A:Option Addr)(c:Nat)(out:List Nat)(w:World)(hB:Blk w g t cs)(Kw:cs[o+1]? =some (.slice A out.length c))(cU:Own w base 5 1 A out.length c (Ji out))(h8:∀x∈out,x<256)(hs:out.length<=140737488355328):
  Fn Tryz.prog 57 [.pointer (some (JH g o))] w (λv w'=>v= .string (Qf out)/\Mod (Qi A) w w'):=by
 refine QF (c:=Ml) Qa Tryz.func57 rfl rfl rfl ?_;have Xb:(Ji out).length=out.length:=tS out;refine XJ Qa (Ext w) 10 [(true,0),(true,1),(true,2),(true,3),(true,5),(true,6),(true,7),(true,8),(true,9),(false,4)] (by kernel_rfl) (Ext.drew w) ?_;refine QL (v:=.slice A out.length c) (λw' Qb=>by rw[Ec (hB.ext Qb)];exact Kw) ?_;refine QL (v:=.slice A out.length c) (λw' Qb=>by rw[Ec (hB.ext Qb)];exact Kw) ?_;have Fp:out.length=0->Value.string ByteArray.empty=Value.string (Qf out):=λh0=>by
  have:out=[]:=Y0 h0;subst this;rfl
 by_cases h0:out.length=0
 ·have key:∃p w1,(Builtin.unsafeSliceData_ #[62] 179 #[.slice A out.length c]).run Tryz.prog w.drew= .ok (.pointer p) w1/\Ext w w1:=by
   rcases cU.row.2 with⟨hv,_⟩ | ⟨g',cap,ZB,hv,hb',Vh,_⟩
   ·simp only[Value.slice.injEq] at hv;obtain⟨rfl,_,rfl⟩:=hv;exact⟨none,w.drew,Lib.run_unsafeSliceData_nil _ _ _ _ _,Ext.drew w⟩
   ·simp only[Value.slice.injEq] at hv;obtain⟨rfl,_,rfl⟩:=hv;by_cases uY:c=0
    ·subst uY;have d5:w.drew.shape? g'=some (5,ZB.size):=by
      unfold World.shape?;rw[show w.drew.heap[g']? =_ from Vh]
     exact⟨_,_,Lib.run_unsafeSliceData_zero (P:=Tryz.prog) w.drew _ _ 5 Tryz.underlying179 ⟨g',0,none⟩ _ _ d5,(Ext.drew w).trans (Ext.alloc _ _)⟩
    ·exact⟨_,w.drew,Lib.run_unsafeSliceData_row (P:=Tryz.prog) w.drew _ _ ⟨g',0,none⟩ _ _ uY,Ext.drew w⟩
  obtain⟨p,w1,Z1,Qd⟩:=key;refine Jh (w':=w1) (v:=.pointer p) (λa hf=>?_) ⟨Qd,?_⟩
  ·have e1:=hf.ev (show Env.ev _ (.tmp 6)=some (.slice A out.length c) from rfl);simp only[execOp,resolve,invoke,builtin];simp[aE,e1,Z1]
  refine Jh (w':=w1) (v:=.string ByteArray.empty) (λa hf=>?_) ?_
  ·have e1:=hf.ev (show Env.ev _ (.tmp 7)=some (.pointer p) from rfl);have e2:=hf.ev (show Env.ev _ (.tmp 12)=some (.int .i64 out.length) from rfl);have:=Lib.run_unsafeString_none (P:=Tryz.prog) w1 179 3 9 p;rw[h0] at e2;simp only[execOp,resolve,invoke,builtin];simp[aE,e1,e2];rw[this]<;>rfl
  exact⟨Fp h0,Mod.of_ext _ Qd⟩
 ·obtain⟨g',sp,rfl,hb',Vu,bR⟩:=cU.blk (by omega);have ZK:=cU.sl.le;refine Jh (w':=w.drew) (v:=.pointer (some ⟨g',0,none⟩)) (λa hf=>?_) ⟨Ext.drew w,?_⟩
  ·have e1:=hf.ev (show Env.ev _ (.tmp 6)=some (.slice (some ⟨g',0,none⟩) out.length c) from rfl);have:=Lib.run_unsafeSliceData_row (P:=Tryz.prog) w.drew #[62] 179 ⟨g',0,none⟩ out.length c (by omega);simp only[execOp,resolve,invoke,builtin];simp[aE,e1,this]
  refine Jh (w':=w.drew.freeze ⟨g',0,none⟩ out.length) (v:=.string (Qf out)) (λa hf=>?_) ?_
  ·have e1:=hf.ev (show Env.ev _ (.tmp 7)=some (.pointer (some ⟨g',0,none⟩)) from rfl);have e2:=hf.ev (show Env.ev _ (.tmp 12)=some (.int .i64 out.length) from rfl);have d5:w.drew.shape? g'=some (5,(Ji out++sp).length):=(Vu.ext (Ext.drew w)).shape;have JU:(out.map UInt8.ofNat).length=out.length:=by simp
   have:=Lib.run_unsafeString_row (P:=Tryz.prog) w.drew 179 3 9 5 Tryz.underlying179 (by kernel_rfl) g' _ d5 (out.map UInt8.ofNat) (by intro e;apply h0;rw[<-JU,e];rfl) (by simp[tS]) (by rw[JU];omega) (λj x hj=>by
    rw[(Vu.ext (Ext.drew w)).cell];simp only[K2,CF] at hj;obtain⟨y,hy,rfl⟩:=hj;have kJ:j<out.length:=(Zt.1 hy).1;rw[bY (by rw[Xb];exact kJ),Dh hy];have:=h8 y (Xe hy);simp[aw this])
   rw[JU] at this;simp only[execOp,resolve,invoke,builtin];simp[aE,e1,e2];rw[this]<;>rfl
  exact⟨rfl,(Mod.of_ext (Qi _) (Ext.drew w)).trans (Mx w.drew g' out.length (S:=Qi (some ⟨g',0,none⟩)) ⟨_,rfl,rfl⟩) (λi hi=>.inl hi)⟩
end
section
def WI {α:Type} [DecidableEq α](a:α):List (α×Value)->List (α×Value)
 | []=>[]
 | (b,v)::l=>if a=b then l else(b,v)::WI a l
theorem Oq {α:Type} [DecidableEq α](a:α):∀l:List (α×Value),(WI a l).Sublist l
 | []=>List.Sublist.refl _
 | (b,v)::l=>by
  unfold WI;split
  ·exact List.sublist_cons_self _ _
  ·exact(Oq a l).cons_cons _
theorem Ot {α:Type} [DecidableEq α]{a:α}:∀{l:List (α×Value)},a∉l.map (·.1)->Xv a l=none
 | [],_=>rfl
 | (b,v)::l,h=>by
  simp only[YK,QX,not_or] at h;unfold Xv;rw[if_neg h.1];exact Ot h.2
theorem Ou {α:Type} [DecidableEq α](a b:α):∀l:List (α×Value),(l.map (·.1)).Nodup->Xv b (WI a l)=if b=a then none else Xv b l
 | [],_=>by simp[WI,Xv]
 | (d,u)::l,hn=>by
  simp only[YK,xF] at hn;unfold WI;split
  ·rename_i h;subst h;by_cases hb:b=a
   ·subst hb;rw[Qe rfl];exact Ot hn.1
   ·rw[if_neg hb];show _=if b=a then _ else Xv b l;rw[if_neg hb]
  ·rename_i h;have ih:=Ou a b l hn.2;simp only[Xv];by_cases hb:b=d
   ·rw[Qe hb,Qe hb,if_neg (λe=>h (by rw[<-e];exact hb))]
   ·rw[if_neg hb,if_neg hb,ih]
theorem Ov {α:Type} [DecidableEq α](a:α)(v:Value):∀l:List (α×Value),(l.map (·.1)).Nodup->((X8 a v l).map (·.1)).Nodup/\∀x,x∈(X8 a v l).map (·.1)->x=a∨x∈l.map (·.1)
 | [],_=>by simp[X8]
 | (b,u)::l,h=>by
  simp only[YK,xF] at h;unfold X8;split
  ·rename_i VT;exact⟨by simpa using h,λx hx=>.inr (by simpa using hx)⟩
  ·rename_i VT;obtain⟨h1,h2⟩:=Ov a v l h.2;refine⟨?_,λx hx=>?_⟩
   ·rw[YK,xF];exact⟨λhm=>by rcases h2 b hm with e | e;exact VT e.symm;exact h.1 e,h1⟩
   ·rw[YK,QX] at hx;rcases hx with rfl | hx
    ·exact .inr (by simp)
    ·rcases h2 x hx with e | e
     ·exact .inl e
     ·exact .inr (by rw[YK,QX];exact .inr e)
theorem Ow {α:Type} [DecidableEq α]{d:TypeDesc}{kv:α->Value}(hk:KeyV d kv)(a:α):∀(m:List (α×Value))(bs:List Nat)(i:Nat),bs.length=m.length->
  ∃r,Instr.findNow d (kv a) (XN kv m bs) i=some r/\(∀j v,r=some (j,v)->i<=j/\j-i<m.length/\(XN kv m bs).eraseIdx (j-i)=XN kv (WI a m) (bs.eraseIdx (j-i))/\(WI a m).length+1=m.length)/\(r=none->WI a m=m)
 | [],bs,i,h=>⟨none,rfl,(λj v h=>nomatch h),λ_=>rfl⟩
 | (b,u)::m,[],i,h=>by simp at h
 | (b,u)::m,s::bs,i,h=>by
  have e:XN kv ((b,u)::m) (s::bs)={key:=kv b,val:=u,born:=s}::XN kv m bs:=rfl;rw[e];unfold Instr.findNow;simp only[hk.same];by_cases VT:a=b
  ·subst VT;simp only[decide_true];refine⟨some (i,u),rfl,λj v hj=>?_,λh=>by cases h⟩;cases hj;refine⟨QE _,by simp,?_,?_⟩
   ·rw[xy];simp[WI]
   ·simp[WI]
  ·simp only[VT,decide_false];obtain⟨r,h1,h3,h4⟩:=Ow hk a m bs (i+1) (by simpa using h);refine⟨r,h1,λj v hj=>?_,λhn=>by simp[WI,VT,h4 hn]⟩;obtain⟨h5,h6,h7,h8⟩:=h3 j v hj;refine⟨by omega,by simp;omega,?_,by simp[WI,VT];omega⟩;rw[show j-i=(j-(i+1))+1 by omega];simp only[List.eraseIdx_cons_succ,h7,WI,VT,if_false];rfl
theorem eQ3 {α:Type} [DecidableEq α]{kv:α->Value}{c:Cx}{o:Oper}{S:Env}{w:World}{K:Env->World->Prop}{Q:Zd}{t t2 ke e:Nat}{r rk:TyRow}{x y:Operand}{q:Nat}{m:List (α×Value)}{a:α}(hg:c.g.Ok)
  (ho:o.op= .call ⟨.builtin .delete, #[x,y], #[t,t2]⟩) (gF:o.dst=none) (hr:QR c.g.tys t=some r) (hd:r.d= .map ke e) (ap:QR c.g.tys ke=some rk) (hk:KeyV rk.d kv)
  (hx:S.ev x=some (.map (some q))) (hy:S.ev y=some (kv a)) (hm:MapAt kv w q m)
  (k:∀w1,Mod (·=q) w w1->w1.heap.size=w.heap.size->MapAt kv w1 q (WI a m)->K S w1):X3 c o S w K Q:=by
 have Q0:=(hg.row hr).1;rw[hd] at Q0;have fh:=(hg.row ap).1;obtain⟨bs,ck,hl,hb⟩:=hm.ex;have Xa:q<w.heap.size:=(er.1 hb).1;obtain⟨res,h1,h3,h4⟩:=Ow hk a m bs 0 hl;have cV:(getObj q).run c.g.P w= .ok (.map (XN kv m bs).toArray ck) w:=by simp[getObj,Sem.run,hb]
 have d4:∀ob,(setObj q ob).run c.g.P w= .ok () {w with heap:=w.heap.setIfInBounds q ob}:=λob=>by simp[setObj,Sem.run,hb]
 have main:∃Wn,Wn.length=(WI a m).length/\(Builtin.delete_ #[t,t2] o.type #[.map (some q),kv a]).run c.g.P w= .ok (.tuple #[]) {w with heap:=w.heap.setIfInBounds q (.map (XN kv (WI a m) Wn).toArray ck)}:=by
  cases res with
  | none=>
   refine⟨bs,by rw[h4 rfl];exact hl,?_⟩;rw[h4 rfl];simp only[Builtin.delete_];simp[ZI Q0,cV,tW fh hk.plain,Instr.findKey,ZI fh,h1,d4]
  | some p=>
   obtain⟨j,u⟩:=p;obtain⟨_,h6,h7,h8⟩:=h3 j u rfl;simp only[Nat.sub_zero] at h6 h7;refine⟨bs.eraseIdx j,by rw[List.length_eraseIdx_of_lt (by omega)];omega,?_⟩;simp only[Builtin.delete_];simp[ZI Q0,cV,tW fh hk.plain,Instr.findKey,ZI fh,h1,d4];rw[h7]
 obtain⟨Wn,bR,Z1⟩:=main;unfold X3;intro b hf;have e1:=hf.ev hx;have e2:=hf.ev hy;refine aA (v:=.tuple #[]) (w':={w with heap:=w.heap.setIfInBounds q (.map (XN kv (WI a m) Wn).toArray ck)}) ?_ ⟨S,by rw[gF];simpa [Act.put] using hf,k _ ⟨rfl,rfl,rfl,by simp,λi _ hi=>?_⟩ (by simp) ⟨Wn,ck,bR,by simp[Xa]⟩⟩
 ·simp only[execOp,ho,resolve,invoke,builtin];simp[e1,e2,Z1]
 ·simp only[CE];rw[if_neg (λe=>hi e.symm)]
theorem Own.kind {w:World}{base e sz n c i:Nat}{A:Option Addr}{cs:List Value}(h:Own w base e sz A n c cs)(hi:Qi A i):∃ZB,w.heap[i]? =some (.cells ZB e (0,0)):=by
 obtain⟨ad,rfl,rfl⟩:=hi;rcases h.row.2 with⟨hv,_⟩ | ⟨g,cap,ZB,hv,_,hg,_⟩
 ·cases hv
 ·cases hv;exact⟨ZB,hg⟩
theorem Own.apart {w:World}{b b' e e' sz sz' n n' c c' i:Nat}{A B:Option Addr}{cs cs':List Value}(h:Own w b e sz A n c cs)(h':Own w b' e' sz' B n' c' cs')(QK:e≠e')(hi:Qi A i):¬Qi B i:=λhj=>by
 obtain⟨c1,h1⟩:=h.kind hi;obtain⟨c2,h2⟩:=h'.kind hj;rw[h1] at h2;simp only[Option.some.injEq,Obj.cells.injEq] at h2;exact QK h2.2.1
theorem Blk.apart {w:World}{b e sz n c g t:Nat}{A:Option Addr}{cs cs':List Value}(h:Blk w g t cs)(h':Own w b e sz A n c cs')(QK:t≠e):¬Qi A g:=λhj=>by
 obtain⟨c2,h2⟩:=h'.kind hj;rw[show w.heap[g]? =_ from h] at h2;simp only[Option.some.injEq,Obj.cells.injEq] at h2;exact QK h2.2.1
theorem MapAt.apart {α:Type}{kv:α->Value}{w:World}{b e sz n c q:Nat}{A:Option Addr}{cs':List Value}{m:List (α×Value)}(h:MapAt kv w q m)(h':Own w b e sz A n c cs'):¬Qi A q:=λhj=>by
 obtain⟨c2,h2⟩:=h'.kind hj;obtain⟨bs,ck,_,h1⟩:=h.ex;rw[h1] at h2;cases h2
structure DgO (w:World) (S:Nat->Prop) (k:Nat) (x:DV) (o:BF):Prop where
 sb:SB w x.A x.n x.c x.nd
 st:Set1 k x.nd x.r o
 off:∀ad,x.A=some ad->0<x.n->¬S ad.block
theorem SB.modo {S:Nat->Prop}{w w':World}{A:Option Addr}{n c:Nat}{nd:List Br}(h:SB w A n c nd)(hm:Mod S w w')(hr:∀ad,A=some ad->0<n->¬S ad.block):SB w' A n c nd:=
 ⟨h.1.modS hm (λh0 i hi=>by obtain⟨ad,e,rfl⟩:=hi;exact hr ad e h0),h.2⟩
theorem DgO.step {w w':World}{S S':Nat->Prop}{k:Nat}{x:DV}{o:BF}(h:DgO w S k x o)(hm:Mod S w w')(hs:∀i,S' i->S i∨w.heap.size<=i):DgO w' S' k x o:=
 ⟨h.sb.modo hm h.off,h.st,λad e h0 hS=>by
  rcases hs _ hS with h1 | h1
  ·exact h.off ad e h0 h1
  ·have:=SB.lt h.sb ad e h0;omega⟩
theorem DgO.keep {w w':World}{S T:Nat->Prop}{k:Nat}{x:DV}{o:BF}(h:DgO w S k x o)(hm:Mod T w w')(ht:∀i,T i->S i∨w.heap.size<=i):DgO w' S k x o:=
 ⟨h.sb.modo (hm.mono ht) h.off,h.st,h.off⟩
theorem DgO.ext {w w':World}{S:Nat->Prop}{k:Nat}{x:DV}{o:BF}(h:DgO w S k x o)(hE:Ext w w'):DgO w' S k x o:=⟨h.sb.ext hE,h.st,h.off⟩
theorem DgO.new {w w':World}{S:Nat->Prop}{k:Nat}{A:Option Addr}{n c:Nat}{nd:List Br}{r:Int}{o:BF}(hb:SB w' A n c nd)(hs:Set1 k nd r o)(hr:∀i,Qi A i->w.heap.size<=i)(hS:∀i,S i->i<w.heap.size):DgO w' S k ⟨A,n,c,nd,r⟩ o:=
 ⟨hb,hs,λad e _ h=>by have:=hr ad.block ⟨ad,e,rfl⟩;have:=hS _ h;omega⟩
end
section
def fN (c:Nat)(l:List Nat):Int:=if c∈l then((l.takeWhile (λb=>b !=c)).length:Nat)else -1
theorem Ox {b c:Nat}(hb:b<256)(hc:c<256):(UInt8.ofNat b==UInt8.ofNat c)=(b==c):=by
 rw[nA];simp only[beq_iff_eq];constructor
 ·intro h;have:=QN UInt8.toNat h;simpa [aw hb,aw hc] using this
 ·intro h;rw[h]
theorem yU {c:Nat}(hc:c<256):∀{l:List Nat},(∀x∈l,x<256)->Lib.indexByte (l.map UInt8.ofNat) (UInt8.ofNat c)=fN c l
 | [],_=>rfl
 | b::l,h=>by
  have ih:=yU hc (l:=l) (λx hx=>h x (by simp[hx]));have hb:b<256:=h b (by simp);rw[YK,Lib.indexByte,Ox hb hc,ih];unfold fN;by_cases wS:b=c
  ·subst wS;simp
  ·have h1:(b==c)=false:=by simpa using wS
   rw[h1];by_cases hm:c∈l
   ·have h3:¬c=b:=λe=>wS e.symm
    simp[hm,wS,h3]
   ·have h3:¬c=b:=λe=>wS e.symm
    simp[hm,h3]
theorem uF (l:List Nat):(Qf l).data.toList=l.map UInt8.ofNat:=by simp[Qf]
theorem uG {P:Program}{f:FuncId}{l:List Value}{w:World}{v:Value}(h:Calls P f l.toArray w λe w'=>e= .returned v/\w'=w):Fn P f l w (λu w'=>u=v/\w=w'):=by
 unfold Fn;exact h.mono λe w' he=>by obtain⟨rfl,rfl⟩:=he;exact⟨rfl,rfl⟩
theorem Ee (l:List Nat)(c:Nat)(w:World)(hl:∀x∈l,x<256)(hc:c<256):
  Fn Tryz.prog 94 [.string (Qf l),.int .u8 c] w (λv w'=>v= .int .i64 (fN c l)/\w=w'):=by
 have h:=Tryz.strings_IndexByte (Qf l) (c:Int) w;have e:((c:Int).toNat.toUInt8)=UInt8.ofNat c:=rfl;rw[uF,e,yU hc hl] at h;exact uG h
theorem Oy (l:List Nat)(c:Nat)(w:World)(hl:∀x∈l,x<256)(hc:c<256):
  Fn Tryz.prog 204 [.string (Qf l),.string (Qf [c])] w (λv w'=>v= .int .i64 (l.count c)/\w=w'):=by
 have h:=Tryz.strings_Count_one (Qf l) (UInt8.ofNat c) w;have e:Lib.countByte (Qf l).data.toList (UInt8.ofNat c)=l.count c:=by
  rw[uF];unfold Lib.countByte;clear h;induction l with
  | nil=>rfl
  | cons b l ih=>
   rw[YK,xC,xC,ih (λx hx=>hl x (by simp[hx])),Ox (hl b (by simp)) hc]
 rw[e] at h;exact uG h
def Jt (l:List Nat):List Nat:=l.takeWhile (λb=>b !=32)
def KS (l:List Nat):List Nat:=l.drop ((Jt l).length+1)
theorem eQ4 (l:List Nat):l.take (Jt l).length=Jt l:=(List.prefix_iff_eq_take.1 (List.takeWhile_prefix _)).symm
theorem Oz {l:List Nat}:(Jt l).length<l.length↔32∈l:=by
 unfold Jt;induction l with
 | nil=>simp
 | cons b l ih=>
  by_cases hb:b=32
  ·subst hb;simp
  ·have:(b !=32)=true:=by simpa using hb
   rw[Wt,Qe this];simp only[Xk,Nat.add_lt_add_iff_right,ih,QX];constructor
   ·exactλh=>.inr h
   ·rintro(h | h)
    ·exact Xm h.symm hb
    ·exact h
theorem eQ5 {l:List Nat}(h:32∈l):l=Jt l++32::KS l:=by
 unfold KS Jt;induction l with
 | nil=>simp at h
 | cons b l ih=>
  by_cases hb:b=32
  ·subst hb;simp
  ·have h1:(b !=32)=true:=by simpa using hb
   rw[Wt,Qe h1];simp only[Xk,Lv,Yd];congr 1;refine ih ?_;simp only[QX] at h;rcases h with h | h
   ·exact Xm h.symm hb
   ·exact h
theorem Ef {l:List Nat}(h:32∉l):Jt l=l:=by
 unfold Jt;induction l with
 | nil=>rfl
 | cons b l ih=>
  simp only[QX,not_or] at h;have h1:(b !=32)=true:=by simpa using λe=>h.1 e.symm
  rw[Wt,Qe h1,ih h.2]
theorem eQ6 {l:List Nat}(h:32∈l):((l.takeWhile (λb=>b !=32)).length:Nat)<l.length:=Oz.2 h
theorem eQ7 (l:List Nat)(w:World)(hl:∀x∈l,x<256)(Xb:l.length<=1000000000000):
  Fn Tryz.prog 201 [.string (Qf l),.string (Qf [32])] w (λv w'=>(v=if 32∈l then .tuple #[.string (Qf (Jt l)),.string (Qf (KS l)),.bool true] else .tuple #[.string (Qf l),.string (Qf []),.bool false])/\Ext w w'):=by
 refine QF (c:=cQB) Qa Tryz.func201 rfl rfl rfl ?_;have h:=Tryz.stringslite_Index_one (Qf l) (UInt8.ofNat 32) w;rw[uF,yU (by decide) hl] at h;refine call (uG h) ?_;rintro _ _ ⟨rfl,rfl⟩;unfold fN;by_cases hm:32∈l
 ·rw[Qe hm,Qe hm];have Xa:=eQ6 hm;refine X7 (by show(0:Int)<=_;omega) ?_;refine tR Qa (by kernel_rfl) ?_;refine Kf (v':=.string (Qf (Jt l))) ⟨kX _,by omega,by rw[XU];omega⟩ ?_ ?_
  ·rw[Vn];exact QN (λx=>Value.string (Qf x)) (eQ4 l)
  refine Qm (((Jt l).length+1:Nat):Int) (by rw[XU];show((_:Nat):Int)+1=_;unfold Jt;omega) (by unfold Jt;omega) ?_;refine Kf (v':=.string (Qf (KS l))) ⟨by omega,by rw[XU];unfold Jt;omega,by rw[XU];omega⟩ ?_ ?_
  ·rw[Vn];unfold KS;rw[XU];show Value.string (Qf ((l.take l.length).drop _))=_;rw[Jz (QE _)]<;>rfl
  exactλw' hE=>⟨rfl,hE⟩
 ·rw[if_neg hm,if_neg hm];refine Xy (by decide) ?_;exact⟨rfl,Ext.refl _⟩
theorem eQ8 (l:List Nat)(w:World)(hl:∀x∈l,x<256)(Xb:l.length<=1000000000000):
  Fn Tryz.prog 143 [.string (Qf l),.string (Qf [32])] w (λv w'=>(v=if 32∈l then .tuple #[.string (Qf (Jt l)),.string (Qf (KS l)),.bool true] else .tuple #[.string (Qf l),.string (Qf []),.bool false])/\Ext w w'):=by
 refine QF (c:=bQ1) Qa Tryz.func143 rfl rfl rfl ?_;refine call (eQ7 l w hl Xb) ?_;rintro v w1 ⟨rfl,Qd⟩;by_cases hm:32∈l
 ·rw[Qe hm];exact⟨rfl,Qd⟩
 ·rw[if_neg hm];exact⟨rfl,Qd⟩
theorem jH {kw s:List Nat}(hk:32∉kw):(kw++ [32]).isPrefixOf s=true↔Jt s=kw/\32∈s:=by
 rw[aQF];constructor
 ·rintro⟨r,rfl⟩;refine⟨?_,by simp⟩;unfold Jt;rw[KO,List.takeWhile_append_of_pos (λx hx=>by simpa using λe=>hk (by rw[<-e];exact hx))];simp
 ·rintro⟨h1,h2⟩;have:=eQ5 h2;rw[h1] at this;exact⟨KS s,by rw[KO];exact this.symm⟩
theorem Eg {kw s:List Nat}(h:Jt s=kw):s.drop (kw.length+1)=KS s:=by unfold KS;rw[h]
def lG:List Nat:=[35,105,102]
def rA:List Nat:=[35,101,108,105,102]
def oF:List Nat:=[35,105,110,99,108,117,100,101]
theorem eQ9 {s:List Nat}(h:Jt s=lG)(hm:32∈s):Jb s= .ifd (KS s):=by
 unfold Jb;rw[Qe (show JG.isPrefixOf s=true from (jH (kw:=lG) (by decide)).2 ⟨h,hm⟩),<-Eg h]<;>rfl
theorem fQa {s:List Nat}(h:Jt s=oF)(hm:32∈s):Jb s= .inc (KS s):=by
 unfold Jb;rw[if_neg (λhp=>by have:=((jH (kw:=lG) (by decide)).1 hp).1;rw[h] at this;cases this),Qe (show pInc.isPrefixOf s=true from (jH (kw:=oF) (by decide)).2 ⟨h,hm⟩),<-Eg h];rfl
theorem fQb {s:List Nat}(h:Jt s=rA)(hm:32∈s):Jb s= .elif (KS s):=by
 unfold Jb;rw[if_neg (λhp=>by have:=((jH (kw:=lG) (by decide)).1 hp).1;rw[h] at this;cases this),if_neg (λhp=>by have:=((jH (kw:=oF) (by decide)).1 hp).1;rw[h] at this;cases this),
  Qe (show pElif.isPrefixOf s=true from (jH (kw:=rA) (by decide)).2 ⟨h,hm⟩),<-Eg h];rfl
theorem fQc {s:List Nat}(h1:¬(Jt s=lG/\32∈s))(h2:¬(Jt s=oF/\32∈s))(h3:¬(Jt s=rA/\32∈s)):Jb s=if s=Y6 then .els else if s=J0 then .en else .txt:=by
 unfold Jb;rw[if_neg (λ(hp:JG.isPrefixOf s=true)=>h1 ((jH (kw:=lG) (by decide)).1 hp)),if_neg (λ(hp:pInc.isPrefixOf s=true)=>h2 ((jH (kw:=oF) (by decide)).1 hp)),if_neg (λ(hp:pElif.isPrefixOf s=true)=>h3 ((jH (kw:=rA) (by decide)).1 hp))]
end
section
section
variable {P:Program} {ops:Array Oper} {md:Region.Mode} {C:World->Prop} {Q:Exit->Act->World->Prop}
def PanW (N:Slots)(Xd:List PanicEntry->World->Prop)(Q:Exit->Act->World->Prop):Exit->Act->World->Prop
 | .panic ch,a,w=>a.tmps.size=N.n/\a.defers=N.ds/\Xd ch w
 | e,a,w=>Q e a w
theorem PanW.put {N:Slots}{Xd:List PanicEntry->World->Prop}{Q:Exit->Act->World->Prop}{ch:List PanicEntry}{a:Act}{d:Option Tmp}{v:Value}{w:World}(h:PanW N Xd Q (.panic ch) (a.put d v) w):PanW N Xd Q (.panic ch) a w:=by
 obtain⟨h1,h2,h3⟩:=h;cases d with
 | none=>exact⟨h1,h2,h3⟩
 | some d=>exact⟨by simpa [Act.put] using h1,by simpa [Act.put] using h2,h3⟩
theorem PanW.imp {c:Cx}{Xd:List PanicEntry->World->Prop}{Q:Zd}(hp:∀ch S w,Xd ch w->Q (.panic ch) S w):∀(e:Exit)(a:Act)(w:World),PanW c.N Xd (Up c Q) e a w->Up c Q e a w:=λe a w h=>by
 cases e<;>first | exact h | (obtain⟨h1,h2,h3⟩:=h;exact⟨[],⟨h1,h2,λk x hk=>by simp[Env.ent] at hk⟩,hp _ _ _ h3⟩)
theorem fQd {N:Slots}{Xd:List PanicEntry->World->Prop}{n i:Nat}{oi:Oper}{v:Value}{L:Array Bool->Act->World->Prop}(hi:ops[i]? =some oi)(mR:∀(j:Nat)(o:Oper) cs b,ops[j]? =some o->o.op≠ .select cs b)
  (hs:jk md ops n) (Q7:i<n) (wA:∀listed a w,L listed a w->∀j∈Region.ready md ops listed,n<=j):
  ∀(f:Nat) (listed:Array Bool) (a:Act) (w:World),HeadInv md ops n listed->
   (∀j oj,ops[j]? =some oj->j≠i->listed.getD j true=false->(∀e∈oj.after,Region.binds md e=true->e.on≠i)->oi.apart ops oj=true)->
   i∈Region.ready md ops listed->YieldsIf P ops C oi v a->C w->
   Wz P md ops (PanW N Xd Q) C n L f (listed.setIfInBounds i true) (a.put oi.dst v) w->Wz P md ops (PanW N Xd Q) C n L (f+1) listed a w:=by
 intro f;induction f with
 | zero=>
  intro listed a w inv _ hr hy hC H;have Jy:=(mem_ready.1 hr).1;refine⟨λh=>(by rw[h] at hr;cases hr),λj hj=>?_⟩;have J3:=qD hs inv Q7 Jy j hj;refine⟨J3,?_⟩;by_cases KE:j=i
  ·subst KE;exact hy.wpOp hi hC ⟨hC,H⟩
  ·have:=wA _ _ _ H j (ready_mono hj KE);omega
 | succ f ih=>
  intro listed a w inv mS hr hy hC H;have Jy:=(mem_ready.1 hr).1;refine⟨λh=>(by rw[h] at hr;cases hr),λj hj=>?_⟩;have J3:=qD hs inv Q7 Jy j hj;refine⟨J3,?_⟩;by_cases KE:j=i
  ·subst KE;exact hy.wpOp hi hC ⟨hC,H⟩
  ·have h1:=(H.2 j (ready_mono hj KE)).2;obtain⟨mT,oj,dZ,hall⟩:=mem_ready.1 hj;have kG:∀e∈oj.after,Region.binds md e=true->e.on≠i:=λe he hb heq=>by
    have h1:=hall e he hb;rw[heq,getD_both Jy] at h1;cases h1
   have h2:=wpOp_putIf dZ (mS j oj dZ KE mT kG) (λcs b=>mR i oi cs b hi) (λcs b=>mR j oj cs b dZ) (λ_ _ _ h=>PanW.put h) hy h1;have wB:∀k ok,ops[k]? =some ok->k≠i->(listed.setIfInBounds j true).getD k true=false->
     (∀e∈ok.after,Region.binds md e=true->e.on≠i)->oi.apart ops ok=true:=λk ok hk wC Jy Xi=>by
    refine mS k ok hk wC ?_ Xi;by_cases mU:j=k
    ·subst mU;exact mT
    ·rw[getD_set_ne true mU] at Jy;exact Jy
   refine wpOp_mono (λa' w' h3=>⟨h3.2.1,ih (listed.setIfInBounds j true) a' w' (inv.set hj J3) wB (ready_mono hr (Ne.symm KE)) h3.1 h3.2.1 ?_⟩) h2;rw[aQE _ _ KE];exact h3.2.2
end
section
variable {c:Cx} {S:Env} {a:Act}
def jI (c:Cx)(Xd:List PanicEntry->World->Prop)(all:List Oper)(C:World->Prop):List (Bool×Nat)->Env->World->(Env->World->Prop)->Prop
 | [],S,w,K=>K S w
 | (true,k)::l,S,w,K=>match Vm all k with
  | some o=>ib all o S (λS=>qF c o S C (λS=>jI c Xd all C l S w K)) (λS=>Xf c S o.dst (.v undef) (λS=>jI c Xd all C l S w K))
  | none=>False
 | (false,k)::l,S,w,K=>match Vm all k with
  | some o=>ib all o S (λS=>dm c o S w (λS w=>C w/\jI c Xd all C l S w K) (λe _ w=>match e with
   | .panic ch=>Xd ch w
   | _=>False)) (λS=>Xf c S o.dst (.v undef) (λS=>jI c Xd all C l S w K))
  | none=>False
theorem yV (hg:c.g.Ok){md:Region.Mode}{ops:List Oper}{C:World->Prop}{Q:Exit->Act->World->Prop}{n:Nat}(hs:Region.noSelect ops.toArray=true)(hk:jk md ops.toArray n){K:Env->World->Prop}{Xd:List PanicEntry->World->Prop}:
  ∀(l:List (Bool×Nat)) (listed:Array Bool) (S:Env) (a:Act) (w:World),HeadInv md ops.toArray n listed->cm md ops.toArray n l listed=true->jI c Xd ops C l S w K->Fits c.N S a->C w->
  Wz c.g.P md ops.toArray (PanW c.N Xd Q) C n (λKm a' w'=>Region.seqB md ops.toArray (ops.toArray.size-n) n Km=true/\∃S',Fits c.N S' a'/\K S' w') l.length listed a w
 | [],listed,S,a,w,inv,hB,h,hf,hC=>⟨hB,S,hf,h⟩
 | (true,k)::l,listed,S,a,w,inv,hB,h,hf,hC=>by
  simp only[cm,JR] at hB;obtain⟨⟨⟨Xj,hr⟩,kD⟩,Vu⟩:=hB;have Xj:k<n:=by rw[iZ] at Xj;exact Xj
  have Q0:k∈Region.ready md ops.toArray listed:=by simpa using hr
  obtain⟨_,o,ho,_⟩:=mem_ready.1 Q0;have hn:Vm ops k=some o:=by rw[gY];simpa using ho
  simp only[jI,hn] at h;have key:∃v,YieldsIf c.g.P ops.toArray C o v a/\∃S',Fits c.N S' (a.put o.dst v)/\jI c Xd ops C l S' w K:=by
   rcases ll h hf with⟨hw,S1,Zz,h1⟩ | ⟨hw,S1,Zz,h1⟩
   ·obtain⟨v,h2,h3⟩:=ym hg h1 Zz;exact⟨v,.inl ⟨hw,h2⟩,h3⟩
   ·exact⟨undef,.inr ⟨hw,rfl⟩,Zp (e:=.v undef) h1 Zz⟩
  obtain⟨v,hy,S',QW,h'⟩:=key;exact fQd ho (Region.noSelect_spec hs) hk Xj (λKm a' w' hL=>seqB_ready hL.1) l.length listed a w inv (Region.free_spec ho kD) Q0 hy hC
   (yV hg hs hk l _ S' _ w (inv.set Q0 Xj) Vu h' QW hC)
 | (false,k)::l,listed,S,a,w,inv,hB,h,hf,hC=>by
  simp only[cm,JR,Vl] at hB;obtain⟨⟨Xj,hr⟩,Vu⟩:=hB;have Xj:k<n:=by rw[iZ] at Xj;exact Xj
  have Q0:k∈Region.ready md ops.toArray listed:=by rw[hr];simp
  obtain⟨_,o,ho,_⟩:=mem_ready.1 Q0;have hn:Vm ops k=some o:=by rw[gY];simpa using ho
  simp only[jI,hn] at h;have gE:=inv.set Q0 Xj;refine⟨λh0=>(by rw[hr] at h0;cases h0),λi hi=>?_⟩;rw[hr] at hi;have pL:i=k:=by simpa using hi
  subst pL;refine⟨Xj,?_⟩;unfold wpOp;simp only[ho];rcases ll h hf with⟨hw,S1,Zz,h1⟩ | ⟨hw,S1,Zz,h1⟩
  ·rw[Qe hw];refine .inl ?_;have h2:=qw hg h1 Zz;have h3:=Oper.wp_mono (K':=λa' w'=>C w'/\Wz c.g.P md ops.toArray (PanW c.N Xd Q) C n (λKm a' w'=>Region.seqB md ops.toArray (ops.toArray.size-n) n Km=true/\∃S',Fits c.N S' a'/\K S' w') l.length (listed.setIfInBounds i true) a' w')
    (λa' w' ⟨S',QW,Kc,Yq⟩=>⟨Kc,yV hg hs hk l _ S' a' w' gE Vu Yq QW Kc⟩) h2
   unfold Oper.wp at h3 ⊢;generalize (execOp a.eval o).run c.g.P w=r at*;cases r with
   | ok nx w'=>
    cases nx<;>simp only[Oper.upon] at h3 ⊢ <;> try exact h3
    exact h3.mono λe KL he=>by
     cases e with
     | returned v=>exact he
     | panicked ch=>obtain⟨_,hfz,he⟩:=he;exact⟨hfz.size,hfz.defers,he⟩
     | outgrown=>obtain⟨_,_,_,_,he⟩:=he;exact he.elim
   | halt x w'=>cases x<;>simp only[Oper.upon] at h3 ⊢ <;> first | exact h3 | (obtain⟨_,hfz,h3⟩:=h3;exact⟨hfz.size,hfz.defers,h3⟩) | (obtain⟨_,_,h3⟩:=h3;exact h3.elim)
  ·rw[if_neg (by rw[hw];decide)];obtain⟨S',QW,h'⟩:=Zp (e:=.v undef) h1 Zz;exact⟨hC,yV hg hs hk l _ S' _ w gE Vu h' QW hC⟩
theorem fQe (hg:c.g.Ok){id:Nat}{ops:List Oper}{w:World}{Q:Zd}(Xd:List PanicEntry->World->Prop)(Iu:∀ch S w,Xd ch w->Q (.panic ch) S w)(C:World->Prop)(n:Nat)(plan:List (Bool×Nat))
  (hB:(Region.noSelect ops.toArray&&Nat.beq plan.length n&&qE .any ops.toArray n&&cm .any ops.toArray n plan (Array.replicate ops.toArray.size false))=true) (hC:C w.drew)
  (h:jI {c with named:=1000000} Xd ops C plan S w.drew (λS w=>Yf c ops (ops.drop n) S w (λS w=>Q .normal S w) (λe _ w=>match e with
   | .panic ch=>Xd ch w
   | _=>False))):Wv c id ops S w Q:=by
 unfold Wv;intro a hf;simp only[JR] at hB;obtain⟨⟨⟨hs,hl⟩,aY⟩,Je⟩:=hB;have hl:=Vk hl;have hk:=yk aY;have H6:n<=ops.length:=by
  rcases hk with hk | hk
  ·rw[hk];simp
  ·have:=hk.1;simp at this;omega
 refine Code.wp_mono (PanW.imp Iu) (wp_region_any hg.mixed ?_);have oU:HeadInv .any ops.toArray n (Array.replicate ops.toArray.size false):=
  ⟨by simp,λj oj _ hl=>(by rw[getD_replicate_false] at hl;cases hl),λt _ ht=>getD_in (by simpa using ht) (getD_replicate_false _ _)⟩
 have H:=yV (c:={c with named:=1000000}) hg (Q:=Up c Q) hs hk plan _ S a _ oU Je h hf hC;have YF:(ops.drop n).length=ops.toArray.size-n:=by simp
 have H2:=tU (Q:=PanW c.N Xd (Up c Q)) (g:=ops.toArray.size-n) (λKm a' w' hL=>by
  obtain⟨hq,S',QW,Yq⟩:=hL;have h2:=jf (c:=c) hg ops _ _ _ _ Yq QW;have:=wpAny_of_seq (P:=c.g.P) (md:=.any) (ops:=ops.toArray) (Q':=PanW c.N Xd (Up c Q)) (ops.drop n) n Km a' w' (λj=>by simp) (by rw[YF];exact hq) (lj (λe a w hq=>by
   cases e with
   | normal=>exact hq
   | panic ch=>obtain⟨_,hfz,h⟩:=hq;exact⟨hfz.size,hfz.defers,h⟩
   | _=>exact Xm hq (by rintro⟨_,_,h⟩;exact h)) h2)
  rwa [YF] at this) _ _ _ _ H
 rw[hl,show n+(ops.toArray.size-n)=ops.toArray.size by simp;omega] at H2;exact H2
end
end
end
section
def Yy (l:List Nat):Int:=if JG.isPrefixOf l then 1 else if l=J0 then -1 else 0
def dp (ls:List (List Nat)):Int:=(ls.map Yy).sum
theorem Eh (l:List Nat)(ls:List (List Nat)):dp (l::ls)=Yy l+dp ls:=by simp[dp]
theorem fQf (a b:List (List Nat)):dp (a++b)=dp a+dp b:=by simp[dp]
theorem OB (a:List (List Nat)):dp a.reverse=dp a:=by
 induction a with
 | nil=>rfl
 | cons x a ih=>rw[List.reverse_cons,fQf,ih,Eh,Eh];simp[dp];omega
def jJ:List (List Nat)->List (List Nat)->Nat->Nat->Int->Nat
 | x::a,y::b,k,best,o=>if x=y then jJ a b (k+1) (if o+Yy x=0 then k+1 else best) (o+Yy x)else best
 | _,_,_,best,_=>best
def jK (a b:List (List Nat))(o:Int)(q:Nat):Prop:=1<=q/\q<=a.length/\q<=b.length/\a.take q=b.take q/\o+dp (a.take q)=0
theorem Ei {x y:List Nat}{a b:List (List Nat)}{o:Int}{q:Nat}(hq:1<=q):jK (x::a) (y::b) o (q+1)↔x=y/\jK a b (o+Yy x) q:=by
 unfold jK;simp only[Xk,CR,List.cons.injEq,Eh];constructor
 ·rintro⟨_,h2,h3,⟨rfl,h4⟩,h5⟩;exact⟨rfl,hq,by omega,by omega,h4,by omega⟩
 ·rintro⟨rfl,_,h2,h3,h4,h5⟩;exact⟨by omega,by omega,by omega,⟨rfl,h4⟩,by omega⟩
theorem OC:∀(a b:List (List Nat))(k best:Nat)(o:Int),((∀q,¬jK a b o q)/\jJ a b k best o=best)∨∃p,jK a b o p/\(∀q,jK a b o q->q<=p)/\jJ a b k best o=k+p
 | [],b,k,best,o=>.inl ⟨λq h=>by have:=h.1;have:=h.2.1;simp at this;omega,by cases b<;>rfl⟩
 | x::a,[],k,best,o=>.inl ⟨λq h=>by have:=h.1;have:=h.2.2.1;simp at this;omega,rfl⟩
 | x::a,y::b,k,best,o=>by
  rw[jJ];by_cases Xr:x=y
  ·rw[Qe Xr];have one:jK (x::a) (y::b) o 1↔o+Yy x=0:=by
    unfold jK;simp[Xr,dp]
   rcases OC a b (k+1) (if o+Yy x=0 then k+1 else best) (o+Yy x)with⟨h1,h2⟩ | ⟨p,h1,h2,h3⟩
   ·have lst:∀q,jK (x::a) (y::b) o q->q=1:=λq hq=>by
     have:=hq.1
     match q,hq with
     | 1,_=>rfl
     | q+2,hq=>exact Xm ((Ei (by omega)).1 hq).2 (h1 _)
    by_cases h0:o+Yy x=0
    ·rw[Qe h0] at h2 ⊢;exact .inr ⟨1,one.2 h0,λq hq=>by rw[lst q hq];exact QE _,h2⟩
    ·rw[if_neg h0] at h2 ⊢;exact .inl ⟨λq hq=>by have:=lst q hq;subst this;exact h0 (one.1 hq),h2⟩
   ·refine .inr ⟨p+1,(Ei h1.1).2 ⟨Xr,h1⟩,λq hq=>?_,by rw[h3];omega⟩
    match q,hq with
    | 0,_=>omega
    | 1,_=>omega
    | q+2,hq=>have:=h2 _ ((Ei (by omega)).1 hq).2;omega
  ·rw[if_neg Xr];refine .inl ⟨λq hq=>?_,rfl⟩
   match q,hq with
   | 0,hq=>exact Xm hq.1 (by omega)
   | q+1,hq=>have:=hq.2.2.2.1;simp at this;exact Xr this.1
def V6 (a b:List (List Nat)):Nat:=jJ a b 0 0 0
theorem Ej (a b:List (List Nat)):V6 a b<=a.length/\V6 a b<=b.length/\a.take (V6 a b)=b.take (V6 a b)/\dp (a.take (V6 a b))=0/\∀q,q<=a.length->q<=b.length->a.take q=b.take q->dp (a.take q)=0->q<=V6 a b:=by
 unfold V6;rcases OC a b 0 0 0 with⟨h1,h2⟩ | ⟨p,h1,h2,h3⟩
 ·rw[h2];refine⟨XM _,XM _,rfl,rfl,λq q1 q2 q3 q4=>?_⟩;by_cases h0:q=0
  ·omega
  ·exact Xm ⟨by omega,q1,q2,q3,by omega⟩ (h1 q)
 ·rw[h3,a8];obtain⟨p1,p2,p3,p4,p5⟩:=h1;refine⟨p2,p3,p4,by omega,λq q1 q2 q3 q4=>?_⟩;by_cases h0:q=0
  ·omega
  ·exact h2 q ⟨by omega,q1,q2,q3,by omega⟩
def eM (a b:List (List Nat)):Nat:=V6 a.reverse b.reverse
theorem rB {α:Type}(a:List α)(q:Nat)(h:q<=a.length):a.reverse.take q=(a.drop (a.length-q)).reverse:=by
 rw[List.take_reverse]
theorem OD (a b:List (List Nat)):eM a b<=a.length/\eM a b<=b.length/\a.drop (a.length-eM a b)=b.drop (b.length-eM a b)/\dp (a.drop (a.length-eM a b))=0/\∀q,q<=a.length->q<=b.length->a.drop (a.length-q)=b.drop (b.length-q)->dp (a.drop (a.length-q))=0->q<=eM a b:=by
 obtain⟨h1,h2,h3,h4,h5⟩:=Ej a.reverse b.reverse;rw[List.length_reverse] at h1 h2;unfold eM;rw[rB _ _ h1,rB _ _ h2] at h3;rw[rB _ _ h1,OB] at h4;refine⟨h1,h2,by simpa using h3,h4,λq q1 q2 q3 q4=>h5 q (by simpa using q1) (by simpa using q2) ?_ ?_⟩
 ·rw[rB _ _ q1,rB _ _ q2,q3]
 ·rw[rB _ _ q1,OB];exact q4
def Vq (nm:List (List Nat))(v:Nat)(ng:Bool):List Nat:=JG++((if ng then [33] else [])++(nm[v]?).getD [])
def aJ (nm:List (List Nat))(v:Nat)(h l:List (List Nat)):List (List Nat):=
 let p:=V6 h l
 let h1:=h.drop p
 let l1:=l.drop p
 let s:=eM h1 l1
 let h2:=h1.take (h1.length-s)
 let l2:=l1.take (l1.length-s)
 h.take p++((if h2=[] then Vq nm v true::l2 else Vq nm v false::(h2++if l2=[] then [] else Y6::l2))++J0::h1.drop (h1.length-s))
inductive Tr where
 | nil
 | ln (s:List Nat) (r:Tr)
 | sc (v:Nat) (ng:Bool) (h l r:Tr)
def fl (nm:List (List Nat)):Tr->List (List Nat)
 | .nil=>[]
 | .ln s r=>s::fl nm r
 | .sc v ng h .nil r=>Vq nm v ng::(fl nm h++J0::fl nm r)
 | .sc v ng h l r=>Vq nm v ng::(fl nm h++Y6::(fl nm l++J0::fl nm r))
deriving instance DecidableEq for Dir
def ZV:List Nat->List (List Nat)
 | []=>[[]]
 | b::l=>if b=10 then [10]::ZV l else match ZV l with
  | []=>[[b]]
  | s::ls=>(b::s)::ls
theorem Ek:∀l,ZV l≠ []
 | []=>by simp[ZV]
 | b::l=>by
  unfold ZV;split
  ·simp
  ·split<;>simp
theorem yW:∀l,(ZV l).length=l.count 10+1
 | []=>rfl
 | b::l=>by
  have ih:=yW l;unfold ZV;split
  ·rename_i h;subst h;simp[ih]
  ·rename_i h;rw[List.count_cons_of_ne h];split
   ·rename_i e;exact Xm e (Ek l)
   ·rename_i e;rw[e] at ih;exact ih
theorem El:∀{l},10∉l->ZV l=[l]
 | [],_=>rfl
 | b::l,h=>by
  simp only[QX,not_or] at h;unfold ZV;rw[if_neg (λe=>h.1 e.symm),El h.2]
def ae (l:List Nat):List Nat:=l.takeWhile (λb=>b !=10)
theorem fQg {l:List Nat}(h:10∈l):(ae l).length<l.length:=by
 unfold ae;induction l with
 | nil=>cases h
 | cons b l ih=>
  by_cases hb:b=10
  ·subst hb;simp
  ·have h1:(b !=10)=true:=by simpa using hb
   rw[Wt,Qe h1];simp only[Xk,Nat.add_lt_add_iff_right];exact ih ((QX.1 h).resolve_left (λe=>hb e.symm))
theorem OE:∀{l},10∈l->ZV l=l.take ((ae l).length+1)::ZV (l.drop ((ae l).length+1))
 | [],h=>by cases h
 | b::l,h=>by
  by_cases hb:b=10
  ·subst hb;rw[ZV,Qe rfl];have e:ae (10::l)=[]:=by simp[ae]
   rw[e]<;>rfl
  ·have h1:(b !=10)=true:=by simpa using hb
   have e:ae (b::l)=b::ae l:=by unfold ae;rw[Wt,Qe h1]
   have ih:=OE ((QX.1 h).resolve_left (λe=>hb e.symm));rw[ZV,if_neg hb,ih,e]<;>rfl
theorem OF:∀{l},(∀x∈l,x<256)->∀s∈ZV l,(∀x∈s,x<256)/\s.length<=l.length
 | [],_,s,hs=>by
  have:s=[]:=by simpa [ZV] using hs
  subst this;exact⟨(λx hx=>by cases hx),QE _⟩
 | b::l,h,s,hs=>by
  have ih:=OF (l:=l) (λx hx=>h x (by simp[hx]));unfold ZV at hs;split at hs
  ·rcases QX.1 hs with rfl | hs
   ·exact⟨by decide,by simp⟩
   ·exact⟨(ih s hs).1,Nat.le_succ_of_le (ih s hs).2⟩
  ·split at hs
   ·rename_i e;exact Xm e (Ek l)
   ·rename_i t ts e;rw[e] at ih;rcases QX.1 hs with rfl | hs
    ·have:=ih t (by simp);exact⟨λx hx=>(QX.1 hx).elim (λe=>e▸h b (by simp)) (this.1 x),by simp;exact this.2⟩
    ·have:=ih s (by simp[hs]);exact⟨this.1,Nat.le_succ_of_le this.2⟩
def fO (l:List Nat):List (List Nat):=if(ZV l).getLast? =some [] then(ZV l).dropLast else ZV l
theorem OG:∀{l},bu l->ZV l=(QU l).map (·++ [10])++ [[]]
 | [],_=>rfl
 | b::l,h=>by
  have hl:bu l:=by
   cases l with
   | nil=>exact .inl rfl
   | cons c l=>right;rcases h with h | h;cases h;simpa using h
  have ih:=OG hl;unfold ZV QU;by_cases hb:b=10
  ·subst hb;rw[Qe rfl,Qe rfl,ih]<;>rfl
  ·rw[if_neg hb,if_neg hb,ih];cases KG:QU l with
   | nil=>
    have:=WG hl;rw[KG] at this;have:l=[]:=this.symm;subst this;rcases h with h | h
    ·cases h
    ·simp at h;exact Xm h hb
   | cons t ls=>rfl
theorem yX {l:List Nat}(h:bu l):fO l=(QU l).map (·++ [10]):=by
 unfold fO;rw[OG h,Qe (by simp)];simp
def aK (s:List Nat):Bool:=JG.isPrefixOf s||pElif.isPrefixOf s||pInc.isPrefixOf s||decide (s=Y6++ [10])||decide (s=J0++ [10])
theorem uH:∀{p r:List Nat},10∉p->p.isPrefixOf (r++ [10])=p.isPrefixOf r
 | [],r,_=>by simp
 | a::p,[],h=>by
  simp only[QX,not_or] at h;have:(a==10)=false:=by simpa using λe:a=10=>h.1 e.symm
  simp[List.isPrefixOf,this]
 | a::p,b::r,h=>by
  simp only[QX,not_or] at h;simp only[Yd,List.isPrefixOf,uH h.2]
theorem yY (r:List Nat):aK (r++ [10])=decide (Jb r≠ .txt):=by
 unfold aK;rw[uH (by decide),uH (by decide),uH (by decide)];have e1:∀k:List Nat,decide (r++ [10]=k++ [10])=decide (r=k):=λk=>by simp
 rw[e1,e1];unfold Jb;by_cases h1:JG.isPrefixOf r=true
 ·rw[Qe h1,h1];simp
 by_cases h2:pInc.isPrefixOf r=true
 ·rw[if_neg h1,Qe h2,h2];simp
 by_cases h3:pElif.isPrefixOf r=true
 ·rw[if_neg h1,if_neg h2,Qe h3,h3];simp
 by_cases h4:r=Y6
 ·rw[if_neg h1,if_neg h2,if_neg h3,Qe h4,XX h4];simp
 by_cases h5:r=J0
 ·rw[if_neg h1,if_neg h2,if_neg h3,if_neg h4,Qe h5,XX h5];simp
 rw[if_neg h1,if_neg h2,if_neg h3,if_neg h4,if_neg h5,ez.2 h1,ez.2 h2,ez.2 h3,Zf h4,Zf h5];simp
def KT (l:List Nat):Bool:=ac l&&(QU l).all (λs=>decide (Jb s= .txt))
theorem fQh (ls:List (List Nat)):((ls.map (·++ [10])).any aK)= !(ls.all (λs=>decide (Jb s= .txt))):=by
 induction ls with
 | nil=>rfl
 | cons s ls ih=>
  rw[YK,List.any_cons,xA,ih,yY,Bool.not_and];congr 1;by_cases h:Jb s= .txt<;>simp[h]
theorem OH (r:List Nat):JG.isPrefixOf (r++ [10])=JG.isPrefixOf r:=uH (by decide)
theorem fQi (l:List Nat)(w:World)(hl:∀x∈l,x<256):
  Fn Tryz.prog 209 [.string (Qf l),.string (Qf [10])] w (λv w'=>v= .int .i64 (fN 10 l)/\w=w'):=by
 refine QF (c:=cQG) Qa Tryz.func209 rfl rfl rfl ?_;have h:=Tryz.stringslite_Index_one (Qf l) (UInt8.ofNat 10) w;rw[uF,yU (by decide) hl] at h;refine call (uG h) ?_;rintro _ _ ⟨rfl,rfl⟩;exact⟨rfl,rfl⟩
theorem Em (l p:List Nat)(w:World)(hl:∀x∈l,x<256)(hp:∀x∈p,x<256):
  Fn Tryz.prog 96 [.string (Qf l),.string (Qf p)] w (λv w'=>v= .bool (p.isPrefixOf l)/\w=w'):=by
 refine QF (c:=c96) Qa Tryz.func96 rfl rfl rfl ?_;refine call (My l p w hl hp) ?_;rintro _ _ ⟨rfl,rfl⟩;exact⟨rfl,rfl⟩
theorem OI (ds:List (List Nat))(n i:Nat)(s:List Nat)(hi:ds.length=i)(hn:i<n):
  (X4 ds++List.replicate (n-i) (Value.string ⟨#[]⟩)).set i (.string (Qf s))=X4 (ds++ [s])++List.replicate (n-(i+1)) (Value.string ⟨#[]⟩):=by
 have hl:(X4 ds).length=i:=by rw[aF,hi]
 rw[List.set_append_right _ _ (by omega),hl,xy,show n-i=(n-(i+1))+1 by omega,Lk,List.set_cons_zero];simp[X4]
def Sn (w:World)(A:Option Addr)(n c:Nat)(cs:List Value):Prop:=Sl w 1 A n c cs/\(0<n->∃g o,A=some ⟨g,o,none⟩)
theorem Sn.ext {w w':World}{A:Option Addr}{n c:Nat}{cs:List Value}(h:Sn w A n c cs)(k:Ext w w'):Sn w' A n c cs:=⟨h.1.ext k,h.2⟩
theorem fQj (l:List Nat)(w:World)(hl:∀x∈l,x<256)(Xb:l.length<=1000000000):
  Fn Tryz.prog 153 [.string (Qf l),.string (Qf [10]),.int .i64 1,.int .i64 (-1)] w (λu w'=>∃A c,u= .slice A (ZV l).length c/\Ext w w'/\Sn w' A (ZV l).length c (X4 (ZV l))):=by
 have Je:=yW l;have iQ:l.count 10<=l.length:=List.count_le_length;have XW:=XU l;refine QF (c:={bQ9 with cuts:=[]}) Qa Tryz.func153 rfl rfl rfl ?_;refine XP (by decide) ?_;refine Xt rfl ?_;refine X7 (by decide) ?_;refine call (Oy l 10 w hl (by decide)) ?_;rintro _ _ ⟨rfl,rfl⟩;refine Qm ((l.count 10+1:Nat):Int) (by show((_:Nat):Int)+1=_;omega) (by omega) ?_;refine Qm ((l.length+1:Nat):Int) (by rw[XW];omega) (by omega) ?_;refine norm (m:=((l.count 10+1:Nat):Int)) (by split<;>omega) ?_;refine yh Qa rfl rfl rfl rfl rfl rfl rfl rfl (by show 16*(l.count 10+1)<=_;omega) (by unfold maxLen;omega) (λw1 Qd Q2 Qh=>?_);refine Qm ((l.count 10:Nat):Int) (by omega) (by omega) ?_;generalize Iv:l.count 10=cn at*;refine loop Qa [10,0] (λs:Nat×List (List Nat)×List Nat=>[.int .i64 s.1,.string (Qf s.2.2)]) (λs w'=>Mod (·=w.heap.size) w1 w'/\s.1<=cn/\s.2.1.length=s.1/\ZV l=s.2.1++ZV s.2.2/\(∀x∈s.2.2,x<256)/\s.2.2.length<=l.length/\Blk w' w.heap.size 9 (X4 s.2.1++List.replicate (cn+1-s.1) (Value.string ⟨#[]⟩))) (λs _=>cn-s.1) (0,[],l) rfl ⟨Mod.refl _ _,XM _,rfl,rfl,hl,QE _,Qh⟩ ?_;rintro⟨i,ds,r⟩ w2 ⟨mo,hi,gK,Vx,iF,iT,Qw⟩;simp only at hi gK Vx iF iT Qw;have QT:=XU r;have zZ:=QN List.length Vx;rw[Qy,Je,gK] at zZ;refine QB (λc1=>?_) (λc1=>?_)
 ·have Q7:i<cn:=by simp only at c1;omega
  have hm:10∈r:=Classical.byContradiction (λhh=>by rw[El hh] at zZ;simp at zZ;omega);have hhd:=fQg hm;have e1:fN 10 r=((ae r).length:Nat):=by unfold fN ae;rw[Qe hm]
  have wT:=fQi r w2 iF;rw[e1] at wT;refine call wT ?_;rintro _ _ ⟨rfl,rfl⟩;refine Xy (by omega) ?_;refine Qm (((ae r).length+1:Nat):Int) (by omega) (by omega) ?_;refine Kf (v':=.string (Qf (r.take ((ae r).length+1)))) ⟨by omega,by omega,by rw[QT];omega⟩ (by rw[Vn];rfl) ?_;refine index (j:=i) (by omega) ?_;refine XK Qw (by rw[Qy,aF,List.length_replicate];omega) (λw3 ZP Qu=>?_);rw[OI ds (cn+1) i _ gK (by omega)] at Qu;refine Qm (((ae r).length+1:Nat):Int) (by have:(Qf [10]).size=1:=rfl;omega) (by omega) ?_;refine Kf (v':=.string (Qf (r.drop ((ae r).length+1)))) ⟨by omega,by rw[QT];omega,by rw[QT];omega⟩ (by
   rw[Vn,QT];show Value.string (Qf ((r.take r.length).drop _))=_;rw[Jz (QE _)];rfl) ?_
  refine Qm ((i+1:Nat):Int) (by show((i:Nat):Int)+1=_;omega) (by omega) ?_;refine⟨(i+1,ds++ [r.take ((ae r).length+1)],r.drop ((ae r).length+1)),rfl,⟨mo.trans ZP (λi hi=>.inl hi),Q7,by simp[gK],?_,λx hx=>iF x (ay hx),by simp only[Y1];omega,Qu⟩,by show cn-(i+1)<cn-i;omega⟩;simp only;rw[Vx,OE hm];simp
 ·have Q7:i=cn:=by simp only at c1;omega
  subst Q7;have Xi:10∉r:=λhm=>by have h1:=yW r;have:=List.count_pos_iff.2 hm;omega
  refine index (j:=i) (by omega) ?_;refine XK Qw (by rw[Qy,aF,List.length_replicate];omega) (λw3 ZP Qu=>?_);rw[OI ds (i+1) i _ gK (by omega)] at Qu;refine Qm ((i+1:Nat):Int) (by show((i:Nat):Int)+1=_;omega) (by omega) ?_;refine ji Qa rfl rfl rfl rfl rfl rfl (QE _) ?_;have e2:ZV l=ds++ [r]:=by rw[Vx,El Xi]
  have Cj:=Sl.own (sz:=1) (n:=i+1) (c:=i+1) Qu (QE _) (by unfold maxLen;omega) (by rw[Qy,aF,Qy,gK];simp);rw[xy,List.replicate_zero,YL,gR,Jz (by rw[aF,Qy,gK];simp)] at Cj;refine⟨_,_,by rw[Je],(mo.trans ZP (λi hi=>.inl hi)).ext Qd (λi hi=>by omega),?_⟩;rw[Je,e2];exact⟨Cj,λ_=>⟨_,_,rfl⟩⟩
theorem fQk (l:List Nat)(w:World)(hl:∀x∈l,x<256)(Xb:l.length<=1000000000):
  Fn Tryz.prog 95 [.string (Qf l),.string (Qf [10])] w (λu w'=>∃A c,u= .slice A (ZV l).length c/\Ext w w'/\Sn w' A (ZV l).length c (X4 (ZV l))):=by
 refine QF (c:={c95 with cuts:=[]}) Qa Tryz.func95 rfl rfl rfl ?_;refine call (fQj l w hl Xb) ?_;rintro _ w1 ⟨A,c,rfl,Qd,KC⟩;exact⟨A,c,rfl,Qd,KC⟩
def rC (w:World)(u:Value)(ls:List (List Nat))(w':World):Prop:=∃A c,u= .slice A ls.length c/\Ext w w'/\Sn w' A ls.length c (X4 ls)
theorem yZ (l:List Nat)(w:World)(hl:∀x∈l,x<256)(Xb:l.length<=1000000000):
  Fn Tryz.prog 46 [.string (Qf l)] w (λu w'=>rC w u (fO l) w'):=by
 have Je:=yW l;have iQ:l.count 10<=l.length:=List.count_le_length;refine QF (c:={c46 with cuts:=[]}) Qa Tryz.func46 rfl rfl rfl ?_;refine call (fQk l w hl Xb) ?_;rintro _ w1 ⟨A,c,rfl,Qd,KC⟩;have ZK:=KC.1.le;refine Qm (((ZV l).length-1:Nat):Int) (by omega) (by omega) ?_;obtain⟨z,hz⟩:∃z,(ZV l).getLast? =some z:=⟨_,List.getLast?_eq_some_getLast (Ek l)⟩
 have Wl:(ZV l)[(ZV l).length-1]? =some z:=by rw[<-qp];exact hz
 refine Vz KC.1 (by omega) (λad u hA hu Xz=>?_);rw[lm Wl] at hu;cases hu;refine load Xz ?_;have Vs:=(OF hl z (Xe Wl)).1;by_cases h0:z=[]
 ·subst h0;refine Xc rfl ?_;refine Qm (((ZV l).length-1:Nat):Int) (by omega) (by omega) ?_;refine ji Qa rfl rfl rfl rfl rfl rfl (by omega) ?_;have e:fO l=(ZV l).dropLast:=by unfold fO;rw[Qe hz]
  have h2:=KC.1.take (m:=(ZV l).length-1) (by omega);refine⟨A,c,by rw[e,List.length_dropLast],Qd,?_⟩;rw[e,List.length_dropLast];have e3:X4 (ZV l).dropLast=(X4 (ZV l)).take (((ZV l).length-1)*1):=by
   rw[gR,List.dropLast_eq_take];simp[X4,List.map_take]
  rw[e3];exact⟨h2,λh0=>KC.2 (by omega)⟩
 ·refine Xy (λe=>h0 (JD Vs (by simp) e)) ?_;have e:fO l=ZV l:=by unfold fO;rw[if_neg (λhh=>h0 (Option.some.inj (hz.symm.trans hh)))]
  exact⟨A,c,by rw[e],Qd,by rw[e];exact KC⟩
theorem fQl (x z:Bool)(w:World):Fn Tryz.prog 170 [.bool x,.bool false,.bool z] w (λv w'=>v= .bool (J5 4 x z)/\w=w'):=by
 refine QF (c:={cQn with cuts:=[]}) Qa Tryz.func170 rfl rfl rfl ?_;cases x with
 | true=>
  refine Xc rfl ?_;refine Xt rfl ?_;refine Xt rfl ?_;exact⟨rfl,rfl⟩
 | false=>
  refine Xt rfl ?_;refine Xc rfl ?_;exact⟨by cases z<;>rfl,rfl⟩
structure CPz where
 ox:Nat
 mx:Nat
 lx:Nat
 ax:Nat
 bx:Nat
 pb:Nat
 km:Nat
 mm:Nat
 D:AD
def CPz.caps (p:CPz):List Value:=[VP.ptr p.ox,VP.ptr p.mx,VP.ptr p.lx,VP.ptr p.ax,VP.ptr p.bx]
def CPz.clo (p:CPz):Value:=.func (.func 188) #[] #[VP.ptr p.ox,VP.ptr p.mx,VP.ptr p.lx,VP.ptr p.ax,VP.ptr p.bx]
def CPz.lC (p:CPz):List Value:=[.slice p.D.A p.D.n p.D.c,.int .i64 p.D.ra,.slice none 0 0,.int .i64 0,.slice p.D.B p.D.m p.D.d,.int .i64 p.D.rb]
structure CKz (w:World) (base:Nat) (p:CPz):Prop where
 hF:p.D.op=4
 oxb:Blk w p.ox 205 [.func (.func 170) #[] #[]]
 mxb:Blk w p.mx 272 [.map (some p.mm)]
 lxb:Blk w p.lx 204 p.lC
 axb:Blk w p.ax 273 [p.clo]
 bxb:Blk w p.bx 174 [VP.ptr p.pb]
 as_:SB w p.D.A p.D.n p.D.c p.D.a
 bs:SB w p.D.B p.D.m p.D.d p.D.b
 off:∀k,k=p.ox∨k=p.mx∨k=p.lx∨k=p.ax∨k=p.bx->k<base/\k≠p.pb/\k≠p.km/\k≠p.mm
 rowA:∀ad,p.D.A=some ad->0<p.D.n->ad.block<base/\ad.block≠p.pb/\ad.block≠p.km/\ad.block≠p.mm
 rowB:∀ad,p.D.B=some ad->0<p.D.m->ad.block<base/\ad.block≠p.pb/\ad.block≠p.km/\ad.block≠p.mm
def CSz (p:CPz)(NA:Option Addr):Nat->Prop:=λk=>k=p.mm∨BS p.pb p.km NA k
theorem CSz.moved {w:World}{p:CPz}{A A':Option Addr}(h:Moved w A A'):∀k,CSz p A' k->CSz p A k∨w.heap.size<=k:=by
 rintro k (rfl | hk)
 ·exact .inl (.inl rfl)
 ·rcases BS.moved h k hk with h | h
  ·exact .inl (.inr h)
  ·exact .inr h
theorem CSz.trans {w w1 w2:World}{p:CPz}{A A1:Option Addr}(hm:Mod (CSz p A) w w1)(hv:Moved w A A1)(h:Mod (CSz p A1) w1 w2):Mod (CSz p A) w w2:=hm.trans h (CSz.moved hv)
theorem CSz.no {p:CPz}{base:Nat}{NA:Option Addr}(hr:∀i,Qi NA i->base<=i){k:Nat}(h:k<base/\k≠p.pb/\k≠p.km/\k≠p.mm):¬CSz p NA k:=λe=>by
 obtain⟨h1,h2,h3,h4⟩:=h;rcases e with e | e | e | e
 ·exact h4 e
 ·exact h2 e
 ·exact h3 e
 ·have:=hr k e;omega
theorem CKz.mod {w w':World}{base:Nat}{p:CPz}{NA:Option Addr}(h:CKz w base p)(hr:∀i,Qi NA i->base<=i)(hm:Mod (CSz p NA) w w'):CKz w' base p:=by
 have k:=λk hk=>CSz.no (p:=p) hr (h.off k hk)
 refine⟨h.hF,h.oxb.mod hm (k _ (by simp)),h.mxb.mod hm (k _ (by simp)),h.lxb.mod hm (k _ (by simp)),h.axb.mod hm (k _ (by simp)),h.bxb.mod hm (k _ (by simp)),⟨h.as_.1.modS hm ?_,h.as_.2⟩,⟨h.bs.1.modS hm ?_,h.bs.2⟩,h.off,h.rowA,h.rowB⟩
 ·rintro h0 i ⟨ad,e,rfl⟩;exact CSz.no hr (h.rowA ad e h0)
 ·rintro h0 i ⟨ad,e,rfl⟩;exact CSz.no hr (h.rowB ad e h0)
theorem CKz.ext {w w':World}{base:Nat}{p:CPz}(h:CKz w base p)(k:Ext w w'):CKz w' base p:=
 h.mod (NA:=none) (λi hi=>by obtain⟨_,e,_⟩:=hi;cases e) (Mod.of_ext _ k)
structure CStz (w:World) (base:Nat) (p:CPz) (NA:Option Addr) (nc:Nat) (st:List Br×List Tr3):Prop where
 bd:Bd w base p.pb p.km NA nc st.1
 memo:∃m,MapQ aI w p.mm m/\∀x y:Int,Xv ((x,0,y):I3) m=ik st.2 x y
 lt:p.mm<base/\p.mm≠p.pb/\p.mm≠p.km
theorem CStz.ext {w w':World}{base:Nat}{p:CPz}{NA:Option Addr}{nc:Nat}{st:List Br×List Tr3}(h:CStz w base p NA nc st)(k:Ext w w'):CStz w' base p NA nc st:=
 ⟨h.bd.ext k,let ⟨m,h1,h2⟩:=h.memo;⟨m,h1.ext k,h2⟩,h.lt⟩
def fQm (w:World)(base:Nat)(p:CPz)(NA:Option Addr)(st:List Br×List Tr3)(w':World):Prop:=∃NA' nc',CStz w' base p NA' nc' st/\Mod (CSz p NA) w w'/\Moved w NA NA'
theorem OJ (base:Nat)(p:CPz)(ha:K6 p.D.a)(hb:K6 p.D.b)(cX:p.D.n<=1000000000000/\p.D.m<=1000000000000):∀(m:Nat)(x y:Int)(st:List Br×List Tr3)(NA:Option Addr)(nc:Nat)(w:World),
  CKz w base p->CStz w base p NA nc st->0<=x->0<=y->x+y<m->x<p.D.n+2->y<p.D.m+2->(Xn p.D.a p.D.b p.D.op m x y st).2.1.length<=100000000000->
  Fn Tryz.prog 188 (aI (x,0,y)::p.caps) w (λv w'=>v= .int .i64 (Xn p.D.a p.D.b p.D.op m x y st).1/\fQm w base p NA (Xn p.D.a p.D.b p.D.op m x y st).2 w')
 | 0,x,y,st,NA,nc,w,_,_,x0,y0,hm,_,_,_=>by omega
 | m+1,x,y,st,NA,nc,w,hK,hS,x0,y0,hm,hx,hy,Xu=>by
  have ih:=OJ base p ha hb cX m;have KF:p.D.a.length=p.D.n:=hK.as_.2;have ee:p.D.b.length=p.D.m:=hK.bs.2;have kI:=hS.bd.top;have Io:∀i,Qi NA i->base<=i:=λi hi=>(hS.bd.own.rows i hi).1
  refine QF (c:={Mr with cuts:=[1]}) Qa Tryz.func188 rfl rfl rfl ?_;refine new (λw1 Qd Q2 Qh=>?_)
  replace Qh:Blk w1 w.heap.size 242 (cB (x,0,y)):=Qh;have JX:=hK.ext Qd;have KC:=hS.ext Qd;have oB:w.heap.size<w1.heap.size:=by omega
  refine ia [] Qa [] (λ_:Unit=>[]) (λ_ w'=>w1=w'/\¬(x<2/\y<2)) ?_ ?_
  ·refine index (j:=0) (by decide) ?_;refine Qp Qh rfl ?_;refine QB (λc1=>?_) (λc1=>?_)
   ·refine index (j:=1) (by decide) ?_;refine Qp Qh rfl ?_;refine X7 (show(0:Int)<2 by decide) ?_;refine index (j:=2) (by decide) ?_;refine Qp Qh rfl ?_;refine QB (λc2=>?_) (λc2=>?_)
    ·refine Qv JX.oxb rfl ?_;refine index (j:=0) (by decide) ?_;refine Qp Qh rfl ?_;refine index (j:=1) (by decide) ?_;refine Qp Qh rfl ?_;refine index (j:=2) (by decide) ?_;refine Qp Qh rfl ?_;rw[jw ⟨c1,c2⟩,Og x0 c1 y0 c2,hK.hF];refine call (fQl (decide (x=1)) (decide (y=1)) w1) ?_;rintro v _ ⟨rfl,rfl⟩;cases J5 4 (decide (x=1)) (decide (y=1))with
     | true=>
      refine Xc rfl ?_;exact⟨rfl,NA,nc,KC,Mod.of_ext _ Qd,Moved.refl _ _⟩
     | false=>
      refine Xt rfl ?_;exact⟨rfl,NA,nc,KC,Mod.of_ext _ Qd,Moved.refl _ _⟩
    ·exact⟨(),rfl,rfl,λhh=>c2 hh.2⟩
   ·exact⟨(),rfl,rfl,λhh=>c1 hh.1⟩
  rintro⟨⟩ _ ⟨rfl,Xr⟩;obtain⟨mq,cW,Ko⟩:=KC.memo;refine Qv JX.mxb rfl ?_;refine Qs Qh rfl ?_;refine Ds (kv:=aI) (a:=((x,0,y):I3)) Qa rfl rfl rfl rfl yS rfl rfl cW ?_;cases k:st.2.find? (λt=>decide (t.1=x/\t.2.1=y))with
  | some t=>
   have cY:Xv ((x,0,y):I3) mq=some (.int .i64 t.2.2):=by rw[Ko,ik,k]<;>rfl
   refine Xc (by rw[cY];rfl) ?_;rw[jx Xr k];exact⟨by rw[cY];rfl,NA,nc,KC,Mod.of_ext _ Qd,Moved.refl _ _⟩
  | none=>
  have cY:Xv ((x,0,y):I3) mq=none:=by rw[Ko,ik,k]<;>rfl
  refine Xt (by rw[cY];rfl) ?_;have Zs:min (Qk p.D.a x) (Qk p.D.b y)<64:=by
   by_cases c:x<2
   ·have:=WE hb (n:=y) (λc2=>Xr ⟨c,c2⟩) (by omega);rw[ZR];split<;>omega
   ·have:=WE ha (n:=x) c (by omega);rw[ZR];split<;>omega
  have Ip:SB w1 none 0 0 []:=SlS.nil _;have qL:∀w',Ext w1 w'->∀(j:Nat) (v:Value),p.lC[j]? =some v->w'.cell? ((⟨p.lx,0,none⟩:Addr).add j)=some v:=λw' Qb j v hj=>by rw[(JX.lxb.ext Qb).cell];exact hj
  have qN:∀w',Ext w1 w'->∀(j:Nat) (v:Value),(cB (x,0,y))[j]? =some v->w'.cell? ((⟨w.heap.size,0,none⟩:Addr).add j)=some v:=λw' Qb j v hj=>by rw[(Qh.ext Qb).cell];exact hj
  refine XJ Qa (Ext w1) 17 [(true,0),(true,1),(true,2),(true,3),(true,5),(true,6),(true,7),(true,8),(true,10),(true,11),(true,12),(true,13),(false,4),(false,9),(false,14),(true,15),(true,16)] (by kernel_rfl) (Ext.drew w1) ?_;refine JC (j:=0) (by decide) ?_;refine Xl (vs:=[.slice p.D.A p.D.n p.D.c,.int .i64 p.D.ra]) rfl (λw' Qb j v hj=>by
   rw[add_add,(JX.lxb.ext Qb).cell]
   match j,hj with
   | 0,hj=>exact hj
   | 1,hj=>exact hj) ?_
  refine index (j:=0) (by decide) ?_;refine QL (v:=.int .i64 x) (λw' Qb=>qN w' Qb 0 _ rfl) ?_;refine JC (j:=1) (by decide) ?_;refine Xl (vs:=[.slice none 0 0,.int .i64 0]) rfl (λw' Qb j v hj=>by
   rw[add_add,(JX.lxb.ext Qb).cell]
   match j,hj with
   | 0,hj=>exact hj
   | 1,hj=>exact hj) ?_
  refine index (j:=1) (by decide) ?_;refine QL (v:=.int .i64 0) (λw' Qb=>qN w' Qb 1 _ rfl) ?_;refine JC (j:=2) (by decide) ?_;refine Xl (vs:=[.slice p.D.B p.D.m p.D.d,.int .i64 p.D.rb]) rfl (λw' Qb j v hj=>by
   rw[add_add,(JX.lxb.ext Qb).cell]
   match j,hj with
   | 0,hj=>exact hj
   | 1,hj=>exact hj) ?_
  refine index (j:=2) (by decide) ?_;refine QL (v:=.int .i64 y) (λw' Qb=>qN w' Qb 2 _ rfl) ?_;refine call (cr p.D.A p.D.n p.D.c p.D.ra x p.D.a _ (JX.as_.ext (Ext.drew w1)) (by omega)) ?_;rintro u w2 ⟨rfl,Qg⟩;have Xq:=(Ext.drew w1).trans Qg;refine⟨Xq,?_⟩;refine call (cr none 0 0 0 0 [] _ (Ip.ext Xq) (by simp)) ?_;rintro u w3 ⟨rfl,Qj⟩;have XD:=Xq.trans Qj;refine⟨XD,?_⟩;refine call (cr p.D.B p.D.m p.D.d p.D.rb y p.D.b _ (JX.bs.ext XD) (by omega)) ?_;rintro u w4 ⟨rfl,Qq⟩;have Jl:=XD.trans Qq;refine⟨Jl,?_⟩;have vp:Qk [] 0=64:=rfl;rw[vp];have Iq: -9223372036854775808<=min (Qk p.D.a x) (Qk p.D.b y):=by
   have pos:∀{d:List Br},K6 d->∀{n:Int},n<d.length+2->0<=Qk d n:=λ{d} hd {n} hn=>by
    by_cases h2:n<2
    ·rw[fL h2];omega
    ·obtain⟨z,hz⟩:=YQ h2 hn;rw[cy h2 hz];exact(hd.2 _ _ hz).1
   have p1:=pos ha (n:=x) (by omega);have p2:=pos hb (n:=y) (by omega);rw[ZR];split<;>omega
  have FY:(if Qk p.D.b y<(if(64:Int)<Qk p.D.a x then 64 else Qk p.D.a x)then Qk p.D.b y else(if(64:Int)<Qk p.D.a x then 64 else Qk p.D.a x))=min (Qk p.D.a x) (Qk p.D.b y):=by
   rw[ZR] at Zs ⊢;split at Zs<;>(try split)<;>(try split)<;>(try split)<;>omega
  refine norm (m:=min (Qk p.D.a x) (Qk p.D.b y)) FY ?_;rw[jy Xr k _ rfl] at Xu ⊢;generalize wK:min (Qk p.D.a x) (Qk p.D.b y)=v at*;have QZ:=Qh.ext Jl;have Vt:=JX.ext Jl;have Wf:=KC.ext Jl;have XF:=Qd.trans Jl;have FZ:=Jl.size;refine new (λw5 Qt Kv F0=>?_);refine new (λw6 Q6 cL F3=>?_);have Xx:=Qt.trans Q6;have F4:=F0.ext Q6;have Xh:=QZ.ext Xx;have aQ:=Vt.ext Xx;have iD:=Wf.ext Xx;have XG:=XF.trans Xx;obtain⟨s1,s2,s3,s4,s5⟩:=YP ha (n:=x) x0 Zs;obtain⟨t1,t2,t3,t4,t5⟩:=YP hb (n:=y) y0 Zs;refine loop Qa [64] (λs:Nat=>[.int .i64 s]) (λs w'=>Mod (λi=>i=w4.heap.size∨i=w5.heap.size) w6 w'/\s<=3/\Blk w' w4.heap.size 242 (cB (if 0<s then(Ql p.D.a x v).1 else 0,0,if 2<s then(Ql p.D.b y v).1 else 0))/\Blk w' w5.heap.size 242 (cB (if 0<s then(Ql p.D.a x v).2 else 0,0,if 2<s then(Ql p.D.b y v).2 else 0))) (λs _=>3-s) 0 rfl ⟨Mod.refl _ _,XM _,F4,F3⟩ ?_;rintro s w7 ⟨Q8,o6,dP,bI⟩;have hbz:base<=w4.heap.size:=by have:=Qd.size;omega
  have Sr:w5.heap.size=w4.heap.size+1:=Kv;have wL:w.heap.size<w4.heap.size:=by omega
  have wM:∀k,k<w4.heap.size->¬(k=w4.heap.size∨k=w5.heap.size):=λk hk e=>by omega
  have hlx:=hK.off p.lx (by simp);have Q1:Ext w w7:=Q8.ext XG (λi hi=>by omega);have sk:Ext w1 w7:=Q8.ext (Jl.trans Xx) (λi hi=>by omega);have VO:Ext w4 w7:=Q8.ext Xx (λi hi=>by omega);have QY:=QZ.ext VO;have Wg:=Vt.ext VO;have KW:=Wf.ext VO;have YS:=Q8.size;have nLX:=wM p.lx (by omega);have nB:=wM w.heap.size wL;have h0:Ql [] 0 v=(0,0):=by unfold Ql;rw[Qe (show Qk [] 0≠v by rw[vp];omega)]
  by_cases hs:s<3
  ·rcases(show s=0∨s=1∨s=2 by omega)with rfl | rfl | rfl
   ·refine X7 (show((0:Nat):Int)<3 by decide) ?_;refine XJ Qa (Mod (λi=>i=w4.heap.size∨i=w5.heap.size) w7) 17 [(true,0),(true,1),(true,2),(true,3),(true,4),(true,5),(true,6),(true,7),(true,8),(false,9),(true,10),(true,11),(true,12),(true,13),(false,14),(true,15),(false,16)] (by kernel_rfl) (Mod.of_ext _ (Ext.drew w7)) ?_;refine JC (j:=0) (by decide) ?_;refine Xl (vs:=[.slice p.D.A p.D.n p.D.c,.int .i64 p.D.ra]) rfl (λw' Qb j v hj=>by
     rw[add_add,(Wg.lxb.mod Qb nLX).cell]
     match j,hj with
     | 0,hj=>exact hj
     | 1,hj=>exact hj) ?_
    refine index (j:=0) (by decide) ?_;refine QL (v:=.int .i64 x) (λw' Qb=>by rw[(QY.mod Qb nB).cell];rfl) ?_;refine call (ij p.D.A p.D.n p.D.c p.D.ra x v p.D.a _ (Wg.as_.ext (Ext.drew w7)) (by omega) Zs) ?_;rintro u w8 ⟨rfl,Q9⟩;have J2:=(Ext.drew w7).trans Q9;refine⟨Mod.of_ext _ J2,?_⟩;refine index (j:=0) (by decide) ?_;refine XK (dP.ext J2) (by simp) (λw9 Zc gl=>?_);have KK:Mod (λi=>i=w4.heap.size∨i=w5.heap.size) w7 w9:=(Mod.of_ext _ J2).trans Zc (λi hi=>.inl (.inl hi));refine⟨KK,?_⟩;have dN:=KK.size;refine index (j:=0) (by decide) ?_;refine XK (((bI.ext J2).mod Zc (by show¬w5.heap.size=w4.heap.size;omega))) (by simp) (λQG Zk dQ=>?_);have Wh:Mod (λi=>i=w4.heap.size∨i=w5.heap.size) w7 QG:=KK.trans Zk (λi hi=>.inl (.inr hi));refine⟨Wh,?_⟩;have dR:=gl.mod Zk (by show¬w4.heap.size=w5.heap.size;omega);refine Qm ((1:Nat):Int) (by decide) (by decide) ?_;exact⟨1,rfl,⟨Q8.trans Wh (λi hi=>.inl hi),by decide,dR,dQ⟩,by show 3-1<3-0;decide⟩
   ·refine X7 (show((1:Nat):Int)<3 by decide) ?_;refine XJ Qa (Mod (λi=>i=w4.heap.size∨i=w5.heap.size) w7) 17 [(true,0),(true,1),(true,2),(true,3),(true,4),(true,5),(true,6),(true,7),(true,8),(false,9),(true,10),(true,11),(true,12),(true,13),(false,14),(true,15),(false,16)] (by kernel_rfl) (Mod.of_ext _ (Ext.drew w7)) ?_;refine JC (j:=1) (by decide) ?_;refine Xl (vs:=[.slice none 0 0,.int .i64 0]) rfl (λw' Qb j v hj=>by
     rw[add_add,(Wg.lxb.mod Qb nLX).cell]
     match j,hj with
     | 0,hj=>exact hj
     | 1,hj=>exact hj) ?_
    refine index (j:=1) (by decide) ?_;refine QL (v:=.int .i64 0) (λw' Qb=>by rw[(QY.mod Qb nB).cell];rfl) ?_;refine call (ij none 0 0 0 0 v [] _ (SlS.nil _) (by decide) Zs) ?_;rintro u w8 ⟨rfl,Q9⟩;have J2:=(Ext.drew w7).trans Q9;refine⟨Mod.of_ext _ J2,?_⟩;refine index (j:=1) (by decide) ?_;refine XK (dP.ext J2) (by simp) (λw9 Zc gl=>?_);have KK:Mod (λi=>i=w4.heap.size∨i=w5.heap.size) w7 w9:=(Mod.of_ext _ J2).trans Zc (λi hi=>.inl (.inl hi));refine⟨KK,?_⟩;have dN:=KK.size;refine index (j:=1) (by decide) ?_;refine XK (((bI.ext J2).mod Zc (by show¬w5.heap.size=w4.heap.size;omega))) (by simp) (λQG Zk dQ=>?_);have Wh:Mod (λi=>i=w4.heap.size∨i=w5.heap.size) w7 QG:=KK.trans Zk (λi hi=>.inl (.inr hi));refine⟨Wh,?_⟩;have dR:=gl.mod Zk (by show¬w4.heap.size=w5.heap.size;omega);refine Qm ((2:Nat):Int) (by decide) (by decide) ?_;rw[h0] at dR dQ;exact⟨2,rfl,⟨Q8.trans Wh (λi hi=>.inl hi),by decide,dR,dQ⟩,by show 3-2<3-1;decide⟩
   ·refine X7 (show((2:Nat):Int)<3 by decide) ?_;refine XJ Qa (Mod (λi=>i=w4.heap.size∨i=w5.heap.size) w7) 17 [(true,0),(true,1),(true,2),(true,3),(true,4),(true,5),(true,6),(true,7),(true,8),(false,9),(true,10),(true,11),(true,12),(true,13),(false,14),(true,15),(false,16)] (by kernel_rfl) (Mod.of_ext _ (Ext.drew w7)) ?_;refine JC (j:=2) (by decide) ?_;refine Xl (vs:=[.slice p.D.B p.D.m p.D.d,.int .i64 p.D.rb]) rfl (λw' Qb j v hj=>by
     rw[add_add,(Wg.lxb.mod Qb nLX).cell]
     match j,hj with
     | 0,hj=>exact hj
     | 1,hj=>exact hj) ?_
    refine index (j:=2) (by decide) ?_;refine QL (v:=.int .i64 y) (λw' Qb=>by rw[(QY.mod Qb nB).cell];rfl) ?_;refine call (ij p.D.B p.D.m p.D.d p.D.rb y v p.D.b _ (Wg.bs.ext (Ext.drew w7)) (by omega) Zs) ?_;rintro u w8 ⟨rfl,Q9⟩;have J2:=(Ext.drew w7).trans Q9;refine⟨Mod.of_ext _ J2,?_⟩;refine index (j:=2) (by decide) ?_;refine XK (dP.ext J2) (by simp) (λw9 Zc gl=>?_);have KK:Mod (λi=>i=w4.heap.size∨i=w5.heap.size) w7 w9:=(Mod.of_ext _ J2).trans Zc (λi hi=>.inl (.inl hi));refine⟨KK,?_⟩;have dN:=KK.size;refine index (j:=2) (by decide) ?_;refine XK (((bI.ext J2).mod Zc (by show¬w5.heap.size=w4.heap.size;omega))) (by simp) (λQG Zk dQ=>?_);have Wh:Mod (λi=>i=w4.heap.size∨i=w5.heap.size) w7 QG:=KK.trans Zk (λi hi=>.inl (.inr hi));refine⟨Wh,?_⟩;have dR:=gl.mod Zk (by show¬w4.heap.size=w5.heap.size;omega);refine Qm ((3:Nat):Int) (by decide) (by decide) ?_;exact⟨3,rfl,⟨Q8.trans Wh (λi hi=>.inl hi),by decide,dR,dQ⟩,by show 3-3<3-2;decide⟩
  ·have:s=3:=by omega
   subst this;refine Xy (show¬((3:Nat):Int)<3 by decide) ?_
   replace dP:Blk w7 w4.heap.size 242 (cB ((Ql p.D.a x v).1,0,(Ql p.D.b y v).1)):=dP
   replace bI:Blk w7 w5.heap.size 242 (cB ((Ql p.D.a x v).2,0,(Ql p.D.b y v).2)):=bI;have ei:Qk p.D.a x=v∨Qk p.D.b y=v:=by rw[<-wK,ZR];split<;>simp
   have dec:(Ql p.D.a x v).1+(Ql p.D.b y v).1<x+y/\(Ql p.D.a x v).2+(Ql p.D.b y v).2<x+y:=by
    rcases ei with e | e
    ·have:=s5 e;omega
    ·have:=t5 e;omega
   have F5:=rz ha hb p.D.op m (Ql p.D.a x v).1 (Ql p.D.b y v).1 st s1 t1 (by omega) (by omega);have F6:=rz ha hb p.D.op m (Ql p.D.a x v).2 (Ql p.D.b y v).2 (Xn p.D.a p.D.b p.D.op m (Ql p.D.a x v).1 (Ql p.D.b y v).1 st).2 s3 t3 (by omega) (by omega);have mo2:=ly p.D.a p.D.b p.D.op m (Ql p.D.a x v).2 (Ql p.D.b y v).2 (Xn p.D.a p.D.b p.D.op m (Ql p.D.a x v).1 (Ql p.D.b y v).1 st).2;have c1:=ih (Ql p.D.a x v).1 (Ql p.D.b y v).1 st NA nc w7 Wg KW s1 t1 (by omega) (by omega) (by omega);have c2:=λN1 n1 w' h1 h2=>ih (Ql p.D.a x v).2 (Ql p.D.b y v).2 (Xn p.D.a p.D.b p.D.op m (Ql p.D.a x v).1 (Ql p.D.b y v).1 st).2 N1 n1 w' h1 h2 s3 t3 (by omega) (by omega) (by omega)
   generalize (Xn p.D.a p.D.b p.D.op m (Ql p.D.a x v).1 (Ql p.D.b y v).1 st)=r0 at*;generalize (Xn p.D.a p.D.b p.D.op m (Ql p.D.a x v).2 (Ql p.D.b y v).2 r0.2)=r1 at*;have ul:=ug ⟨v,r0.1,r1.1⟩ r1.2.1;have ul2:(ZN ⟨v,r0.1,r1.1⟩ r1.2.1).1.length<=r1.2.1.length+1:=by
    unfold ZN;split
    ·exact xD _
    ·split
     ·exact xD _
     ·simp
   simp only at Xu;refine Qv Wg.axb rfl ?_;refine Qs dP rfl ?_;refine call (c1 (by omega)) ?_;rintro _ QD ⟨rfl,N1,n1,o7,ZQ,vq⟩;have F7:=bI.lt;have iE:=hS.bd.own.rows;obtain⟨l1,l2,l3⟩:=hS.lt;obtain⟨b1,b2,b3⟩:=hS.bd.lt;have new:∀k,w.heap.size<=k->¬CSz p NA k:=λk hk e=>by
    rcases e with e | e | e | e
    ·omega
    ·omega
    ·omega
    ·have:=(iE k e).2;omega
   have dS:=Wg.mod Io ZQ;have F8:=bI.mod ZQ (new _ (by omega));have ZU:=QY.mod ZQ (new _ (QE _));have aN:∀i,Qi N1 i->base<=i:=λi hi=>(o7.bd.own.rows i hi).1
   have vr:∀k,w.heap.size<=k->k<w7.heap.size->¬CSz p N1 k:=λk hk h7 e=>by
    rcases CSz.moved vq k e with e | e
    ·exact new k hk e
    ·omega
   have sm:=ZQ.size;have Ir:=QY.lt;refine XJ Qa (Mod (CSz p N1) QD) 8 [(true,0),(true,1),(true,2),(true,3),(true,4),(false,5),(false,6),(true,7)] (by kernel_rfl) (Mod.of_ext _ (Ext.drew QD)) ?_;have nof:=λk hk=>CSz.no (p:=p) aN (dS.off k hk)
   refine QL (v:=VP.ptr p.pb) (λw' Qb=>by rw[(dS.bxb.mod Qb (nof _ (by simp))).cell0];rfl) ?_;refine QL (v:=p.clo) (λw' Qb=>by rw[(dS.axb.mod Qb (nof _ (by simp))).cell0];rfl) ?_;refine Xl (vs:=cB ((Ql p.D.a x v).2,0,(Ql p.D.b y v).2)) rfl (λw' Qb j v hj=>by rw[(F8.mod Qb (vr _ (by omega) F7)).cell];exact hj) ?_;refine call (c2 N1 n1 _ (dS.ext (Ext.drew QD)) (o7.ext (Ext.drew QD)) (by omega)) ?_;rintro _ Q5 ⟨rfl,N2,n2,ah,Va,r6⟩;have j8:Mod (CSz p N1) QD Q5:=(Mod.of_ext _ (Ext.drew QD)).trans Va (λi hi=>.inl hi);have vt:Moved QD N1 N2:=r6.back (Ext.drew QD).size;refine⟨j8,?_⟩;have WR:∀i,Qi N2 i->base<=i:=λi hi=>(ah.bd.own.rows i hi).1
   refine call (N8 base p.pb p.km N2 n2 r1.2.1 ⟨v,r0.1,r1.1⟩ Q5 ah.bd (by omega)) ?_;rintro _ XR ⟨rfl,N3,n3,bJ,J1,F9⟩;have Ga:Mod (CSz p N2) Q5 XR:=J1.mono (λi hi=>.inl (.inr hi));have j9:Mod (CSz p N1) QD XR:=CSz.trans j8 vt Ga;refine⟨j9,?_⟩;have iQZ:=dS.mod aN j8;have Gb:=dS.mod aN j9;have KJ:=ZU.mod j9 (vr _ (QE _) Ir);obtain⟨Gc,uX,Gd⟩:=ah.memo;have Ge:MapQ aI XR p.mm Gc:=uX.mod J1 (λe=>by
    rcases e with e | e | e
    ·exact l2 e
    ·exact l3 e
    ·have:=WR _ e;omega)
   refine Qv Gb.mxb rfl ?_;refine Qs KJ rfl ?_;refine qJ (kv:=aI) (a:=((x,0,y):I3)) Qa rfl rfl rfl rfl yS rfl rfl rfl Ge (λZa KA iQ0 Gf=>?_);have ZM:∀k,k≠p.mm->¬(k=p.mm):=λk h=>h
   obtain⟨d1,d2,d3⟩:=bJ.lt;have Gg:∀i,Qi N3 i->base<=i:=λi hi=>(bJ.own.rows i hi).1
   obtain⟨kq,Is,wN⟩:=bJ.known;have Gh:Bd Za base p.pb p.km N3 n3 (ZN ⟨v,r0.1,r1.1⟩ r1.2.1).1:=⟨bJ.blk.mod KA (λe=>l2 e.symm),bJ.own.mod KA (λi hi e=>by have:=Gg i hi;have e':i=p.mm:=e;omega),⟨kq,Is.mod KA (λe=>l3 e.symm),wN⟩,bJ.lt,Ze bJ.top KA.size⟩
   have Gi:Mod (CSz p NA) w w7:=Mod.of_ext _ Q1;have iQ1:Moved w NA NA:=Moved.refl _ _;have vu:Mod (CSz p NA) w QD:=Gi.trans ZQ (λi hi=>.inl hi);have vv:Moved w NA N1:=vq.back Q1.size;have Gj:Mod (CSz p NA) w XR:=CSz.trans vu vv j9;have mr:Mod (CSz p NA) w Za:=Gj.trans KA (λi hi=>.inl (.inl hi));have Gk:Moved w NA N3:=vv.trans (vt.trans F9 j8.size) vu.size;refine⟨rfl,N3,n3,⟨Gh,⟨_,Gf,λx' y'=>?_⟩,hS.lt⟩,mr,Gk⟩;have Xi:r1.2.2.find? (λt=>decide (t.1=x/\t.2.1=y))=none:=by
    rw[tD];intro t ht hh;simp only[Vl] at hh;rcases F6 t ht with h1 | h1
    ·rcases F5 t h1 with h2 | h2
     ·have:=tD.1 k t h2;simp only[Vl] at this;exact this hh
     ·omega
    ·omega
   rw[W7,Gd,ik,ik,List.find?_append];by_cases VV:(x',y')=(x,y)
   ·cases VV;rw[Qe rfl,Xi];simp
   ·rw[if_neg (λe=>VV (by cases e;rfl))];have: [(x,y,(ZN ⟨v,r0.1,r1.1⟩ r1.2.1).2)].find? (λt:Tr3=>decide (t.1=x'/\t.2.1=y'))=none:=by
     rw[CN]
     ·rfl
     ·simp only[Vl];exactλe=>VV (by rw[e.1,e.2])
    rw[this];simp
theorem fQn (A:Option Addr)(n c:Nat)(a:List Br)(ra:Int)(B:Option Addr)(m d:Nat)(b:List Br)(rb:Int)(w:World)(h:SB w A n c a)(h':SB w B m d b)(ha:K6 a)(hb:K6 b)(r0:0<=ra)(r1:ra<n+2)(s0:0<=rb)(s1:rb<m+2)(hn:n<=1000000000000)(hm:m<=1000000000000)
  (Xu:(jz a ra b rb 4).2.1.length<=100000000000):
  Fn Tryz.prog 128 [.agg #[.slice A n c,.int .i64 ra,.slice none 0 0,.int .i64 0,.slice B m d,.int .i64 rb],.func (.func 170) #[] #[]] w (ue w (Vo a ra b rb 4)):=by
 have KF:=h.2;have ee:=h'.2;refine QF (c:={Mp with cuts:=[]}) Qa Tryz.func128 rfl rfl rfl ?_;refine new (λw1 Qd Q2 Qh=>?_);refine new (λw2 Qg X9 Qw=>?_);refine new (λw3 Qj JV Qu=>?_);refine call (Oi w3) ?_;rintro _ w4 ⟨rfl,Qq,Kz,QZ,kc⟩;refine new (λw5 Qt Kv QH=>?_);refine XK (j:=0) QH (by decide) (λw6 KI Xh=>?_);have Xx:Ext w4 w6:=KI.ext Qt (λi hi=>by omega);refine qI Qa aI rfl ?_;intro w7 Q1 YS Gl;refine new (λw8 Q9 Vs Xp=>?_);refine XK (j:=0) Xp (by decide) (λw9 Zc JM=>?_);have Ya:Ext w7 w9:=Zc.ext Q9 (λi hi=>by omega);refine new (λQG Zw vl J9=>?_);refine XK (j:=0) J9 (by decide) (λQD ZQ ZU=>?_);have z6:=KI.size;have z9:=Zc.size;have zW:=ZQ.size;have eZ:Ext w9 QD:=ZQ.ext Zw (λi hi=>by omega);have kf:Ext w6 QD:=(Q1.trans Ya).trans eZ;have bK:Ext w4 QD:=Xx.trans kf;have KB:=Qq;have kg:Ext w3 QD:=Qq.trans bK;have YB:Ext w QD:=((Qd.trans Qg).trans Qj).trans kg
 let D:AD:=⟨A,n,c,a,ra,B,m,d,b,rb,4⟩
 let p:CPz:=⟨w1.heap.size,w7.heap.size,w.heap.size,w9.heap.size,w4.heap.size,w3.heap.size+1,w3.heap.size,w6.heap.size,D⟩
 have vw:=ZU.lt;have hK:CKz QD QD.heap.size p:=by
  refine⟨rfl,Qw.ext (Qj.trans kg),JM.ext eZ,Qh.ext ((Qg.trans Qj).trans kg),ZU,Xh.ext kf,h.ext YB,h'.ext YB,λk hk=>?_,λad e h0=>?_,λad e h0=>?_⟩
  ·simp only[p] at hk ⊢;rcases hk with rfl | rfl | rfl | rfl | rfl<;>omega
  ·have:=SB.lt h ad e h0;simp only[p];omega
  ·have:=SB.lt h' ad e h0;simp only[p];omega
 have hS:CStz QD QD.heap.size p none 0 ([],[]):=by
  refine⟨⟨QZ.ext bK,Own.nil _ _ _ _,⟨[],kc.ext bK,λ_=>rfl⟩,?_,QE _⟩,⟨[],Gl.ext (Ya.trans eZ),λ_ _=>rfl⟩,?_⟩
  ·simp only[p];omega
  ·simp only[p];omega
 have Xi:∀i,Qi none i->QD.heap.size<=i:=λi hi=>by obtain⟨_,e,_⟩:=hi;cases e
 have nof:=λk hk=>CSz.no (p:=p) Xi (hK.off k hk)
 refine XJ Qa (Mod (CSz p none) QD) 14 [(true,0),(true,1),(true,2),(true,3),(true,4),(true,5),(true,6),(true,7),(true,8),(true,9),(true,10),(true,11),(false,12),(false,13)] (by kernel_rfl) (Mod.of_ext _ (Ext.drew QD)) ?_;refine QL (v:=VP.ptr p.pb) (λw' Qb=>by rw[(hK.bxb.mod Qb (nof _ (by simp))).cell0];rfl) ?_;refine QL (v:=p.clo) (λw' Qb=>by rw[(hK.axb.mod Qb (nof _ (by simp))).cell0];rfl) ?_;refine JC (j:=0) (by decide) ?_;refine QL (v:=.int .i64 ra) (λw' Qb=>by rw[add_add,(hK.lxb.mod Qb (nof _ (by simp))).cell];rfl) ?_;refine JC (j:=1) (by decide) ?_;refine QL (v:=.int .i64 0) (λw' Qb=>by rw[add_add,(hK.lxb.mod Qb (nof _ (by simp))).cell];rfl) ?_;refine JC (j:=2) (by decide) ?_;refine QL (v:=.int .i64 rb) (λw' Qb=>by rw[add_add,(hK.lxb.mod Qb (nof _ (by simp))).cell];rfl) ?_;have inv:=uj ha hb 4 (ra.toNat+rb.toNat+1) ra rb ([],[]) ⟨λj x hx=>by simp at hx,λt ht=>by simp at ht⟩ r0 s0 (by omega) (by omega);refine call (OJ QD.heap.size p ha hb ⟨hn,hm⟩ (ra.toNat+rb.toNat+1) ra rb ([],[]) none 0 _ (hK.ext (Ext.drew QD)) (hS.ext (Ext.drew QD)) r0 s0 (by omega) r1 s1 Xu) ?_;rintro _ Q5 ⟨rfl,NA,nc,ah,Gm,r6⟩;have Va:Mod (CSz p none) QD Q5:=(Mod.of_ext _ (Ext.drew QD)).trans Gm (λi hi=>.inl hi);refine⟨Va,?_⟩;have iQ2:(Xn a b 4 (ra.toNat+rb.toNat+1) ra rb ([],[])).2.1.length<=100000000000:=Xu;have vx:SB Q5 NA _ nc _:=⟨ah.bd.own.sl,rfl⟩
 refine call (DH p.pb (.map (some p.km)) NA _ nc _ _ Q5 ah.bd.blk vx inv.1.1 (by show(Xn a b 4 (ra.toNat+rb.toNat+1) ra rb ([],[])).2.1.length<=_;omega) inv.2.1 inv.2.2 (SB.lt vx)) ?_;rintro _ XR ⟨OA,k,oc,rfl,XD,vy,gh⟩;have J1:Mod (CSz p none) QD XR:=Va.trans (Mod.of_ext (CSz p none) XD) (λi hi=>.inl hi);refine⟨J1,?_⟩;have nres:¬CSz p none w2.heap.size:=CSz.no (p:=p) Xi (by simp only[p];omega);have KJ:=(Qu.ext kg).mod J1 nres;refine Qx KJ rfl (sc rfl) (λZa dL _ JN=>?_);have KA:Mod (·=w2.heap.size) XR Za:=mQj dL rfl;refine Qs JN rfl ?_;have o8:Ext w XR:=J1.ext YB (λi hi=>by
  rcases hi with e | e | e | ⟨_,e,_⟩
  ·simp only[p] at e;omega
  ·simp only[p] at e;omega
  ·simp only[p] at e;omega
  ·cases e)
 have Ss:=Va.size;have nr:∀i,Qi OA i->¬i=w2.heap.size:=λi hi e=>by have:=gh i hi;omega
 refine⟨OA,k,oc,rfl,KA.ext o8 (λi hi=>by omega),⟨vy.1.modS KA (λ_ i hi=>nr i hi),vy.2⟩,λi hi=>by have:=gh i hi;have:=YB.size;omega⟩
end
section
section
structure RP where
 r:Nat
 q:Nat
 nq:Nat
 NA:Option Addr
 nn:Nat
 nc:Nat
 nm:List (List Nat)
 FA:Option Addr
 nf:Nat
 cf:Nat
 fs:List (List Nat×List Nat)
def fQ (x:List Nat×List Nat):List Value:=[.string (Qf x.1),.string (Qf x.2)]
theorem En (x:List Nat×List Nat):(fQ x).length=2:=rfl
structure FileOk (x:List Nat×List Nat):Prop where
 n8:∀b∈x.1,b<256
 t8:∀b∈x.2,b<256
 nl:x.1.length<=9223372036854775807
 tl:x.2.length<=1048576
 ok:bu x.2
structure RPok (w0:World) (p:RP):Prop where
 nms:Sl w0 1 p.NA p.nn p.nc (X4 p.nm)
 nmb:Ke p.nm
 nmk:p.nm.length<=12
 fls:SlS fQ 2 w0 p.FA p.nf p.cf p.fs
 flb:∀x∈p.fs,FileOk x
 nqm:MapAt VE w0 p.nq (Yg (p.fs.map (·.1)) 0 [])
structure RM where
 OA:Option Addr
 oc:Nat
 BA:Option Addr
 bc:Nat
 L:List DV
 pa:Value
 T:Nat->Prop
structure RV where
 d:Nat
 fl:Nat
 ln:Nat
 rd:List Nat
 g:Gs
def lH (x:Sg×DV):List Value:=[.int .i64 x.1.f,.int .i64 x.1.t,.int .i64 x.1.fl,.int .i64 x.1.at_,.slice x.2.A x.2.n x.2.c,.int .i64 x.2.r]
theorem fQo (x:Sg×DV):(lH x).length=6:=rfl
def bz (l:List Sg)(L:List DV):List Value:=(l.zip L).flatMap lH
abbrev jL (p:RP)(m:RM)(v:RV):List Value:=[.slice p.NA p.nn p.nc,.slice p.FA p.nf p.cf,.map (some p.nq),.map (some p.q),.int .i64 v.d,m.pa,.slice m.BA v.g.tx.length m.bc,.slice m.OA v.g.sg.length m.oc,.bool v.g.fr,.int .i64 v.fl,.int .i64 v.ln]
def RS (p:RP)(m:RM):Nat->Prop:=λk=>k=p.r∨k=p.q∨Qi m.OA k∨Qi m.BA k
def TS (p:RP)(m:RM):Nat->Prop:=λk=>RS p m k∨m.T k
structure Rr (w0 w:World) (base:Nat) (p:RP) (m:RM) (v:RV):Prop where
 e0:Ext w0 w
 lor:w0.heap.size<=p.r
 loq:w0.heap.size<=p.q
 rb:p.r<base
 qb:p.q<base
 ne:p.r≠p.q
 top:base<=w.heap.size
 pa:m.pa= .pointer none∨m.pa= .pointer (some (JH p.r 5))
 blk:Blk w p.r 157 (jL p m v)
 txt:Own w base 5 1 m.BA v.g.tx.length m.bc (Ji v.g.tx)
 out:Own w base 48 6 m.OA v.g.sg.length m.oc (bz v.g.sg m.L)
 len:m.L.length=v.g.sg.length
 dgs:∀(j:Nat) (s:Sg) (x:DV),v.g.sg[j]? =some s->m.L[j]? =some x->DgO w (TS p m) p.nm.length x s.o
 rdm:∃mp,MapAt W9 w p.q mp/\(mp.map (·.1)).Nodup/\∀n:Nat,Xv (n:Int) mp=if n∈v.rd then some (.bool true)else none
 tl:v.g.tx.length<=1048576
 sl:v.g.sg.length<=65536
 b8:∀x∈v.g.tx,x<256
 nf:v.g.fr=false->v.g.sg≠ []∨v.rd=[]
 tt:∀i,m.T i->i<w.heap.size
section
variable {w0 w w':World} {base:Nat} {p:RP} {m:RM} {v:RV}
theorem Rr.lo (h:Rr w0 w base p m v):∀i,RS p m i->w0.heap.size<=i:=λi hi=>by
 have:=h.lor;have:=h.loq;have:=h.rb;rcases hi with rfl | rfl | hi | hi
 ·assumption
 ·assumption
 ·have:=(h.out.rows i hi).1;omega
 ·have:=(h.txt.rows i hi).1;omega
theorem Rr.hi (h:Rr w0 w base p m v):∀i,RS p m i->i<w.heap.size:=λi hi=>by
 have:=h.rb;have:=h.qb;have:=h.top;rcases hi with rfl | rfl | hi | hi
 ·omega
 ·omega
 ·exact(h.out.rows i hi).2
 ·exact(h.txt.rows i hi).2
theorem Rr.ext (h:Rr w0 w base p m v)(k:Ext w w'):Rr w0 w' base p m v:=
 ⟨h.e0.trans k,h.lor,h.loq,h.rb,h.qb,h.ne,Ze h.top k.size,h.pa,h.blk.ext k,h.txt.ext k,h.out.ext k,h.len,λj s x h1 h2=>(h.dgs j s x h1 h2).ext k,let ⟨mp,h1,h2⟩:=h.rdm;⟨mp,h1.ext k,h2⟩,h.tl,h.sl,h.b8,h.nf,λi hi=>Vy (h.tt i hi) k.size⟩
theorem RS.moved {m':RM}(h1:Moved w m.OA m'.OA)(h2:Moved w m.BA m'.BA):∀k,RS p m' k->RS p m k∨w.heap.size<=k:=by
 rintro k (rfl | rfl | hk | hk)
 ·exact .inl (.inl rfl)
 ·exact .inl (.inr (.inl rfl))
 ·rcases h1.rows k hk with h | h
  ·exact .inl (.inr (.inr (.inl h)))
  ·exact .inr h
 ·rcases h2.rows k hk with h | h
  ·exact .inl (.inr (.inr (.inr h)))
  ·exact .inr h
theorem TS.moved {m':RM}(hT:m'.T=m.T)(h1:Moved w m.OA m'.OA)(h2:Moved w m.BA m'.BA):∀k,TS p m' k->TS p m k∨w.heap.size<=k:=by
 rintro k (hk | hk)
 ·rcases RS.moved (p:=p) h1 h2 k hk with h | h
  ·exact .inl (.inl h)
  ·exact .inr h
 ·exact .inl (.inr (by rw[<-hT];exact hk))
theorem Rr.hiT (h:Rr w0 w base p m v):∀i,TS p m i->i<w.heap.size:=λi hi=>hi.elim (h.hi i) (h.tt i)
theorem Rr.nrow (h:Rr w0 w base p m v):¬Qi m.OA p.r/\¬Qi m.BA p.r:=by
 have:=h.rb;exact⟨λhi=>by have:=(h.out.rows _ hi).1;omega,λhi=>by have:=(h.txt.rows _ hi).1;omega⟩
theorem Rr.put (h:Rr w0 w base p m v){v':RV}(hm:Mod (·=p.r) w w')(hB:Blk w' p.r 157 (jL p m v'))(h1:v'.g.tx=v.g.tx)(h2:v'.g.sg=v.g.sg)(h3:v'.rd=v.rd)(h4:v'.g.fr=false->v'.g.sg≠ []∨v'.rd=[]):Rr w0 w' base p m v':=by
 have hE:=hm.ext h.e0 (λi hi=>by subst hi;exact h.lor);refine⟨hE,h.lor,h.loq,h.rb,h.qb,h.ne,Ze h.top hm.size,h.pa,hB,?_,?_,by rw[h2];exact h.len,λj s x hs hx=>?_,?_,by rw[h1];exact h.tl,by rw[h2];exact h.sl,by rw[h1];exact h.b8,h4,λi hi=>Vy (h.tt i hi) hm.size⟩
 ·rw[h1];exact h.txt.mod hm (λi hi e=>by subst e;exact h.nrow.2 hi)
 ·rw[h2];exact h.out.mod hm (λi hi e=>by subst e;exact h.nrow.1 hi)
 ·rw[h2] at hs;exact(h.dgs j s x hs hx).keep hm (λi hi=>.inl (.inl (.inl hi)))
 ·obtain⟨mp,k1,k2⟩:=h.rdm;rw[h3];exact⟨mp,k1.mod hm (λe=>h.ne e.symm),k2⟩
end
def Eo (w0 w:World)(base:Nat)(p:RP)(m:RM)(v:RV)(w':World):Prop:=∃m',m'.T=m.T/\Rr w0 w' base p m' v/\Mod (RS p m) w w'/\Moved w m.OA m'.OA/\Moved w m.BA m'.BA
def eN (e f l:Int):List PanicEntry:=[{v:=.iface 160 (.agg #[.int .i64 e,.int .i64 f,.int .i64 l]),recovered:=false}]
section
variable {w0:World} {base:Nat} {p:RP} {m:RM} {v:RV}
theorem WJ (e:Int)(w:World)(h:Rr w0 w base p m v):
  FnP Tryz.prog 148 [.pointer (some ⟨p.r,0,none⟩),.int .i64 e] w (λ_ _=>False) (λch w'=>ch=eN e v.fl v.ln/\Ext w w'):=by
 refine W6 (c:={bQ6 with cuts:=[]}) Qa Tryz.func148 rfl rfl rfl ?_;have hB:=h.blk;refine nR Qa 12 (by kernel_rfl) ?_;refine QL (v:=.int .i64 v.fl) (λw' Qb=>by subst Qb;rw[(hB.ext (Ext.drew w)).cell];rfl) ?_;refine QL (v:=.int .i64 v.ln) (λw' Qb=>by subst Qb;rw[(hB.ext (Ext.drew w)).cell];rfl) ?_;exact nZ rfl rfl ⟨rfl,Ext.drew w⟩
theorem y8 (x:DV)(w:World):Fn Tryz.prog 202 [.pointer (some ⟨p.r,0,none⟩),Xg x.A x.n x.c x.r,.int .i64 0] w (λu w'=>u=Xg x.A x.n x.c x.r/\Ext w w'):=by
 refine QF (c:={cQC with cuts:=[]}) Qa Tryz.func202 rfl rfl rfl ?_;refine new (λw1 Qd Q2 Qh=>?_);refine new (λw2 Qg X9 Qw=>?_);refine Wx rfl ?_;refine Qs (Qh.ext Qg) rfl ?_;refine Qx Qw rfl (sc rfl) (λw3 ZT _ Qu=>?_);have Qj:Ext w1 w3:=X0 Qg Qw ZT;refine Qs Qu rfl ?_;exact⟨rfl,Qd.trans Qj⟩
def OK (w:World)(k:Nat)(o:BF)(u:Value)(w':World):Prop:=∃x:DV,u=Xg x.A x.n x.c x.r/\Ext w w'/\SB w' x.A x.n x.c x.nd/\Set1 k x.nd x.r o/\∀i,Qi x.A i->w.heap.size<=i
theorem OL (s:List Nat)(w:World)(hP:RPok w0 p)(h:Rr w0 w base p m v)(h8:∀x∈s,x<256)(hl:s.length<=1000000000000):
  FnP Tryz.prog 144 [.pointer (some ⟨p.r,0,none⟩),.string (Qf s)] w (λu w'=>∃o,Yj p.nm s= .ok o/\OK w p.nm.length o u w') (λch w'=>∃e,Yj p.nm s= .error e/\ch=eN e v.fl v.ln/\Ext w w'):=by
 refine W6 (c:={bQ2 with cuts:=[]}) Qa Tryz.func144 rfl rfl rfl ?_;refine new (λw1 Qd Q2 Qh=>?_);refine Qv (h.blk.ext Qd) rfl ?_;refine call (MV p.nm p.NA p.nn p.nc s w1 ((hP.nms.ext h.e0).ext Qd) hP.nmb h8 hl) ?_;rw[eQL];have kM:Yj p.nm s=match jE p.nm s with
  | .ok t=>.ok (evF t)
  | .error e=>.error (if e=2 then 2 else 71):=rfl
 cases Wm:jE p.nm s with
 | ok t=>
  rw[Wm] at kM;obtain⟨k1,k2,k3⟩:=eQM Wm;rintro _ w2 ⟨G,mg,cG,rfl,Qg,hG⟩;have hk:=hP.nmk;refine Jp rfl ?_;refine call (eQY G mg cG _ p.nm.length hk w2 hG (NR (k2.mono (by omega)) k3) (ru t _ 0 k2)) ?_;rintro _ w3 ⟨D,md,cD,nd,r,rfl,Qj,hD,hS,hR⟩;rw[DY] at hS;refine call (y8 ⟨D,md,cD,nd,r⟩ w3) ?_;rintro _ w4 ⟨rfl,Qq⟩;have Jl:=(Qg.trans Qj).trans Qq;refine Qx (Qh.ext Jl) rfl (sc rfl) (λw5 Jk _ QH=>?_);have ZW:Mod (·=w.heap.size) w4 w5:=mQj Jk rfl;refine Qs QH rfl ?_;have X9:=Qg.size;exact⟨_,kM,⟨D,md,cD,nd,r⟩,rfl,ZW.ext (Qd.trans Jl) (λi hi=>by omega),SB.mod (hD.ext Qq) ZW (λi hi e=>by have:=hR i hi;omega),hS,λi hi=>by have:=hR i hi;omega⟩
 | error e=>
  rw[Wm] at kM;rintro _ w2 ⟨G,mg,cG,rfl,Qg,hG⟩;have Xq:=Qd.trans Qg;have h2:=h.ext Xq;rcases eQN Wm with rfl | rfl | rfl | rfl
  ·refine XP (by decide) ?_;refine XP (by decide) ?_;refine XI (WJ 71 w2 h2) (λ_ _ hf=>hf.elim) ?_;rintro ch w3 ⟨rfl,Qj⟩;exact⟨_,kM,rfl,Xq.trans Qj⟩
  ·refine XP (by decide) ?_;refine Jp rfl ?_;refine XI (WJ 2 w2 h2) (λ_ _ hf=>hf.elim) ?_;rintro ch w3 ⟨rfl,Qj⟩;exact⟨_,kM,rfl,Xq.trans Qj⟩
  ·refine XP (by decide) ?_;refine XP (by decide) ?_;refine XI (WJ 71 w2 h2) (λ_ _ hf=>hf.elim) ?_;rintro ch w3 ⟨rfl,Qj⟩;exact⟨_,kM,rfl,Xq.trans Qj⟩
  ·refine XP (by decide) ?_;refine XP (by decide) ?_;refine XI (WJ 71 w2 h2) (λ_ _ hf=>hf.elim) ?_;rintro ch w3 ⟨rfl,Qj⟩;exact⟨_,kM,rfl,Xq.trans Qj⟩
theorem OM (k:Nat)(hk:k<=12)(x y:DV)(o o':BF)(w:World)(hx:SB w x.A x.n x.c x.nd)(hxs:Set1 k x.nd x.r o)(hy:SB w y.A y.n y.c y.nd)(ff:Set1 k y.nd y.r o'):
  Fn Tryz.prog 146 [.pointer (some ⟨p.r,0,none⟩),Xg x.A x.n x.c x.r,Xg y.A y.n y.c y.r] w (λu w'=>∃a b:DV,u= .tuple #[Xg a.A a.n a.c a.r,Xg b.A b.n b.c b.r]/\Ext w w'/\SB w' a.A a.n a.c a.nd/\Set1 k a.nd a.r (Js o o')/\(∀i,Qi a.A i->w.heap.size<=i)/\SB w' b.A b.n b.c b.nd/\Set1 k b.nd b.r (V5 o o')/\∀i,Qi b.A i->w.heap.size<=i):=by
 refine QF (c:={bQ4 with cuts:=[]}) Qa Tryz.func146 rfl rfl rfl ?_;refine new (λw1 Qd Q2 Qh=>?_);refine new (λw2 Qg X9 Qw=>?_);refine new (λw3 Qj JV Qu=>?_);refine new (λw4 Qq Kz QZ=>?_);have KB:=Qj.trans Qq;have JL:=Qg.trans KB;have XF:=Qd.trans JL;refine Qs (Qh.ext JL) rfl ?_;refine Qs (Qw.ext KB) rfl ?_;have hx4:=hx.ext XF;have Gp:=hy.ext XF;refine call (uC x.A x.n x.c x.nd x.r y.A y.n y.c y.nd y.r w4 hx4 Gp) ?_;rw[fM hk hxs ff 0];have c1:Set1 k _ _ (Js o o'):=(dx hxs ff 0).congr (λe=>by simp[J5]);generalize Vo x.nd x.r y.nd y.r 0=D at*;obtain⟨D1,D2⟩:=D;rintro _ w5 ⟨PA,pn,pc,rfl,Qt,o9,an⟩;refine call (y8 ⟨PA,pn,pc,D1,D2⟩ w5) ?_;rintro _ w6 ⟨rfl,Q6⟩;have Xx:=Qt.trans Q6;refine Qx ((Qu.ext Qq).ext Xx) rfl (sc rfl) (λw7 Zr _ QY=>?_);have Q8:Mod (·=w2.heap.size) w6 w7:=mQj Zr rfl;have XG:=XF.trans Xx;have Vc:Ext w w7:=Q8.ext XG (λi hi=>by omega);have n12:¬w.heap.size=w2.heap.size:=by omega
 have Ad:¬w1.heap.size=w2.heap.size:=by omega
 have mv:=((Qh.ext JL).ext Xx).mod Q8 n12;have iQ4:=((Qw.ext KB).ext Xx).mod Q8 Ad;have iQ5:=(QZ.ext Xx).mod Q8 (by show¬w3.heap.size=w2.heap.size;omega);have ki:=SB.mod (o9.ext Q6) Q8 (λi hi e=>by have:=an i hi;omega);refine XJ Qa (Ext w7) 12 [(true,0),(true,1),(true,2),(true,3),(false,4),(true,5),(true,6),(false,7),(false,8),(true,9),(true,10),(false,11)] (by kernel_rfl) (Ext.drew w7) ?_;refine Xl (vs:=x.cells) rfl (λw' Qb j u hj=>by rw[(mv.ext Qb).cell];exact hj) ?_;refine Xl (vs:=y.cells) rfl (λw' Qb j u hj=>by rw[(iQ4.ext Qb).cell];exact hj) ?_;have hd:=Ext.drew w7;refine call (Ea y.A y.n y.c y.nd y.r _ ((hy.ext Vc).ext hd)) ?_;have c0:Set1 k [] 0 (λ_=>false):=aH k false;rw[fM hk ff c0 3];have c2:Set1 k _ _ (λe=> !o' e):=(dx ff c0 3).congr (λe=>by simp[J5]);generalize Vo y.nd y.r [] 0 3=F at*;obtain⟨F1,F2⟩:=F;rintro _ w8 ⟨QA,qn,qc,rfl,Q9,Sv,mt⟩;refine⟨hd.trans Q9,?_⟩;refine call (y8 ⟨QA,qn,qc,F1,F2⟩ w8) ?_;rintro _ w9 ⟨rfl,Xw⟩;have Ya:=(hd.trans Q9).trans Xw;refine⟨Ya,?_⟩;refine call (uC x.A x.n x.c x.nd x.r QA qn qc F1 F2 w9 ((hx.ext Vc).ext Ya) (Sv.ext Xw)) ?_;rw[fM hk hxs c2 0];have c3:Set1 k _ _ (V5 o o'):=(dx hxs c2 0).congr (λe=>by simp[J5]);generalize Vo x.nd x.r F1 F2 0=G at*;obtain⟨G1,G2⟩:=G;rintro _ QG ⟨RA,rn,rc,rfl,Zw,iQ6,vD⟩;refine⟨Ya.trans Zw,?_⟩;refine call (y8 ⟨RA,rn,rc,G1,G2⟩ QG) ?_;rintro _ QD ⟨rfl,Jx⟩;have gn:=(Ya.trans Zw).trans Jx;refine⟨gn,?_⟩;refine Qx (iQ5.ext gn) rfl (sc rfl) (λQ5 pe _ KV=>?_);have Va:Mod (·=w3.heap.size) QD Q5:=mQj pe rfl;have bL:Ext w Q5:=Va.ext (Vc.trans gn) (λi hi=>by omega);have Sw:=(QY.ext gn).mod Va (by show¬w2.heap.size=w3.heap.size;omega);have YS:=Vc.size;have dN:=Ya.size;have iQ7:=Va.size;have lQg:=gn.size;have Su:=Xx.size;have lQh:=Q8.size;have iQ8:=SB.mod (ki.ext gn) Va (λi hi e=>by have:=an i hi;omega);have FL:=SB.mod (iQ6.ext Jx) Va (λi hi e=>by have:=vD i hi;omega);have kj:=Ext.drew Q5;have Sy:¬w3.heap.size=w2.heap.size:=by omega
 refine XJ Qa (λw'=>Mod (λi=>i=w2.heap.size∨i=w3.heap.size) Q5 w'/\Blk w' w2.heap.size 32 (⟨PA,pn,pc,D1,D2⟩:DV).cells/\Blk w' w3.heap.size 32 (⟨RA,rn,rc,G1,G2⟩:DV).cells) 4 [(true,0),(true,1),(false,2),(false,3)] (by kernel_rfl) ⟨Mod.of_ext _ kj,Sw.ext kj,KV.ext kj⟩ ?_;refine Xl (vs:=(⟨PA,pn,pc,D1,D2⟩:DV).cells) rfl (λw' Qb j u hj=>by rw[Qb.2.1.cell];exact hj) ?_;refine Xl (vs:=(⟨RA,rn,rc,G1,G2⟩:DV).cells) rfl (λw' Qb j u hj=>by rw[Qb.2.2.cell];exact hj) ?_;refine Qx (Sw.ext kj) rfl (sc rfl) (λXR vE _ KJ=>?_);have J1:Mod (·=w2.heap.size) Q5.drew XR:=mQj vE rfl;have Sz:Mod (λi=>i=w2.heap.size∨i=w3.heap.size) Q5 XR:=(Mod.of_ext _ kj).trans J1 (λi hi=>.inl (.inl hi));have SC:=(KV.ext kj).mod J1 Sy;refine⟨⟨Sz,KJ,SC⟩,?_⟩;refine Qx SC rfl (sc rfl) (λZa dL _ JN=>?_);have KA:Mod (·=w3.heap.size) XR Za:=mQj dL rfl;have SD:=KJ.mod KA (λe=>Sy e.symm);have mr:=Sz.trans KA (λi hi=>.inl (.inr hi));refine⟨⟨mr,SD,JN⟩,?_⟩;refine Qs SD rfl ?_;refine Qs JN rfl ?_;have Ae:Ext w Za:=mr.ext bL (λi hi=>by rcases hi with rfl | rfl<;>omega);exact⟨⟨PA,pn,pc,D1,D2⟩,⟨RA,rn,rc,G1,G2⟩,rfl,Ae,SB.mod iQ8 mr (λi hi e=>by have:=an i hi;omega),c1,λi hi=>by have:=an i hi;have:=XF.size;omega,
  SB.mod FL mr (λi hi e=>by have:=vD i hi;omega),c3,λi hi=>by have:=vD i hi;omega⟩
theorem ON (w:World)(h:Rr w0 w base p m v)(hd:v.d<=64):
  FnP Tryz.prog 145 [.pointer (some ⟨p.r,0,none⟩)] w (λ_ w'=>v.d≠64/\Rr w0 w' base p m {v with d:=v.d+1}/\Mod (·=p.r) w w') (λch w'=>v.d=64/\ch=eN 2 v.fl v.ln/\Ext w w'):=by
 refine W6 (c:={bQ3 with cuts:=[]}) Qa Tryz.func145 rfl rfl rfl ?_;refine Qp h.blk rfl ?_;refine Zn (λh1=>?_) (λh1=>?_)
 ·refine XI (WJ 2 w h) (λ_ _ hf=>hf.elim) ?_;rintro ch w1 ⟨rfl,Qd⟩;exact⟨by omega,rfl,Qd⟩
 ·refine Qp h.blk rfl ?_;refine Qm ((v.d+1:Nat):Int) (by show((v.d:Nat):Int)+1=_;omega) (by omega) ?_;refine XK h.blk (show 4<11 by decide) (λw1 dH Qh=>?_);exact⟨λe=>h1 (by omega),h.put dH Qh rfl rfl rfl h.nf,dH⟩
theorem fQp (ix:List Nat->Option Nat)(rd s:List Nat):cA ix rd s=if s.length<2∨s.head? ≠some 34∨s.getLast? ≠some 34∨s.count 34≠2 then .error 71 else match ix ((s.drop 1).take (s.length-2))with
  | none=>.error 73
  | some n=>if n∈rd then .error 73 else .ok n:=rfl
theorem y9 {ix:List Nat->Option Nat}{rd s:List Nat}(h:s.length<2∨s.head? ≠some 34∨s.getLast? ≠some 34∨s.count 34≠2):cA ix rd s= .error 71:=Qe h
theorem fQq {p:RP}(hP:RPok w0 p):Ke (p.fs.map (·.1)):=λs hs=>by
 obtain⟨x,hx,rfl⟩:=ZY.1 hs;exact⟨(hP.flb x hx).n8,(hP.flb x hx).nl⟩
theorem fQr {α:Type} [DecidableEq α]{kv:α->Value}{c:Cx}{o:Oper}{S:Env}{t ke e:Nat}{r rk re:TyRow}{x y:Operand}{q:Nat}{mm:List (α×Value)}{a:α}{C:World->Prop}{K:Env->Prop}(hg:c.g.Ok)(ho:o.op= .lookup t x y true)(hr:QR c.g.tys t=some r)(hd:r.d= .map ke e)(ap:QR c.g.tys ke=some rk)(X2:QR c.g.tys e=some re)(hk:KeyV rk.d kv)
  (hx:S.ev x=some (.map (some q))) (hy:S.ev y=some (kv a)) (hm:∀w,C w->MapAt kv w q mm) {v':Value} {b:Bool} (hv:(Xv a mm).getD re.z=v') (hb:(Xv a mm).isSome=b) (k:Xf c S o.dst (.v (.tuple #[v',.bool b])) K):bi c o S C K:=by
 subst hv hb;refine bQn (v:=.tuple #[(Xv a mm).getD re.z,.bool (Xv a mm).isSome]) (λb w hf hw=>?_) k;have e1:=hf.ev hx;have e2:=hf.ev hy;have:=Dk (w:=w) (a:=a) hg hr hd ap X2 hk (hm w hw) true;simp only[execOp,ho,e1,e2];simp only[Sem.run_bind,this,Result.andThen_ok];cases Xv a mm<;>simp
theorem fQs (s:List Nat)(w:World)(hP:RPok w0 p)(h:Rr w0 w base p m v)(h8:∀x∈s,x<256)(hl:s.length<=1000000000000):
  FnP Tryz.prog 147 [.pointer (some ⟨p.r,0,none⟩),.string (Qf s)] w (λu w'=>∃n:Nat,cA (Ja (p.fs.map (·.1))) v.rd s= .ok n/\u= .int .i64 n/\Ext w w') (λch w'=>∃e,cA (Ja (p.fs.map (·.1))) v.rd s= .error e/\ch=eN e v.fl v.ln/\Ext w w'):=by
 refine W6 (c:={bQ5 with cuts:=[]}) Qa Tryz.func147 rfl rfl rfl ?_;have XW:=XU s;have aW:=Wy h8;refine QB (λh1=>?_) (λh1=>?_)
 ·have hs:s.length<2:=by rw[XW] at h1;omega
  refine XI (WJ 71 w h) (λ_ _ hf=>hf.elim) ?_;rintro ch w1 ⟨rfl,Qd⟩;exact⟨_,y9 (.inl hs),rfl,Qd⟩
 have hs:¬s.length<2:=by rw[XW] at h1;omega
 refine dt (j:=0) (by omega) (λx hx mV=>?_);rw[aW] at hx;have aQh:s.head? =some x:=by rw[List.head?_eq_getElem?];exact hx
 refine aB (λh2=>?_) (λh2=>?_)
 ·refine XI (WJ 71 w h) (λ_ _ hf=>hf.elim) ?_;rintro ch w1 ⟨rfl,Qd⟩;exact⟨_,y9 (.inr (.inl (by rw[aQh];intro e;cases e;exact h2 rfl))),rfl,Qd⟩
 have iQ9:x=34:=by omega
 refine Qm ((s.length-1:Nat):Int) (by rw[XW];omega) (by omega) ?_;refine dt (j:=s.length-1) (by omega) (λy hy hyl=>?_);rw[aW] at hy;have nh:s.getLast? =some y:=by rw[qp];exact hy
 refine aB (λh3=>?_) (λh3=>?_)
 ·refine XI (WJ 71 w h) (λ_ _ hf=>hf.elim) ?_;rintro ch w1 ⟨rfl,Qd⟩;exact⟨_,y9 (.inr (.inr (.inl (by rw[nh];intro e;cases e;exact h3 rfl)))),rfl,Qd⟩
 have jQa:y=34:=by omega
 refine call (Oy s 34 w h8 (by decide)) ?_;rintro _ _ ⟨rfl,rfl⟩;refine aB (λh4=>?_) (λh4=>?_)
 ·refine XI (WJ 71 w h) (λ_ _ hf=>hf.elim) ?_;rintro ch w1 ⟨rfl,Qd⟩;exact⟨_,y9 (.inr (.inr (.inr (by omega)))),rfl,Qd⟩
 have Ic:¬(s.length<2∨s.head? ≠some 34∨s.getLast? ≠some 34∨s.count 34≠2):=by
  rintro(h | h | h | h)
  ·exact hs h
  ·rw[aQh,iQ9] at h;exact h rfl
  ·rw[nh,jQa] at h;exact h rfl
  ·omega
 have gL:cA (Ja (p.fs.map (·.1))) v.rd s=match Ja (p.fs.map (·.1)) ((s.drop 1).take (s.length-2))with
  | none=>.error 73
  | some n=>if n∈v.rd then .error 73 else .ok n:=if_neg Ic
 have hn8:∀b∈(s.drop 1).take (s.length-2),b<256:=λb hb=>h8 b (ay (eu hb))
 have Wo:=DC (fQq hP) _ hn8;have hB:=h.blk;refine XJ Qa (Ext w) 15 [(true,0),(true,1),(true,2),(true,3),(true,4),(true,5),(true,6),(true,7),(true,8),(true,9),(true,10),(true,11),(true,12),(true,13),(true,14)] (by kernel_rfl) (Ext.drew w) ?_;refine QL (v:=.map (some p.nq)) (λw' Qb=>by rw[(hB.ext Qb).cell];rfl) ?_;refine Qm ((s.length-1:Nat):Int) (by rw[XW];omega) (by omega) ?_;refine Kf (v':=.string (Qf ((s.drop 1).take (s.length-2)))) ⟨by omega,by omega,by rw[XW];omega⟩ ?_ ?_
 ·rw[Vn];simp only[fy,Int.toNat_one];rw[gS];congr 3
 generalize wy:(s.drop 1).take (s.length-2)=nm at*;refine fQr (kv:=VE) (a:=Qf nm) (v':=.int .i64 ((Ja (p.fs.map (·.1)) nm).getD 0:Nat)) (b:=(Ja (p.fs.map (·.1)) nm).isSome) Qa rfl rfl rfl rfl rfl mQk rfl rfl (λw' Qb=>(hP.nqm.ext h.e0).ext Qb) (by rw[Wo];cases Ja (p.fs.map (·.1)) nm<;>rfl) (by rw[Wo];cases Ja (p.fs.map (·.1)) nm<;>rfl) ?_;have Qd:=Ext.drew w;have rU:=h.ext Qd;obtain⟨mp,k1,k2,k3⟩:=rU.rdm;cases JY:Ja (p.fs.map (·.1)) nm with
 | none=>
  rw[JY] at gL;refine Xc rfl ?_;refine XI (WJ 73 _ rU) (λ_ _ hf=>hf.elim) ?_;rintro ch w1 ⟨rfl,Qg⟩;exact⟨_,gL,rfl,Qd.trans Qg⟩
 | some n=>
  rw[JY] at gL;simp only at gL;refine Xt rfl ?_;refine Qp rU.blk rfl ?_;refine DG (kv:=W9) (a:=(n:Int)) (v:=.bool (decide (n∈v.rd))) Qa rfl rfl rfl rfl rfl (KeyV.int .i64) rfl rfl k1 (by rw[k3 n];by_cases hm:n∈v.rd<;>simp[hm]) ?_;by_cases hm:n∈v.rd
  ·rw[Qe hm] at gL;refine X7 hm ?_;refine XI (WJ 73 _ rU) (λ_ _ hf=>hf.elim) ?_;rintro ch w1 ⟨rfl,Qg⟩;exact⟨_,gL,rfl,Qd.trans Qg⟩
  ·rw[if_neg hm] at gL;refine Xy hm ?_;exact⟨n,gL,rfl,Qd⟩
end
end
section
theorem fQt {α:Type}{f:α->List Value}(hf:∀x,∀u∈f x,Jo u=true)(l:List α):∀u∈l.flatMap f,Jo u=true:=λu hu=>by
 obtain⟨x,_,hx⟩:=fz.1 hu;exact hf x u hx
theorem fQu (x:Br):∀u∈x.cells,Jo u=true:=sc rfl
theorem fQv (k:Nat)(hk:k<=12)(x:DV)(o:BF)(w:World)(hx:SB w x.A x.n x.c x.nd)(hs:Set1 k x.nd x.r o):
  Fn Tryz.prog 206 [Xg x.A x.n x.c x.r] w (OK w k o):=by
 have Xb:=hx.2;have hl:=hs.len hk;refine QF (c:={cQF with cuts:=[]}) Qa Tryz.func206 rfl rfl rfl ?_;refine new (λw1 Qd Q2 Qh=>?_);refine new (λw2 Qg X9 Qw=>?_);have Q4:=Qd.trans Qg;have KV:=Qh.ext Qg;refine XJ Qa (Ext w2) 6 [(true,0),(true,1),(true,3),(true,4),(false,2),(true,5)] (by kernel_rfl) (Ext.drew w2) ?_;refine QL (v:=.slice x.A x.n x.c) (λw' Qb=>by rw[(KV.ext Qb).cell];rfl) ?_;refine QL (v:=.int .i64 x.r) (λw' Qb=>by rw[(KV.ext Qb).cell];rfl) ?_;have hd:=Ext.drew w2;have hz:=hd.size;refine JE (base:=w2.drew.heap.size) Qa rfl rfl rfl rfl rfl (by decide) rfl rfl ⟨_,rfl⟩ rfl rfl (Own.nil _ _ _ _) ((hx.ext Q4).ext hd).1 (fQt fQu _) (by unfold maxLen;omega) (by show(0+x.n)*24<=_;omega) (QE _) ?_;intro A' c' w3 Xo lY zN;have Yb:Ext w2 w3:=Xo.ext hd (λi hi=>by obtain⟨_,e,_⟩:=hi;cases e);refine⟨Yb,?_⟩;refine Qx (Qw.ext Yb) rfl (sc rfl) (λw4 bH _ QZ=>?_);have Kt:Mod (·=w1.heap.size) w3 w4:=mQj bH rfl;refine Qs QZ rfl ?_;have mW:∀i,Qi A' i->w2.heap.size<=i:=λi hi=>by have:=(lY.rows i hi).1;omega
 refine⟨⟨A',0+x.n,c',x.nd,x.r⟩,rfl,Kt.ext (Q4.trans Yb) (λi hi=>by omega),?_,hs,λi hi=>by have:=mW i hi;have:=Q4.size;omega⟩;refine SB.mod ⟨?_,by show x.nd.length=0+x.n;omega⟩ Kt (λi hi e=>by have:=mW i hi;omega);simpa using lY.sl
theorem Ep {l:List Sg}{L:List DV}(h:L.length=l.length)(s:Sg)(x:DV):bz (l++ [s]) (L++ [x])=bz l L++lH (s,x):=by
 unfold bz;rw[List.zip_append h.symm];simp
theorem OO {l:List Sg}{L:List DV}(h:L.length=l.length):(bz l L).length=l.length*6:=by
 unfold bz;rw[co fQo];simp[h]
theorem fQw (x:Sg×DV):∀u∈lH x,Jo u=true:=sc rfl
theorem OP {w:World}{base e sz n c j:Nat}{a:Addr}{xs:List Value}{v:Value}{K:World->Prop}(h:Own w base e sz (some a) n c xs)(hn:0<n)(hj:j<n*sz)
  (k:∀w1,Mod (Qi (some a)) w w1->Own w1 base e sz (some a) n c (xs.set j v)->K w1):fD w (a.add j) v K:=by
 have _:=hn;have hr:=h.row;have Xb:=hr.1;rcases hr.2 with⟨hv,_⟩ | ⟨g,cap,ZB,hv,hb,hg,kH,bP,X6,pM⟩
 ·cases hv
 ·cases hv;have hB:Blk w g e ZB.toList:=by unfold Blk;rw[hg]
  have hjc:j<ZB.toList.length:=by
   have:ZB.size=c*sz:=X6;have h2:n*sz<=c*sz:=Wq _ kH;simp only[Array.length_toList];omega
  refine XK hB hjc (λw1 hm Qh=>k w1 (hm.mono (λi hi=>.inl ⟨_,rfl,hi.symm⟩)) ⟨⟨by rw[bZ];exact Xb,.inr ⟨g,c,(ZB.toList.set j v).toArray,rfl,hb,Qh,kH,bP,by simpa using X6,?_⟩⟩⟩);have ht:ZB.toList.take (n*sz)=xs:=pM;show((ZB.toList.set j v).toArray.toList).take (n*sz)=xs.set j v;rw[<-ht];simp only[List.take_set]
theorem fQx {l:List Sg}{L:List DV}(h:L.length=l.length)(s:Sg)(x:DV)(t:Nat):(bz (l++ [s]) (L++ [x])).set (l.length*6+1) (.int .i64 t)=bz (l++ [{s with t:=t}]) (L++ [x]):=by
 rw[Ep h,Ep h,List.set_append_right _ _ (by rw[OO h];omega),OO h];congr 1;rw[show l.length*6+1-l.length*6=1 by omega]<;>rfl
theorem fQy {a b:List Nat}(ha:∀x∈a,x<256)(hb:∀x∈b,x<256):∀x∈a++b,x<256:=λx hx=>by
 rcases XB.1 hx with h | h
 ·exact ha x h
 ·exact hb x h
section
variable {w0:World} {base:Nat} {p:RP}
theorem OQ {s:List Nat}{fl at_:Nat}{k:BF}{g:Gs}(h:1048576<g.tx.length+s.length∨(g.fr=true/\g.sg.length=65536)):VH s fl at_ k g=none:=Qe h
theorem fQz {s:List Nat}{fl at_:Nat}{k:BF}{g:Gs}(h:¬(1048576<g.tx.length+s.length∨(g.fr=true/\g.sg.length=65536))):VH s fl at_ k g=some ⟨g.tx++s,lF (g.tx.length+s.length) (if g.fr then g.sg++ [⟨g.tx.length,0,fl,at_,k⟩] else g.sg),false⟩:=if_neg h
theorem fQA:uD 157 11 5:=by unfold uD;kernel_rfl
theorem Rr.app {m:RM}{v v':RV}{w w1 w2:World}(h:Rr w0 w base p m v)(s:Sg)(x:DV){A':Option Addr}{c':Nat}(Zj:Mod (Qi m.OA) w w1)(ho:Own w1 base 48 6 A' (v.g.sg.length+1) c' (bz v.g.sg m.L++lH (s,x)))(hv:Moved w m.OA A')(XL:Mod (·=p.r) w1 w2)
  (hx:DgO w (TS p m) p.nm.length x s.o) (hl:v.g.sg.length<65536) (e1:v'.g.tx=v.g.tx) (e2:v'.g.sg=v.g.sg++ [s]) (e3:v'.rd=v.rd) (hB:Blk w2 p.r 157 (jL p {m with OA:=A',oc:=c',L:=m.L++ [x]} v')):Rr w0 w2 base p {m with OA:=A',oc:=c',L:=m.L++ [x]} v':=by
 have QT:=TS.moved (p:=p) (m:=m) (m':={m with OA:=A',oc:=c',L:=m.L++ [x]}) rfl hv (Moved.refl w m.BA);have ZM:Mod (RS p m) w w2:=(Zj.mono (S':=RS p m) (λi hi=>.inl (.inr (.inr (.inl hi))))).trans XL (λi hi=>.inl (.inl hi));have Cd:∀i,Qi A' i->¬i=p.r:=λi hi e=>by subst e;have:=(ho.rows _ hi).1;have:=h.rb;omega
 have XW:=h.top;have Q2:=Zj.size;have X9:=XL.size;refine⟨ZM.ext h.e0 h.lo,h.lor,h.loq,h.rb,h.qb,h.ne,by omega,h.pa,hB,?_,?_,?_,?_,?_,by rw[e1];exact h.tl,?_,by rw[e1];exact h.b8,λ_=>.inl (by rw[e2];simp),λi hi=>Vy (h.tt i hi) (by omega)⟩
 ·rw[e1];exact(h.txt.mod Zj (λi hi hj=>h.txt.apart h.out (by decide) hi hj)).mod XL (λi hi e=>by subst e;exact h.nrow.2 hi)
 ·rw[e2];have:=ho.mod XL Cd;rw[Ep h.len,Qy];exact this
 ·rw[e2];show(m.L++ [x]).length=_;rw[Qy,Qy,h.len]<;>rfl
 ·rw[e2];intro j s1 x1 aR dJ;have dJ:(m.L++ [x])[j]? =some x1:=dJ;rcases oy aR with⟨hj,aR⟩ | ⟨hj,aR⟩
  ·rw[bY (by rw[h.len];exact hj)] at dJ;exact(h.dgs j s1 x1 aR dJ).step (ZM.mono (λi hi=>.inl (.inl hi))) QT
  ·rw[Ws (by rw[h.len];exact hj),h.len] at dJ;obtain⟨h0,rfl⟩:=jD aR;obtain⟨_,rfl⟩:=jD dJ;exact hx.step (ZM.mono (λi hi=>.inl (.inl hi))) QT
 ·obtain⟨mp,k1,k2⟩:=h.rdm;rw[e3];exact⟨mp,(k1.mod Zj (k1.apart h.out)).mod XL (λe=>h.ne e.symm),k2⟩
 ·rw[e2,Qy];simp;omega
theorem fQB {l:List Sg}{L:List DV}(h:L.length=l.length)(hn:l≠ []):∃l' s L' x,l=l'++ [s]/\L=L'++ [x]/\L'.length=l'.length:=by
 rcases tF l with rfl | ⟨l',s,rfl⟩
 ·exact Xm rfl hn
 rcases tF L with rfl | ⟨L',x,rfl⟩
 ·simp at h
 ·exact⟨l',s,L',x,by simp,by simp,by simpa using h⟩
theorem add_fn (m:RM)(v:RV)(s:List Nat)(at_:Nat)(k:DV)(o:BF)(w:World)(hP:RPok w0 p)(h:Rr w0 w base p m v)(hk:DgO w (RS p m) p.nm.length k o)(h8:∀x∈s,x<256)(BZ:s.length<=1048577)(kQB:v.rd≠ []):
  FnP Tryz.prog 150 [.pointer (some ⟨p.r,0,none⟩),.string (Qf s),.int .i64 at_,Xg k.A k.n k.c k.r] w (λ_ w'=>∃g',VH s v.fl at_ o v.g=some g'/\Eo w0 w base p m {v with g:=g'} w') (λch w'=>VH s v.fl at_ o v.g=none/\ch=eN 2 v.fl v.ln/\Ext w w'):=by
 have pT:=XU s;have Yr:=h.tl;have lQ4:=h.sl;refine W6 (c:={bQ8 with cuts:=[2,4]}) Qa Tryz.func150 rfl rfl rfl ?_;refine new (λw1 Qd Q2 Qh=>?_);have h1:=h.ext Qd;refine call (eQ1 p.r 157 5 (jL p m v) m.BA m.bc v.g.tx.length w1 h1.blk rfl) ?_;rintro _ _ ⟨rfl,rfl⟩;refine Md [] Qa (λw2=>w1=w2/\¬(1048576<v.g.tx.length+s.length∨(v.g.fr=true/\v.g.sg.length=65536))) ?_ ?_
 ·refine Qm ((v.g.tx.length+s.length:Nat):Int) (by rw[pT];omega) (by omega) ?_;refine QB (λc1=>?_) (λc1=>?_)
  ·refine XI (WJ 2 w1 h1) (λ_ _ hf=>hf.elim) ?_;rintro ch w2 ⟨rfl,Qg⟩;exact⟨OQ (.inl (by omega)),rfl,Qd.trans Qg⟩
  refine Qp h1.blk rfl ?_;refine Y3 (λf1=>?_) (λf1=>?_)
  ·refine Qp h1.blk rfl ?_;refine Zn (λc2=>?_) (λc2=>?_)
   ·refine XI (WJ 2 w1 h1) (λ_ _ hf=>hf.elim) ?_;rintro ch w2 ⟨rfl,Qg⟩;exact⟨OQ (.inr ⟨f1,by omega⟩),rfl,Qd.trans Qg⟩
   ·exact⟨rfl,rfl,by omega⟩
  ·exact⟨rfl,rfl,by rw[f1];intro hh;rcases hh with hh | ⟨hh,_⟩;omega;cases hh⟩
 rintro _ ⟨rfl,pO⟩;have kQC:=fQz (s:=s) (fl:=v.fl) (at_:=at_) (k:=o) (g:=v.g) pO;refine Md [] Qa (Eo w0 w1 base p m {v with g:=⟨v.g.tx,if v.g.fr then v.g.sg++ [⟨v.g.tx.length,0,v.fl,at_,o⟩] else v.g.sg,false⟩}) ?_ ?_
 ·refine Qp h1.blk rfl ?_;refine Y3 (λf1=>?_) (λf1=>?_)
  ·have f1:v.g.fr=true:=f1;have Ck:v.g.sg.length<65536:=by
    rcases Nat.lt_or_ge v.g.sg.length 65536 with hh | hh
    ·exact hh
    ·exact Xm (Or.inr ⟨f1,by omega⟩) pO
   have kN:=h.hi;have kK:¬RS p m w.heap.size:=λhh=>by have:=kN _ hh;omega
   have nrow:=h.nrow;refine XJ Qa (Mod (Qi m.OA) w1) 18 [(true,0),(true,1),(true,2),(true,3),(true,4),(true,5),(true,6),(true,7),(true,8),(true,9),(true,10),(true,11),(false,12),(true,13),(false,14),(false,15),(true,16),(true,17)] (by kernel_rfl) (Mod.of_ext _ (Ext.drew w1)) ?_;refine QL (v:=.slice m.OA v.g.sg.length m.oc) (λw' Qb=>by rw[(h1.blk.mod Qb nrow.1).cell];rfl) ?_;refine QL (v:=.int .i64 v.fl) (λw' Qb=>by rw[(h1.blk.mod Qb nrow.1).cell];rfl) ?_;refine Xl (vs:=k.cells) rfl (λw' Qb j u hj=>by rw[(Qh.mod Qb (λhh=>kK (.inr (.inr (.inl hh))))).cell];exact hj) ?_;have hd:=Ext.drew w1;have Af:=hk.ext Qd;refine call (fQv p.nm.length hP.nmk k o w1.drew (Af.sb.ext hd) Af.st) ?_;rintro _ w2 ⟨x,rfl,Qg,FC,hxs,Ce⟩;have Xq:=hd.trans Qg;refine⟨Mod.of_ext _ Xq,?_⟩;refine XE Qa [lH (⟨v.g.tx.length,0,v.fl,at_,o⟩,x)] rfl rfl rfl rfl rfl ⟨rfl,rfl,⟨⟩⟩ rfl (λcs hh=>by simp only[QJ] at hh;subst hh;rfl) rfl (by decide) (by decide) ?_;intro w3 Qj JV Qu;have XD:=Xq.trans Qj;refine⟨Mod.of_ext _ XD,?_⟩;have h3:=h1.ext XD;have o6:Sl w3 6 (some ⟨w2.heap.size,0,none⟩) 1 1 (lH (⟨v.g.tx.length,0,v.fl,at_,o⟩,x)):=Sl.own (sz:=6) (n:=1) Qu (QE _) (by decide) (by simp[lH]);refine JE Qa rfl rfl rfl rfl rfl (by decide) rfl rfl ⟨_,rfl⟩ rfl rfl h3.out o6 (fQw _) (by unfold maxLen;omega) (by show(v.g.sg.length+1)*64<=_;omega) h3.top ?_;intro A' c' w4 Zb FM SE;refine⟨(Mod.of_ext (Qi m.OA) XD).trans Zb (λi hi=>.inl hi),?_⟩;refine XK (h3.blk.mod Zb nrow.1) (show 7<11 by decide) (λw5 XO QH=>?_);refine XK QH (show 8<11 by decide) (λw6 V7 Xh=>?_);have SG:Mod (·=p.r) w4 w6:=XO.trans V7 (λi hi=>.inl hi);have jQb:=h1.hiT;have wF:DgO w3 (TS p m) p.nm.length x o:=(DgO.new (S:=TS p m) FC hxs Ce (λi hi=>by have:=jQb i hi;have:=hd.size;omega)).ext Qj;have hx3:DgO w3 (TS p m) p.nm.length x (⟨v.g.tx.length,0,v.fl,at_,o⟩:Sg).o:=wF;rw[f1,Qe rfl];refine⟨rfl,⟨{m with OA:=A',oc:=c',L:=m.L++ [x]},rfl,h3.app ⟨v.g.tx.length,0,v.fl,at_,o⟩ x Zb FM SE SG hx3 Ck rfl rfl rfl ?_,?_,SE.back XD.size,Moved.refl _ _⟩⟩
   ·have e:(v.g.sg++ [(⟨v.g.tx.length,0,v.fl,at_,o⟩:Sg)]).length=v.g.sg.length+1:=by simp
    show Blk w6 p.r 157 [.slice p.NA p.nn p.nc,.slice p.FA p.nf p.cf,.map (some p.nq),.map (some p.q),.int .i64 v.d,m.pa,.slice m.BA v.g.tx.length m.bc,.slice A' (v.g.sg++ [(⟨v.g.tx.length,0,v.fl,at_,o⟩:Sg)]).length c',.bool false,.int .i64 v.fl,.int .i64 v.ln];rw[e];exact Xh
   ·exact((Mod.of_ext (RS p m) XD).trans Zb (λi hi=>.inl (.inr (.inr (.inl hi))))).trans SG (λi hi=>.inl (.inl hi))
  ·have f1:v.g.fr=false:=f1;have e:({v with g:=⟨v.g.tx,if v.g.fr then v.g.sg++ [⟨v.g.tx.length,0,v.fl,at_,o⟩] else v.g.sg,false⟩}:RV)=v:=by
    obtain⟨d,fl,ln,rd,⟨tx,sg,fr⟩⟩:=v;simp only at f1;subst f1;rfl
   rw[e];exact⟨rfl,m,rfl,h1,Mod.refl _ _,Moved.refl _ _,Moved.refl _ _⟩
 rintro w2 ⟨m2,YT,h2,XL,JT,zM⟩;generalize lQi:(if v.g.fr then v.g.sg++ [(⟨v.g.tx.length,0,v.fl,at_,o⟩:Sg)] else v.g.sg)=YC at*;have QK:YC≠ []:=(h2.nf rfl).resolve_right kQB;have JU:=h2.sl;simp only at JU;obtain⟨l',s0,L',x0,e1,e2,e3⟩:=fQB (l:=YC) h2.len QK;have iz:0<YC.length:=xG.2 QK;obtain⟨oa,Vj,_⟩:=h2.out.sl.at_ iz;have Vj:m2.OA=some oa:=Vj;have kQD:uD 157 (jL p m2 {v with g:=⟨v.g.tx,YC,false⟩}).length 5:=by rw[show(jL p m2 {v with g:=⟨v.g.tx,YC,false⟩}).length=11 from rfl];exact fQA
 refine call (eQ0 base p.r 157 5 m2.pa (jL p m2 {v with g:=⟨v.g.tx,YC,false⟩}) m2.BA m2.bc v.g.tx (Qf s) w2 kQD (show 6<11 by decide) h2.pa h2.blk rfl rfl h2.txt h2.rb h2.top (by rw[pT];omega)) ?_;rintro _ w3 ⟨B',b',Qu,vF,Xo,WT⟩;rw[pT,Wy h8] at vF;rw[pT] at Qu;have SH:=h2.nrow;have SI:Own w3 base 48 6 m2.OA YC.length m2.oc (bz YC m2.L):=h2.out.mod Xo (λi hi hj=>by
  rcases hj with rfl | hj
  ·exact SH.1 hi
  ·exact h2.out.apart h2.txt (by decide) hi hj)
 have hd:=Ext.drew w3;have SJ:=Qu.ext hd;refine nR Qa 16 (by kernel_rfl) ?_;refine QL (v:=.slice m2.OA YC.length m2.oc) (λw' Qb=>by subst Qb;rw[SJ.cell];rfl) ?_;refine QL (v:=.slice m2.OA YC.length m2.oc) (λw' Qb=>by subst Qb;rw[SJ.cell];rfl) ?_;refine Qm ((YC.length-1:Nat):Int) (by omega) (by omega) ?_;refine Qm ((v.g.tx.length+s.length:Nat):Int) (by rw[pT];omega) (by omega) ?_;rw[Vj];refine JC (j:=YC.length-1) (by omega) ?_;have SK:=SI.ext hd;rw[Vj] at SK;have ZK:YC.length=l'.length+1:=by rw[e1];simp
 show fD _ ((oa.add ((YC.length-1)*6)).add 1) _ _;rw[add_add];refine OP SK iz (by omega) (λw4 Zb Gq=>?_);have Xz:(bz YC m2.L).set ((YC.length-1)*6+1) (.int .i64 ((v.g.tx.length+s.length:Nat):Int))=bz (lF (v.g.tx.length+s.length) YC) m2.L:=by
  have e:(l'++ [s0]).length-1=l'.length:=by simp
  rw[e1,e2,jG,e,fQx e3]
 rw[Xz] at Gq;have vG:(lF (v.g.tx.length+s.length) YC).length=YC.length:=by rw[e1,jG];simp
 have vH:Mod (Qi m2.OA) w3 w4:=by rw[Vj];exact(Mod.of_ext _ hd).trans Zb (λi hi=>.inl hi)
 have kQE:∀i,Qi B' i->¬Qi m2.OA i:=λi hi hj=>SI.apart vF (by decide) hj hi
 have hall:Mod (RS p m2) w2 w4:=(Xo.mono (S':=RS p m2) (λi hi=>by
   rcases hi with rfl | hi
   ·exact .inl (.inl rfl)
   ·exact .inl (.inr (.inr (.inr hi))))).trans vH (λi hi=>.inl (.inr (.inr (.inl hi))))
 have JV:=Xo.size;have Kz:=vH.size;have lQj:=h2.top;refine⟨_,kQC,{m2 with BA:=B',bc:=b',pa:=.pointer (some (JH p.r 5))},YT,⟨hall.ext h2.e0 h2.lo,h2.lor,h2.loq,h2.rb,h2.qb,h2.ne,by omega,.inr rfl,?_,?_,?_,?_,?_,?_,?_,?_,?_,λ_=>?_,λi hi=>Vy (h2.tt i hi) (by omega)⟩,?_,?_,?_⟩
 all_goals try simp only
 ·have e:(v.g.tx++s).length=v.g.tx.length+s.length:=by simp
  show Blk w4 p.r 157 [.slice p.NA p.nn p.nc,.slice p.FA p.nf p.cf,.map (some p.nq),.map (some p.q),.int .i64 v.d,.pointer (some (JH p.r 5)),.slice B' (v.g.tx++s).length b',.slice m2.OA (lF (v.g.tx.length+s.length) YC).length m2.oc,.bool false,.int .i64 v.fl,.int .i64 v.ln];rw[e,vG];exact Qu.mod vH SH.1
 ·rw[Qy];exact vF.mod vH kQE
 ·rw[vG];rw[<-Vj] at Gq;exact Gq
 ·rw[vG];exact h2.len
 ·intro j s1 x1 aR dJ;have QT:=TS.moved (p:=p) (m:=m2) (m':={m2 with BA:=B',bc:=b',pa:=.pointer (some (JH p.r 5))}) rfl (Moved.refl w2 m2.OA) WT;have key:∃s2,YC[j]? =some s2/\s2.o=s1.o:=by
   rw[e1,jG] at aR;rw[e1];rcases oy aR with⟨hj,aR⟩ | ⟨hj,aR⟩
   ·exact⟨s1,by rw[bY hj];exact aR,rfl⟩
   ·obtain⟨h0,rfl⟩:=jD aR;exact⟨s0,by rw[Ws hj,h0];rfl,rfl⟩
  obtain⟨s2,jW,kM⟩:=key;rw[<-kM];exact(h2.dgs j s2 x1 jW dJ).step (hall.mono (λi hi=>.inl (.inl hi))) QT
 ·obtain⟨mp,k1,k2⟩:=h2.rdm;refine⟨mp,(k1.mod Xo (λhj=>?_)).mod vH (k1.apart h2.out),k2⟩;rcases hj with e | hj
  ·exact h2.ne e.symm
  ·exact k1.apart h2.txt hj
 ·rw[Qy];omega
 ·rw[vG];exact JU
 ·exact fQy h.b8 h8
 ·exact .inl (by rw[<-xG,vG];exact iz)
 ·exact(((Mod.of_ext (RS p m) Qd).trans XL (λi hi=>.inl hi)).trans hall (λi hi=>by
   rcases RS.moved (p:=p) JT zM i hi with hh | hh
   ·exact .inl hh
   ·exact .inr (by have:=Qd.size;omega)))
 ·exact JT.back Qd.size
 ·exact(zM.trans WT XL.size).back Qd.size
end
end
section
theorem Rr.modT {w0 w w':World}{base:Nat}{p:RP}{m:RM}{v:RV}{U T':Nat->Prop}(h:Rr w0 w base p m v)(hm:Mod U w w')(hU:∀i,U i->m.T i)(WZ:∀i,U i->¬RS p m i)(gM:∀i,U i->w0.heap.size<=i)(hT:∀i,T' i->m.T i∨w.heap.size<=i)(Xa:∀i,T' i->i<w'.heap.size):
  Rr w0 w' base p {m with T:=T'} v:=
 ⟨hm.ext h.e0 gM,h.lor,h.loq,h.rb,h.qb,h.ne,Ze h.top hm.size,h.pa,h.blk.mod hm (λhu=>WZ _ hu (.inl rfl)),h.txt.mod hm (λi hi hu=>WZ _ hu (.inr (.inr (.inr hi)))),h.out.mod hm (λi hi hu=>WZ _ hu (.inr (.inr (.inl hi)))),h.len,
  λj s x h1 h2=>(h.dgs j s x h1 h2).step (hm.mono (λi hi=>.inl (.inr (hU i hi)))) (λi hi=>hi.elim (λhr=>.inl (.inl hr)) (λht=>(hT i ht).elim (λh=>.inl (.inr h)) .inr)),
  let ⟨mp,h1,h2⟩:=h.rdm;⟨mp,h1.mod hm (λhu=>WZ _ hu (.inr (.inl rfl))),h2⟩,h.tl,h.sl,h.b8,h.nf,Xa⟩
theorem fQC {j m:Nat}{vs l:List Value}(h:j+vs.length<=m)(hm:m<=l.length):(KH j vs l).take m=KH j vs (l.take m):=by
 have hx:(l.take m).length=m:=by rw[Ye];omega
 rw[ic j vs l (by omega),ic j vs (l.take m) (by omega)];rw[Lm,Lm,Qy,Ye];rw[xH,Jz (l:=vs) (by omega),xH];rw[show min m j=j by omega,show min j m=j by omega,gS];congr 2;omega
theorem Eq {P:Program}{w:World}{base e sz n c j:Nat}{a:Addr}{xs vs:List Value}{K:World->Prop}(h:Own w base e sz (some a) n c xs)(hj:j+vs.length<=n*sz)(fg:∀u∈vs,Jo u=true)
  (k:∀w1,Mod (Qi (some a)) w w1->Own w1 base e sz (some a) n c (KH j vs xs)->K w1):i7 P w (a.add j) vs K:=by
 have hr:=h.row;have Xb:=hr.1;rcases hr.2 with⟨hv,_⟩ | ⟨g,cap,ZB,hv,hb,hg,kH,bP,X6,pM⟩
 ·cases hv
 ·cases hv;have hB:Blk w g e ZB.toList:=by unfold Blk;rw[hg]
  have iQ:ZB.toList.length=c*sz:=by simpa using X6
  have h2:n*sz<=c*sz:=Wq _ kH;refine jn hB (by omega) fg (λw1 hm _ Qh=>k w1 (mQj hm ⟨_,rfl,rfl⟩) ⟨⟨by rw[Mf _ _ _ (by omega)];exact Xb,.inr ⟨g,c,(KH j vs ZB.toList).toArray,rfl,hb,Qh,kH,bP,?_,?_⟩⟩⟩)
  ·have:=Mf j vs ZB.toList (by omega);simp only[List.size_toArray];omega
  ·have ht:ZB.toList.take (n*sz)=xs:=pM;show((KH j vs ZB.toList).toArray.toList).take (n*sz)=_;rw[<-ht,<-fQC hj (by omega)]
theorem OR {w:World}{base e sz n c o i:Nat}{a:Addr}{xs:List Value}{u:Value}{K:Value->Prop}(h:Own w base e sz (some a) n c xs)(hn:0<n)(hv:xs[o+i]? =some u)(k:K u):fC w ((a.add o).add i) K:=by
 obtain⟨ad,e1,hc⟩:=h.sl.at_ hn;cases e1;exact load (by rw[add_add];exact hc _ _ hv) k
theorem uI {w:World}{base e sz n c o i:Nat}{a:Addr}{xs:List Value}{u:Value}(h:Own w base e sz (some a) n c xs)(hn:0<n)(hv:xs[o+i]? =some u):w.cell? ((a.add o).add i)=some u:=by
 obtain⟨ad,e1,hc⟩:=h.sl.at_ hn;cases e1;rw[add_add];exact hc _ _ hv
structure SeV where
 s:Se
 x:DV
 y:DV
def SeV.cells (z:SeV):List Value:=[.slice z.x.A z.x.n z.x.c,.int .i64 z.x.r,.slice z.y.A z.y.n z.y.c,.int .i64 z.y.r,.bool z.s.ot,.int .i64 z.s.ln]
theorem fQD (z:SeV):z.cells.length=6:=rfl
theorem fQE (z:SeV):∀u∈z.cells,Jo u=true:=sc rfl
abbrev Wa:TypeId:=232
theorem uJ {pre:List Value}{z:SeV}{i:Nat}{u:Value}(h:z.cells[i]? =some u):(pre++z.cells)[pre.length+i]? =some u:=by rw[Ws (by omega)];rw[show pre.length+i-pre.length=i by omega];exact h
theorem fQF {pre:List Value}{z:SeV}{i:Nat}{u:Value}:(pre++z.cells).set (pre.length+i) u=pre++z.cells.set i u:=by rw[List.set_append_right _ _ (by omega)];rw[show pre.length+i-pre.length=i by omega]
theorem OS (vs:List Value)(i:Nat)(z:List Value):∀(pre:List Value),KH (pre.length+i) vs (pre++z)=pre++KH i vs z
 | []=>by simp
 | a::pre=>by
  rw[Xk,show pre.length+1+i=(pre.length+i)+1 by omega];show a::KH (pre.length+i) vs (pre++z)=_;rw[OS vs i z pre]<;>rfl
section
variable {w0:World} {base:Nat} {p:RP}
def fQG (w:World)(k:Nat)(nm:List (List Nat))(base n c:Nat)(a:Addr)(pre:List Value)(z:SeV)(pY:Bool)(s:List Nat)(u:Value)(w':World):Prop:=
 z.s.ot=false/\Mod (Qi (some a)) w w'/\if pY then u=Xg z.y.A z.y.n z.y.c z.y.r/\Own w' base Wa 6 (some a) n c (pre++(⟨{z.s with ot:=true},z.x,z.y⟩:SeV).cells)
  else∃(o:BF) (b d:DV),Yj nm s= .ok o/\u=Xg b.A b.n b.c b.r/\SB w' b.A b.n b.c b.nd/\Set1 k b.nd b.r (Js z.s.re o)/\(∀i,Qi b.A i->w.heap.size<=i)/\SB w' d.A d.n d.c d.nd/\Set1 k d.nd d.r (V5 z.s.re o)/\(∀i,Qi d.A i->w.heap.size<=i)/\
   Own w' base Wa 6 (some a) n c (pre++(⟨{z.s with re:=V5 z.s.re o},z.x,d⟩:SeV).cells)
theorem OT (m:RM)(v:RV)(a:Addr)(n c:Nat)(pre:List Value)(z:SeV)(pY:Bool)(s:List Nat)(w:World)(hP:RPok w0 p)(h:Rr w0 w base p m v)(ho:Own w base Wa 6 (some a) n c (pre++z.cells))(hT:∀i,Qi (some a) i->m.T i)(sX:pre.length+6=n*6)
  (hy:DgO w (TS p m) p.nm.length z.y z.s.re) (h8:∀x∈s,x<256) (hl:s.length<=1000000000000) (gp:w0.heap.size<=base):
  FnP Tryz.prog 149 [.pointer (some ⟨p.r,0,none⟩),.pointer (some (a.add pre.length)),.bool pY,.string (Qf s)] w (fQG w p.nm.length p.nm base n c a pre z pY s)
   (λch w'=>∃e,(z.s.ot=true/\e=71∨z.s.ot=false/\pY=false/\Yj p.nm s= .error e)/\ch=eN e v.fl v.ln/\Mod (Qi (some a)) w w'):=by
 have iz:0<n:=by omega
 have YI:Qi (some a) a.block:=⟨a,rfl,rfl⟩
 have WZ:∀i,Qi (some a) i->¬RS p m i:=λi hi hr=>by
  have hb:=(ho.rows i hi).1;have:=h.rb;have:=h.qb;rcases hr with rfl | rfl | hr | hr
  ·omega
  ·omega
  ·exact ho.apart h.out (by decide) hi hr
  ·exact ho.apart h.txt (by decide) hi hr
 have gM:∀i,Qi (some a) i->w0.heap.size<=i:=λi hi=>by have:=(ho.rows i hi).1;omega
 refine W6 (c:={bQ7 with cuts:=[]}) Qa Tryz.func149 rfl rfl rfl ?_;refine new (λw1 Qd Q2 Qh=>?_);have cM:=ho.ext Qd;have h1:=h.ext Qd;refine OR cM iz (uJ (i:=4) (u:=.bool z.s.ot) rfl) ?_;refine Y3 (λht=>?_) (λht=>?_)
 ·refine XI (WJ 71 w1 h1) (λ_ _ hf=>hf.elim) ?_;rintro ch w2 ⟨rfl,Qg⟩;exact⟨71,.inl ⟨ht,rfl⟩,rfl,Mod.of_ext _ (Qd.trans Qg)⟩
 have ht:z.s.ot=false:=ht;have yget:∀(i:Nat) (u:Value),z.y.cells[i]? =some u->z.cells[2+i]? =some u:=λi u hi=>match i,hi with
  | 0,hi=>hi
  | 1,hi=>hi
  | _+2,hi=>nomatch hi
 refine J4 (vs:=z.y.cells) rfl (λi u hi=>?_) ?_
 ·show w1.cell? (((a.add pre.length).add 2).add i)=some u;rw[add_add];exact uI cM iz (uJ (yget i u hi))
 refine new (λw2 Qg X9 Qw=>?_);have eW:=cM.ext Qg;have h2:=h1.ext Qg;refine Qx Qw rfl (sc rfl) (λw3 ZT JV Qu=>?_);have XD:Ext w1 w3:=X0 Qg Qw ZT;have vF:=cM.ext XD;have h3:=h1.ext XD;show fD w3 ((a.add pre.length).add 4) _ _;rw[add_add];refine OP vF iz (by omega) (λw4 Zb vI=>?_);rw[fQF] at vI;have vI:Own w4 base Wa 6 (some a) n c (pre++(⟨{z.s with ot:=pY},z.x,z.y⟩:SeV).cells):=vI;have QQ:=Qd.trans XD;have ag:Mod (Qi (some a)) w w4:=(Mod.of_ext _ QQ).trans Zb (λi hi=>.inl hi);have h4:Rr w0 w4 base p m v:=h3.modT Zb hT WZ gM (λi hi=>.inl hi) (λi hi=>Vy (h3.tt i hi) Zb.size);have Ag:¬Qi (some a) w.heap.size:=λhi=>by have:=(ho.rows _ hi).2;omega
 have Gr:¬Qi (some a) w1.heap.size:=λhi=>by have:=(ho.rows _ hi).2;omega
 have Gt:=XD.size;have JN:=(Qh.ext XD).mod Zb Ag;have iA:=Qu.mod Zb Gr;have Kz:=Zb.size;cases pY with
 | true=>
  refine Xt rfl ?_;refine Qs iA rfl ?_;refine Qx JN rfl (sc rfl) (λw5 Jk _ QH=>?_);have ZW:Mod (·=w.heap.size) w4 w5:=mQj Jk rfl;refine Qs QH rfl ?_;exact⟨ht,ag.trans ZW (λi hi=>.inr (by omega)),rfl,vI.mod ZW (λi hi e=>by subst e;exact Ag hi)⟩
 | false=>
  refine Xc rfl ?_;have KZ:z.cells=(⟨{z.s with ot:=false},z.x,z.y⟩:SeV).cells:=by
   obtain⟨⟨ou,re,ot,ln⟩,x,y⟩:=z;simp only at ht;subst ht;rfl
  have hoC:∀w',Mod (·=w1.heap.size) w4 w'->Own w' base Wa 6 (some a) n c (pre++z.cells):=λw' Qb=>by
   rw[KZ];exact vI.mod Qb (λi hi e=>by subst e;exact Gr hi)
  refine fQe Qa (λch w'=>∃e,(z.s.ot=true/\e=71∨z.s.ot=false/\false=false/\Yj p.nm s= .error e)/\ch=eN e v.fl v.ln/\Mod (Qi (some a)) w w') (λch S w' hp=>hp) (Mod (·=w1.heap.size) w4) 14 [(true,0),(true,1),(true,2),(true,3),(true,4),(true,5),(true,6),(true,7),(false,8),(false,9),(true,10),(true,11),(true,12),(false,13)] (by kernel_rfl) (Mod.of_ext _ (Ext.drew w4)) ?_;refine Xl (vs:=z.y.cells) rfl (λw' Qb i u hi=>?_) ?_
  ·show w'.cell? (((a.add pre.length).add 2).add i)=some u;rw[add_add];exact uI (hoC w' Qb) iz (uJ (yget i u hi))
  have hd:=Ext.drew w4;refine XI (OL s w4.drew hP (h4.ext hd) h8 hl) ?_ ?_
  rotate_left
  ·rintro ch w5 ⟨e,he,rfl,Qt⟩;exact⟨e,.inr ⟨ht,rfl,he⟩,rfl,ag.trans (Mod.of_ext _ (hd.trans Qt)) (λi hi=>.inl hi)⟩
  rintro _ w5 ⟨o,he,t,rfl,Qt,ht5,fd,Ci⟩;have WU:=hd.trans Qt;have Gp:SB w4 z.y.A z.y.n z.y.c z.y.nd:=SB.modo (hy.sb.ext QQ) Zb (λad e h0 hi=>hy.off ad e h0 (.inr (hT _ hi)));refine⟨Mod.of_ext _ WU,?_⟩;refine call (OM p.nm.length hP.nmk z.y t z.s.re o w5 (Gp.ext WU) hy.st ht5 fd) ?_;rintro _ w6 ⟨b,d,rfl,Q6,hb6,wU,ni,hd6,gK,cZ⟩;have Xx:=WU.trans Q6;have Su:=Xx.size;have Sr:=WU.size;refine⟨Mod.of_ext _ Xx,?_⟩;refine Qx (iA.ext Xx) rfl (sc rfl) (λw7 Zr _ QY=>?_);have Q8:Mod (·=w1.heap.size) w6 w7:=mQj Zr rfl;have r5:Mod (·=w1.heap.size) w4 w7:=(Mod.of_ext _ Xx).trans Q8 (λi hi=>.inl hi);refine⟨r5,?_⟩;have Gu:=hoC w7 r5;show i7 _ w7 ((a.add pre.length).add 2) _ _;rw[add_add];refine Eq Gu (by show pre.length+2+2<=_;omega) (sc rfl) (λw8 Ju Ai=>?_);rw[OS] at Ai;have Ai:Own w8 base Wa 6 (some a) n c (pre++(⟨{z.s with re:=V5 z.s.re o},z.x,d⟩:SeV).cells):=Ai;have jQc:=QY.mod Ju Gr;refine Qs jQc rfl ?_;have pf:=((JN.ext Xx).mod Q8 (by show¬w.heap.size=w1.heap.size;omega)).mod Ju Ag;refine Qx pf rfl (sc rfl) (λw9 dT _ JM=>?_);have Zc:Mod (·=w.heap.size) w8 w9:=mQj dT rfl;refine Qs JM rfl ?_;have lQk:=ag.size;have keep:∀x:DV,(∀i,Qi x.A i->w5.heap.size<=i)->SB w6 x.A x.n x.c x.nd->SB w9 x.A x.n x.c x.nd:=λx hr hx=>
   SB.mod (SB.mod (SB.mod hx Q8 (λi hi e=>by have:=hr i hi;omega)) Ju (λi hi hj=>by have:=hr i hi;have:=(ho.rows i hj).2;omega)) Zc (λi hi e=>by have:=hr i hi;omega)
  have hall:Mod (Qi (some a)) w w9:=((ag.trans r5 (λi hi=>.inr (by omega))).trans Ju (λi hi=>.inl hi)).trans Zc (λi hi=>.inr (by omega));refine⟨ht,hall,o,b,d,he,rfl,keep b ni hb6,wU,λi hi=>by have:=ni i hi;omega,keep d cZ hd6,gK,λi hi=>by have:=cZ i hi;omega,Ai.mod Zc (λi hi e=>by subst e;exact Ag hi)⟩
end
end
end
section
section
theorem fQH (l:List Nat)(w:World)(hl:∀x∈l,x<256)(Xb:l.length<=1000000000000):
  Fn Tryz.prog 143 [.string (Qf l),.string (Qf [32])] w (λv w'=>v= .tuple #[.string (Qf (Jt l)),.string (Qf (if 32∈l then KS l else [])),.bool (decide (32∈l))]/\Ext w w'):=
 (eQ8 l w hl Xb).mono λv w' h=>by
  obtain⟨h1,h2⟩:=h;refine⟨?_,h2⟩;rw[h1];by_cases hm:32∈l
  ·rw[Qe hm,Qe hm,XX hm]
  ·rw[if_neg hm,if_neg hm,Zf hm,Ef hm]
section
variable {nm:List (List Nat)} {fl d0:Nat} {inc:List Nat->Nat->Nat->BF->Gs->Except Pl Gs} {s:List Nat} {ls:List (List Nat)} {ln at_:Nat} {k:BF} {op:List Se} {g:Gs} {r:List Nat}
theorem Er (h:Jb s= .ifd r):ZO nm fl d0 inc (s::ls) ln at_ k op g=match Yj nm r with
   | .error e=>.error ⟨e,fl,((ln+1:Nat):Int)⟩
   | .ok d=>if d0+op.length=64 then .error ⟨2,fl,((ln+1:Nat):Int)⟩else ZO nm fl d0 inc ls (ln+1) (at_+s.length+1) (Js k d) (⟨k,V5 k d,false,ln+1⟩::op) {g with fr:=true}:=by
 rw[ZO.eq_def];simp only[h]<;>rfl
theorem za (h:Jb s= .inc r):ZO nm fl d0 inc (s::ls) ln at_ k op g=match inc r (ln+1) (d0+op.length) k g with
   | .error p=>.error p
   | .ok g'=>ZO nm fl d0 inc ls (ln+1) (at_+s.length+1) k op {g' with fr:=true}:=by
 rw[ZO.eq_def];simp only[h]<;>rfl
theorem Es (h:Jb s= .elif r):ZO nm fl d0 inc (s::ls) ln at_ k op g=match op with
   | []=>.error ⟨72,fl,((ln+1:Nat):Int)⟩
   | x::aq=>if x.ot then .error ⟨71,fl,((ln+1:Nat):Int)⟩else match Yj nm r with
    | .error e=>.error ⟨e,fl,((ln+1:Nat):Int)⟩
    | .ok d=>ZO nm fl d0 inc ls (ln+1) (at_+s.length+1) (Js x.re d) ({x with re:=V5 x.re d}::aq) {g with fr:=true}:=by
 rw[ZO.eq_def];simp only[h]<;>rfl
theorem Et (h:Jb s= .els):ZO nm fl d0 inc (s::ls) ln at_ k op g=match op with
   | []=>.error ⟨72,fl,((ln+1:Nat):Int)⟩
   | x::aq=>if x.ot then .error ⟨71,fl,((ln+1:Nat):Int)⟩else ZO nm fl d0 inc ls (ln+1) (at_+s.length+1) x.re ({x with ot:=true}::aq) {g with fr:=true}:=by
 rw[ZO.eq_def];simp only[h]<;>rfl
theorem OU (h:Jb s= .en):ZO nm fl d0 inc (s::ls) ln at_ k op g=match op with
   | []=>.error ⟨72,fl,((ln+1:Nat):Int)⟩
   | x::aq=>ZO nm fl d0 inc ls (ln+1) (at_+s.length+1) x.ou aq {g with fr:=true}:=by
 rw[ZO.eq_def];simp only[h]<;>rfl
theorem lI (h:Jb s= .txt):ZO nm fl d0 inc (s::ls) ln at_ k op g=match VH (s++ [10]) fl at_ k g with
   | none=>.error ⟨2,fl,((ln+1:Nat):Int)⟩
   | some g'=>ZO nm fl d0 inc ls (ln+1) (at_+s.length+1) k op g':=by
 rw[ZO.eq_def];simp only[h]<;>rfl
end
theorem Own.take {w:World}{base e sz n c k:Nat}{A:Option Addr}{cs:List Value}(h:Own w base e sz A n c cs)(hk:k<=n):Own w base e sz A k c (cs.take (k*sz)):=by
 have hr:=h.row;have hl:=hr.1;have Xj:k*sz<=n*sz:=Wq _ hk;refine⟨⟨by rw[Ye];omega,?_⟩⟩;rcases hr.2 with⟨hv,hx⟩ | ⟨g,cap,ZB,hv,hb,hg,kH,bP,X6,pM⟩
 ·cases hv;obtain rfl:k=0:=by omega
  exact .inl ⟨rfl,by simp⟩
 ·cases hv;refine .inr ⟨g,c,ZB,rfl,hb,hg,by omega,bP,X6,?_⟩;have ht:ZB.toList.take (n*sz)=cs:=pM;rw[<-ht,xH,nD Xj]
theorem Eu {ix:List Nat->Option Nat}{rd s:List Nat}{n:Nat}(h:cA ix rd s= .ok n):n∉rd/\∃t,ix t=some n:=by
 unfold cA at h;split at h
 ·cases h
 split at h
 ·cases h
 ·rename_i m hm;split at h
  ·cases h
  ·rename_i hn;cases h;exact⟨hn,_,hm⟩
structure LS where
 k:DV
 o:BF
 z:List SeV
 m:RM
 g:Gs
 ln:Nat
 at_:Nat
 ls:List (List Nat)
 A:Option Addr
 c:Nat
def VJ (z:List SeV):List Value:=z.flatMap SeV.cells
theorem zb (z:List SeV):(VJ z).length=z.length*6:=co fQD z
theorem lJ (z:List SeV)(x:SeV):VJ (z++ [x])=VJ z++x.cells:=by simp[VJ]
def Z5 (p:RP)(m:RM)(A:Option Addr)(bk:Nat):Nat->Prop:=λi=>RS p m i∨Qi A i∨i=bk
abbrev oG:=List Nat->Nat->Nat->BF->Gs->Except Pl Gs
structure FrI (w0 w:World) (base:Nat) (p:RP) (m:RM) (v:RV) (n bk:Nat) (text:List Nat) (inc:oG) (res:Except Pl Gs) (s:LS) (w':World):Prop where
 rr:Rr w0 w' base p s.m ⟨v.d+s.z.length,n,s.ln,n::v.rd,s.g⟩
 tt:s.m.T=λi=>m.T i∨Qi s.A i∨i=bk
 kb:Blk w' bk 32 s.k.cells
 kd:DgO w' (TS p s.m) p.nm.length s.k s.o
 ow:Own w' base Wa 6 s.A s.z.length s.c (VJ s.z)
 zx:∀z∈s.z,DgO w' (TS p s.m) p.nm.length z.x z.s.ou
 zy:∀z∈s.z,DgO w' (TS p s.m) p.nm.length z.y z.s.re
 dr:text.drop s.at_=Qo s.ls
 al:s.at_+(Qo s.ls).length=text.length
 li:eL s.ls
 rs:ZO p.nm n v.d inc s.ls s.ln s.at_ s.o (s.z.reverse.map (·.s)) s.g=res
 mw:Mod (RS p m) w w'
 ma:Moved w m.OA s.m.OA
 mb:Moved w m.BA s.m.BA
 nw:∀i,Qi s.A i->w.heap.size<=i
 dl:v.d+s.z.length<=64
 lb:s.ln+s.ls.length<=1048576
section
variable {w0 w w' KL:World} {base:Nat} {p:RP} {m:RM} {v:RV} {n bk:Nat} {text:List Nat} {inc:oG} {res:Except Pl Gs} {s s':LS}
theorem FrI.sub (h:FrI w0 w base p m v n bk text inc res s w'):∀i,Z5 p s.m s.A bk i->TS p s.m i:=λi hi=>by
 rcases hi with hi | hi | hi
 ·exact .inl hi
 ·exact .inr (by rw[h.tt];exact .inr (.inl hi))
 ·exact .inr (by rw[h.tt];exact .inr (.inr hi))
theorem FrI.kp (h:FrI w0 w base p m v n bk text inc res s w')(hm:Mod (Z5 p s.m s.A bk) w' KL)(tt:s'.m.T=λi=>m.T i∨Qi s'.A i∨i=bk)(hA:Moved w' s.A s'.A)(hO:Moved w' s.m.OA s'.m.OA)(hB:Moved w' s.m.BA s'.m.BA){x:DV}{o:BF}(hx:DgO w' (TS p s.m) p.nm.length x o):DgO KL (TS p s'.m) p.nm.length x o:=
 hx.step (hm.mono (λi hi=>.inl (h.sub i hi))) (λi hi=>by
  rcases hi with hi | hi
  ·rcases RS.moved (p:=p) hO hB i hi with h1 | h1
   ·exact .inl (.inl h1)
   ·exact .inr h1
  ·rw[tt] at hi;rcases hi with hi | hi | hi
   ·exact .inl (.inr (by rw[h.tt];exact .inl hi))
   ·rcases hA.rows i hi with h1 | h1
    ·exact .inl (.inr (by rw[h.tt];exact .inr (.inl h1)))
    ·exact .inr h1
   ·exact .inl (.inr (by rw[h.tt];exact .inr (.inr hi))))
theorem FrI.mw' (h:FrI w0 w base p m v n bk text inc res s w')(iN:w.heap.size<=bk)(hm:Mod (Z5 p s.m s.A bk) w' KL):Mod (RS p m) w KL:=
 h.mw.trans hm (λi hi=>by
  rcases hi with hi | hi | hi
  ·exact RS.moved (p:=p) h.ma h.mb i hi
  ·exact .inr (h.nw i hi)
  ·exact .inr (by omega))
theorem FrI.go (h:FrI w0 w base p m v n bk text inc res s w')(iN:w.heap.size<=bk)(hm:Mod (Z5 p s.m s.A bk) w' KL)(rr:Rr w0 KL base p s'.m ⟨v.d+s'.z.length,n,s'.ln,n::v.rd,s'.g⟩)(tt:s'.m.T=λi=>m.T i∨Qi s'.A i∨i=bk)(hA:Moved w' s.A s'.A)(hO:Moved w' s.m.OA s'.m.OA)(hB:Moved w' s.m.BA s'.m.BA)
  (kb:Blk KL bk 32 s'.k.cells) (kd:DgO KL (TS p s'.m) p.nm.length s'.k s'.o) (ow:Own KL base Wa 6 s'.A s'.z.length s'.c (VJ s'.z)) (zx:∀z∈s'.z,DgO KL (TS p s'.m) p.nm.length z.x z.s.ou) (zy:∀z∈s'.z,DgO KL (TS p s'.m) p.nm.length z.y z.s.re)
  {l:List Nat} (KG:s.ls=l::s'.ls) (cY:s'.at_=s.at_+l.length+1) (rs:ZO p.nm n v.d inc s'.ls s'.ln s'.at_ s'.o (s'.z.reverse.map (·.s)) s'.g=res) (dl:v.d+s'.z.length<=64) (iS:s'.ln=s.ln+1):FrI w0 w base p m v n bk text inc res s' KL:=by
 have cZ:=h.dr;have KF:=h.al;have td:=h.lb;have wV:=h.li;rw[KG,Y7] at cZ KF;rw[KG] at td wV;have hz:=h.mw.size;refine⟨rr,tt,kb,kd,ow,zx,zy,?_,?_,λt ht=>wV t (by simp[ht]),rs,h.mw' iN hm,h.ma.trans hO hz,h.mb.trans hB hz,λi hi=>?_,dl,?_⟩
 ·rw[cY,show s.at_+l.length+1=s.at_+(l.length+1) by omega,<-tw,cZ,<-tw,List.drop_left' rfl]<;>rfl
 ·rw[cY];simp only[Qy,Xk] at KF;omega
 ·rcases hA.rows i hi with h1 | h1
  ·exact h.nw i h1
  ·omega
 ·rw[iS];simp only[Xk] at td;omega
theorem FrI.line (h:FrI w0 w base p m v n bk text inc res s w')(ht:text.length<=1048576){l:List Nat}{ls:List (List Nat)}(KG:s.ls=l::ls):10∉l/\s.at_+l.length+1<=text.length/\text.drop s.at_=l++10::Qo ls/\(text.drop s.at_).take l.length=l/\(text.drop s.at_).take (l.length+1)=l++ [10]:=by
 have cZ:=h.dr;have KF:=h.al;have wV:=h.li;have _:=ht;rw[KG,Y7] at cZ KF;rw[KG] at wV;simp only[Qy,Xk] at KF;refine⟨wV l (by simp),by omega,cZ,by rw[cZ];exact List.take_left' rfl,?_⟩;rw[cZ,show l++10::Qo ls=(l++ [10])++Qo ls by simp];exact List.take_left' (by simp)
theorem Rr.putq (h:Rr w0 w base p m v){v':RV}(hm:Mod (λi=>i=p.r∨i=p.q) w w')(hB:Blk w' p.r 157 (jL p m v'))(h1:v'.g.tx=v.g.tx)(h2:v'.g.sg=v.g.sg)(h4:v'.g.fr=false->v'.g.sg≠ []∨v'.rd=[])
  (hq:∃mp,MapAt W9 w' p.q mp/\(mp.map (·.1)).Nodup/\∀n:Nat,Xv (n:Int) mp=if n∈v'.rd then some (.bool true)else none):Rr w0 w' base p m v':=by
 have hE:=hm.ext h.e0 (λi hi=>by rcases hi with rfl | rfl;exact h.lor;exact h.loq);have Gv:=h.rb;have hb2:=h.qb;refine⟨hE,h.lor,h.loq,h.rb,h.qb,h.ne,Ze h.top hm.size,h.pa,hB,?_,?_,by rw[h2];exact h.len,λj s x hs hx=>?_,hq,by rw[h1];exact h.tl,by rw[h2];exact h.sl,by rw[h1];exact h.b8,h4,λi hi=>Vy (h.tt i hi) hm.size⟩
 ·rw[h1];exact h.txt.mod hm (λi hi e=>by have:=(h.txt.rows i hi).1;rcases e with rfl | rfl<;>omega)
 ·rw[h2];exact h.out.mod hm (λi hi e=>by have:=(h.out.rows i hi).1;rcases e with rfl | rfl<;>omega)
 ·rw[h2] at hs;exact(h.dgs j s x hs hx).keep hm (λi hi=>.inl (.inl (hi.elim .inl (λe=>.inr (.inl e)))))
end
end
section
def lK (p:RP)(f n:Nat)(rd:List Nat):oG:=λr ln d k g=>match cA (Ja (p.fs.map (·.1))) (n::rd) r with
 | .error e=>.error ⟨e,n,ln⟩
 | .ok m=>if d=64 then .error ⟨2,n,ln⟩else aa p.nm p.fs f (n::rd) (d+1) m k g
def fQI (w0:World)(base:Nat)(p:RP)(f:Nat):Prop:=∀(m:RM)(v:RV)(n:Nat)(k:DV)(o:BF)(w:World),Rr w0 w base p m v->DgO w (TS p m) p.nm.length k o->n<p.fs.length->n∉v.rd->v.d<=64->65<=f+v.d->
 FnP Tryz.prog 92 [.pointer (some ⟨p.r,0,none⟩),.int .i64 n,Xg k.A k.n k.c k.r] w (λ_ w'=>∃g',aa p.nm p.fs f v.rd v.d n o v.g= .ok g'/\Eo w0 w base p m {v with g:=g'} w') (λch w'=>∃q,aa p.nm p.fs f v.rd v.d n o v.g= .error q/\ch=eN q.e q.f q.l/\Mod (RS p m) w w')
set_option maxRecDepth 2000 in
theorem OV (w0:World)(base:Nat)(p:RP)(hP:RPok w0 p)(gp:w0.heap.size<=base):∀f,fQI w0 base p f
 | 0=>λm v n k o w h hk hn hr hd hf=>Xm hf (by omega)
 | f+1=>λm v n k o w h hk hn hr hd hf=>by
  have ih:=OV w0 base p hP gp f;have hx:p.fs[n]? =some p.fs[n]:=Xs hn;have wW:=hP.flb _ (Lw hn);have kQF:aa p.nm p.fs (f+1) v.rd v.d n o v.g=ZO p.nm n v.d (lK p f n v.rd) (QU (p.fs[n].2)) 0 0 o [] {v.g with fr:=true}:=by
   rw[aa,hx]<;>rfl
  generalize W3:aa p.nm p.fs (f+1) v.rd v.d n o v.g=res at*;generalize Cl:p.fs[n].2=text at*;have cJ:∀x∈text,x<256:=by rw[<-Cl];exact wW.t8
  have Yr:text.length<=1048576:=by rw[<-Cl];exact wW.tl
  have Iw:Qo (QU text)=text:=WG (by rw[<-Cl];exact wW.ok);have de:=hP.fls.2;refine W6 (c:={c92 with cuts:=[]}) Qa Tryz.func92 rfl rfl rfl ?_;refine new (λw1 Qd Q2 Qh=>?_)
  let m1:RM:={m with T:=λi=>m.T i∨Qi (none:Option Addr) i∨i=w.heap.size}
  have wI:=h.tt;have h1:Rr w0 w1 base p m1 v:=h.modT (U:=λ_=>False) (Mod.of_ext _ Qd) (λi hi=>hi.elim) (λi hi=>hi.elim) (λi hi=>hi.elim) (λi hi=>by
    rcases hi with hi | hi | hi
    ·exact .inl hi
    ·obtain⟨_,e,_⟩:=hi;cases e
    ·exact .inr (by omega)) (λi hi=>by
    rcases hi with hi | hi | hi
    ·have:=wI i hi;omega
    ·obtain⟨_,e,_⟩:=hi;cases e
    ·omega)
  refine XJ Qa (Ext w1) 10 [(true,0),(true,1),(true,2),(true,3),(true,4),(true,5),(true,6),(true,7),(true,8),(true,9)] (by kernel_rfl) (Ext.drew w1) ?_;refine QL (v:=.int .i64 v.fl) (λw' Qb=>by rw[(h1.blk.ext Qb).cell];rfl) ?_;refine QL (v:=.int .i64 v.ln) (λw' Qb=>by rw[(h1.blk.ext Qb).cell];rfl) ?_;have Aj:=Ext.drew w1;have h2:=h1.ext Aj;have Qw:=Qh.ext Aj;generalize w1.drew=w2 at*;obtain⟨mp,s6,hnd,pZ⟩:=h2.rdm;refine Qp h2.blk rfl ?_;refine jo (kv:=W9) (a:=(n:Int)) Qa rfl rfl rfl rfl rfl (KeyV.int .i64) rfl rfl rfl s6 (λw3 ZT JV Xo=>?_);have ZP:Mod (·=p.q) w2 w3:=mQj ZT rfl;have jQd:((X8 (n:Int) (Value.bool true) mp).map (·.1)).Nodup:=(Ov _ _ _ hnd).1;have jQe:∀j:Nat,Xv (j:Int) (X8 (n:Int) (Value.bool true) mp)=if j∈n::v.rd then some (.bool true)else none:=λj=>by
   rw[W7];by_cases hj:j=n
   ·subst hj;simp
   ·rw[if_neg (λe=>hj (by omega)),pZ j];simp[hj]
  have ni:=h2.blk.mod ZP h2.ne;refine XK ni (show 9<11 by decide) (λw4 Zb QZ=>?_);refine XK QZ (show 10<11 by decide) (λw5 XO QH=>?_);refine XK QH (show 8<11 by decide) (λw6 V7 Xh=>?_);have SM:Mod (·=p.r) w3 w6:=(Zb.trans XO (λi hi=>.inl hi)).trans V7 (λi hi=>.inl hi);have Ak:Mod (λi=>i=p.r∨i=p.q) w2 w6:=(ZP.mono (S':=λi=>i=p.r∨i=p.q) (λi hi=>.inl (.inr hi))).trans SM (λi hi=>.inl (.inl hi));have h6:Rr w0 w6 base p m1 ⟨v.d,n,0,n::v.rd,{v.g with fr:=true}⟩:=h2.putq Ak Xh rfl rfl (λe=>by cases e) ⟨_,Xo.mod SM (λe=>h2.ne e.symm),jQd,jQe⟩;have iN:¬(w.heap.size=p.r∨w.heap.size=p.q):=λe=>by have:=h.rb;have:=h.qb;have:=h.top;rcases e with e | e<;>omega
  have kQG:=Qw.mod Ak iN;have XG:Mod (RS p m) w w6:=((Mod.of_ext (RS p m) Qd).trans (Mod.of_ext (RS p m) Aj) (λi hi=>.inl hi)).trans (Ak.mono (S':=RS p m) (λi hi=>.inl (hi.elim .inl (λe=>.inr (.inl e))))) (λi hi=>.inl hi);refine Qp Xh rfl ?_;refine Zo En (hP.fls.ext h6.e0) rfl (by omega) (λpp x VV hc=>?_);obtain rfl:p.fs[n]=x:=Option.some.inj (hx.symm.trans VV);refine load (hc 1 _ rfl) ?_;rw[Cl];have Af:DgO w1 (TS p m1) p.nm.length k o:=hk.step (Mod.of_ext _ Qd) (λi hi=>by
   rcases hi with hi | hi | hi | hi
   ·exact .inl (.inl hi)
   ·exact .inl (.inr hi)
   ·obtain⟨_,e,_⟩:=hi;cases e
   ·exact .inr (by omega))
  have Gw:DgO w6 (TS p m1) p.nm.length k o:=(Af.ext Aj).keep Ak (λi hi=>.inl (.inl (hi.elim .inl (λe=>.inr (.inl e)))));have mZ:(QU text).length<=text.length:=by have:=uy (QU text);rw[Iw] at this;exact this
  refine loop Qa [8,10] (λs:LS=>[.slice s.A s.z.length s.c,.int .i64 s.at_]) (λs w'=>FrI w0 w base p m v n w.heap.size text (lK p f n v.rd) res s w') (λs _=>s.ls.length) ⟨k,o,[],m1,{v.g with fr:=true},0,0,QU text,none,0⟩ rfl
   ⟨h6,rfl,kQG,Gw,Own.nil _ _ _ _,(λz hz=>by cases hz),(λz hz=>by cases hz),(by rw[Iw];rfl),(by rw[Iw];simp),lD text,kQF.symm,XG,Moved.refl _ _,Moved.refl _ _,(λi hi=>by obtain⟨_,e,_⟩:=hi;cases e),hd,(by show 0+(QU text).length<=_;omega)⟩ ?_
  rintro s w7 hI;have h7:=hI.rr;have KF:=hI.al;refine QB (λc1=>?_) (λc1=>?_)
  rotate_left
  ·have KG:s.ls=[]:=by
    have hs:=XU text;have:=uy s.ls;exact Y0 (by omega)
   have h7z:=hI.rr;have QT:=hI.rs;rw[KG] at QT;refine QB (λhz=>?_) (λhz=>?_)
   ·obtain⟨z',x,KZ⟩:∃z' x,s.z=z'++ [x]:=by
     rcases tF s.z with h0 | ⟨z',x,h0⟩
     ·rw[h0] at hz;exact Xm hz (by decide)
     ·exact⟨z',x,by rw[h0];simp⟩
    have tf:s.z.length=z'.length+1:=by rw[KZ];simp
    have kO:s.z.reverse.map (·.s)=x.s::z'.reverse.map (·.s):=by rw[KZ];simp
    obtain⟨oa,Vj,_⟩:=hI.ow.sl.at_ (by omega:0<s.z.length);have Gu:Own w7 base Wa 6 (some oa) s.z.length s.c (VJ z'++x.cells):=by rw[<-Vj,<-lJ,<-KZ];exact hI.ow
    have YF:=hI.dl;refine Qm ((z'.length:Nat):Int) (by omega) (by omega) ?_;rw[Vj];refine JC (j:=z'.length) (by omega) ?_;rw[show z'.length*6=(VJ z').length from (zb z').symm];refine OR Gu (by omega) (uJ (i:=5) (u:=.int .i64 x.s.ln) rfl) ?_;refine XK h7.blk (show 10<11 by decide) (λw8 Ju Xp=>?_);have h8:Rr w0 w8 base p s.m ⟨v.d+s.z.length,n,x.s.ln,n::v.rd,s.g⟩:=h7.put Ju Xp rfl rfl rfl h7.nf;refine XI (WJ 72 w8 h8) (λ_ _ hf=>hf.elim) ?_;rintro ch w9 ⟨rfl,Xw⟩;refine⟨⟨72,n,x.s.ln⟩,?_,rfl,hI.mw' (QE _) ((Ju.mono (S':=Z5 p s.m s.A w.heap.size) (λi hi=>.inl (.inl (.inl hi)))).trans (Mod.of_ext _ Xw) (λi hi=>.inl hi))⟩;rw[<-QT,ZO.eq_def,kO]
   ·have kn:s.z=[]:=Y0 (by omega);obtain⟨mq,k1,k2,k3⟩:=h7.rdm;refine Qp h7.blk rfl ?_;refine eQ3 (kv:=W9) (a:=(n:Int)) Qa rfl rfl rfl rfl rfl (KeyV.int .i64) rfl rfl k1 (λw8 ZA Vs Ju=>?_);refine XK (h7.blk.mod ZA h7.ne) (show 9<11 by decide) (λw9 Yn JM=>?_);refine XK JM (show 10<11 by decide) (λQG Z7 J9=>?_);refine XK J9 (show 8<11 by decide) (λQD ko ZU=>?_);have SO:Mod (·=p.r) w8 QD:=(Yn.trans Z7 (λi hi=>.inl hi)).trans ko (λi hi=>.inl hi);have Gy:Mod (λi=>i=p.r∨i=p.q) w7 QD:=(ZA.mono (S':=λi=>i=p.r∨i=p.q) (λi hi=>.inl (.inr hi))).trans SO (λi hi=>.inl (.inl hi));have hd0:v.d+s.z.length=v.d:=by rw[kn]<;>rfl
    rw[hd0] at ZU;have ZH:Rr w0 QD base p s.m ⟨v.d,v.fl,v.ln,v.rd,{s.g with fr:=true}⟩:=h7.putq Gy ZU rfl rfl (λe=>by cases e) ⟨_,Ju.mod SO (λe=>h7.ne e.symm),(k2.sublist ((Oq (n:Int) mq).map _)),λj=>by
     rw[Ou _ _ _ k2];by_cases hj:j=n
     ·subst hj;rw[Qe rfl,if_neg hr]
     ·rw[if_neg (λe=>hj (by omega)),k3 j];simp[hj]⟩
    have XS:Rr w0 QD base p {s.m with T:=m.T} ⟨v.d,v.fl,v.ln,v.rd,{s.g with fr:=true}⟩:=ZH.modT (U:=λ_=>False) (Mod.refl _ _) (λi hi=>hi.elim) (λi hi=>hi.elim) (λi hi=>hi.elim) (λi hi=>.inl (by rw[hI.tt];exact .inl hi)) (λi hi=>by
     have:=wI i hi;have:=hI.mw.size;have:=Gy.size;omega)
    refine⟨{s.g with fr:=true},?_,{s.m with T:=m.T},rfl,XS,hI.mw' (QE _) (Gy.mono (λi hi=>.inl (.inl (hi.elim .inl (λe=>.inr (.inl e)))))),hI.ma,hI.mb⟩;rw[<-QT,ZO.eq_def,kn]<;>rfl
  ·cases KG:s.ls with
   | nil=>
    have hs:=XU text;rw[KG] at KF;have:(Qo ([]:List (List Nat))).length=0:=rfl;omega
   | cons l ls=>
    obtain⟨l1,l2,l3,l4,l5⟩:=hI.line Yr KG;have XW:=XU text;have fa:∀x∈l,x<256:=λx hx=>cJ x (ay (by rw[l3];simp[hx]:x∈text.drop s.at_))
    have td:=hI.lb;refine Kf (v':=.string (Qf (text.drop s.at_))) ⟨by omega,by rw[XW];omega,by rw[XW];omega⟩ ?_ ?_
    ·rw[Vn,XW];simp only[fy];rw[Jz (QE _)]
    refine call (Ee (text.drop s.at_) 10 w7 (λx hx=>cJ x (ay hx)) (by decide)) ?_;rintro _ _ ⟨rfl,rfl⟩;have JY:fN 10 (text.drop s.at_)=(l.length:Nat):=by
     unfold fN;rw[Qe (by rw[l3];simp),l3,List.takeWhile_append_of_pos (λx hx=>by simpa using λe=>l1 (by rw[<-e];exact hx))];simp
    rw[JY];refine Qm ((s.at_+l.length:Nat):Int) (by show((s.at_:Nat):Int)+_=_;omega) (by omega) ?_;refine Qm ((s.at_+l.length+1:Nat):Int) (by omega) (by omega) ?_;refine Qm ((s.at_+l.length:Nat):Int) (by omega) (by omega) ?_;refine Kf (v':=.string (Qf l)) ⟨by omega,by omega,by rw[XW];omega⟩ ?_ ?_
    ·rw[Vn];simp only[fy];rw[gS,show s.at_+l.length-s.at_=l.length by omega,l4]
    refine Qp h7.blk rfl ?_;refine Qm ((s.ln+1:Nat):Int) (by show((s.ln:Nat):Int)+1=_;omega) (by omega) ?_;refine XK h7.blk (show 10<11 by decide) (λw8 Ju Xp=>?_);have h8:Rr w0 w8 base p s.m ⟨v.d+s.z.length,n,s.ln+1,n::v.rd,s.g⟩:=h7.put Ju Xp rfl rfl rfl h7.nf;refine call (fQH l w8 fa (by omega)) ?_;rintro _ w9 ⟨rfl,Xw⟩;have h9:=h8.ext Xw;have iU:w.heap.size<=w.heap.size:=QE _;have dU:Mod (Z5 p s.m s.A w.heap.size) w7 w9:=(Ju.mono (S':=Z5 p s.m s.A w.heap.size) (λi hi=>.inl (.inl (.inl hi)))).trans (Mod.of_ext _ Xw) (λi hi=>.inl hi);have npr:¬w.heap.size=p.r:=λe=>iN (.inl e)
    have aS:Blk w9 w.heap.size 32 s.k.cells:=(hI.kb.mod Ju npr).ext Xw;have ph:∀{x:DV} {o:BF},DgO w7 (TS p s.m) p.nm.length x o->DgO w9 (TS p s.m) p.nm.length x o:=λhx=>hI.kp dU hI.tt (Moved.refl _ _) (Moved.refl _ _) (Moved.refl _ _) hx
    have cN:=ph hI.kd;have nopr:∀i,Qi s.A i->¬i=p.r:=λi hi e=>by have:=(hI.ow.rows i hi).1;have:=h7.rb;omega
    have YU:Own w9 base Wa 6 s.A s.z.length s.c (VJ s.z):=(hI.ow.mod Ju nopr).ext Xw;have QT:=hI.rs;rw[KG] at QT;have m3:(((Qf (Jt l)).size:Int)<(Qf l).size)↔32∈l:=by rw[XU,XU,<-Oz];omega
    have YF:=hI.dl;have lQl:l.length<=1048576:=by omega
    have lQm:=dU.size;have lQn:=hI.mw.size;have Xd:∀(q:Pl) (ch:List PanicEntry) (w':World),res= .error q->ch=eN q.e q.f q.l->Mod (Z5 p s.m s.A w.heap.size) w9 w'->∃q,res= .error q/\ch=eN q.e q.f q.l/\Mod (RS p m) w w':=λq ch w' h1 h2 h3=>⟨q,h1,h2,hI.mw' iU (dU.trans h3 (λi hi=>.inl hi))⟩
    have Ix:∀i,Qi s.A i->w0.heap.size<=i:=λi hi=>by have:=(YU.rows i hi).1;omega
    have nj:∀i,Qi s.A i->¬RS p s.m i:=λi hi hr=>by
     have hb:=(YU.rows i hi).1;have:=h9.rb;have:=h9.qb;rcases hr with rfl | rfl | hr | hr
     ·omega
     ·omega
     ·exact YU.apart h9.out (by decide) hi hr
     ·exact YU.apart h9.txt (by decide) hi hr
    have wX:∀i,Qi s.A i->s.m.T i:=λi hi=>by rw[hI.tt];exact .inr (.inl hi)
    have nbk:¬RS p s.m w.heap.size:=λhr=>by
     have:=h.rb;have:=h.qb;have:=h.top;rcases hr with e | e | hr | hr
     ·omega
     ·omega
     ·exact aS.apart h9.out (by decide) hr
     ·exact aS.apart h9.txt (by decide) hr
    have hhA:∀i,Qi s.A i->i<w9.heap.size:=λi hi=>(YU.rows i hi).2
    have nbA:¬Qi s.A w.heap.size:=aS.apart YU (by decide);have nprA:¬Qi s.A p.r:=λhi=>nopr _ hi rfl
    by_cases P1:Jt l=lG/\32∈l
    ·have XZ:=eQ9 P1.1 P1.2;rw[Qe P1.2];have iF:∀x∈KS l,x<256:=λx hx=>fa x (ay hx)
     have iT:(KS l).length<=1000000000000:=by unfold KS;rw[Y1];omega
     refine X7 (by rw[P1.1];rfl) ?_;refine X7 (m3.2 P1.2) ?_;refine XI (OL (KS l) w9 hP h9 iF iT) ?_ ?_
     rotate_left
     ·rintro ch QG ⟨e,he,rfl,Zw⟩;refine Xd ⟨e,n,((s.ln+1:Nat):Int)⟩ _ QG ?_ rfl (Mod.of_ext _ Zw);rw[<-QT,Er XZ,he]
     rintro _ QG ⟨d,he,t,rfl,Zw,jQf,fd,Ci⟩;refine new (λQD Jx sm ZU=>?_);refine Qx ZU rfl (sc rfl) (λQ5 pe _ KV=>?_);have kr:Ext QG Q5:=X0 Jx ZU pe;have pi:=Zw.trans kr;have XS:=h9.ext pi;have lQo:=pi.size;have jQg:=Zw.size;refine XI (ON Q5 XS YF) ?_ ?_
     rotate_left
     ·rintro ch XR ⟨gq,rfl,XD⟩;refine Xd ⟨2,n,((s.ln+1:Nat):Int)⟩ _ XR ?_ rfl (Mod.of_ext _ (pi.trans XD));have gq:v.d+(s.z.reverse.map (·.s)).length=64:=by simpa using gq
      rw[<-QT,Er XZ,he];simp only[Qe gq]
     rintro _ XR ⟨pj,Kx,aT⟩;have pj:¬v.d+s.z.length=64:=pj;have SP:=(aS.ext pi).mod aT npr;have n10r:¬QG.heap.size=p.r:=λe=>by have:=h9.rb;have:=h9.top;omega
     have jQh:=KV.mod aT n10r;refine Qs SP rfl ?_;refine Qs jQh rfl ?_;have Gz:=(cN.ext pi).keep aT (λi hi=>.inl (.inl (.inl hi)));have jQi:SB XR t.A t.n t.c t.nd:=SB.mod (jQf.ext kr) aT (λi hi e=>by have:=Ci i hi;have:=h9.rb;have:=h9.top;omega);refine call (OM p.nm.length hP.nmk s.k t s.o d XR Gz.sb Gz.st jQi fd) ?_;rintro _ Za ⟨a,b,rfl,Jl,jQj,has,wE,jQk,wU,ni⟩;refine new (λKa Ve lQp sn=>?_);refine new (λWV VQ jQl YD=>?_);have sr:=Ve.trans VQ;refine Qx (sn.ext VQ) rfl (sc rfl) (λVf GA _ mv=>?_);have pk:Mod (·=Za.heap.size) WV Vf:=mQj GA rfl;have my:Ext Za Vf:=pk.ext sr (λi hi=>by omega);refine Qx (YD.mod pk (by show¬Ka.heap.size=Za.heap.size;omega)) rfl (sc rfl) (λKX jQm _ pf=>?_);have vJ:Mod (·=Ka.heap.size) Vf KX:=mQj jQm rfl;have SQ:Ext Za KX:=vJ.ext my (λi hi=>by omega);have jQn:=mv.mod vJ (by show¬Za.heap.size=Ka.heap.size;omega);have mz:=Jl.trans SQ;have WW:=Kx.ext mz;have Am:=SP.ext mz;have lQq:=Gz.ext mz;have jQo:=(YU.ext pi).mod aT nopr;have jQp:=jQo.ext mz;have hd:=Ext.drew KX;have lQr:=mz.size;have lQs:=aT.size;have lQt:=Jl.size;have lQu:=sr.size;have n15A:¬Qi s.A Ka.heap.size:=λhi=>by have:=hhA _ hi;omega
     refine XJ Qa (Mod (Qi s.A) KX) 11 [(true,0),(true,1),(true,2),(true,3),(true,4),(true,5),(true,6),(true,7),(false,8),(false,9),(true,10)] (by kernel_rfl) (Mod.of_ext _ hd) ?_;refine Xl (vs:=s.k.cells) rfl (λw' Qb j u hj=>by rw[(Am.mod Qb nbA).cell];exact hj) ?_;refine Xl (vs:=b.cells) rfl (λw' Qb j u hj=>by rw[(pf.mod Qb n15A).cell];exact hj) ?_;refine QL (v:=.int .i64 ((s.ln+1:Nat):Int)) (λw' Qb=>by rw[(WW.blk.mod Qb nprA).cell];rfl) ?_
     let zn:SeV:=⟨⟨s.o,V5 s.o d,false,s.ln+1⟩,s.k,b⟩
     refine XE Qa [zn.cells] rfl rfl rfl rfl rfl ⟨rfl,rfl,⟨⟩⟩ rfl (λcs hh=>by simp only[QJ] at hh;subst hh;rfl) rfl (by decide) (by decide) ?_;intro aU kt SR vK;have pm:=hd.trans kt;refine⟨Mod.of_ext _ pm,?_⟩;have jQq:Sl aU 6 (some ⟨KX.drew.heap.size,0,none⟩) 1 1 zn.cells:=Sl.own (sz:=6) (n:=1) vK (QE _) (by decide) (by simp[SeV.cells]);refine JE Qa rfl rfl rfl rfl rfl (by decide) rfl rfl ⟨_,rfl⟩ rfl rfl (jQp.ext pm) jQq (fQE zn) (by unfold maxLen;omega) (by show(s.z.length+1)*80<=_;omega) (WW.ext pm).top ?_;intro A' c' Yo An Ao Aq;have po:Mod (Qi s.A) KX Yo:=(Mod.of_ext (Qi s.A) pm).trans An (λi hi=>.inl hi);refine⟨po,?_⟩;have n14A:¬Qi s.A Za.heap.size:=λhi=>by have:=hhA _ hi;omega
     refine Qs (jQn.mod po n14A) rfl ?_;refine Qx (Am.mod po nbA) rfl (sc rfl) (λgr vL _ ss=>?_);have iG:Mod (·=w.heap.size) Yo gr:=mQj vL rfl;have jQr:Mod (Z5 p s.m s.A w.heap.size) KX gr:=(po.mono (S':=Z5 p s.m s.A w.heap.size) (λi hi=>.inl (.inr (.inl hi)))).trans iG (λi hi=>.inl (.inr (.inr hi)));have SS:=po.size;have cO:Rr w0 Yo base p {s.m with T:=λi=>m.T i∨Qi A' i∨i=w.heap.size} ⟨v.d+s.z.length+1,n,s.ln+1,n::v.rd,s.g⟩:=WW.modT po wX nj Ix (λi hi=>by
       rcases hi with hi | hi | hi
       ·exact .inl (by rw[hI.tt];exact .inl hi)
       ·rcases Aq.rows i hi with h1 | h1
        ·exact .inl (by rw[hI.tt];exact .inr (.inl h1))
        ·exact .inr (by have:=pm.size;omega)
       ·exact .inl (by rw[hI.tt];exact .inr (.inr hi))) (λi hi=>by
       rcases hi with hi | hi | hi
       ·have:=wI i hi;omega
       ·exact(Ao.rows i hi).2
       ·have:=Am.lt;omega)
     have dV:Rr w0 gr base p {s.m with T:=λi=>m.T i∨Qi A' i∨i=w.heap.size} ⟨v.d+s.z.length+1,n,s.ln+1,n::v.rd,s.g⟩:=cO.modT iG (λi hi=>.inr (.inr hi)) (λi hi=>by subst hi;exact nbk) (λi hi=>by have:=h.e0.size;omega) (λi hi=>.inl hi) (λi hi=>Vy (cO.tt i hi) iG.size);refine XK dV.blk (show 8<11 by decide) (λao Ar pq=>?_);have iH:Rr w0 ao base p {s.m with T:=λi=>m.T i∨Qi A' i∨i=w.heap.size} ⟨v.d+s.z.length+1,n,s.ln+1,n::v.rd,{s.g with fr:=true}⟩:=dV.put Ar pq rfl rfl rfl (λe=>by cases e);have aQi:Mod (Z5 p s.m s.A w.heap.size) w9 KX:=((Mod.of_ext _ pi).trans (aT.mono (S':=Z5 p s.m s.A w.heap.size) (λi hi=>.inl (.inl (.inl hi)))) (λi hi=>.inl hi)).trans (Mod.of_ext _ mz) (λi hi=>.inl hi);have aQj:Mod (Z5 p s.m s.A w.heap.size) KX ao:=jQr.trans Ar (λi hi=>.inl (.inl (.inl hi)));have aQk:Mod (Z5 p s.m s.A w.heap.size) w7 ao:=(dU.trans aQi (λi hi=>.inl hi)).trans aQj (λi hi=>.inl hi);have aQl:Moved w7 s.A A':=Aq.back (by have:=dU.size;have:=aQi.size;have:=pm.size;omega);have lQ5:(λi=>m.T i∨Qi A' i∨i=w.heap.size)=(λi=>m.T i∨Qi A' i∨i=w.heap.size):=rfl
     let s':LS:=⟨a,Js s.o d,s.z++ [zn],{s.m with T:=λi=>m.T i∨Qi A' i∨i=w.heap.size},{s.g with fr:=true},s.ln+1,s.at_+l.length+1,ls,A',c'⟩
     have kp:∀{x:DV} {o:BF},DgO w7 (TS p s.m) p.nm.length x o->DgO ao (TS p s'.m) p.nm.length x o:=λhx=>hI.kp (s':=s') aQk rfl aQl (Moved.refl _ _) (Moved.refl _ _) hx
     have wY:(s.z++ [zn]).length=s.z.length+1:=by simp
     have kQH:∀i,TS p s.m i->i<XR.heap.size:=λi hi=>by
      have:=h9.hiT i hi;omega
     have fresh:∀(x:DV) (ox:BF),(∀i,Qi x.A i->XR.heap.size<=i)->SB Za x.A x.n x.c x.nd->Set1 p.nm.length x.nd x.r ox->DgO ao (TS p s'.m) p.nm.length x ox:=λx ox hr hx hs=>by
      have e1:DgO KX (TS p s.m) p.nm.length x ox:=⟨hx.ext SQ,hs,λad e _ hh=>by have:=hr _ ⟨ad,e,rfl⟩;have:=kQH _ hh;omega⟩
      exact e1.step (aQj.mono (λi hi=>.inl (hI.sub i hi))) (λi hi=>by
       rcases hi with hi | hi
       ·exact .inl (.inl hi)
       ·rcases hi with hi | hi | hi
        ·exact .inl (.inr (by rw[hI.tt];exact .inl hi))
        ·rcases Aq.rows i hi with h1 | h1
         ·exact .inl (.inr (by rw[hI.tt];exact .inr (.inl h1)))
         ·exact .inr (by have:=pm.size;omega)
        ·exact .inl (.inr (by rw[hI.tt];exact .inr (.inr hi))))
     refine⟨s',?_,?_,?_⟩
     ·show Has _ _;have e:(((s.z++ [zn]).length:Nat):Int)=((s.z.length+1:Nat):Int):=by rw[wY]
      simp only[s',wY];rfl
     ·refine hI.go (s':=s') iU aQk ?_ rfl aQl (Moved.refl _ _) (Moved.refl _ _) ?_ ?_ ?_ ?_ ?_ KG rfl ?_ ?_ rfl
      ·show Rr w0 ao base p _ ⟨v.d+(s.z++ [zn]).length,n,s.ln+1,n::v.rd,{s.g with fr:=true}⟩;rw[wY];exact iH
      ·exact ss.mod Ar npr
      ·exact fresh a _ wE jQj has
      ·show Own ao base Wa 6 A' (s.z++ [zn]).length c' (VJ (s.z++ [zn]));rw[wY,lJ];exact(Ao.mod iG (λi hi e=>by subst e;exact(Am.mod po nbA).apart Ao (by decide) hi)).mod Ar (λi hi e=>by subst e;have:=(Ao.rows _ hi).1;have:=h.rb;omega)
      ·intro z hz;simp only[s',XB,QJ] at hz;rcases hz with hz | rfl
       ·exact kp (hI.zx z hz)
       ·exact kp hI.kd
      ·intro z hz;simp only[s',XB,QJ] at hz;rcases hz with hz | rfl
       ·exact kp (hI.zy z hz)
       ·exact fresh b _ ni jQk wU
      ·have gq:¬v.d+(s.z.reverse.map (·.s)).length=64:=by simpa using pj
       rw[Er XZ,he] at QT;simp only[if_neg gq] at QT;rw[<-QT];simp[s',zn]
      ·show v.d+(s.z++ [zn]).length<=64;rw[wY];omega
     ·show ls.length<(l::ls).length;simp
    have Jf:v.d+(s.z.reverse.map (·.s)).length=v.d+s.z.length:=by simp
    have iF:∀x∈KS l,x<256:=λx hx=>fa x (ay hx)
    have iT:(KS l).length<=1000000000000:=by unfold KS;rw[Y1];omega
    by_cases P2:Jt l=oF/\32∈l
    ·have XZ:=fQa P2.1 P2.2;rw[Qe P2.2];refine Xy (by rw[P2.1];decide) ?_;refine X7 (by rw[P2.1];rfl) ?_;refine X7 (m3.2 P2.2) ?_;refine XI (fQs (KS l) w9 hP h9 iF iT) ?_ ?_
     rotate_left
     ·rintro ch QG ⟨e,he,rfl,Zw⟩;refine Xd ⟨e,n,((s.ln+1:Nat):Int)⟩ _ QG ?_ rfl (Mod.of_ext _ Zw);rw[<-QT,za XZ];have hi:lK p f n v.rd (KS l) (s.ln+1) (v.d+(s.z.reverse.map (·.s)).length) s.o s.g= .error ⟨e,n,((s.ln+1:Nat):Int)⟩:=by
       unfold lK;rw[show cA (Ja (p.fs.map (·.1))) (n::v.rd) (KS l)= .error e from he]
      rw[hi]
     rintro _ QG ⟨n',he,rfl,Zw⟩;have he:cA (Ja (p.fs.map (·.1))) (n::v.rd) (KS l)= .ok n':=he;have XH:=h9.ext Zw;refine XI (ON QG XH YF) ?_ ?_
     rotate_left
     ·rintro ch QD ⟨gq,rfl,Jx⟩;refine Xd ⟨2,n,((s.ln+1:Nat):Int)⟩ _ QD ?_ rfl (Mod.of_ext _ (Zw.trans Jx));have gq:v.d+(s.z.reverse.map (·.s)).length=64:=by simpa using gq
      rw[<-QT,za XZ];have hi:lK p f n v.rd (KS l) (s.ln+1) (v.d+(s.z.reverse.map (·.s)).length) s.o s.g= .error ⟨2,n,((s.ln+1:Nat):Int)⟩:=by
       unfold lK;rw[he];simp only[Qe gq]
      rw[hi]
     rintro _ QD ⟨pj,ZH,ko⟩;have pj:¬v.d+s.z.length=64:=pj;have gq:¬v.d+(s.z.reverse.map (·.s)).length=64:=by simpa using pj
     have ST:=(aS.ext Zw).mod ko npr;refine Qs ST rfl ?_;obtain⟨sY,tn,wZ⟩:=Eu he;have Kb:n'<p.fs.length:=by have:=jF wZ;simpa using this
     have jQs:=(cN.ext Zw).keep ko (λi hi=>.inl (.inl (.inl hi)));have gL:∀R,aa p.nm p.fs f (n::v.rd) (v.d+s.z.length+1) n' s.o s.g=R->lK p f n v.rd (KS l) (s.ln+1) (v.d+(s.z.reverse.map (·.s)).length) s.o s.g=R:=λR hR=>by
      unfold lK;rw[he];simp only[if_neg gq];rw[Jf];exact hR
     have Iy:Mod (Z5 p s.m s.A w.heap.size) w9 QD:=(Mod.of_ext _ Zw).trans (ko.mono (S':=Z5 p s.m s.A w.heap.size) (λi hi=>.inl (.inl (.inl hi)))) (λi hi=>.inl hi);refine XI (ih s.m ⟨v.d+s.z.length+1,n,s.ln+1,n::v.rd,s.g⟩ n' s.k s.o QD ZH jQs Kb sY (by show v.d+s.z.length+1<=64;omega) (by show 65<=f+(v.d+s.z.length+1);omega)) ?_ ?_
     rotate_left
     ·rintro ch Q5 ⟨q,hq,rfl,Yp⟩;refine Xd q _ Q5 ?_ rfl (Iy.trans Yp (λi hi=>.inl (.inl hi)));rw[<-QT,za XZ,gL _ hq]
     rintro _ Q5 ⟨g',Vh,m',fm,XS,Yp,jQt,jQu⟩;refine Qp XS.blk rfl ?_;refine Qm ((v.d+s.z.length:Nat):Int) (by show((v.d+s.z.length+1:Nat):Int)-1=_;omega) (by omega) ?_;refine XK XS.blk (show 4<11 by decide) (λXR aT KJ=>?_);have Kx:Rr w0 XR base p m' ⟨v.d+s.z.length,n,s.ln+1,n::v.rd,g'⟩:=XS.put aT KJ rfl rfl rfl XS.nf;refine XK Kx.blk (show 8<11 by decide) (λZa su JN=>?_);have Vg:Rr w0 Za base p m' ⟨v.d+s.z.length,n,s.ln+1,n::v.rd,{g' with fr:=true}⟩:=Kx.put su JN rfl rfl rfl (λe=>by cases e);have GC:Mod (·=p.r) Q5 Za:=aT.trans su (λi hi=>.inl hi);have kQI:Mod (Z5 p s.m s.A w.heap.size) w9 Za:=(Iy.trans Yp (λi hi=>.inl (.inl hi))).trans GC (λi hi=>.inl (.inl (.inl hi)));have aQm:Mod (Z5 p s.m s.A w.heap.size) w7 Za:=dU.trans kQI (λi hi=>.inl hi);have hzm:=Iy.size;have Ku:Moved w7 s.m.OA m'.OA:=jQt.back (by omega);have cP:Moved w7 s.m.BA m'.BA:=jQu.back (by omega)
     let s':LS:=⟨s.k,s.o,s.z,m',{g' with fr:=true},s.ln+1,s.at_+l.length+1,ls,s.A,s.c⟩
     have YT:s'.m.T=λi=>m.T i∨Qi s'.A i∨i=w.heap.size:=by show m'.T=_;rw[fm,hI.tt]
     have kp:∀{x:DV} {o:BF},DgO w7 (TS p s.m) p.nm.length x o->DgO Za (TS p s'.m) p.nm.length x o:=λhx=>hI.kp (s':=s') aQm YT (Moved.refl _ _) Ku cP hx
     have jQv:Own Za base Wa 6 s.A s.z.length s.c (VJ s.z):=((((YU.ext Zw).mod ko nopr).mod Yp nj).mod GC nopr)
     have jQw:=(ST.mod Yp nbk).mod GC npr;refine⟨s',rfl,?_,?_⟩
     ·refine hI.go (s':=s') iU aQm Vg YT (Moved.refl _ _) Ku cP jQw (kp hI.kd) jQv (λz hz=>kp (hI.zx z hz)) (λz hz=>kp (hI.zy z hz)) KG rfl ?_ YF rfl;rw[za XZ,gL _ Vh] at QT;exact QT
     ·show ls.length<(l::ls).length;simp
    by_cases P3:Jt l=rA/\32∈l
    ·have XZ:=fQb P3.1 P3.2;rw[Qe P3.2];refine Xy (by rw[P3.1];decide) ?_;refine Xy (by rw[P3.1];decide) ?_;refine X7 (by rw[P3.1];rfl) ?_;refine X7 (m3.2 P3.2) ?_;refine Zn (λhz=>?_) (λhz=>?_)
     ·have kn:s.z=[]:=Y0 (by omega);refine XI (WJ 72 w9 h9) (λ_ _ hf=>hf.elim) ?_;rintro ch QG ⟨rfl,Zw⟩;refine Xd ⟨72,n,((s.ln+1:Nat):Int)⟩ _ QG ?_ rfl (Mod.of_ext _ Zw);rw[<-QT,Es XZ,kn]<;>rfl
     obtain⟨z',x,KZ⟩:∃z' x,s.z=z'++ [x]:=by
      rcases tF s.z with h0 | ⟨z',x,h0⟩
      ·exact Xm (by rw[h0];rfl) hz
      ·exact⟨z',x,by rw[h0];simp⟩
     have tf:s.z.length=z'.length+1:=by rw[KZ];simp
     have kO:s.z.reverse.map (·.s)=x.s::z'.reverse.map (·.s):=by rw[KZ];simp
     obtain⟨oa,Vj,_⟩:=YU.sl.at_ (by omega:0<s.z.length);have np:Qi (some oa)=Qi s.A:=by rw[Vj]
     have vM:Own w9 base Wa 6 (some oa) s.z.length s.c (VJ z'++x.cells):=by rw[<-Vj,<-lJ,<-KZ];exact YU
     have em:x∈s.z:=by rw[KZ];simp
     have VV:=ph (hI.zx x em);have Xr:=ph (hI.zy x em);have Je:=zb z';have Cm:∀i,TS p s.m i->i<w9.heap.size:=h9.hiT
     refine Qm ((z'.length:Nat):Int) (by omega) (by omega) ?_;rw[Vj];refine JC (j:=z'.length) (by omega) ?_;rw[show z'.length*6=(VJ z').length from Je.symm];refine Xy (λe=>by have e2:l=J0:=JD fa (by decide) e;have:=P3.2;rw[e2] at this;exact Xm this (by decide)) ?_;have xa:decide (Qf l=(⟨#[35,101,108,115,101]⟩:ByteArray))=false:=Zf (λe=>by have e2:l=Y6:=JD fa (by decide) e;have:=P3.2;rw[e2] at this;exact Xm this (by decide));refine XI (OT s.m ⟨v.d+s.z.length,n,s.ln+1,n::v.rd,s.g⟩ oa s.z.length s.c (VJ z') x (decide (Qf l=(⟨#[35,101,108,115,101]⟩:ByteArray))) (KS l) w9 hP h9 vM (by rw[np];exact wX) (by rw[Je];omega) Xr iF iT gp) ?_ ?_
     rotate_left
     ·rintro ch QG ⟨e,he,rfl,Z7⟩;refine Xd ⟨e,n,((s.ln+1:Nat):Int)⟩ _ QG ?_ rfl (Z7.mono (λi hi=>.inl (.inr (.inl (by rw[<-np];exact hi)))));rw[xa] at he;rw[<-QT,Es XZ,kO];rcases he with⟨h1,rfl⟩ | ⟨h1,_,h3⟩
      ·simp only[h1,if_true]
      ·simp only[h1,h3];rfl
     rintro u QG ⟨mY,Z7,W3⟩;rw[xa,if_neg (by decide)] at W3;obtain⟨o',b,d',d4,rfl,pr,wU,ni,As,gK,cZ,GD⟩:=W3
     let zn:SeV:=⟨{x.s with re:=V5 x.s.re o'},x.x,d'⟩
     let nk:DV:=b
     let no:BF:=Js x.s.re o'
     rw[np] at Z7;have GE:=aS.mod Z7 nbA;have XH:Rr w0 QG base p s.m ⟨v.d+s.z.length,n,s.ln+1,n::v.rd,s.g⟩:=h9.modT Z7 wX nj Ix (λi hi=>.inl hi) (λi hi=>Vy (h9.tt i hi) Z7.size);refine Qx GE rfl (sc rfl) (λQD vN _ ZU=>?_);have ZQ:Mod (·=w.heap.size) QG QD:=mQj vN rfl;have ZH:Rr w0 QD base p s.m ⟨v.d+s.z.length,n,s.ln+1,n::v.rd,s.g⟩:=XH.modT ZQ (λi hi=>by rw[hI.tt];exact .inr (.inr hi)) (λi hi=>by subst hi;exact nbk) (λi hi=>by have:=h.e0.size;omega) (λi hi=>.inl hi) (λi hi=>Vy (XH.tt i hi) ZQ.size);refine XK ZH.blk (show 8<11 by decide) (λQ5 Yp KV=>?_);have XS:Rr w0 Q5 base p s.m ⟨v.d+s.z.length,n,s.ln+1,n::v.rd,{s.g with fr:=true}⟩:=ZH.put Yp KV rfl rfl rfl (λe=>by cases e);have xb:Mod (Z5 p s.m s.A w.heap.size) QG Q5:=(ZQ.mono (S':=Z5 p s.m s.A w.heap.size) (λi hi=>.inl (.inr (.inr hi)))).trans Yp (λi hi=>.inl (.inl (.inl hi)));have xd:Mod (Z5 p s.m s.A w.heap.size) w9 Q5:=(Z7.mono (S':=Z5 p s.m s.A w.heap.size) (λi hi=>.inl (.inr (.inl hi)))).trans xb (λi hi=>.inl hi);have nt:Mod (Z5 p s.m s.A w.heap.size) w7 Q5:=dU.trans xd (λi hi=>.inl hi);have kP:(z'++ [zn]).length=s.z.length:=by rw[tf];simp
     let s':LS:=⟨nk,no,z'++ [zn],s.m,{s.g with fr:=true},s.ln+1,s.at_+l.length+1,ls,s.A,s.c⟩
     have kp:∀{x:DV} {o:BF},DgO w7 (TS p s.m) p.nm.length x o->DgO Q5 (TS p s'.m) p.nm.length x o:=λhx=>hI.kp (s':=s') nt hI.tt (Moved.refl _ _) (Moved.refl _ _) (Moved.refl _ _) hx
     have fresh:∀(x:DV) (ox:BF),(∀i,Qi x.A i->w9.heap.size<=i)->SB QG x.A x.n x.c x.nd->Set1 p.nm.length x.nd x.r ox->DgO Q5 (TS p s'.m) p.nm.length x ox:=λx ox hr hx hs=>by
      have e1:DgO QG (TS p s.m) p.nm.length x ox:=⟨hx,hs,λad e _ hh=>by have:=hr _ ⟨ad,e,rfl⟩;have:=Cm _ hh;omega⟩
      exact e1.step (xb.mono (λi hi=>.inl (hI.sub i hi))) (λi hi=>.inl hi)
     refine⟨s',?_,?_,?_⟩
     ·show Has _ _;simp only[s',kP];rw[Vj]<;>rfl
     ·refine hI.go (s':=s') iU nt ?_ hI.tt (Moved.refl _ _) (Moved.refl _ _) (Moved.refl _ _) ?_ ?_ ?_ ?_ ?_ KG rfl ?_ ?_ rfl
      ·show Rr w0 Q5 base p _ ⟨v.d+(z'++ [zn]).length,n,s.ln+1,n::v.rd,{s.g with fr:=true}⟩;rw[kP];exact XS
      ·exact ZU.mod Yp npr
      ·exact fresh b _ ni pr wU
      ·show Own Q5 base Wa 6 s.A (z'++ [zn]).length s.c (VJ (z'++ [zn]));rw[kP,lJ];have GF:Own QG base Wa 6 s.A s.z.length s.c (VJ z'++zn.cells):=by rw[Vj];exact GD
       exact(GF.mod ZQ (λi hi e=>by subst e;exact nbA hi)).mod Yp nopr
      ·intro z hz;simp only[s',XB,QJ] at hz;rcases hz with hz | rfl
       ·exact kp (hI.zx z (by rw[KZ];simp[hz]))
       ·exact kp (hI.zx x em)
      ·intro z hz;simp only[s',XB,QJ] at hz;rcases hz with hz | rfl
       ·exact kp (hI.zy z (by rw[KZ];simp[hz]))
       ·exact fresh d' _ cZ As gK
      ·rw[Es XZ,kO] at QT;simp only[mY,d4] at QT;rw[<-QT];simp[s',zn,no,mY]
      ·show v.d+(z'++ [zn]).length<=64;rw[kP];omega
     ·show ls.length<(l::ls).length;simp
    have kQJ:=fQc P1 P2 P3;by_cases mA:l=Y6
    ·have XZ:Jb l= .els:=by rw[mA]<;>rfl
     have Xi:32∉l:=by rw[mA];decide
     have Jn:Jt l=Y6:=by rw[Ef Xi,mA]
     rw[if_neg Xi];refine Xy (by rw[Jn];decide) ?_;refine Xy (by rw[Jn];decide) ?_;refine Xy (by rw[Jn];decide) ?_;refine X7 (by rw[mA];rfl) ?_;refine Zn (λhz=>?_) (λhz=>?_)
     ·have kn:s.z=[]:=Y0 (by omega);refine XI (WJ 72 w9 h9) (λ_ _ hf=>hf.elim) ?_;rintro ch QG ⟨rfl,Zw⟩;refine Xd ⟨72,n,((s.ln+1:Nat):Int)⟩ _ QG ?_ rfl (Mod.of_ext _ Zw);rw[<-QT,Et XZ,kn]<;>rfl
     obtain⟨z',x,KZ⟩:∃z' x,s.z=z'++ [x]:=by
      rcases tF s.z with h0 | ⟨z',x,h0⟩
      ·exact Xm (by rw[h0];rfl) hz
      ·exact⟨z',x,by rw[h0];simp⟩
     have tf:s.z.length=z'.length+1:=by rw[KZ];simp
     have kO:s.z.reverse.map (·.s)=x.s::z'.reverse.map (·.s):=by rw[KZ];simp
     obtain⟨oa,Vj,_⟩:=YU.sl.at_ (by omega:0<s.z.length);have np:Qi (some oa)=Qi s.A:=by rw[Vj]
     have vM:Own w9 base Wa 6 (some oa) s.z.length s.c (VJ z'++x.cells):=by rw[<-Vj,<-lJ,<-KZ];exact YU
     have em:x∈s.z:=by rw[KZ];simp
     have VV:=ph (hI.zx x em);have Xr:=ph (hI.zy x em);have Je:=zb z';have Cm:∀i,TS p s.m i->i<w9.heap.size:=h9.hiT
     refine Qm ((z'.length:Nat):Int) (by omega) (by omega) ?_;rw[Vj];refine JC (j:=z'.length) (by omega) ?_;rw[show z'.length*6=(VJ z').length from Je.symm];refine Xy (by rw[mA];decide) ?_;have xa:decide (Qf l=(⟨#[35,101,108,115,101]⟩:ByteArray))=true:=XX (by rw[mA];rfl);refine XI (OT s.m ⟨v.d+s.z.length,n,s.ln+1,n::v.rd,s.g⟩ oa s.z.length s.c (VJ z') x (decide (Qf l=(⟨#[35,101,108,115,101]⟩:ByteArray))) [] w9 hP h9 vM (by rw[np];exact wX) (by rw[Je];omega) Xr (λx hx=>by cases hx) (by decide) gp) ?_ ?_
     rotate_left
     ·rintro ch QG ⟨e,he,rfl,Z7⟩;refine Xd ⟨e,n,((s.ln+1:Nat):Int)⟩ _ QG ?_ rfl (Z7.mono (λi hi=>.inl (.inr (.inl (by rw[<-np];exact hi)))));rw[xa] at he;rw[<-QT,Et XZ,kO];rcases he with⟨h1,rfl⟩ | ⟨_,h2,_⟩
      ·simp only[h1,if_true]
      ·cases h2
     rintro u QG ⟨mY,Z7,W3⟩;rw[xa,Qe rfl] at W3;obtain⟨rfl,GD⟩:=W3
     let zn:SeV:=⟨{x.s with ot:=true},x.x,x.y⟩
     let nk:DV:=x.y
     let no:BF:=x.s.re
     rw[np] at Z7;have GE:=aS.mod Z7 nbA;have XH:Rr w0 QG base p s.m ⟨v.d+s.z.length,n,s.ln+1,n::v.rd,s.g⟩:=h9.modT Z7 wX nj Ix (λi hi=>.inl hi) (λi hi=>Vy (h9.tt i hi) Z7.size);refine Qx GE rfl (sc rfl) (λQD vN _ ZU=>?_);have ZQ:Mod (·=w.heap.size) QG QD:=mQj vN rfl;have ZH:Rr w0 QD base p s.m ⟨v.d+s.z.length,n,s.ln+1,n::v.rd,s.g⟩:=XH.modT ZQ (λi hi=>by rw[hI.tt];exact .inr (.inr hi)) (λi hi=>by subst hi;exact nbk) (λi hi=>by have:=h.e0.size;omega) (λi hi=>.inl hi) (λi hi=>Vy (XH.tt i hi) ZQ.size);refine XK ZH.blk (show 8<11 by decide) (λQ5 Yp KV=>?_);have XS:Rr w0 Q5 base p s.m ⟨v.d+s.z.length,n,s.ln+1,n::v.rd,{s.g with fr:=true}⟩:=ZH.put Yp KV rfl rfl rfl (λe=>by cases e);have xb:Mod (Z5 p s.m s.A w.heap.size) QG Q5:=(ZQ.mono (S':=Z5 p s.m s.A w.heap.size) (λi hi=>.inl (.inr (.inr hi)))).trans Yp (λi hi=>.inl (.inl (.inl hi)));have xd:Mod (Z5 p s.m s.A w.heap.size) w9 Q5:=(Z7.mono (S':=Z5 p s.m s.A w.heap.size) (λi hi=>.inl (.inr (.inl hi)))).trans xb (λi hi=>.inl hi);have nt:Mod (Z5 p s.m s.A w.heap.size) w7 Q5:=dU.trans xd (λi hi=>.inl hi);have kP:(z'++ [zn]).length=s.z.length:=by rw[tf];simp
     let s':LS:=⟨nk,no,z'++ [zn],s.m,{s.g with fr:=true},s.ln+1,s.at_+l.length+1,ls,s.A,s.c⟩
     have kp:∀{x:DV} {o:BF},DgO w7 (TS p s.m) p.nm.length x o->DgO Q5 (TS p s'.m) p.nm.length x o:=λhx=>hI.kp (s':=s') nt hI.tt (Moved.refl _ _) (Moved.refl _ _) (Moved.refl _ _) hx
     have fresh:∀(x:DV) (ox:BF),(∀i,Qi x.A i->w9.heap.size<=i)->SB QG x.A x.n x.c x.nd->Set1 p.nm.length x.nd x.r ox->DgO Q5 (TS p s'.m) p.nm.length x ox:=λx ox hr hx hs=>by
      have e1:DgO QG (TS p s.m) p.nm.length x ox:=⟨hx,hs,λad e _ hh=>by have:=hr _ ⟨ad,e,rfl⟩;have:=Cm _ hh;omega⟩
      exact e1.step (xb.mono (λi hi=>.inl (hI.sub i hi))) (λi hi=>.inl hi)
     refine⟨s',?_,?_,?_⟩
     ·show Has _ _;simp only[s',kP];rw[Vj]<;>rfl
     ·refine hI.go (s':=s') iU nt ?_ hI.tt (Moved.refl _ _) (Moved.refl _ _) (Moved.refl _ _) ?_ ?_ ?_ ?_ ?_ KG rfl ?_ ?_ rfl
      ·show Rr w0 Q5 base p _ ⟨v.d+(z'++ [zn]).length,n,s.ln+1,n::v.rd,{s.g with fr:=true}⟩;rw[kP];exact XS
      ·exact ZU.mod Yp npr
      ·exact kp (hI.zy x em)
      ·show Own Q5 base Wa 6 s.A (z'++ [zn]).length s.c (VJ (z'++ [zn]));rw[kP,lJ];have GF:Own QG base Wa 6 s.A s.z.length s.c (VJ z'++zn.cells):=by rw[Vj];exact GD
       exact(GF.mod ZQ (λi hi e=>by subst e;exact nbA hi)).mod Yp nopr
      ·intro z hz;simp only[s',XB,QJ] at hz;rcases hz with hz | rfl
       ·exact kp (hI.zx z (by rw[KZ];simp[hz]))
       ·exact kp (hI.zx x em)
      ·intro z hz;simp only[s',XB,QJ] at hz;rcases hz with hz | rfl
       ·exact kp (hI.zy z (by rw[KZ];simp[hz]))
       ·exact kp (hI.zy x em)
      ·rw[Et XZ,kO] at QT;simp only[mY] at QT;rw[<-QT];simp[s',zn,no]
      ·show v.d+(z'++ [zn]).length<=64;rw[kP];omega
     ·show ls.length<(l::ls).length;simp
    by_cases mB:l=J0
    ·have XZ:Jb l= .en:=by rw[mB]<;>rfl
     have Xi:32∉l:=by rw[mB];decide
     have Jn:Jt l=J0:=by rw[Ef Xi,mB]
     refine Xy (by rw[Jn];decide) ?_;refine Xy (by rw[Jn];decide) ?_;refine Xy (by rw[Jn];decide) ?_;refine Xy (by rw[mB];decide) ?_;refine X7 (by rw[mB];rfl) ?_;refine Zn (λhz=>?_) (λhz=>?_)
     ·have kn:s.z=[]:=Y0 (by omega);refine XI (WJ 72 w9 h9) (λ_ _ hf=>hf.elim) ?_;rintro ch QG ⟨rfl,Zw⟩;refine Xd ⟨72,n,((s.ln+1:Nat):Int)⟩ _ QG ?_ rfl (Mod.of_ext _ Zw);rw[<-QT,OU XZ,kn]<;>rfl
     obtain⟨z',x,KZ⟩:∃z' x,s.z=z'++ [x]:=by
      rcases tF s.z with h0 | ⟨z',x,h0⟩
      ·exact Xm (by rw[h0];rfl) hz
      ·exact⟨z',x,by rw[h0];simp⟩
     have tf:s.z.length=z'.length+1:=by rw[KZ];simp
     have kO:s.z.reverse.map (·.s)=x.s::z'.reverse.map (·.s):=by rw[KZ];simp
     obtain⟨oa,Vj,_⟩:=YU.sl.at_ (by omega:0<s.z.length);have np:Qi (some oa)=Qi s.A:=by rw[Vj]
     have vM:Own w9 base Wa 6 (some oa) s.z.length s.c (VJ z'++x.cells):=by rw[<-Vj,<-lJ,<-KZ];exact YU
     have em:x∈s.z:=by rw[KZ];simp
     have VV:=ph (hI.zx x em);have Xr:=ph (hI.zy x em);have Je:=zb z';have Cm:∀i,TS p s.m i->i<w9.heap.size:=h9.hiT
     refine Qm ((z'.length:Nat):Int) (by omega) (by omega) ?_;rw[Vj];refine JC (j:=z'.length) (by omega) ?_;rw[show z'.length*6=(VJ z').length from Je.symm];refine X7 (by rw[mB];rfl) ?_;refine J4 (vs:=x.x.cells) rfl (λi u hi=>?_) ?_
     ·show w9.cell? (((oa.add (VJ z').length).add 0).add i)=some u;rw[add_add];refine uI vM (by omega) (uJ ?_)
      match i,hi with
      | 0,hi=>exact hi
      | 1,hi=>exact hi
      | _+2,hi=>exact nomatch hi
     refine Qx aS rfl (sc rfl) (λQG ku _ J9=>?_);have Zk:Mod (·=w.heap.size) w9 QG:=mQj ku rfl;have XH:Rr w0 QG base p s.m ⟨v.d+s.z.length,n,s.ln+1,n::v.rd,s.g⟩:=h9.modT Zk (λi hi=>by rw[hI.tt];exact .inr (.inr hi)) (λi hi=>by subst hi;exact nbk) (λi hi=>by have:=h.e0.size;omega) (λi hi=>.inl hi) (λi hi=>Vy (h9.tt i hi) Zk.size);refine Qm ((z'.length:Nat):Int) (by omega) (by omega) ?_;refine ji (h:=z'.length) Qa rfl rfl rfl rfl rfl rfl (by have:=YU.sl.le;omega) ?_;refine Qp XH.blk rfl ?_;refine Qm ((v.d+z'.length:Nat):Int) (by show((v.d+s.z.length:Nat):Int)-1=_;omega) (by omega) ?_;refine XK XH.blk (show 4<11 by decide) (λQD ko ZU=>?_);have ZH:Rr w0 QD base p s.m ⟨v.d+z'.length,n,s.ln+1,n::v.rd,s.g⟩:=XH.put ko ZU rfl rfl rfl XH.nf;refine XK ZH.blk (show 8<11 by decide) (λQ5 Yp KV=>?_);have XS:Rr w0 Q5 base p s.m ⟨v.d+z'.length,n,s.ln+1,n::v.rd,{s.g with fr:=true}⟩:=ZH.put Yp KV rfl rfl rfl (λe=>by cases e);have GG:Mod (·=p.r) QG Q5:=ko.trans Yp (λi hi=>.inl hi);have xd:Mod (Z5 p s.m s.A w.heap.size) w9 Q5:=(Zk.mono (S':=Z5 p s.m s.A w.heap.size) (λi hi=>.inl (.inr (.inr hi)))).trans GG (λi hi=>.inl (.inl (.inl hi)));have nt:Mod (Z5 p s.m s.A w.heap.size) w7 Q5:=dU.trans xd (λi hi=>.inl hi)
     let s':LS:=⟨x.x,x.s.ou,z',s.m,{s.g with fr:=true},s.ln+1,s.at_+l.length+1,ls,s.A,s.c⟩
     have kp:∀{x:DV} {o:BF},DgO w7 (TS p s.m) p.nm.length x o->DgO Q5 (TS p s'.m) p.nm.length x o:=λhx=>hI.kp (s':=s') nt hI.tt (Moved.refl _ _) (Moved.refl _ _) (Moved.refl _ _) hx
     refine⟨s',?_,?_,?_⟩
     ·show Has _ _;simp only[s'];rw[Vj]<;>rfl
     ·refine hI.go (s':=s') iU nt XS hI.tt (Moved.refl _ _) (Moved.refl _ _) (Moved.refl _ _) (J9.mod GG npr) (kp (hI.zx x em)) ?_ (λz hz=>kp (hI.zx z (by rw[KZ];simp[show z∈z' from hz]))) (λz hz=>kp (hI.zy z (by rw[KZ];simp[show z∈z' from hz]))) KG rfl ?_ ?_ rfl
      ·have ht:=YU.take (k:=z'.length) (by omega);rw[KZ,lJ,List.take_left' (by rw[Je])] at ht;exact(ht.mod Zk (λi hi e=>by subst e;exact nbA hi)).mod GG nopr
      ·rw[OU XZ,kO] at QT;rw[<-QT]
      ·show v.d+z'.length<=64;omega
     ·show ls.length<(l::ls).length;simp
    have XZ:Jb l= .txt:=by rw[kQJ,if_neg mA,if_neg mB]
    have At:¬Qf l=(⟨#[35,101,108,115,101]⟩:ByteArray):=λe=>mA (JD fa (by decide) e)
    have Av:¬Qf l=(⟨#[35,101,110,100]⟩:ByteArray):=λe=>mB (JD fa (by decide) e)
    have mC:∀x∈Jt l,x<256:=λx hx=>fa x ((CI _).subset hx)
    by_cases q1:Jt l=lG
    ·refine X7 (by rw[q1];rfl) ?_;refine Xy (λe=>P1 ⟨q1,m3.1 e⟩) ?_;refine Xy (by rw[q1];decide) ?_;refine Xy (by rw[q1];decide) ?_;refine Xy At ?_;refine Xy Av ?_;have JO:=Ext.drew w9;refine nR Qa 7 (by kernel_rfl) ?_;refine Kf (v':=.string (Qf (l++ [10]))) ⟨by omega,by omega,by rw[XW];omega⟩ ?_ ?_
     ·rw[Vn];simp only[fy];rw[gS,show s.at_+l.length+1-s.at_=l.length+1 by omega,l5]
     refine Xl (vs:=s.k.cells) rfl (λw' Qb j u hj=>by subst Qb;rw[(aS.ext JO).cell];exact hj) ?_;have p7:=h9.ext JO;have p8:DgO w9.drew (RS p s.m) p.nm.length s.k s.o:=⟨cN.sb.ext JO,cN.st,λad e h0 hh=>cN.off ad e h0 (.inl hh)⟩
     refine XI (add_fn s.m ⟨v.d+s.z.length,n,s.ln+1,n::v.rd,s.g⟩ (l++ [10]) s.at_ s.k s.o w9.drew hP p7 p8 (λx hx=>by
      rcases XB.1 hx with hx | hx
      ·exact fa x hx
      ·simp only[QJ] at hx;omega) (by rw[Qy];simp;omega) (Lz _ _)) ?_ ?_
     rotate_left
     ·rintro ch QG ⟨hg,rfl,Zw⟩;refine Xd ⟨2,n,((s.ln+1:Nat):Int)⟩ _ QG ?_ rfl (Mod.of_ext _ (JO.trans Zw));rw[<-QT,lI XZ,show VH (l++ [10]) n s.at_ s.o s.g=none from hg]
     rintro _ QG ⟨g',Vh,m',fm,XH,Z7,pu,pv⟩;have p9:Mod (Z5 p s.m s.A w.heap.size) w9 QG:=(Mod.of_ext _ JO).trans Z7 (λi hi=>.inl (.inl hi));have gN:Mod (Z5 p s.m s.A w.heap.size) w7 QG:=dU.trans p9 (λi hi=>.inl hi);have xe:=JO.size;have Ku:Moved w7 s.m.OA m'.OA:=pu.back (by omega);have cP:Moved w7 s.m.BA m'.BA:=pv.back (by omega)
     let s':LS:=⟨s.k,s.o,s.z,m',g',s.ln+1,s.at_+l.length+1,ls,s.A,s.c⟩
     have YT:s'.m.T=λi=>m.T i∨Qi s'.A i∨i=w.heap.size:=by show m'.T=_;rw[fm,hI.tt]
     have kp:∀{x:DV} {o:BF},DgO w7 (TS p s.m) p.nm.length x o->DgO QG (TS p s'.m) p.nm.length x o:=λhx=>hI.kp (s':=s') gN YT (Moved.refl _ _) Ku cP hx
     refine⟨s',rfl,?_,?_⟩
     ·refine hI.go (s':=s') iU gN XH YT (Moved.refl _ _) Ku cP ((aS.ext JO).mod Z7 nbk) (kp hI.kd) ((YU.ext JO).mod Z7 nj) (λz hz=>kp (hI.zx z hz)) (λz hz=>kp (hI.zy z hz)) KG rfl ?_ YF rfl;rw[lI XZ,show VH (l++ [10]) n s.at_ s.o s.g=some g' from Vh] at QT;exact QT
     ·show ls.length<(l::ls).length;simp
    refine Xy (λe=>q1 (JD mC (by decide) e)) ?_;by_cases q2:Jt l=oF
    ·refine X7 (by rw[q2];rfl) ?_;refine Xy (λe=>P2 ⟨q2,m3.1 e⟩) ?_;refine Xy (by rw[q2];decide) ?_;refine Xy At ?_;refine Xy Av ?_;have JO:=Ext.drew w9;refine nR Qa 7 (by kernel_rfl) ?_;refine Kf (v':=.string (Qf (l++ [10]))) ⟨by omega,by omega,by rw[XW];omega⟩ ?_ ?_
     ·rw[Vn];simp only[fy];rw[gS,show s.at_+l.length+1-s.at_=l.length+1 by omega,l5]
     refine Xl (vs:=s.k.cells) rfl (λw' Qb j u hj=>by subst Qb;rw[(aS.ext JO).cell];exact hj) ?_;have p7:=h9.ext JO;have p8:DgO w9.drew (RS p s.m) p.nm.length s.k s.o:=⟨cN.sb.ext JO,cN.st,λad e h0 hh=>cN.off ad e h0 (.inl hh)⟩
     refine XI (add_fn s.m ⟨v.d+s.z.length,n,s.ln+1,n::v.rd,s.g⟩ (l++ [10]) s.at_ s.k s.o w9.drew hP p7 p8 (λx hx=>by
      rcases XB.1 hx with hx | hx
      ·exact fa x hx
      ·simp only[QJ] at hx;omega) (by rw[Qy];simp;omega) (Lz _ _)) ?_ ?_
     rotate_left
     ·rintro ch QG ⟨hg,rfl,Zw⟩;refine Xd ⟨2,n,((s.ln+1:Nat):Int)⟩ _ QG ?_ rfl (Mod.of_ext _ (JO.trans Zw));rw[<-QT,lI XZ,show VH (l++ [10]) n s.at_ s.o s.g=none from hg]
     rintro _ QG ⟨g',Vh,m',fm,XH,Z7,pu,pv⟩;have p9:Mod (Z5 p s.m s.A w.heap.size) w9 QG:=(Mod.of_ext _ JO).trans Z7 (λi hi=>.inl (.inl hi));have gN:Mod (Z5 p s.m s.A w.heap.size) w7 QG:=dU.trans p9 (λi hi=>.inl hi);have xe:=JO.size;have Ku:Moved w7 s.m.OA m'.OA:=pu.back (by omega);have cP:Moved w7 s.m.BA m'.BA:=pv.back (by omega)
     let s':LS:=⟨s.k,s.o,s.z,m',g',s.ln+1,s.at_+l.length+1,ls,s.A,s.c⟩
     have YT:s'.m.T=λi=>m.T i∨Qi s'.A i∨i=w.heap.size:=by show m'.T=_;rw[fm,hI.tt]
     have kp:∀{x:DV} {o:BF},DgO w7 (TS p s.m) p.nm.length x o->DgO QG (TS p s'.m) p.nm.length x o:=λhx=>hI.kp (s':=s') gN YT (Moved.refl _ _) Ku cP hx
     refine⟨s',rfl,?_,?_⟩
     ·refine hI.go (s':=s') iU gN XH YT (Moved.refl _ _) Ku cP ((aS.ext JO).mod Z7 nbk) (kp hI.kd) ((YU.ext JO).mod Z7 nj) (λz hz=>kp (hI.zx z hz)) (λz hz=>kp (hI.zy z hz)) KG rfl ?_ YF rfl;rw[lI XZ,show VH (l++ [10]) n s.at_ s.o s.g=some g' from Vh] at QT;exact QT
     ·show ls.length<(l::ls).length;simp
    refine Xy (λe=>q2 (JD mC (by decide) e)) ?_;by_cases q3:Jt l=rA
    ·refine X7 (by rw[q3];rfl) ?_;refine Xy (λe=>P3 ⟨q3,m3.1 e⟩) ?_;refine Xy At ?_;refine Xy Av ?_;have JO:=Ext.drew w9;refine nR Qa 7 (by kernel_rfl) ?_;refine Kf (v':=.string (Qf (l++ [10]))) ⟨by omega,by omega,by rw[XW];omega⟩ ?_ ?_
     ·rw[Vn];simp only[fy];rw[gS,show s.at_+l.length+1-s.at_=l.length+1 by omega,l5]
     refine Xl (vs:=s.k.cells) rfl (λw' Qb j u hj=>by subst Qb;rw[(aS.ext JO).cell];exact hj) ?_;have p7:=h9.ext JO;have p8:DgO w9.drew (RS p s.m) p.nm.length s.k s.o:=⟨cN.sb.ext JO,cN.st,λad e h0 hh=>cN.off ad e h0 (.inl hh)⟩
     refine XI (add_fn s.m ⟨v.d+s.z.length,n,s.ln+1,n::v.rd,s.g⟩ (l++ [10]) s.at_ s.k s.o w9.drew hP p7 p8 (λx hx=>by
      rcases XB.1 hx with hx | hx
      ·exact fa x hx
      ·simp only[QJ] at hx;omega) (by rw[Qy];simp;omega) (Lz _ _)) ?_ ?_
     rotate_left
     ·rintro ch QG ⟨hg,rfl,Zw⟩;refine Xd ⟨2,n,((s.ln+1:Nat):Int)⟩ _ QG ?_ rfl (Mod.of_ext _ (JO.trans Zw));rw[<-QT,lI XZ,show VH (l++ [10]) n s.at_ s.o s.g=none from hg]
     rintro _ QG ⟨g',Vh,m',fm,XH,Z7,pu,pv⟩;have p9:Mod (Z5 p s.m s.A w.heap.size) w9 QG:=(Mod.of_ext _ JO).trans Z7 (λi hi=>.inl (.inl hi));have gN:Mod (Z5 p s.m s.A w.heap.size) w7 QG:=dU.trans p9 (λi hi=>.inl hi);have xe:=JO.size;have Ku:Moved w7 s.m.OA m'.OA:=pu.back (by omega);have cP:Moved w7 s.m.BA m'.BA:=pv.back (by omega)
     let s':LS:=⟨s.k,s.o,s.z,m',g',s.ln+1,s.at_+l.length+1,ls,s.A,s.c⟩
     have YT:s'.m.T=λi=>m.T i∨Qi s'.A i∨i=w.heap.size:=by show m'.T=_;rw[fm,hI.tt]
     have kp:∀{x:DV} {o:BF},DgO w7 (TS p s.m) p.nm.length x o->DgO QG (TS p s'.m) p.nm.length x o:=λhx=>hI.kp (s':=s') gN YT (Moved.refl _ _) Ku cP hx
     refine⟨s',rfl,?_,?_⟩
     ·refine hI.go (s':=s') iU gN XH YT (Moved.refl _ _) Ku cP ((aS.ext JO).mod Z7 nbk) (kp hI.kd) ((YU.ext JO).mod Z7 nj) (λz hz=>kp (hI.zx z hz)) (λz hz=>kp (hI.zy z hz)) KG rfl ?_ YF rfl;rw[lI XZ,show VH (l++ [10]) n s.at_ s.o s.g=some g' from Vh] at QT;exact QT
     ·show ls.length<(l::ls).length;simp
    ·refine Xy (λe=>q3 (JD mC (by decide) e)) ?_;refine Xy At ?_;refine Xy Av ?_;have JO:=Ext.drew w9;refine nR Qa 7 (by kernel_rfl) ?_;refine Kf (v':=.string (Qf (l++ [10]))) ⟨by omega,by omega,by rw[XW];omega⟩ ?_ ?_
     ·rw[Vn];simp only[fy];rw[gS,show s.at_+l.length+1-s.at_=l.length+1 by omega,l5]
     refine Xl (vs:=s.k.cells) rfl (λw' Qb j u hj=>by subst Qb;rw[(aS.ext JO).cell];exact hj) ?_;have p7:=h9.ext JO;have p8:DgO w9.drew (RS p s.m) p.nm.length s.k s.o:=⟨cN.sb.ext JO,cN.st,λad e h0 hh=>cN.off ad e h0 (.inl hh)⟩
     refine XI (add_fn s.m ⟨v.d+s.z.length,n,s.ln+1,n::v.rd,s.g⟩ (l++ [10]) s.at_ s.k s.o w9.drew hP p7 p8 (λx hx=>by
      rcases XB.1 hx with hx | hx
      ·exact fa x hx
      ·simp only[QJ] at hx;omega) (by rw[Qy];simp;omega) (Lz _ _)) ?_ ?_
     rotate_left
     ·rintro ch QG ⟨hg,rfl,Zw⟩;refine Xd ⟨2,n,((s.ln+1:Nat):Int)⟩ _ QG ?_ rfl (Mod.of_ext _ (JO.trans Zw));rw[<-QT,lI XZ,show VH (l++ [10]) n s.at_ s.o s.g=none from hg]
     rintro _ QG ⟨g',Vh,m',fm,XH,Z7,pu,pv⟩;have p9:Mod (Z5 p s.m s.A w.heap.size) w9 QG:=(Mod.of_ext _ JO).trans Z7 (λi hi=>.inl (.inl hi));have gN:Mod (Z5 p s.m s.A w.heap.size) w7 QG:=dU.trans p9 (λi hi=>.inl hi);have xe:=JO.size;have Ku:Moved w7 s.m.OA m'.OA:=pu.back (by omega);have cP:Moved w7 s.m.BA m'.BA:=pv.back (by omega)
     let s':LS:=⟨s.k,s.o,s.z,m',g',s.ln+1,s.at_+l.length+1,ls,s.A,s.c⟩
     have YT:s'.m.T=λi=>m.T i∨Qi s'.A i∨i=w.heap.size:=by show m'.T=_;rw[fm,hI.tt]
     have kp:∀{x:DV} {o:BF},DgO w7 (TS p s.m) p.nm.length x o->DgO QG (TS p s'.m) p.nm.length x o:=λhx=>hI.kp (s':=s') gN YT (Moved.refl _ _) Ku cP hx
     refine⟨s',rfl,?_,?_⟩
     ·refine hI.go (s':=s') iU gN XH YT (Moved.refl _ _) Ku cP ((aS.ext JO).mod Z7 nbk) (kp hI.kd) ((YU.ext JO).mod Z7 nj) (λz hz=>kp (hI.zx z hz)) (λz hz=>kp (hI.zy z hz)) KG rfl ?_ YF rfl;rw[lI XZ,show VH (l++ [10]) n s.at_ s.o s.g=some g' from Vh] at QT;exact QT
     ·show ls.length<(l::ls).length;simp
end
end
section
section
structure FileB (x:List Nat×List Nat):Prop where
 n8:∀b∈x.1,b<256
 t8:∀b∈x.2,b<256
 nl:x.1.length<=9223372036854775807
 tl:x.2.length<=9223372036854775807
def lL (q:Pl):List Value:=[.int .i64 q.e,.int .i64 q.f,.int .i64 q.l]
def plO (o:Option Pl):Pl:=o.getD ⟨0,0,0⟩
def badB (b:Nat):Bool:=decide (b<32)||b==34||b==127
theorem fQJ (s:List Nat):oE s=(decide (s≠ []) && !(s.any badB)):=by
 unfold oE;congr 1;rw[List.any_eq_not_all_not,Bool.not_not];congr 1;funext b;unfold badB;have e:decide (32<=b)= !decide (b<32):=by by_cases h:b<32<;>simp[h]<;>omega
 rw[e];by_cases h1:b=34<;>by_cases h2:b=127<;>by_cases h3:b<32<;>simp[h1,h2,h3,bne]
def WM (x:List Nat×List Nat)(seen:List (List Nat)):Bool:=decide (x.1=[])||decide (x.1∈seen)||(decide (x.2≠ [])&&x.2.getLast? !=some 10)
theorem zd (x:List Nat×List Nat)(seen:List (List Nat)):(WM x seen||x.1.any badB)=true↔¬(oE x.1=true/\x.1∉seen/\ac x.2=true):=by
 rw[fQJ];unfold WM ac;by_cases h1:x.1=[]<;>by_cases h2:x.1∈seen<;>by_cases h3:x.2=[]<;>by_cases h4:x.2.getLast? =some 10<;>simp[h1,h2,h3,h4]
structure CkI (w0:World) (q:Nat) (fs:List (List Nat×List Nat)) (res:Option Pl) (i:Nat) (w:World):Prop where
 e:Ext w0 w
 mp:∃m,MapAt VE w q m/\∀s:List Nat,(∀x∈s,x<256)->Xv (Qf s) m=if s∈(fs.take i).map (·.1)then some (.bool true)else none
 rs:dy (fs.drop i) ((fs.take i).map (·.1)) i=res
 le:i<=fs.length
 qo:w0.heap.size<=q
theorem CkI.ext {w0 w w':World}{q:Nat}{fs:List (List Nat×List Nat)}{res:Option Pl}{i:Nat}(h:CkI w0 q fs res i w)(k:Ext w w'):CkI w0 q fs res i w':=⟨h.e.trans k,let ⟨m,h1,h2⟩:=h.mp;⟨m,h1.ext k,h2⟩,h.rs,h.le,h.qo⟩
theorem fQK (fs:List (List Nat×List Nat))(FA:Option Addr)(nf cf:Nat)(w:World)(h:SlS fQ 2 w FA nf cf fs)(hb:∀x∈fs,FileB x)(hnf:nf<=1000000000000):
  Fn Tryz.prog 90 [.slice FA nf cf] w (λu w'=>u= .agg (lL (plO (Y8 fs))).toArray/\Ext w w'):=by
 have Xb:=h.2;refine QF (c:={c90 with cuts:=[]}) Qa Tryz.func90 rfl rfl rfl ?_;refine new (λw1 Qd Q2 Qh=>?_);refine QB (λc1=>?_) (λc1=>?_)
 ·refine Qx Qh rfl (sc rfl) (λw2 ga _ Qw=>?_);refine Qs Qw rfl ?_;refine⟨?_,X0 Qd Qh ga⟩;unfold Y8;rw[Qe (by omega)]<;>rfl
 have KM:Y8 fs=dy fs [] 0:=by unfold Y8;rw[if_neg (by omega)]
 refine tV Qa VE rfl (λw2 Qg X9 XL=>?_);have Q4:=Qd.trans Qg;refine loop Qa [15] (λi:Nat=>[.int .i64 i]) (λi w'=>CkI w1 w1.heap.size fs (Y8 fs) i w') (λi _=>fs.length-i) 0 rfl ⟨Qg,⟨[],XL,λs _=>by simp[Xv]⟩,by rw[KM];rfl,XM _,QE _⟩ ?_;rintro i w3 hI;have QQ:Ext w w3:=Qd.trans hI.e;refine QB (λc2=>?_) (λc2=>?_)
 ·have hi:i<nf:=by omega
  refine Zo En (h.ext QQ) rfl hi (λpp x hx hc=>?_);refine J4 (vs:=fQ x) rfl hc ?_;refine new (λw4 Qq Kz QZ=>?_);refine Qx QZ rfl (sc rfl) (λw5 Jk _ QH=>?_);have JW:Ext w3 w5:=X0 Qq QZ Jk;have vO:=hI.ext JW;obtain⟨m,XO,pZ⟩:=vO.mp;have Z2:=hb x (Xe hx);have W4:=XU x.1;have fd:=XU x.2;have Kn:=Z2.nl;refine Qp QH rfl ?_;by_cases p1:x.1=[]
  ·refine X7 (by rw[p1];rfl) ?_;refine Qp QH rfl ?_;have e0:WM x ((fs.take i).map (·.1))=true:=by simp[WM,p1]
   refine loop Qa [47,6] (λs:Nat×Bool=>[.int .i64 s.1,.bool s.2]) (λs w'=>Ext w5 w'/\s.1<=x.1.length/\s.2=(WM x ((fs.take i).map (·.1))||(x.1.take s.1).any badB)) (λs _=>x.1.length-s.1) (0,true) rfl ⟨Ext.refl _,XM _,by rw[e0];simp⟩ ?_;rintro⟨k,b⟩ w6 ⟨Zv,hk,KY⟩;simp only at hk KY;have Jw:=vO.ext Zv;have Xh:=QH.ext Zv;refine QB (λc3=>?_) (λc3=>?_)
   ·have Zy:k<x.1.length:=by rw[W4] at c3;simp only at c3;omega
    obtain⟨y,hy⟩:∃y,x.1[k]? =some y:=⟨_,Xs Zy⟩
    have bT:(x.1.take (k+1)).any badB=((x.1.take k).any badB||badB y):=by
     rw[VX,hy];simp
    have fin:∀b',b'=(b||badB y)->b'=(WM x ((fs.take i).map (·.1))||(x.1.take (k+1)).any badB):=λb' e=>by rw[e,KY,bT,CQ]
    cases b with
    | true=>
     refine Xc rfl ?_;refine Qm ((k+1:Nat):Int) (by show((k:Nat):Int)+1=_;omega) (by omega) ?_;exact⟨(k+1,true),rfl,⟨Zv,Zy,fin true rfl⟩,by show x.1.length-(k+1)<x.1.length-k;omega⟩
    | false=>
     have idx:∀K:Int->Prop,K (y:Int)->dk (Qf x.1) ((k:Nat):Int) K:=λK hK=>by
      refine dt (by rw[W4];exact Zy) (λz hz _=>?_);rw[Wy Z2.n8,hy] at hz;cases hz;exact hK
     refine Xt rfl ?_;refine Qp Xh rfl ?_;refine idx _ ?_;refine QB (λd1=>?_) (λd1=>?_)
     ·refine Qm ((k+1:Nat):Int) (by show((k:Nat):Int)+1=_;omega) (by omega) ?_;exact⟨(k+1,true),rfl,⟨Zv,Zy,fin true (by
                                have:y<32:=by omega
                                simp[badB,this])⟩,by show x.1.length-(k+1)<x.1.length-k;omega⟩
     refine Qp Xh rfl ?_;refine idx _ ?_;refine Zn (λd2=>?_) (λd2=>?_)
     ·refine Qm ((k+1:Nat):Int) (by show((k:Nat):Int)+1=_;omega) (by omega) ?_;exact⟨(k+1,true),rfl,⟨Zv,Zy,fin true (by
                                have:y=34:=by omega
                                simp[badB,this])⟩,by show x.1.length-(k+1)<x.1.length-k;omega⟩
     refine Qp Xh rfl ?_;refine idx _ ?_;refine Qm ((k+1:Nat):Int) (by show((k:Nat):Int)+1=_;omega) (by omega) ?_;refine⟨(k+1,((y:Int)==127)),rfl,⟨Zv,Zy,fin _ ?_⟩,by show x.1.length-(k+1)<x.1.length-k;omega⟩;have n1:¬y<32:=by omega
     have n2:¬y=34:=by omega
     by_cases n3:y=127
     ·subst n3;rfl
     ·have:((y:Int)==127)=false:=by simp;omega
      rw[this];simp[badB,n1,n2,n3]
   ·have Zy:k=x.1.length:=by rw[W4] at c3;simp only at c3;omega
    subst Zy;rw[qm] at KY;have hall:=zd x ((fs.take i).map (·.1));have gO:fs.drop i=x::fs.drop (i+1):=by
     rw[cd (by omega)];congr 1;exact Option.some.inj ((Xs (by omega)).symm.trans hx)
    have QT:=Jw.rs;rw[gO,dy] at QT;have YD:=((Qh.ext hI.e).ext JW).ext Zv;refine Y3 (λd1=>?_) (λd1=>?_)
    ·have d1:b=true:=d1;rw[Qe (hall.1 (by rw[<-KY,d1]))] at QT;refine Qx YD rfl (sc rfl) (λw7 Zr _ QY=>?_);refine Qs QY rfl ?_;have Q8:Mod (·=w.heap.size) w6 w7:=mQj Zr rfl;exact⟨by rw[<-QT];rfl,Q8.ext (Qd.trans Jw.e) (λi hi=>by omega)⟩
    have d1:b=false:=d1;have Zl:=λhh=>(hall.2 hh).symm.trans (KY.symm.trans d1)
    rw[if_neg (λhh=>by have:=Zl hh;cases this)] at QT;refine Qp Xh rfl ?_;refine QB (λd2=>?_) (λd2=>?_)
    ·rw[Qe (by omega)] at QT;refine Qx YD rfl (sc rfl) (λw7 Zr _ QY=>?_);refine Qs QY rfl ?_;have Q8:Mod (·=w.heap.size) w6 w7:=mQj Zr rfl;exact⟨by rw[<-QT];rfl,Q8.ext (Qd.trans Jw.e) (λi hi=>by omega)⟩
    rw[if_neg (by omega)] at QT;refine Qp Xh rfl ?_;have V7:=XO.ext Zv;refine jo (kv:=VE) (a:=Qf x.1) Qa rfl rfl rfl rfl rfl mQk rfl rfl rfl V7 (λw7 Zr YS Jv=>?_);have Q8:Mod (·=w1.heap.size) w6 w7:=mQj Zr rfl;refine Qm ((i+1:Nat):Int) (by show((i:Nat):Int)+1=_;omega) (by omega) ?_;have YH:(fs.take (i+1)).map (·.1)=(fs.take i).map (·.1)++ [x.1]:=by rw[VX,hx];simp
    refine⟨i+1,rfl,⟨Q8.ext Jw.e (λi hi=>by omega),⟨_,Jv,λs hs=>?_⟩,by rw[YH];exact QT,by omega,QE _⟩,by show fs.length-(i+1)<fs.length-i;omega⟩;rw[W7,YH];by_cases bU:s=x.1
    ·subst bU;simp
    ·rw[if_neg (λe=>bU (JD hs Z2.n8 e)),pZ s hs];simp[bU]
  refine Xy (λe=>p1 (JD Z2.n8 (by simp) e)) ?_;refine Qp QH rfl ?_;refine DG (kv:=VE) (a:=Qf x.1) (v:=.bool (decide (x.1∈(fs.take i).map (·.1)))) Qa rfl rfl rfl rfl rfl mQk rfl rfl XO (by
   rw[pZ x.1 Z2.n8];by_cases hm:x.1∈(fs.take i).map (·.1)
   ·rw[Qe hm,XX hm]<;>rfl
   ·rw[if_neg hm,Zf hm];rfl) ?_
  by_cases p2:x.1∈(fs.take i).map (·.1)
  ·refine X7 p2 ?_;refine Qp QH rfl ?_;have e0:WM x ((fs.take i).map (·.1))=true:=by unfold WM;rw[XX p2];simp
   refine loop Qa [47,6] (λs:Nat×Bool=>[.int .i64 s.1,.bool s.2]) (λs w'=>Ext w5 w'/\s.1<=x.1.length/\s.2=(WM x ((fs.take i).map (·.1))||(x.1.take s.1).any badB)) (λs _=>x.1.length-s.1) (0,true) rfl ⟨Ext.refl _,XM _,by rw[e0];simp⟩ ?_;rintro⟨k,b⟩ w6 ⟨Zv,hk,KY⟩;simp only at hk KY;have Jw:=vO.ext Zv;have Xh:=QH.ext Zv;refine QB (λc3=>?_) (λc3=>?_)
   ·have Zy:k<x.1.length:=by rw[W4] at c3;simp only at c3;omega
    obtain⟨y,hy⟩:∃y,x.1[k]? =some y:=⟨_,Xs Zy⟩
    have bT:(x.1.take (k+1)).any badB=((x.1.take k).any badB||badB y):=by
     rw[VX,hy];simp
    have fin:∀b',b'=(b||badB y)->b'=(WM x ((fs.take i).map (·.1))||(x.1.take (k+1)).any badB):=λb' e=>by rw[e,KY,bT,CQ]
    cases b with
    | true=>
     refine Xc rfl ?_;refine Qm ((k+1:Nat):Int) (by show((k:Nat):Int)+1=_;omega) (by omega) ?_;exact⟨(k+1,true),rfl,⟨Zv,Zy,fin true rfl⟩,by show x.1.length-(k+1)<x.1.length-k;omega⟩
    | false=>
     have idx:∀K:Int->Prop,K (y:Int)->dk (Qf x.1) ((k:Nat):Int) K:=λK hK=>by
      refine dt (by rw[W4];exact Zy) (λz hz _=>?_);rw[Wy Z2.n8,hy] at hz;cases hz;exact hK
     refine Xt rfl ?_;refine Qp Xh rfl ?_;refine idx _ ?_;refine QB (λd1=>?_) (λd1=>?_)
     ·refine Qm ((k+1:Nat):Int) (by show((k:Nat):Int)+1=_;omega) (by omega) ?_;exact⟨(k+1,true),rfl,⟨Zv,Zy,fin true (by
                                have:y<32:=by omega
                                simp[badB,this])⟩,by show x.1.length-(k+1)<x.1.length-k;omega⟩
     refine Qp Xh rfl ?_;refine idx _ ?_;refine Zn (λd2=>?_) (λd2=>?_)
     ·refine Qm ((k+1:Nat):Int) (by show((k:Nat):Int)+1=_;omega) (by omega) ?_;exact⟨(k+1,true),rfl,⟨Zv,Zy,fin true (by
                                have:y=34:=by omega
                                simp[badB,this])⟩,by show x.1.length-(k+1)<x.1.length-k;omega⟩
     refine Qp Xh rfl ?_;refine idx _ ?_;refine Qm ((k+1:Nat):Int) (by show((k:Nat):Int)+1=_;omega) (by omega) ?_;refine⟨(k+1,((y:Int)==127)),rfl,⟨Zv,Zy,fin _ ?_⟩,by show x.1.length-(k+1)<x.1.length-k;omega⟩;have n1:¬y<32:=by omega
     have n2:¬y=34:=by omega
     by_cases n3:y=127
     ·subst n3;rfl
     ·have:((y:Int)==127)=false:=by simp;omega
      rw[this];simp[badB,n1,n2,n3]
   ·have Zy:k=x.1.length:=by rw[W4] at c3;simp only at c3;omega
    subst Zy;rw[qm] at KY;have hall:=zd x ((fs.take i).map (·.1));have gO:fs.drop i=x::fs.drop (i+1):=by
     rw[cd (by omega)];congr 1;exact Option.some.inj ((Xs (by omega)).symm.trans hx)
    have QT:=Jw.rs;rw[gO,dy] at QT;have YD:=((Qh.ext hI.e).ext JW).ext Zv;refine Y3 (λd1=>?_) (λd1=>?_)
    ·have d1:b=true:=d1;rw[Qe (hall.1 (by rw[<-KY,d1]))] at QT;refine Qx YD rfl (sc rfl) (λw7 Zr _ QY=>?_);refine Qs QY rfl ?_;have Q8:Mod (·=w.heap.size) w6 w7:=mQj Zr rfl;exact⟨by rw[<-QT];rfl,Q8.ext (Qd.trans Jw.e) (λi hi=>by omega)⟩
    have d1:b=false:=d1;have Zl:=λhh=>(hall.2 hh).symm.trans (KY.symm.trans d1)
    rw[if_neg (λhh=>by have:=Zl hh;cases this)] at QT;refine Qp Xh rfl ?_;refine QB (λd2=>?_) (λd2=>?_)
    ·rw[Qe (by omega)] at QT;refine Qx YD rfl (sc rfl) (λw7 Zr _ QY=>?_);refine Qs QY rfl ?_;have Q8:Mod (·=w.heap.size) w6 w7:=mQj Zr rfl;exact⟨by rw[<-QT];rfl,Q8.ext (Qd.trans Jw.e) (λi hi=>by omega)⟩
    rw[if_neg (by omega)] at QT;refine Qp Xh rfl ?_;have V7:=XO.ext Zv;refine jo (kv:=VE) (a:=Qf x.1) Qa rfl rfl rfl rfl rfl mQk rfl rfl rfl V7 (λw7 Zr YS Jv=>?_);have Q8:Mod (·=w1.heap.size) w6 w7:=mQj Zr rfl;refine Qm ((i+1:Nat):Int) (by show((i:Nat):Int)+1=_;omega) (by omega) ?_;have YH:(fs.take (i+1)).map (·.1)=(fs.take i).map (·.1)++ [x.1]:=by rw[VX,hx];simp
    refine⟨i+1,rfl,⟨Q8.ext Jw.e (λi hi=>by omega),⟨_,Jv,λs hs=>?_⟩,by rw[YH];exact QT,by omega,QE _⟩,by show fs.length-(i+1)<fs.length-i;omega⟩;rw[W7,YH];by_cases bU:s=x.1
    ·subst bU;simp
    ·rw[if_neg (λe=>bU (JD hs Z2.n8 e)),pZ s hs];simp[bU]
  refine Xy p2 ?_;refine Qp QH rfl ?_;by_cases p3:x.2=[]
  ·refine Xt (by rw[p3];rfl) ?_;refine Qp QH rfl ?_;have e0:WM x ((fs.take i).map (·.1))=false:=by unfold WM;rw[Zf p1,Zf p2,p3]<;>rfl
   refine loop Qa [47,6] (λs:Nat×Bool=>[.int .i64 s.1,.bool s.2]) (λs w'=>Ext w5 w'/\s.1<=x.1.length/\s.2=(WM x ((fs.take i).map (·.1))||(x.1.take s.1).any badB)) (λs _=>x.1.length-s.1) (0,false) rfl ⟨Ext.refl _,XM _,by rw[e0];simp⟩ ?_;rintro⟨k,b⟩ w6 ⟨Zv,hk,KY⟩;simp only at hk KY;have Jw:=vO.ext Zv;have Xh:=QH.ext Zv;refine QB (λc3=>?_) (λc3=>?_)
   ·have Zy:k<x.1.length:=by rw[W4] at c3;simp only at c3;omega
    obtain⟨y,hy⟩:∃y,x.1[k]? =some y:=⟨_,Xs Zy⟩
    have bT:(x.1.take (k+1)).any badB=((x.1.take k).any badB||badB y):=by
     rw[VX,hy];simp
    have fin:∀b',b'=(b||badB y)->b'=(WM x ((fs.take i).map (·.1))||(x.1.take (k+1)).any badB):=λb' e=>by rw[e,KY,bT,CQ]
    cases b with
    | true=>
     refine Xc rfl ?_;refine Qm ((k+1:Nat):Int) (by show((k:Nat):Int)+1=_;omega) (by omega) ?_;exact⟨(k+1,true),rfl,⟨Zv,Zy,fin true rfl⟩,by show x.1.length-(k+1)<x.1.length-k;omega⟩
    | false=>
     have idx:∀K:Int->Prop,K (y:Int)->dk (Qf x.1) ((k:Nat):Int) K:=λK hK=>by
      refine dt (by rw[W4];exact Zy) (λz hz _=>?_);rw[Wy Z2.n8,hy] at hz;cases hz;exact hK
     refine Xt rfl ?_;refine Qp Xh rfl ?_;refine idx _ ?_;refine QB (λd1=>?_) (λd1=>?_)
     ·refine Qm ((k+1:Nat):Int) (by show((k:Nat):Int)+1=_;omega) (by omega) ?_;exact⟨(k+1,true),rfl,⟨Zv,Zy,fin true (by
                                have:y<32:=by omega
                                simp[badB,this])⟩,by show x.1.length-(k+1)<x.1.length-k;omega⟩
     refine Qp Xh rfl ?_;refine idx _ ?_;refine Zn (λd2=>?_) (λd2=>?_)
     ·refine Qm ((k+1:Nat):Int) (by show((k:Nat):Int)+1=_;omega) (by omega) ?_;exact⟨(k+1,true),rfl,⟨Zv,Zy,fin true (by
                                have:y=34:=by omega
                                simp[badB,this])⟩,by show x.1.length-(k+1)<x.1.length-k;omega⟩
     refine Qp Xh rfl ?_;refine idx _ ?_;refine Qm ((k+1:Nat):Int) (by show((k:Nat):Int)+1=_;omega) (by omega) ?_;refine⟨(k+1,((y:Int)==127)),rfl,⟨Zv,Zy,fin _ ?_⟩,by show x.1.length-(k+1)<x.1.length-k;omega⟩;have n1:¬y<32:=by omega
     have n2:¬y=34:=by omega
     by_cases n3:y=127
     ·subst n3;rfl
     ·have:((y:Int)==127)=false:=by simp;omega
      rw[this];simp[badB,n1,n2,n3]
   ·have Zy:k=x.1.length:=by rw[W4] at c3;simp only at c3;omega
    subst Zy;rw[qm] at KY;have hall:=zd x ((fs.take i).map (·.1));have gO:fs.drop i=x::fs.drop (i+1):=by
     rw[cd (by omega)];congr 1;exact Option.some.inj ((Xs (by omega)).symm.trans hx)
    have QT:=Jw.rs;rw[gO,dy] at QT;have YD:=((Qh.ext hI.e).ext JW).ext Zv;refine Y3 (λd1=>?_) (λd1=>?_)
    ·have d1:b=true:=d1;rw[Qe (hall.1 (by rw[<-KY,d1]))] at QT;refine Qx YD rfl (sc rfl) (λw7 Zr _ QY=>?_);refine Qs QY rfl ?_;have Q8:Mod (·=w.heap.size) w6 w7:=mQj Zr rfl;exact⟨by rw[<-QT];rfl,Q8.ext (Qd.trans Jw.e) (λi hi=>by omega)⟩
    have d1:b=false:=d1;have Zl:=λhh=>(hall.2 hh).symm.trans (KY.symm.trans d1)
    rw[if_neg (λhh=>by have:=Zl hh;cases this)] at QT;refine Qp Xh rfl ?_;refine QB (λd2=>?_) (λd2=>?_)
    ·rw[Qe (by omega)] at QT;refine Qx YD rfl (sc rfl) (λw7 Zr _ QY=>?_);refine Qs QY rfl ?_;have Q8:Mod (·=w.heap.size) w6 w7:=mQj Zr rfl;exact⟨by rw[<-QT];rfl,Q8.ext (Qd.trans Jw.e) (λi hi=>by omega)⟩
    rw[if_neg (by omega)] at QT;refine Qp Xh rfl ?_;have V7:=XO.ext Zv;refine jo (kv:=VE) (a:=Qf x.1) Qa rfl rfl rfl rfl rfl mQk rfl rfl rfl V7 (λw7 Zr YS Jv=>?_);have Q8:Mod (·=w1.heap.size) w6 w7:=mQj Zr rfl;refine Qm ((i+1:Nat):Int) (by show((i:Nat):Int)+1=_;omega) (by omega) ?_;have YH:(fs.take (i+1)).map (·.1)=(fs.take i).map (·.1)++ [x.1]:=by rw[VX,hx];simp
    refine⟨i+1,rfl,⟨Q8.ext Jw.e (λi hi=>by omega),⟨_,Jv,λs hs=>?_⟩,by rw[YH];exact QT,by omega,QE _⟩,by show fs.length-(i+1)<fs.length-i;omega⟩;rw[W7,YH];by_cases bU:s=x.1
    ·subst bU;simp
    ·rw[if_neg (λe=>bU (JD hs Z2.n8 e)),pZ s hs];simp[bU]
  ·have n3:¬Qf x.2=(⟨#[]⟩:ByteArray):=λe=>p3 (JD Z2.t8 (by simp) e)
   refine Xc (by simp[n3]) ?_;refine Qp QH rfl ?_;refine Qp QH rfl ?_;have Yr:=Z2.tl;have fj:0<x.2.length:=xG.2 p3;refine Qm ((x.2.length-1:Nat):Int) (by rw[fd];omega) (by omega) ?_;refine dt (j:=x.2.length-1) (by omega) (λz hz Vs=>?_);rw[Wy Z2.t8] at hz;have nh:x.2.getLast? =some z:=by rw[qp];exact hz
   refine Qp QH rfl ?_;have e0:WM x ((fs.take i).map (·.1))=((z:Int) !=10):=by
    unfold WM;rw[Zf p1,Zf p2,XX p3,nh];by_cases XH:z=10
    ·subst XH;decide
    ·have e1:((z:Int) !=10)=true:=by simp;omega
     rw[e1];simp[XH]
   refine loop Qa [47,6] (λs:Nat×Bool=>[.int .i64 s.1,.bool s.2]) (λs w'=>Ext w5 w'/\s.1<=x.1.length/\s.2=(WM x ((fs.take i).map (·.1))||(x.1.take s.1).any badB)) (λs _=>x.1.length-s.1) (0,((z:Int) !=10)) rfl ⟨Ext.refl _,XM _,by rw[e0];simp⟩ ?_;rintro⟨k,b⟩ w6 ⟨Zv,hk,KY⟩;simp only at hk KY;have Jw:=vO.ext Zv;have Xh:=QH.ext Zv;refine QB (λc3=>?_) (λc3=>?_)
   ·have Zy:k<x.1.length:=by rw[W4] at c3;simp only at c3;omega
    obtain⟨y,hy⟩:∃y,x.1[k]? =some y:=⟨_,Xs Zy⟩
    have bT:(x.1.take (k+1)).any badB=((x.1.take k).any badB||badB y):=by
     rw[VX,hy];simp
    have fin:∀b',b'=(b||badB y)->b'=(WM x ((fs.take i).map (·.1))||(x.1.take (k+1)).any badB):=λb' e=>by rw[e,KY,bT,CQ]
    cases b with
    | true=>
     refine Xc rfl ?_;refine Qm ((k+1:Nat):Int) (by show((k:Nat):Int)+1=_;omega) (by omega) ?_;exact⟨(k+1,true),rfl,⟨Zv,Zy,fin true rfl⟩,by show x.1.length-(k+1)<x.1.length-k;omega⟩
    | false=>
     have idx:∀K:Int->Prop,K (y:Int)->dk (Qf x.1) ((k:Nat):Int) K:=λK hK=>by
      refine dt (by rw[W4];exact Zy) (λz hz _=>?_);rw[Wy Z2.n8,hy] at hz;cases hz;exact hK
     refine Xt rfl ?_;refine Qp Xh rfl ?_;refine idx _ ?_;refine QB (λd1=>?_) (λd1=>?_)
     ·refine Qm ((k+1:Nat):Int) (by show((k:Nat):Int)+1=_;omega) (by omega) ?_;exact⟨(k+1,true),rfl,⟨Zv,Zy,fin true (by
                                have:y<32:=by omega
                                simp[badB,this])⟩,by show x.1.length-(k+1)<x.1.length-k;omega⟩
     refine Qp Xh rfl ?_;refine idx _ ?_;refine Zn (λd2=>?_) (λd2=>?_)
     ·refine Qm ((k+1:Nat):Int) (by show((k:Nat):Int)+1=_;omega) (by omega) ?_;exact⟨(k+1,true),rfl,⟨Zv,Zy,fin true (by
                                have:y=34:=by omega
                                simp[badB,this])⟩,by show x.1.length-(k+1)<x.1.length-k;omega⟩
     refine Qp Xh rfl ?_;refine idx _ ?_;refine Qm ((k+1:Nat):Int) (by show((k:Nat):Int)+1=_;omega) (by omega) ?_;refine⟨(k+1,((y:Int)==127)),rfl,⟨Zv,Zy,fin _ ?_⟩,by show x.1.length-(k+1)<x.1.length-k;omega⟩;have n1:¬y<32:=by omega
     have n2:¬y=34:=by omega
     by_cases n3:y=127
     ·subst n3;rfl
     ·have:((y:Int)==127)=false:=by simp;omega
      rw[this];simp[badB,n1,n2,n3]
   ·have Zy:k=x.1.length:=by rw[W4] at c3;simp only at c3;omega
    subst Zy;rw[qm] at KY;have hall:=zd x ((fs.take i).map (·.1));have gO:fs.drop i=x::fs.drop (i+1):=by
     rw[cd (by omega)];congr 1;exact Option.some.inj ((Xs (by omega)).symm.trans hx)
    have QT:=Jw.rs;rw[gO,dy] at QT;have YD:=((Qh.ext hI.e).ext JW).ext Zv;refine Y3 (λd1=>?_) (λd1=>?_)
    ·have d1:b=true:=d1;rw[Qe (hall.1 (by rw[<-KY,d1]))] at QT;refine Qx YD rfl (sc rfl) (λw7 Zr _ QY=>?_);refine Qs QY rfl ?_;have Q8:Mod (·=w.heap.size) w6 w7:=mQj Zr rfl;exact⟨by rw[<-QT];rfl,Q8.ext (Qd.trans Jw.e) (λi hi=>by omega)⟩
    have d1:b=false:=d1;have Zl:=λhh=>(hall.2 hh).symm.trans (KY.symm.trans d1)
    rw[if_neg (λhh=>by have:=Zl hh;cases this)] at QT;refine Qp Xh rfl ?_;refine QB (λd2=>?_) (λd2=>?_)
    ·rw[Qe (by omega)] at QT;refine Qx YD rfl (sc rfl) (λw7 Zr _ QY=>?_);refine Qs QY rfl ?_;have Q8:Mod (·=w.heap.size) w6 w7:=mQj Zr rfl;exact⟨by rw[<-QT];rfl,Q8.ext (Qd.trans Jw.e) (λi hi=>by omega)⟩
    rw[if_neg (by omega)] at QT;refine Qp Xh rfl ?_;have V7:=XO.ext Zv;refine jo (kv:=VE) (a:=Qf x.1) Qa rfl rfl rfl rfl rfl mQk rfl rfl rfl V7 (λw7 Zr YS Jv=>?_);have Q8:Mod (·=w1.heap.size) w6 w7:=mQj Zr rfl;refine Qm ((i+1:Nat):Int) (by show((i:Nat):Int)+1=_;omega) (by omega) ?_;have YH:(fs.take (i+1)).map (·.1)=(fs.take i).map (·.1)++ [x.1]:=by rw[VX,hx];simp
    refine⟨i+1,rfl,⟨Q8.ext Jw.e (λi hi=>by omega),⟨_,Jv,λs hs=>?_⟩,by rw[YH];exact QT,by omega,QE _⟩,by show fs.length-(i+1)<fs.length-i;omega⟩;rw[W7,YH];by_cases bU:s=x.1
    ·subst bU;simp
    ·rw[if_neg (λe=>bU (JD hs Z2.n8 e)),pZ s hs];simp[bU]
 ·have hi:i=fs.length:=by have:=hI.le;omega
  have QT:=hI.rs;rw[hi,List.drop_length,dy] at QT;refine Qx (Qh.ext hI.e) rfl (sc rfl) (λw4 bH _ QZ=>?_);refine Qs QZ rfl ?_;have Kt:Mod (·=w.heap.size) w3 w4:=mQj bH rfl;exact⟨by rw[<-QT];rfl,Kt.ext QQ (λi hi=>by omega)⟩
end
section
theorem rD {P:Program}{ops:Array Oper}{rest:List Nat}{i:Nat}{o:Oper}{Q:Exit->Act->List Frame->World->Prop}{a:Act}{cs cs':List Frame}{w:World}{v:Value}{d:Nat}(hi:ops[i]? =some o)(h1:o.op= .call ⟨.builtin .recover, #[], #[]⟩)(hd:o.dst=some d)(hg:o.guard=none)
  (Ig:recoverD cs=some (v,cs')∨(recoverD cs=none/\v= .nilIface/\cs'=cs)) (h:wpOpsS P ops Q rest (a.put (some d) v) cs' w):wpOpsS P ops Q (i::rest) a cs w:=by
 have e1:(execOp a.eval o).run P w= .ok .recover w:=by
  simp only[execOp,h1,resolve,invoke,builtin];simp
 unfold wpOpsS;rw[hi];simp only;rw[Qe (by simp[Region.wanted,hg]),e1,hd];rcases Ig with hr | ⟨hr,rfl,rfl⟩
 ·simp only[hr];exact h
 ·simp only[hr];exact h
theorem Jc {c:Cx}(hg:c.g.Ok){P:Program}(hP:c.g.P=P){ops:Array Oper}{rest:List Nat}{i:Nat}{o:Oper}{Q:Exit->Act->List Frame->World->Prop}{a:Act}{cs:List Frame}{w:World}{S:Env}{K:Env->World->Prop}(hi:ops[i]? =some o)(Kj:o.guard=none)(hf:Fits c.N S a)
  (h:dm c o S w K (λ_ _ _=>False)) (hk:∀S' a' w',Fits c.N S' a'->K S' w'->wpOpsS P ops Q rest a' cs w'):wpOpsS P ops Q (i::rest) a cs w:=by
 subst hP;have h1:=qw hg h hf;unfold wpOpsS;rw[hi];simp only;rw[Qe (by simp[Region.wanted,Kj])];have h2:=Oper.wp_mono (K':=λa' w'=>wpOpsS c.g.P ops Q rest a' cs w') (λa' w' ⟨S',QW,hK⟩=>hk _ _ _ QW hK) h1;unfold Oper.wp at h2;generalize (execOp a.eval o).run c.g.P w=r at*;cases r with
 | ok n w'=>
  cases n<;>simp only[Oper.upon] at h2 ⊢ <;> first | exact h2 | exact h2.elim | skip
  exact h2.mono λe KL he=>by
   cases e with
   | returned v=>exact he
   | panicked ch=>obtain⟨_,_,he⟩:=he;exact he.elim
   | outgrown=>obtain⟨_,_,_,_,he⟩:=he;exact he.elim
 | halt x w'=>cases x<;>simp only[Oper.upon] at h2 ⊢ <;> first | exact h2 | (obtain⟨_,_,h2⟩:=h2;exact h2.elim) | (obtain⟨_,_,_,_,h2⟩:=h2;exact h2.elim)
theorem fQL {c:Cx}{o:Oper}{S:Env}{w:World}{K:Env->World->Prop}{Q:Zd}{x:Operand}{tx t:Nat}{fs:Array Field}{v:Value}{r:TyRow}(hg:c.g.Ok)(ho:o.op= .typeAssert x tx t true)(hr:QR c.g.tys t=some r)(hd:r.d= .struct fs)(hx:S.ev x=some (.iface t v))
  (kk:Xf c S o.dst (.v (.tuple #[v,.bool true])) (λS=>K S w)):X3 c o S w K Q:=by
 have Q0:=(hg.row hr).1;rw[hd] at Q0;refine Jh (w':=w) (v:=.tuple #[v,.bool true]) (λa hf=>?_) kk;have e1:=hf.ev hx;simp only[execOp,ho,e1];simp[Instr.typeAssert,ZI Q0]
theorem fQM {c:Cx}{o:Oper}{S:Env}{w:World}{K:Env->World->Prop}{Q:Zd}{x:Operand}{tx t:Nat}{fs:Array Field}{r:TyRow}(hg:c.g.Ok)(ho:o.op= .typeAssert x tx t true)(hr:QR c.g.tys t=some r)(hd:r.d= .struct fs)(hx:S.ev x=some .nilIface)
  (kk:Xf c S o.dst (.v (.tuple #[r.z,.bool false])) (λS=>K S w)):X3 c o S w K Q:=by
 obtain⟨Q0,i,hi,_,_,hz⟩:=hg.row hr;rw[hd] at Q0;refine Jh (w':=w) (v:=.tuple #[r.z,.bool false]) (λa hf=>?_) kk;have e1:=hf.ev hx;simp only[execOp,ho,e1];simp[Instr.typeAssert,ZI Q0,zeroValue,typeInfo,hi,hz]
def fQN (f e:Nat)(q:Pl)(w w':World):Prop:=Blk w' f 41 [.string (Qf []),.slice none 0 0]/\Blk w' e 93 (lL q)/\Mod (λi=>i=f∨i=e) w w'
theorem fQO (f e:Nat)(q:Pl)(w:World)(SU SV:List Value)(Xu:SU.length=2)(JU:SV.length=3)(QK:f≠e)(hf:Blk w f 41 SU)(he:Blk w e 93 SV):
  CallsD Tryz.prog 91 #[.pointer (some ⟨f,0,none⟩),.pointer (some ⟨e,0,none⟩)] (.panicking (eN q.e q.f q.l)) w
   (λen u' w'=>∃v,en= .returned v/\settle u'= .returning/\fQN f e q w w'):=by
 refine callsD_of_wpS Tryz.func91 rfl λc₀ cs hu=>?_
 have JQ:=eD (N:=Tryz.f91.ntmps) [.pointer (some ⟨f,0,none⟩),.pointer (some ⟨e,0,none⟩)] (fx rfl) [(0,.v (.pointer (some ⟨f,0,none⟩))),(1,.v (.pointer (some ⟨e,0,none⟩)))] (by
  intro k x hk
  match k,hk with
  | 0,hk=>cases hk;rfl
  | 1,hk=>cases hk;rfl
  | k+2,hk=>exact nomatch (show(none:Option Ent)=some x from hk))
 have JK:=JQ.put (d:=5) (by decide) (.v (.iface 160 (.agg #[.int .i64 q.e,.int .i64 q.f,.int .i64 q.l])));refine wpS_seq (wpS_region ?_);show wpOpsS _ _ _ [0,1,2,3,4,5,6,7] _ _ _;refine rD (o:=_) (cs':={c₀ with mode:=.panicking [{v:=.iface 160 (.agg #[.int .i64 q.e,.int .i64 q.f,.int .i64 q.l]),recovered:=true}]}::cs) (v:=.iface 160 (.agg #[.int .i64 q.e,.int .i64 q.f,.int .i64 q.l])) (d:=5) rfl rfl rfl rfl (.inl (by simp[recoverD,hu,eN])) ?_;generalize au:Act.put _ (some 5) _=act;have gt:Fits WA.N [(5,.v (.iface 160 (.agg #[.int .i64 q.e,.int .i64 q.f,.int .i64 q.l]))),(0,.v (.pointer (some ⟨f,0,none⟩))),(1,.v (.pointer (some ⟨e,0,none⟩)))] act:=by rw[<-au];exact JK
 clear au JK JQ;generalize Zm: #[_,_,_,_,_,_,_,_]=vP;have h1:=(QN (λ(x:Array Oper)=>x[1]?) Zm).symm;have h2:=(QN (λ(x:Array Oper)=>x[2]?) Zm).symm;have h3:=(QN (λ(x:Array Oper)=>x[3]?) Zm).symm;have h4:=(QN (λ(x:Array Oper)=>x[4]?) Zm).symm;have h5:=(QN (λ(x:Array Oper)=>x[5]?) Zm).symm;have h6:=(QN (λ(x:Array Oper)=>x[6]?) Zm).symm;have h7:=(QN (λ(x:Array Oper)=>x[7]?) Zm).symm;clear Zm;refine Jc (c:=WA) Qa rfl h1 rfl gt (K:=λS' w'=>S'=[(6,Ent.v (.tuple #[.agg #[.int .i64 q.e,.int .i64 q.f,.int .i64 q.l],.bool true])),(5,.v (.iface 160 (.agg #[.int .i64 q.e,.int .i64 q.f,.int .i64 q.l]))),(0,.v (.pointer (some ⟨f,0,none⟩))),(1,.v (.pointer (some ⟨e,0,none⟩)))]/\w=w') (fQL Qa rfl rfl rfl rfl ⟨rfl,rfl⟩) ?_;rintro _ a1 _ Zz ⟨rfl,rfl⟩;refine Jc (c:=WA) Qa rfl h2 rfl Zz (K:=λS' w'=>S'=_/\w=w') ⟨rfl,rfl⟩ ?_;rintro _ a2 _ ZG ⟨rfl,rfl⟩;refine Jc (c:=WA) Qa rfl h3 rfl ZG (K:=λS' w'=>S'=_/\w=w') ⟨rfl,rfl⟩ ?_;rintro _ a3 _ gu ⟨rfl,rfl⟩;refine Jc (c:=WA) Qa rfl h4 rfl gu (K:=λS' w'=>S'=_/\w=w') ⟨rfl,rfl⟩ ?_;rintro _ a4 _ gv ⟨rfl,rfl⟩;refine Jc (c:=WA) Qa rfl h5 rfl gv (K:=λS' w'=>S'=(2,.v (.pointer (some ⟨w.heap.size,0,none⟩)))::_/\Ext w w'/\w'.heap.size=w.heap.size+1/\∃ps:List Value,Blk w' w.heap.size 160 ps/\ps.length=3) (new (λw1 Qd Q2 Qh=>⟨rfl,Qd,Q2,_,Qh,rfl⟩)) ?_;rintro _ a5 w5 JK ⟨rfl,Qt,Kv,ps,QH,aV⟩;refine Jc (c:=WA) Qa rfl h6 rfl JK (K:=λS' w'=>S'=_/\Ext w w'/\w.heap.size+1<=w'.heap.size/\Blk w' w.heap.size 160 (lL q)) (Qx QH (by rw[aV];rfl) (sc rfl) (λw6 Wd cL Xh=>⟨rfl,X0 Qt QH Wd,by omega,Xh⟩)) ?_;rintro _ a6 w6 aO ⟨rfl,Q6,cL,Xh⟩;refine Jc (c:=WA) Qa rfl h7 rfl aO (K:=λS' w'=>S'=_/\w6=w') ⟨rfl,rfl⟩ ?_;rintro _ a7 _ GH ⟨rfl,rfl⟩;unfold wpOpsS;refine lu (c:=WA) Qa rfl GH ?_;refine Xc rfl ?_;have nf:f≠w.heap.size:=λe=>by have:=hf.lt;omega
 have ne:e≠w.heap.size:=λe=>by have:=he.lt;omega
 have jQx:=hf.ext Q6;have jQy:=he.ext Q6;refine XJ Qa (λw'=>Mod (λi=>i=f∨i=e) w6 w') 5 [(true,0),(true,1),(true,2),(false,3),(false,4)] (by kernel_rfl) (Mod.of_ext _ (Ext.drew w6)) ?_;refine Xl (vs:=lL q) rfl (λw' Qb j u hj=>by rw[add_add,(Xh.mod Qb (λhh=>hh.elim (λe=>nf e.symm) (λe=>ne e.symm))).cell];simpa using hj) ?_;have hd:=Ext.drew w6;refine Qx (jQx.ext hd) (by rw[Xu];rfl) (sc rfl) (λw8 V8 _ Xp=>?_);have ZA:Mod (·=f) w6.drew w8:=mQj V8 rfl;have vQ:Mod (λi=>i=f∨i=e) w6 w8:=(Mod.of_ext _ hd).trans ZA (λi hi=>.inl (.inl hi));refine⟨vQ,?_⟩;refine Qx ((jQy.ext hd).mod ZA (λhh=>QK hh.symm)) (by rw[JU];rfl) (sc rfl) (λw9 dT _ JM=>?_);have Zc:Mod (·=e) w8 w9:=mQj dT rfl;have SW:Mod (λi=>i=f∨i=e) w6 w9:=vQ.trans Zc (λi hi=>.inl (.inr hi));refine⟨SW,?_⟩;exact⟨_,rfl,rfl,Xp.mod Zc QK,JM,(Mod.of_ext _ Q6).trans SW (λi hi=>.inl hi)⟩
theorem fQP (f e:Nat)(w:World):
  CallsD Tryz.prog 91 #[.pointer (some ⟨f,0,none⟩),.pointer (some ⟨e,0,none⟩)] .returning w
   (λen u' w'=>∃v,en= .returned v/\settle u'= .returning/\Ext w w'):=by
 refine callsD_of_wpS Tryz.func91 rfl λc₀ cs hu=>?_
 have JQ:=eD (N:=Tryz.f91.ntmps) [.pointer (some ⟨f,0,none⟩),.pointer (some ⟨e,0,none⟩)] (fx rfl) [(0,.v (.pointer (some ⟨f,0,none⟩))),(1,.v (.pointer (some ⟨e,0,none⟩)))] (by
  intro k x hk
  match k,hk with
  | 0,hk=>cases hk;rfl
  | 1,hk=>cases hk;rfl
  | k+2,hk=>exact nomatch (show(none:Option Ent)=some x from hk))
 have JK:=JQ.put (d:=5) (by decide) (.v .nilIface);refine wpS_seq (wpS_region ?_);show wpOpsS _ _ _ [0,1,2,3,4,5,6,7] _ _ _;refine rD (o:=_) (cs':={c₀ with mode:=.returning}::cs) (v:=.nilIface) (d:=5) rfl rfl rfl rfl (.inr ⟨by simp[recoverD,hu],rfl,by rw[<-hu]⟩) ?_;generalize au:Act.put _ (some 5) _=act;have gt:Fits WA.N [(5,.v .nilIface),(0,.v (.pointer (some ⟨f,0,none⟩))),(1,.v (.pointer (some ⟨e,0,none⟩)))] act:=by rw[<-au];exact JK
 clear au JK JQ;generalize Zm: #[_,_,_,_,_,_,_,_]=vP;have h1:=(QN (λ(x:Array Oper)=>x[1]?) Zm).symm;have h2:=(QN (λ(x:Array Oper)=>x[2]?) Zm).symm;have h3:=(QN (λ(x:Array Oper)=>x[3]?) Zm).symm;have h4:=(QN (λ(x:Array Oper)=>x[4]?) Zm).symm;have h5:=(QN (λ(x:Array Oper)=>x[5]?) Zm).symm;have h6:=(QN (λ(x:Array Oper)=>x[6]?) Zm).symm;have h7:=(QN (λ(x:Array Oper)=>x[7]?) Zm).symm;clear Zm;refine Jc (c:=WA) Qa rfl h1 rfl gt (K:=λS' w'=>S'=_/\w=w') (fQM Qa rfl rfl rfl rfl ⟨rfl,rfl⟩) ?_;rintro _ a1 _ Zz ⟨rfl,rfl⟩;refine Jc (c:=WA) Qa rfl h2 rfl Zz (K:=λS' w'=>S'=_/\w=w') ⟨rfl,rfl⟩ ?_;rintro _ a2 _ ZG ⟨rfl,rfl⟩;refine Jc (c:=WA) Qa rfl h3 rfl ZG (K:=λS' w'=>S'=_/\w=w') ⟨rfl,rfl⟩ ?_;rintro _ a3 _ gu ⟨rfl,rfl⟩;refine Jc (c:=WA) Qa rfl h4 rfl gu (K:=λS' w'=>S'=_/\w=w') ⟨rfl,rfl⟩ ?_;rintro _ a4 _ gv ⟨rfl,rfl⟩;refine Jc (c:=WA) Qa rfl h5 rfl gv (K:=λS' w'=>S'=(2,.v (.pointer (some ⟨w.heap.size,0,none⟩)))::_/\Ext w w'/\w'.heap.size=w.heap.size+1/\∃ps:List Value,Blk w' w.heap.size 160 ps/\ps.length=3) (new (λw1 Qd Q2 Qh=>⟨rfl,Qd,Q2,_,Qh,rfl⟩)) ?_;rintro _ a5 w5 JK ⟨rfl,Qt,Kv,ps,QH,aV⟩;refine Jc (c:=WA) Qa rfl h6 rfl JK (K:=λS' w'=>S'=_/\Ext w w') (Qx QH (by rw[aV];rfl) (sc rfl) (λw6 Wd cL Xh=>⟨rfl,X0 Qt QH Wd⟩)) ?_;rintro _ a6 w6 aO ⟨rfl,Q6⟩;refine Jc (c:=WA) Qa rfl h7 rfl aO (K:=λS' w'=>S'=_/\w6=w') ⟨rfl,rfl⟩ ?_;rintro _ a7 _ GH ⟨rfl,rfl⟩;unfold wpOpsS;refine lu (c:=WA) Qa rfl GH ?_;refine Xt rfl ?_;exact⟨_,rfl,rfl,Q6⟩
end
section
theorem fQQ {nm:List (List Nat)}(hb:Ke nm):(cq nm YN).2=if ZJ nm then 0 else 1:=by
 by_cases h:ZJ nm=true
 ·rw[Qe h,show YN=ZE nm 0 (.c true) from rfl,eQt h (eQu hb h) (.c true) trivial (by decide)]
 ·rw[if_neg h];unfold cq;rw[if_neg h]
structure SgIn (w:World) (k:Nat) (A:Option Addr) (n c:Nat) (sg:List Sg) (L:List DV):Prop where
 sl:Sl w 6 A n c (bz sg L)
 n:sg.length=n
 len:L.length=sg.length
 dg:∀(j:Nat) (s:Sg) (x:DV),sg[j]? =some s->L[j]? =some x->SB w x.A x.n x.c x.nd/\Set1 k x.nd x.r s.o
theorem SgIn.ext {w w':World}{k:Nat}{A:Option Addr}{n c:Nat}{sg:List Sg}{L:List DV}(h:SgIn w k A n c sg L)(hE:Ext w w'):SgIn w' k A n c sg L:=⟨h.sl.ext hE,h.n,h.len,λj s x h1 h2=>⟨(h.dg j s x h1 h2).1.ext hE,(h.dg j s x h1 h2).2⟩⟩
structure GsOk (g:Gs):Prop where
 b8:∀x∈g.tx,x<256
 tl:g.tx.length<=1048576
 sl:g.sg.length<=65536
abbrev OW (tx:List Nat)(A:Option Addr)(n c:Nat):Value:=.agg #[.string (Qf tx),.slice A n c]
def fQR (k:Nat)(w:World)(r:Except Pl Gs)(u:Value)(w':World):Prop:=Ext w w'/\match r with
 | .error q=>u= .tuple #[OW [] none 0 0,.agg (lL q).toArray]
 | .ok g=>GsOk g/\∃A c L,u= .tuple #[OW g.tx A g.sg.length c,.agg (lL ⟨0,0,0⟩).toArray]/\SgIn w' k A g.sg.length c g.sg L
theorem OX:∀(l:List (List Nat×List Nat))(seen:List (List Nat))(i:Nat)(q:Pl),dy l seen i=some q->q.e≠0
 | [],_,_,_,h=>by cases h
 | x::l,seen,i,q,h=>by
  unfold dy at h;split at h
  ·cases h;exact(by decide:(70:Int)≠0)
  split at h
  ·cases h;exact(by decide:(2:Int)≠0)
  ·exact OX l _ _ q h
theorem OY {fs:List (List Nat×List Nat)}{q:Pl}(h:Y8 fs=some q):q.e≠0:=by
 unfold Y8 at h;split at h
 ·cases h;decide
 ·exact OX _ _ _ _ h
theorem ze:∀(l:List (List Nat×List Nat))(seen:List (List Nat))(i:Nat),dy l seen i=none->∀x∈l,oE x.1=true/\ac x.2=true/\x.2.length<=1048576
 | [],_,_,_,x,hx=>by cases hx
 | y::l,seen,i,h,x,hx=>by
  unfold dy at h;split at h
  ·cases h
  split at h
  ·cases h
  ·rename_i h1 h2;have h1:=Decidable.not_not.1 h1;rcases QX.1 hx with rfl | hx
   ·exact⟨h1.1,h1.2.2,by omega⟩
   ·exact ze l _ _ h x hx
theorem lM {l:List Nat}(h:ac l=true):bu l:=by
 unfold ac at h;rw[Bool.or_eq_true] at h;rcases h with h | h
 ·exact .inl (fB h)
 ·exact .inr (by simpa using h)
theorem fQS {fs:List (List Nat×List Nat)}(h:Y8 fs=none)(hb:∀x∈fs,FileB x):fs.length<=256/\∀x∈fs,FileOk x:=by
 unfold Y8 at h;split at h
 ·cases h
 ·rename_i hl;refine⟨by omega,λx hx=>?_⟩;obtain⟨h1,h2,h3⟩:=ze _ _ _ h x hx;have kK:=hb x hx;exact⟨kK.n8,kK.t8,kK.nl,h3,lM h2⟩
theorem fQT {w7 w':World}{nq:Nat}{m:List (ByteArray×Value)}(h:w7.heap.size=nq+1)(hm:Mod (·=nq) w7 w')(hq:MapAt VE w' nq m):∃w0,Ext w0 w'/\w0.heap.size=nq+1/\MapAt VE w0 nq m/\∀w,Ext w w7->w.heap.size<=nq->Ext w w0:=by
 obtain⟨bs,ck,hl,hb⟩:=hq.ex;refine⟨{w7 with heap:=w7.heap.setIfInBounds nq (.map (XN VE m bs).toArray ck)},⟨hm.os,hm.tape,hm.output,?_,λi hi _=>?_⟩,by simp[h],⟨bs,ck,hl,?_⟩,λw hE ZK=>⟨hE.os,hE.tape,hE.output,?_,λi hi hn=>?_⟩⟩
 ·simpa using hm.size
 ·simp only[Array.size_setIfInBounds] at hi;simp only[CE];by_cases e:nq=i
  ·subst e;rw[Qe rfl,Qe (by omega),hb]
  ·rw[if_neg e];exact hm.block i hi (λe2=>e e2.symm)
 ·simp[h]
 ·simpa using hE.size
 ·simp only[CE];rw[if_neg (by omega)];exact hE.block i hi hn
theorem OZ (nm:List (List Nat))(NA:Option Addr)(nn nc:Nat)(fs:List (List Nat×List Nat))(FA:Option Addr)(nf cf:Nat)(root:List Nat)(w:World)(hN:Sl w 1 NA nn nc (X4 nm))(Vw:Ke nm)(hk:nm.length<=12)(hF:SlS fQ 2 w FA nf cf fs)(Co:∀x∈fs,FileB x)(hnf:nf<=1000000000000)(iF:∀x∈root,x<256):
  Fn Tryz.prog 43 [.slice NA nn nc,.slice FA nf cf,.string (Qf root)] w (fQR nm.length w (Y9 nm fs root)):=by
 refine ud (c:={c43 with cuts:=[]}) Qa Tryz.func43 rfl rfl rfl ?_;refine ZC (Zq Qa ?_);refine new (λw1 Qd Q2 Qh=>?_);refine new (λw2 Qg X9 Qw=>?_);have Q4:=Qd.trans Qg;refine ZC (Zq Qa ?_);refine call (MV nm NA nn nc YN w2 (hN.ext Q4) Vw (by decide) (by decide)) ?_;rintro _ w3 ⟨G,mg,cG,rfl,Qj,hG⟩;have QQ:=Q4.trans Qj;have Cp:=(Qh.ext Qg).ext Qj;have hBp:=Qw.ext Qj;have QK:w1.heap.size≠w.heap.size:=by omega
 have Wm:=fQQ Vw;have YZ:Y9 nm fs root=if ZJ nm=false then .error ⟨30, -1,0⟩else match Y8 fs with
  | some p=>.error p
  | none=>match Ja (fs.map (·.1)) root with
   | none=>.error ⟨73, -1,0⟩
   | some n=>aa nm fs 65 [] 0 n (λ_=>true) ⟨[],[],false⟩:=rfl
 rw[Wm];cases Zl:ZJ nm with
 | false=>
  rw[Qe Zl] at YZ;refine qA (by decide) ?_;refine Qx Cp rfl (sc rfl) (λw4 bH _ QZ=>?_);have Kt:Mod (·=w.heap.size) w3 w4:=mQj bH rfl;refine Qx (hBp.mod Kt QK) rfl (sc rfl) (λw5 Jk _ QH=>?_);have ZW:Mod (·=w1.heap.size) w4 w5:=mQj Jk rfl;refine ig Qa rfl (.inl rfl) ?_;refine Qs (QZ.mod ZW QK.symm) rfl ?_;refine Qs QH rfl ?_;rw[YZ];exact⟨ZW.ext (Kt.ext QQ (λi hi=>by omega)) (λi hi=>by omega),rfl⟩
 | true=>
  rw[if_neg (by rw[Zl];decide)] at YZ;refine Wx rfl ?_;refine ZC (Zq Qa ?_);refine call (fQK fs FA nf cf w3 (hF.ext QQ) Co hnf) ?_;rintro _ w4 ⟨rfl,Qq⟩;refine new (λw5 Qt Kv QH=>?_);refine Qx QH rfl (sc rfl) (λw6 Wd _ Xh=>?_);have Xx:Ext w4 w6:=X0 Qt QH Wd;have KD:=Qq.trans Xx;have XG:=QQ.trans KD;have SY:=Cp.ext KD;have SZ:=hBp.ext KD;refine Qp Xh rfl ?_;cases KM:Y8 fs with
  | some q=>
   rw[KM] at YZ Xh;refine qA (OY KM) ?_;have n4:¬w4.heap.size=w.heap.size:=by have:=Qj.size;have:=Qq.size;omega
   have n41:¬w4.heap.size=w1.heap.size:=by have:=Qq.size;have:=Qj.size;omega
   have hd:=Ext.drew w6;refine XJ Qa (λw'=>Mod (λi=>i=w.heap.size∨i=w1.heap.size) w6 w') 4 [(true,0),(true,1),(false,2),(false,3)] (by kernel_rfl) (Mod.of_ext _ hd) ?_;refine Xl (vs:=lL q) rfl (λw' Qb j u hj=>by rw[(Xh.mod Qb (λhh=>hh.elim n4 n41)).cell];exact hj) ?_;refine Qx (SY.ext hd) rfl (sc rfl) (λw7 Zr _ QY=>?_);have Q8:Mod (·=w.heap.size) w6.drew w7:=mQj Zr rfl;have S3:Mod (λi=>i=w.heap.size∨i=w1.heap.size) w6 w7:=(Mod.of_ext _ hd).trans Q8 (λi hi=>.inl (.inl hi));refine⟨S3,?_⟩;refine Qx ((SZ.ext hd).mod Q8 QK) rfl (sc rfl) (λw8 V8 _ Xp=>?_);have ZA:Mod (·=w1.heap.size) w7 w8:=mQj V8 rfl;have vQ:=S3.trans ZA (λi hi=>.inl (.inr hi));refine⟨vQ,?_⟩;refine ig Qa rfl (.inl rfl) ?_;refine Qs (QY.mod ZA QK.symm) rfl ?_;refine Qs Xp rfl ?_;rw[YZ];exact⟨vQ.ext XG (λi hi=>by rcases hi with rfl | rfl<;>omega),rfl⟩
  | none=>
  rw[KM] at YZ;refine Wx rfl ?_;obtain⟨Kk,wW⟩:=fQS KM Co;have Xb:=hF.2;refine ZC (Zq Qa ?_);refine tV Qa VE rfl (λw7 Q1 YS Jv=>?_);refine tV Qa W9 rfl (λw8 Q9 Vs Ju=>?_);refine new (λw9 Xw dN JM=>?_);have Ya:=Q9.trans Xw;have mD:=Q1.trans Ya;have S4:=XG.trans mD;have Aw:=Ju.ext Xw;have Ft:=Jv.ext Ya;have kQK:Ke (fs.map (·.1)):=λs hs=>by
   obtain⟨x,hx,rfl⟩:=ZY.1 hs;exact⟨(Co x hx).n8,(Co x hx).nl⟩
  have nrq:¬w8.heap.size=w6.heap.size:=by omega
  refine ZC (Zq Qa ?_);refine loop Qa [40] (λi:Nat=>[.int .i64 i]) (λi w'=>Mod (·=w6.heap.size) w9 w'/\MapAt VE w' w6.heap.size (Yg ((fs.map (·.1)).take i) 0 [])/\i<=fs.length) (λi _=>fs.length-i) 0 rfl ⟨Mod.refl _ _,Ft,XM _⟩ ?_;rintro i QG ⟨Zk,Z7,lQv⟩;refine QB (λc2=>?_) (λc2=>?_)
  ·have hi:i<nf:=by omega
   have mE:Ext w QG:=Zk.ext S4 (λi hi=>by have:=XG.size;omega);refine Zo En (hF.ext mE) rfl hi (λpp x hx hc=>?_);refine J4 (vs:=fQ x) rfl hc ?_;refine new (λQD Jx sm ZU=>?_);refine Qx ZU rfl (sc rfl) (λQ5 pe _ KV=>?_);have kr:Ext QG Q5:=X0 Jx ZU pe;have hd:=Ext.drew Q5;have hBr:=((JM.mod Zk nrq).ext kr).ext hd;refine nR Qa 7 (by kernel_rfl) ?_;refine QL (v:=.map (some w6.heap.size)) (λw' Qb=>by subst Qb;rw[hBr.cell];rfl) ?_;refine QL (v:=.string (Qf x.1)) (λw' Qb=>by subst Qb;rw[(KV.ext hd).cell];rfl) ?_;refine jo (kv:=VE) (a:=Qf x.1) Qa rfl rfl rfl rfl rfl mQk rfl rfl rfl ((Z7.ext kr).ext hd) (λXR vE Gt aT=>?_);have J1:Mod (·=w6.heap.size) Q5.drew XR:=mQj vE rfl;refine Qm ((i+1:Nat):Int) (by show((i:Nat):Int)+1=_;omega) (by omega) ?_;refine⟨i+1,rfl,⟨(Zk.trans (Mod.of_ext (·=w6.heap.size) (kr.trans hd)) (λi hi=>.inl hi)).trans J1 (λi hi=>.inl hi),?_,by omega⟩,by show fs.length-(i+1)<fs.length-i;omega⟩;rw[MJ (s:=x.1) (by rw[K2,hx];rfl)];exact aT
  have hie:i=fs.length:=by omega
  rw[hie,Jz (by simp)] at Z7;have Wh:Mod (·=w6.heap.size) w7 QG:=(Mod.of_ext _ Ya).trans Zk (λi hi=>.inl hi);obtain⟨w0,rX,hws,hwm,hwe⟩:=fQT YS Wh Z7;have S5:=JM.mod Zk nrq;have Wo:=DC kQK root iF;have nr6:¬w.heap.size=w6.heap.size:=by have:=KD.size;have:=Qj.size;omega
  have jQz:¬w1.heap.size=w6.heap.size:=by have:=KD.size;have:=Qj.size;omega
  have S8:=(SY.ext mD).mod Zk nr6;have S9:=(SZ.ext mD).mod Zk jQz;have mE:Ext w QG:=Zk.ext S4 (λi hi=>by have:=XG.size;omega);refine ZC (Zq Qa ?_);refine Qp S5 rfl ?_;refine t7 (kv:=VE) (a:=Qf root) (v:=.int .i64 ((Ja (fs.map (·.1)) root).getD 0:Nat)) (b:=(Ja (fs.map (·.1)) root).isSome) Qa rfl rfl rfl rfl rfl mQk rfl rfl Z7 (by rw[Wo];cases Ja (fs.map (·.1)) root<;>rfl) (by rw[Wo];cases Ja (fs.map (·.1)) root<;>rfl) ?_;refine ZC (Zq Qa ?_);cases JY:Ja (fs.map (·.1)) root with
  | none=>
   rw[JY] at YZ;refine Xc rfl ?_;refine Qx S8 rfl (sc rfl) (λQD vN _ ZU=>?_);have ZQ:Mod (·=w.heap.size) QG QD:=mQj vN rfl;refine Qx (S9.mod ZQ QK) rfl (sc rfl) (λQ5 pe _ KV=>?_);have Va:Mod (·=w1.heap.size) QD Q5:=mQj pe rfl;refine ig Qa rfl (.inl rfl) ?_;refine Qs (ZU.mod Va QK.symm) rfl ?_;refine Qs KV rfl ?_;rw[YZ];exact⟨Va.ext (ZQ.ext mE (λi hi=>by omega)) (λi hi=>by omega),rfl⟩
  | some n=>
  rw[JY] at YZ;simp only at YZ;refine Xt rfl ?_;have Kn:n<fs.length:=by have:=jF JY;simpa using this
  refine ZC (ub Qa rfl rfl rfl rfl ⟨_,_,_,_,rfl,rfl,?_⟩);refine ZC (Zq Qa ?_);refine call (bw true QG) ?_;rintro _ QD ⟨rfl,Jx⟩
  let p:RP:=⟨w8.heap.size,w7.heap.size,w6.heap.size,NA,nn,nc,nm,FA,nf,cf,fs⟩
  let m:RM:=⟨none,0,none,0,[],.pointer none,λi=>i=w.heap.size∨i=w1.heap.size⟩
  let v:RV:=⟨0,0,0,[],⟨[],[],false⟩⟩
  have jQA:Ext w6 w0:=hwe w6 Q1 (QE _);have Ta:Ext w w0:=XG.trans jQA;have hP:RPok w0 p:=⟨hN.ext Ta,Vw,hk,hF.ext Ta,wW,hwm⟩
  have sm:=Jx.size;have jQg:=Zk.size;have ZH:Rr w0 QD QD.heap.size p m v:=by
   refine⟨rX.trans Jx,?_,?_,?_,?_,?_,QE _,.inl rfl,S5.ext Jx,Own.nil _ _ _ _,Own.nil _ _ _ _,rfl,(λj s x hs=>by simp[v] at hs),?_,(XM _),(XM _),(λx hx=>by cases hx),(λ_=>.inr rfl),(λi hi=>by
    have:=KD.size;have:=Qj.size;rcases hi with hi | hi<;>rw[hi]<;>omega)⟩
   ·show w0.heap.size<=w8.heap.size;omega
   ·show w0.heap.size<=w7.heap.size;omega
   ·show w8.heap.size<QD.heap.size;omega
   ·show w7.heap.size<QD.heap.size;omega
   ·show w8.heap.size≠w7.heap.size;omega
   ·refine⟨[],(Aw.mod Zk (by show¬w7.heap.size=w6.heap.size;omega)).ext Jx,by simp,λn=>by simp[Xv,v]⟩
  have jQB:DgO QD (TS p m) p.nm.length ⟨none,0,0,[],1⟩ (λ_=>true):=⟨SlS.nil _,aH _ true,λad e=>by cases e⟩
  have jQC:w0.heap.size<=QD.heap.size:=(rX.trans Jx).size;have pU:∀i,RS p m i->i=w8.heap.size∨i=w7.heap.size:=λi hi=>by
   rcases hi with hi | hi | ⟨_,e,_⟩ | ⟨_,e,_⟩
   ·exact .inl hi
   ·exact .inr hi
   ·cases e
   ·cases e
  have jQD:=S8.ext Jx;have jQE:=S9.ext Jx;have lQw:=KD.size;have o6:=Qj.size;have keep:∀w',Mod (RS p m) QD w'->Ext w w'/\Blk w' w.heap.size 41 (JB (.agg #[.string ByteArray.empty,.slice none 0 0]))/\Blk w' w1.heap.size 93 (lL ⟨0,0,0⟩):=λw' hm=>by
   refine⟨hm.ext (mE.trans Jx) (λi hi=>?_),jQD.mod hm (λhi=>?_),jQE.mod hm (λhi=>?_)⟩
   ·have:=XG.size;rcases pU i hi with rfl | rfl<;>omega
   ·rcases pU _ hi with e | e<;>omega
   ·rcases pU _ hi with e | e<;>omega
  refine XI (OV w0 QD.heap.size p hP jQC 65 m v n ⟨none,0,0,[],1⟩ (λ_=>true) QD ZH jQB Kn (λhh=>by cases hh) (XM _) (QE _)) ?_ ?_
  rotate_left
  ·rintro ch Q5 ⟨q,hq,rfl,Yp⟩;have hq:aa nm fs 65 [] 0 n (λ_=>true) ⟨[],[],false⟩= .error q:=hq;rw[hq] at YZ;obtain⟨Xq,GI,GJ⟩:=keep Q5 Yp;refine WC Qa rfl rfl (args:= #[.pointer (some ⟨w.heap.size,0,none⟩),.pointer (some ⟨w1.heap.size,0,none⟩)]) (by simp) ((fQO _ _ q Q5 _ _ rfl rfl QK.symm GI GJ).mono ?_);rintro e u' XR ⟨v,rfl,GK,gh⟩;refine⟨v,rfl,GK,?_⟩;refine Qs gh.1 rfl ?_;refine Qs gh.2.1 rfl ?_;rw[YZ];exact⟨gh.2.2.ext Xq (λi hi=>by rcases hi with rfl | rfl<;>omega),rfl⟩
  rintro _ Q5 ⟨g',Vh,m',fm,XS,Yp,_,_⟩;have Vh:aa nm fs 65 [] 0 n (λ_=>true) ⟨[],[],false⟩= .ok g':=Vh;rw[Vh] at YZ;obtain⟨Xq,GI,GJ⟩:=keep Q5 Yp;refine ZC (Zq Qa ?_);have nb:=XS.nrow.2;have lQx:=XS.rb;have lQy:=XS.top;have iT:∀i,Qi m'.BA i->QD.heap.size<=i:=λi hi=>(XS.txt.rows i hi).1
  have nprs:¬(Qi m'.BA w8.heap.size∨w8.heap.size=w.heap.size∨w8.heap.size=w1.heap.size):=λhh=>by
   rcases hh with hh | hh | hh
   ·exact nb hh
   ·omega
   ·omega
  have hd:=Ext.drew Q5;refine XJ Qa (Mod (λi=>Qi m'.BA i∨i=w.heap.size∨i=w1.heap.size) Q5) 12 [(true,0),(true,1),(true,2),(true,4),(true,5),(true,6),(true,7),(true,9),(false,3),(true,8),(false,10),(false,11)] (by kernel_rfl) (Mod.of_ext _ hd) ?_;refine QL (v:=.slice m'.OA g'.sg.length m'.oc) (λw' Qb=>by rw[(XS.blk.mod Qb nprs).cell];rfl) ?_;have Yr:=XS.tl;refine call (eQ2 QD.heap.size w8.heap.size 157 5 (jL p m' {v with g:=g'}) m'.BA m'.bc g'.tx Q5.drew (XS.blk.ext hd) rfl (XS.txt.ext hd) XS.b8 (by simp only at Yr;omega)) ?_;rintro _ XR ⟨rfl,aT⟩;have J1:Mod (λi=>Qi m'.BA i∨i=w.heap.size∨i=w1.heap.size) Q5 XR:=(Mod.of_ext _ hd).trans aT (λi hi=>.inl (.inl hi));refine⟨J1,?_⟩;have nsB:¬Qi m'.BA w.heap.size:=λhh=>by have:=iT _ hh;omega
  have npB:¬Qi m'.BA w1.heap.size:=λhh=>by have:=iT _ hh;omega
  refine Qx ((GI.ext hd).mod aT nsB) rfl (sc rfl) (λZa dL _ JN=>?_);have KA:Mod (·=w.heap.size) XR Za:=mQj dL rfl;have Tb:=J1.trans KA (λi hi=>.inl (.inr (.inl hi)));refine⟨Tb,?_⟩;refine Qx (((GJ.ext hd).mod aT npB).mod KA QK) rfl (sc rfl) (λKa jQF _ sn=>?_);have Tc:Mod (·=w1.heap.size) Za Ka:=mQj jQF rfl;have Ax:=Tb.trans Tc (λi hi=>.inl (.inr (.inr hi)));refine⟨Ax,?_⟩;have GL:=JN.mod Tc QK.symm;refine Zq Qa ?_;refine eI Qa rfl rfl (.inl rfl) (args:= #[.pointer (some ⟨w.heap.size,0,none⟩),.pointer (some ⟨w1.heap.size,0,none⟩)]) (by simp) ((fQP _ _ Ka).mono ?_);rintro e u' WV ⟨u,rfl,GN,VQ⟩;refine⟨u,rfl,GN,?_⟩;refine Qs (GL.ext VQ) rfl ?_;refine Qs (sn.ext VQ) rfl ?_;rw[YZ];have Ve:Ext w Ka:=Ax.ext Xq (λi hi=>by
   rcases hi with hi | rfl | rfl
   ·have:=iT _ hi;omega
   ·exact QE _
   ·omega)
  have nO:∀i,Qi m'.OA i->¬(Qi m'.BA i∨i=w.heap.size∨i=w1.heap.size):=λi hi hh=>by
   have:=(XS.out.rows i hi).1;rcases hh with hh | rfl | rfl
   ·exact XS.out.apart XS.txt (by decide) hi hh
   ·omega
   ·omega
  refine⟨Ve.trans VQ,⟨XS.b8,XS.tl,XS.sl⟩,m'.OA,m'.oc,m'.L,rfl,SgIn.ext ⟨(XS.out.mod Ax nO).sl,rfl,XS.len,λj s x h1 h2=>?_⟩ VQ⟩;have xf:=XS.dgs j s x h1 h2;refine⟨SB.modo xf.sb Ax (λad e h0 hh=>?_),xf.st⟩;rcases hh with hh | hh | hh
  ·exact xf.off ad e h0 (.inl (.inr (.inr (.inr hh))))
  ·exact xf.off ad e h0 (.inr (by rw[fm];exact .inl hh))
  ·exact xf.off ad e h0 (.inr (by rw[fm];exact .inr hh))
end
def fR (c:Nat):Nat->Bool:=λi=>decide (c/2^i % 2=1)
theorem fQU (x:Nat)(hx:x<18446744073709551616):IntKind.u64.wrap ((BitVec.ofInt 64 (x:Int) &&& BitVec.ofInt 64 1).toNat)=((x % 2:Nat):Int):=by
 have e:(BitVec.ofInt 64 (x:Int) &&& BitVec.ofInt 64 1).toNat=x % 2:=by
  rw[BitVec.ofInt_natCast,show BitVec.ofInt 64 1=BitVec.ofNat 64 1 from rfl,BitVec.toNat_and,BitVec.toNat_ofNat,BitVec.toNat_ofNat];rw[aw (by omega),show 1 % 2^64=1 by decide,Nat.and_one_is_mod]
 rw[e];rcases(show x % 2=0∨x % 2=1 by omega)with h | h<;>rw[h]<;>decide
def zf (l:List Bool):List Value:=l.map Value.bool
theorem fQV {l:List Bool}{j:Nat}{b:Bool}(h:l[j]? =some b):(zf l)[j]? =some (.bool b):=by simp[zf,h]
structure FhI (w0:World) (g:Nat) (f:List Fz) (e:Nat->Bool) (n s:Nat) (L:List Bool) (w:World):Prop where
 m:Mod (·=g) w0 w
 blk:Blk w g 4 (zf L)
 len:L.length=n
 got:∀j,j<s->∃t,RepF f t j/\L[j]? =some (evF t e)
 rest:∀j,s<=j->j<n->L[j]? =some false
theorem FhI.ext {w0 w w':World}{g:Nat}{f:List Fz}{e:Nat->Bool}{n s:Nat}{L:List Bool}(h:FhI w0 g f e n s L w)(k1:Ext w w'):FhI w0 g f e n s L w':=
 ⟨h.m.trans (Mod.of_ext (·=g) k1) (λ_ hi=>.inl hi),h.blk.ext k1,h.len,h.got,h.rest⟩
theorem FhI.at_ {w0 w:World}{g:Nat}{f:List Fz}{e:Nat->Bool}{n s:Nat}{L:List Bool}(h:FhI w0 g f e n s L w){j:Nat}(hj:j<s){t:Fm}(ht:RepF f t j):(zf L)[j]? =some (.bool (evF t e)):=by
 obtain⟨u,h1,h2⟩:=h.got j hj;rw[mQl ht h1];exact fQV h2
def zg (l:List Nat)(k:Nat):Bool:=decide (k/8<l.length)&&decide ((l[k/8]?.getD 0)/2^(k % 8) % 2=1)
def bA (l:List Nat):Nat->Nat->Nat->(Nat->Bool)->Bool
 | 0,_,k,_=>zg l k
 | d+1,v,k,e=>if e v then bA l d (v+1) (k+2^v) e else bA l d (v+1) k e
theorem zh {nd:List Br}(hw:WD nd){k:Nat}(hk:VIn k nd)(h0:∀b∈nd,0<=b.v){e e':Nat->Bool}(h:∀i,i<k->e i=e' i):∀(m:Nat)(n:Int),n.toNat<m->n<nd.length+2->ev nd n e=ev nd n e'
 | 0,n,hm,_=>by omega
 | m+1,n,hm,hn=>by
  by_cases h2:n<2
  ·rw[Jr h2,Jr h2]
  obtain⟨b,hb⟩:=YQ h2 hn;obtain⟨b3,b4,b5,b6⟩:=hw _ _ hb;have tg:=Xe hb;have hv:=hk b tg;have dO:=h0 b tg;rw[br hw h2 hb,br hw h2 hb,zh hw hk h0 h m b.h (by omega) (by omega),zh hw hk h0 h m b.l (by omega) (by omega),h b.v.toNat (by omega)]
theorem Set1.ext {k:Nat}{nd:List Br}{r:Int}{o:(Nat->Bool)->Bool}(hS:Set1 k nd r o){e e':Nat->Bool}(h:∀i,i<k->e i=e' i):o e=o e':=by
 rw[<-hS.mean e,<-hS.mean e'];refine zh hS.vd.wf hS.vin (λb hb=>?_) h (r.toNat+1) r (by omega) hS.vd.2.2.1;obtain⟨j,hj,rfl⟩:=CJ.1 hb;exact(hS.vd.1 j _ (Xs hj)).1
end
section
def eO (w:World)(k:Nat)(o:(Nat->Bool)->Bool)(v:Value)(w':World):Prop:=∃A n c nd r,v=Xg A n c r/\Ext w w'/\SB w' A n c nd/\Set1 k nd r o/\∀i,Qi A i->w.heap.size<=i
def uK (w:World)(k:Nat)(o:(Nat->Bool)->Bool)(v:Value)(w':World):Prop:=∃A n c nd r,v= .tuple #[Xg A n c r,.int .i64 0]/\Ext w w'/\SB w' A n c nd/\Set1 k nd r o/\∀i,Qi A i->w.heap.size<=i
theorem zi (b:Bool)(w:World):Fn Tryz.prog 29 [.bool b] w (λv w'=>v=Xg none 0 0 (if b then 1 else 0)/\Ext w w'):=by
 refine QF (c:={c29 with cuts:=[]}) Qa Tryz.func29 rfl rfl rfl ?_;refine new (λw1 Qd Q2 Qh=>?_);cases b with
 | true=>
  refine Xc rfl ?_;refine Qx Qh rfl (sc rfl) (λw3 ZT _ Qu=>?_);refine Qs Qu rfl ?_;exact⟨rfl,X0 Qd Qh ZT⟩
 | false=>
  refine Xt rfl ?_;refine Qx Qh rfl (sc rfl) (λw3 ZT _ Qu=>?_);refine Qs Qu rfl ?_;exact⟨rfl,X0 Qd Qh ZT⟩
section
variable {k:Nat} (hk:k<=12)
include hk
theorem Ev {a b:List Br}{ra rb:Int}{o o':(Nat->Bool)->Bool}(A:Option Addr)(n c:Nat)(B:Option Addr)(m d:Nat)(op:Int)(ho:op≠3/\op≠4)(w:World)(h:SB w A n c a)(h':SB w B m d b)(s:Set1 k a ra o)(s':Set1 k b rb o'):
  Fn Tryz.prog 58 [Xg A n c ra,Xg B m d rb,.int .i64 op] w (eO w k (λe=>J5 op (o e) (o' e))):=by
 have l1:=s.len hk;have l2:=s'.len hk;have KF:=h.2;have ee:=h'.2;have hb2:=DR s.vd s'.vd op;have Cg:(a.length+2)*(b.length+2)<=4098*4098:=Nat.mul_le_mul (by omega) (by omega);refine(dQ3 A n c a ra B m d b rb op w h h' s.vd.dok s'.vd.dok s.vd.2.1 (by have:=s.vd.2.2.1;omega) s'.vd.2.1 (by have:=s'.vd.2.2.1;omega) (by omega) (by omega) (by omega) (by omega) ho).mono ?_;rintro v w' ⟨OA,q,oc,rfl,hE,hO,hR⟩;exact⟨OA,q,oc,_,_,rfl,hE,hO,dx s s' op,hR⟩
theorem O0 {a b:List Br}{ra rb:Int}{o o':(Nat->Bool)->Bool}(A:Option Addr)(n c:Nat)(B:Option Addr)(m d:Nat)(w:World)(h:SB w A n c a)(h':SB w B m d b)(s:Set1 k a ra o)(s':Set1 k b rb o'):
  Fn Tryz.prog 66 [Xg A n c ra,Xg B m d rb] w (eO w k (λe=>J5 1 (o e) (o' e))):=by
 refine QF (c:={c66 with cuts:=[]}) Qa Tryz.func66 rfl rfl rfl ?_;refine new (λw1 Qd Q2 Qh=>?_);refine new (λw2 Qg X9 Qw=>?_);refine new (λw3 Qj JV Qu=>?_);have QQ:=(Qd.trans Qg).trans Qj;refine Qs ((Qh.ext Qg).ext Qj) rfl ?_;refine Qs (Qw.ext Qj) rfl ?_;refine call (Ev hk A n c B m d 1 (by decide) w3 (h.ext QQ) (h'.ext QQ) s s') ?_;rintro _ w4 ⟨PA,q,pc,nd,r,rfl,Qq,dI,Wf,aP⟩;refine Qx (Qu.ext Qq) rfl (sc rfl) (λw5 Jk _ QH=>?_);have ZW:Mod (·=w2.heap.size) w4 w5:=mQj Jk rfl;refine Qs QH rfl ?_;exact⟨PA,q,pc,nd,r,rfl,ZW.ext (QQ.trans Qq) (λi hi=>by omega),dI.mod ZW (λi hi e=>by have:=aP i hi;omega),Wf,λi hi=>by have:=aP i hi;omega⟩
theorem O1 {a b:List Br}{ra rb:Int}{o o':(Nat->Bool)->Bool}(A:Option Addr)(n c:Nat)(B:Option Addr)(m d:Nat)(w:World)(h:SB w A n c a)(h':SB w B m d b)(s:Set1 k a ra o)(s':Set1 k b rb o'):
  Fn Tryz.prog 22 [Xg A n c ra,Xg B m d rb] w (eO w k (λe=>J5 0 (o e) (o' e))):=by
 refine QF (c:={c22 with cuts:=[]}) Qa Tryz.func22 rfl rfl rfl ?_;refine new (λw1 Qd Q2 Qh=>?_);refine new (λw2 Qg X9 Qw=>?_);refine new (λw3 Qj JV Qu=>?_);have QQ:=(Qd.trans Qg).trans Qj;refine Qs ((Qh.ext Qg).ext Qj) rfl ?_;refine Qs (Qw.ext Qj) rfl ?_;refine call (Ev hk A n c B m d 0 (by decide) w3 (h.ext QQ) (h'.ext QQ) s s') ?_;rintro _ w4 ⟨PA,q,pc,nd,r,rfl,Qq,dI,Wf,aP⟩;refine Qx (Qu.ext Qq) rfl (sc rfl) (λw5 Jk _ QH=>?_);have ZW:Mod (·=w2.heap.size) w4 w5:=mQj Jk rfl;refine Qs QH rfl ?_;exact⟨PA,q,pc,nd,r,rfl,ZW.ext (QQ.trans Qq) (λi hi=>by omega),dI.mod ZW (λi hi e=>by have:=aP i hi;omega),Wf,λi hi=>by have:=aP i hi;omega⟩
theorem fQW {a:List Br}{ra:Int}{o:(Nat->Bool)->Bool}(A:Option Addr)(n c:Nat)(w:World)(h:SB w A n c a)(s:Set1 k a ra o):
  Fn Tryz.prog 59 [Xg A n c ra] w (eO w k (λe=> !o e)):=by
 refine QF (c:={c59 with cuts:=[]}) Qa Tryz.func59 rfl rfl rfl ?_;refine new (λw1 Qd Q2 Qh=>?_);refine new (λw2 Qg X9 Qw=>?_);have Q4:=Qd.trans Qg;have KV:=Qh.ext Qg;refine XJ Qa (Ext w2) 3 [(true,0),(false,1),(false,2)] (by kernel_rfl) (Ext.drew w2) ?_;refine Xl (vs:=[.slice A n c,.int .i64 ra]) rfl (λw' Qb j v hj=>by have:=(KV.ext Qb).cell j;rw[this];exact hj) ?_;refine call (zi true _) ?_;rintro _ w3 ⟨rfl,Qj⟩;have Yb:=(Ext.drew w2).trans Qj;refine⟨Yb,?_⟩;have s1:Set1 k [] 1 (λ_=>true):=aH k true;refine call (Ev hk A n c none 0 0 2 (by decide) w3 (h.ext (Q4.trans Yb)) (SlS.nil _) s s1) ?_;rintro _ w4 ⟨PA,q,pc,nd,r,rfl,Qq,dI,Wf,aP⟩;have JL:=Yb.trans Qq;refine⟨JL,?_⟩;have hz:=(Q4.trans Yb).size;refine Qx (Qw.ext JL) rfl (sc rfl) (λw5 Jk _ QH=>?_);have ZW:Mod (·=w1.heap.size) w4 w5:=mQj Jk rfl;refine Qs QH rfl ?_;have Td:=Yb.size;exact⟨PA,q,pc,nd,r,rfl,ZW.ext (Q4.trans JL) (λi hi=>by omega),dI.mod ZW (λi hi e=>by have:=aP i hi;omega),Wf.congr (λe=>by cases o e<;>rfl),λi hi=>by have:=aP i hi;omega⟩
theorem fQX {a b:List Br}{ra rb:Int}{o o':(Nat->Bool)->Bool}(A:Option Addr)(n c:Nat)(B:Option Addr)(m d:Nat)(w:World)(h:SB w A n c a)(h':SB w B m d b)(s:Set1 k a ra o)(s':Set1 k b rb o'):
  Fn Tryz.prog 23 [Xg A n c ra,Xg B m d rb] w (eO w k (λe=>o e && !o' e)):=by
 refine QF (c:={c23 with cuts:=[]}) Qa Tryz.func23 rfl rfl rfl ?_;refine new (λw1 Qd Q2 Qh=>?_);refine new (λw2 Qg X9 Qw=>?_);refine new (λw3 Qj JV Qu=>?_);have QQ:=(Qd.trans Qg).trans Qj;have KJ:=(Qh.ext Qg).ext Qj;have mi:=Qw.ext Qj;refine XJ Qa (Ext w3) 4 [(true,0),(true,1),(false,2),(false,3)] (by kernel_rfl) (Ext.drew w3) ?_;refine Xl (vs:=[.slice A n c,.int .i64 ra]) rfl (λw' Qb j v hj=>by have:=(KJ.ext Qb).cell j;rw[this];exact hj) ?_;refine Xl (vs:=[.slice B m d,.int .i64 rb]) rfl (λw' Qb j v hj=>by have:=(mi.ext Qb).cell j;rw[this];exact hj) ?_;refine call (fQW hk B m d _ (h'.ext (QQ.trans (Ext.drew w3))) s') ?_;rintro _ w4 ⟨QA,q1,qc,nd1,r1,rfl,Qq,hQ4,hT4,_⟩;have KB:=(Ext.drew w3).trans Qq;refine⟨KB,?_⟩;refine call (O1 hk A n c QA q1 qc w4 (h.ext (QQ.trans KB)) hQ4 s hT4) ?_;rintro _ w5 ⟨PA,q,pc,nd,r,rfl,Qt,o9,gg,an⟩;have JW:=KB.trans Qt;refine⟨JW,?_⟩;have lQz:=KB.size;refine Qx (Qu.ext JW) rfl (sc rfl) (λw6 Wd _ Xh=>?_);have KI:Mod (·=w2.heap.size) w5 w6:=mQj Wd rfl;refine Qs Xh rfl ?_;exact⟨PA,q,pc,nd,r,rfl,KI.ext (QQ.trans JW) (λi hi=>by omega),o9.mod KI (λi hi e=>by have:=an i hi;omega),gg.congr (λe=>by simp[J5]),λi hi=>by have:=an i hi;omega⟩
end
theorem Ew {k v:Nat}(hv:v<k)(hk:k<=64):Set1 k [⟨(v:Nat),0,1⟩] 2 (λe=>e v):=⟨yN (by omega) (by omega),λb hb=>by simp only[QJ] at hb;subst hb;show((v:Nat):Int)<k;omega,λe=>by
 rw[br (yN (k:=((v:Nat):Int)) (by omega) (by omega)).wf (by decide) (b:=⟨(v:Nat),0,1⟩) rfl,Jr (by simp),Jr (by simp)];cases h:e v<;>simp[h]⟩
end
noncomputable section
section
structure Sx where
 f:Int
 t:Int
 fl:Int
 at_:Int
 x:DV
def Sx.cells (y:Sx):List Value:=[.int .i64 y.f,.int .i64 y.t,.int .i64 y.fl,.int .i64 y.at_,.slice y.x.A y.x.n y.x.c,.int .i64 y.x.r]
theorem zj (y:Sx):y.cells.length=6:=rfl
structure SX (w:World) (A:Option Addr) (n c:Nat) (L:List Sx):Prop where
 sl:SlS Sx.cells 6 w A n c L
 dg:∀y∈L,SB w y.x.A y.x.n y.x.c y.x.nd
theorem SX.ext {w w':World}{A:Option Addr}{n c:Nat}{L:List Sx}(h:SX w A n c L)(k:Ext w w'):SX w' A n c L:=⟨h.sl.ext k,λy hy=>(h.dg y hy).ext k⟩
def fQY (tx:List Nat)(at_:Int)(y:Sx):Prop:=y.f=at_/\at_<y.t/\y.t<=tx.length/\tx[(y.t-1).toNat]? =some 10/\XC y.x.nd y.x.r=0/\0<=y.fl/\0<=y.at_/\y.at_<=1048576-(y.t-y.f)
def O2 (tx:List Nat):Int->List Sx->Prop
 | at_,[]=>at_=tx.length
 | at_,y::L=>fQY tx at_ y/\O2 tx y.t L
open Classical in
def fQZ (tx:List Nat)(L:List Sx):Int:=if 1048576<tx.length∨65536<L.length then 2 else if O2 tx 0 L then 0 else 70
end
section
end
section
abbrev I2:=Int×Int
abbrev fS:I2->Value:=λt=>.agg #[.int .i64 t.1,.int .i64 t.2]
theorem fQ0 (a b:I2)(n:Nat)(w:World):(Op.equalIn (n+2) 253 (fS a) (fS b)).run Tryz.prog w= .ok (decide (a=b)) w:=by
 obtain⟨i,hi⟩:=Ly.1 (show(Tryz.prog.info? 3).isSome=true by kernel_rfl);obtain⟨a0,a1⟩:=a;obtain⟨b0,b1⟩:=b;have e:=run_equalIn_array (w:=w) (n+1) #[.int .i64 a0,.int .i64 a1] #[.int .i64 b0,.int .i64 b1] Tryz.underlying253 hi;rw[yR,show List.range 2=[0,1] from rfl] at e;refine e.trans ?_;have p0:∀x y:Int,(part 3 #[Value.int .i64 x,.int .i64 y] (0*1)).run Tryz.prog w= .ok (.int .i64 x) w:=λx y=>bf k3 rfl w
 have p1:∀x y:Int,(part 3 #[Value.int .i64 x,.int .i64 y] (1*1)).run Tryz.prog w= .ok (.int .i64 y) w:=λx y=>bf k3 rfl w
 have dd:decide ((a0,a1)=(b0,b1))=(a0==b0&&a1==b1):=by
  by_cases h0:a0=b0<;>by_cases h1:a1=b1<;>simp[h0,h1]
 rw[dd];simp only[Op.eqItems,Sem.run_bind,p0,Result.andThen_ok,uB];cases h0:a0==b0 with
 | false=>simp
 | true=>
  simp only[Bool.not_true,Lq,if_false,Sem.run_bind,p1,Result.andThen_ok,uB,df];cases h1:a1==b1<;>simp
theorem fQ1 (b:Bool)(a:I2)(n:Nat)(w:World):(Instr.checkKey b (n+2) 253 (fS a)).run Tryz.prog w= .ok () w:=by
 obtain⟨i,hi⟩:=Ly.1 (show(Tryz.prog.info? 3).isSome=true by kernel_rfl);have p0:∀x y:Int,(part 3 #[Value.int .i64 x,.int .i64 y] 0).run Tryz.prog w= .ok (.int .i64 x) w:=λx y=>bf k3 rfl w
 have p1:∀x y:Int,(part 3 #[Value.int .i64 x,.int .i64 y] 1).run Tryz.prog w= .ok (.int .i64 y) w:=λx y=>bf k3 rfl w
 have hz:(sizeOf 3).run Tryz.prog w= .ok 1 w:=by rw[<-yR];exact Go.run_sizeOf w hi
 simp[Instr.checkKey,ZI Tryz.underlying253,ZI Tryz.underlying3,hz,p0,p1,Std.Legacy.Range.forIn_eq_forIn_range',Std.Legacy.Range.size,List.range'_succ]
theorem zk:KeyQ Tryz.prog 253 fS:=
 mQn Tryz.underlying253 (λa b w=>fQ0 a b 9998 w) (λb a w=>fQ1 b a 9998 w) (λa=>by simp[Instr.sameBits])
def dz (a:List Br)(x:Int)(b:List Br)(y:Int):Prop:=∃e,ev a x e=true/\ev b y e=true
theorem O3 {a:List Br}(h:Rd0 a){x:Int}(h0:0<=x)(h1:x<a.length+2)(hx:x≠0):∃e,ev a x e=true:=by
 apply Classical.byContradiction;intro hn;refine hx (inj h h0 (by decide) h1 (by omega) (λe=>?_));have e1:ev a 0 e=false:=by rw[Jr (by decide)]<;>rfl
 rw[e1];cases hc:ev a x e with
 | false=>rfl
 | true=>exact Xm ⟨e,hc⟩ hn
theorem fQ2 {a b:List Br}(ha:Rd0 a)(hb:Rd0 b){x y:Int}(x0:0<=x)(x1:x<a.length+2)(y0:0<=y)(y1:y<b.length+2){v:Int}(hv:v=min (Qk a x) (Qk b y))(dM:v<64):
  dz a x b y↔dz a (Ql a x v).1 b (Ql b y v).1∨dz a (Ql a x v).2 b (Ql b y v).2:=by
 have l1:v<=Qk a x:=by rw[hv,ZR];split<;>omega
 have l2:v<=Qk b y:=by rw[hv,ZR];split<;>omega
 obtain⟨p1,p2,p3,p4,p5⟩:=q7 ha x0 x1 l1 dM;obtain⟨q1,q2,q3,q4,q5⟩:=q7 hb y0 y1 l2 dM;have v0:0<=v:=by
  have:=ha.lvl0 x1;have:=hb.lvl0 y1;rw[hv,ZR];split<;>omega
 constructor
 ·rintro⟨e,e1,e2⟩;rw[p1] at e1;rw[q1] at e2;cases he:e v.toNat with
  | true=>rw[he,Qe rfl] at e1 e2;exact .inr ⟨e,e1,e2⟩
  | false=>rw[he,if_neg (by decide)] at e1 e2;exact .inl ⟨e,e1,e2⟩
 ·rintro(⟨e,e1,e2⟩ | ⟨e,e1,e2⟩)
  ·refine⟨VZ e v.toNat false,?_,?_⟩
   ·rw[p1,show VZ e v.toNat false v.toNat=false from Qe rfl,if_neg (by decide),cz ha v.toNat false e _ _ (dh _) p4 (by omega)];exact e1
   ·rw[q1,show VZ e v.toNat false v.toNat=false from Qe rfl,if_neg (by decide),cz hb v.toNat false e _ _ (dh _) q4 (by omega)];exact e2
  ·refine⟨VZ e v.toNat true,?_,?_⟩
   ·rw[p1,show VZ e v.toNat true v.toNat=true from Qe rfl,Qe rfl,cz ha v.toNat true e _ _ (dh _) p5 (by omega)];exact e1
   ·rw[q1,show VZ e v.toNat true v.toNat=true from Qe rfl,Qe rfl,cz hb v.toNat true e _ _ (dh _) q5 (by omega)];exact e2
structure MP where
 D:DV
 E:DV
 bo:Nat
 sx:Nat
 ax:Nat
 bx:Nat
 cx:Nat
 q:Nat
def MP.caps (p:MP):List Value:=[VP.ptr p.bo,VP.ptr p.sx,VP.ptr p.ax,VP.ptr p.bx,VP.ptr p.cx]
def MP.clo (p:MP):Value:=.func (.func 166) #[] #[VP.ptr p.bo,VP.ptr p.sx,VP.ptr p.ax,VP.ptr p.bx,VP.ptr p.cx]
structure MK (w:World) (p:MP):Prop where
 bob:Blk w p.bo 4 [.bool true]
 sxb:Blk w p.sx 251 [.map (some p.q)]
 axb:Blk w p.ax 32 p.D.cells
 bxb:Blk w p.bx 32 p.E.cells
 cxb:Blk w p.cx 252 [p.clo]
 as_:SB w p.D.A p.D.n p.D.c p.D.nd
 bs:SB w p.E.A p.E.n p.E.c p.E.nd
 off:p.bo≠p.q/\p.sx≠p.q/\p.ax≠p.q/\p.bx≠p.q/\p.cx≠p.q
 rowA:∀ad,p.D.A=some ad->0<p.D.n->ad.block≠p.q
 rowB:∀ad,p.E.A=some ad->0<p.E.n->ad.block≠p.q
theorem MK.mod {w w':World}{p:MP}(h:MK w p)(hm:Mod (·=p.q) w w'):MK w' p:=by
 obtain⟨o1,o2,o3,o4,o5⟩:=h.off;refine⟨h.bob.mod hm o1,h.sxb.mod hm o2,h.axb.mod hm o3,h.bxb.mod hm o4,h.cxb.mod hm o5,⟨h.as_.1.modS hm ?_,h.as_.2⟩,⟨h.bs.1.modS hm ?_,h.bs.2⟩,h.off,h.rowA,h.rowB⟩
 ·rintro h0 i ⟨ad,e,rfl⟩;exact h.rowA ad e h0
 ·rintro h0 i ⟨ad,e,rfl⟩;exact h.rowB ad e h0
theorem MK.ext {w w':World}{p:MP}(h:MK w p)(k:Ext w w'):MK w' p:=h.mod (Mod.of_ext _ k)
def lN (w:World)(q:Nat)(S:List I2):Prop:=∃m,MapQ fS w q m/\∀t,(Xv t m).getD (.bool false)= .bool (decide (t∈S))
def MtC (p:MP)(x y:Int)(S:List I2)(w:World)(v:Value)(w':World):Prop:=
 Mod (·=p.q) w w'/\∃r:Bool,v= .bool r/\(r=true->dz p.D.nd x p.E.nd y)/\(r=false->¬dz p.D.nd x p.E.nd y/\∃S',lN w' p.q S'/\∀t∈S',t∈S∨¬dz p.D.nd t.1 p.E.nd t.2)
theorem O4 (p:MP)(ha:Rd0 p.D.nd)(hb:Rd0 p.E.nd):∀(k:Nat)(x y:Int)(S:List I2)(w:World),
  MK w p->lN w p.q S->(∀t∈S,t.1+t.2<=x+y->¬dz p.D.nd t.1 p.E.nd t.2)->0<=x->0<=y->x<p.D.n+2->y<p.E.n+2->x+y<k->
  Fn Tryz.prog 166 (.int .i64 x:: .int .i64 y::p.caps) w (MtC p x y S w)
 | 0,x,y,_,_,_,_,_,x0,y0,_,_,hk=>by omega
 | k+1,x,y,S,w,hK,hS,Xi,x0,y0,hx,hy,hk=>by
  have ih:=O4 p ha hb k;have KF:p.D.nd.length=p.D.n:=hK.as_.2;have ee:p.E.nd.length=p.E.n:=hK.bs.2;refine QF (c:={Mq with cuts:=[]}) Qa Tryz.func166 rfl rfl rfl ?_;refine Zn (λc1=>?_) (λc1=>?_)
  ·exact⟨Mod.refl _ _,false,rfl,λh=>(by cases h),λ_=>⟨(λ⟨e,e1,_⟩=>by rw[c1,Jr (by decide)] at e1;cases e1),S,hS,λt ht=>.inl ht⟩⟩
  refine QB (λc2=>?_) (λc2=>?_)
  ·refine Qv hK.bob rfl ?_;by_cases y1:y=1
   ·subst y1;refine Xt rfl ?_;refine X7 c2 ?_;refine⟨Mod.refl _ _,true,rfl,λ_=>?_,λh=>by cases h⟩;obtain⟨e,he⟩:=O3 ha x0 (by omega) c1;exact⟨e,he,by rw[Jr (by decide)];rfl⟩
   ·have GO:y=0:=by omega
    subst GO;refine Xc rfl ?_;exact⟨Mod.refl _ _,false,rfl,λh=>(by cases h),λ_=>⟨(λ⟨e,_,e1⟩=>by rw[Jr (by decide)] at e1;cases e1),S,hS,λt ht=>.inl ht⟩⟩
  refine Xy c2 ?_;obtain⟨mq,cW,Ko⟩:=hS;refine Qv hK.sxb rfl ?_;refine DI (kv:=fS) (a:=((x,y):I2)) Qa rfl rfl rfl rfl zk rfl rfl cW (Ko (x,y)) ?_;refine QB (λc3=>?_) (λc3=>?_)
  ·exact⟨Mod.refl _ _,false,rfl,λh=>(by cases h),λ_=>⟨Xi (x,y) c3 (kX _),S,⟨mq,cW,Ko⟩,λt ht=>.inl ht⟩⟩
  refine Qv hK.sxb rfl ?_;refine qJ (kv:=fS) (a:=((x,y):I2)) Qa rfl rfl rfl rfl zk rfl rfl rfl cW (λw1 dH Q2 gw=>?_);have JX:=hK.mod dH;have KC:lN w1 p.q ((x,y)::S):=⟨_,gw,λt=>by
   rw[W7];by_cases ht:t=(x,y)
   ·subst ht;simp
   ·rw[if_neg ht,Ko t];simp[ht]⟩
  have Zs:min (Qk p.D.nd x) (Qk p.E.nd y)<64:=by
   have:=WE hb.dok (n:=y) c2 (by omega);rw[ZR];split<;>omega
  have zP:=ha.lvl0 (n:=x) (by omega);have Xu:=hb.lvl0 (n:=y) (by omega);refine XJ Qa (Ext w1) 8 [(true,0),(true,1),(true,3),(true,4),(false,2),(false,5),(true,6),(true,7)] (by kernel_rfl) (Ext.drew w1) ?_;refine Xl (vs:=p.D.cells) rfl (λw' Qb j v hj=>by rw[(JX.axb.ext Qb).cell];exact hj) ?_;refine Xl (vs:=p.E.cells) rfl (λw' Qb j v hj=>by rw[(JX.bxb.ext Qb).cell];exact hj) ?_;refine call (cr p.D.A p.D.n p.D.c p.D.r x p.D.nd _ (JX.as_.ext (Ext.drew w1)) (by omega)) ?_;rintro u w2 ⟨rfl,Qg⟩;have Xq:=(Ext.drew w1).trans Qg;refine⟨Xq,?_⟩;refine call (cr p.E.A p.E.n p.E.c p.E.r y p.E.nd _ (JX.bs.ext Xq) (by omega)) ?_;rintro u w3 ⟨rfl,Qj⟩;have XD:=Xq.trans Qj;refine⟨XD,?_⟩;have mQ:(if Qk p.E.nd y<Qk p.D.nd x then Qk p.E.nd y else Qk p.D.nd x)=min (Qk p.D.nd x) (Qk p.E.nd y):=by
   rw[ZR];split<;>split<;>omega
  refine norm (m:=min (Qk p.D.nd x) (Qk p.E.nd y)) mQ ?_;have qa:=fQ2 ha hb x0 (by omega) y0 (by omega) (rfl:min (Qk p.D.nd x) (Qk p.E.nd y)=_) Zs;have ei:Qk p.D.nd x=min (Qk p.D.nd x) (Qk p.E.nd y)∨Qk p.E.nd y=min (Qk p.D.nd x) (Qk p.E.nd y):=by rw[ZR];split<;>simp
  generalize wK:min (Qk p.D.nd x) (Qk p.E.nd y)=v at*;obtain⟨s1,s2,s3,s4,s5⟩:=YP ha.dok (n:=x) x0 Zs;obtain⟨t1,t2,t3,t4,t5⟩:=YP hb.dok (n:=y) y0 Zs;have dec:(Ql p.D.nd x v).1+(Ql p.E.nd y v).1<x+y/\(Ql p.D.nd x v).2+(Ql p.E.nd y v).2<x+y:=by
   rcases ei with e | e
   ·have:=s5 e;omega
   ·have:=t5 e;omega
  have dK:=JX.ext XD;refine Qs dK.axb rfl ?_;refine call (ij p.D.A p.D.n p.D.c p.D.r x v p.D.nd _ dK.as_ (by omega) Zs) ?_;rintro u w4 ⟨rfl,Qq⟩;have Vt:=dK.ext Qq;refine Qs Vt.bxb rfl ?_;refine call (ij p.E.A p.E.n p.E.c p.E.r y v p.E.nd _ Vt.bs (by omega) Zs) ?_;rintro u w5 ⟨rfl,Qt⟩;have iB:=Vt.ext Qt;have Ve:=(XD.trans Qq).trans Qt;have ZW:Mod (·=p.q) w w5:=dH.trans (Mod.of_ext (·=p.q) Ve) (λi hi=>.inl hi);have gg:lN w5 p.q ((x,y)::S):=let ⟨m,k1,k2⟩:=KC;⟨m,k1.ext Ve,k2⟩;refine Qv iB.cxb rfl ?_;refine call (ih (Ql p.D.nd x v).1 (Ql p.E.nd y v).1 ((x,y)::S) w5 iB gg (λt ht ZK=>by
   rcases QX.1 ht with rfl | ht
   ·exact Xm ZK (by simp only;omega)
   ·exact Xi t ht (by omega)) s1 t1 (by omega) (by omega) (by omega)) ?_
  rintro _ w6 ⟨KI,r0,rfl,uW,gy⟩;have vR:Mod (·=p.q) w w6:=ZW.trans KI (λi hi=>.inl hi);cases r0 with
  | true=>
   refine Xc rfl ?_;exact⟨vR,true,rfl,λ_=>qa.2 (.inl (uW rfl)),λh=>by cases h⟩
  | false=>
   obtain⟨n0,S6,iD,vS⟩:=gy rfl;refine Xt rfl ?_;have aQ:=iB.mod KI;refine Qv aQ.cxb rfl ?_;refine call (ih (Ql p.D.nd x v).2 (Ql p.E.nd y v).2 S6 w6 aQ iD (λt ht ZK=>by
    rcases vS t ht with ht | ht
    ·rcases QX.1 ht with rfl | ht
     ·exact Xm ZK (by simp only;omega)
     ·exact Xi t ht (by omega)
    ·exact ht) s3 t3 (by omega) (by omega) (by omega)) ?_
   rintro _ w7 ⟨Q8,r1,rfl,mj,Zz⟩;have GP:Mod (·=p.q) w w7:=vR.trans Q8 (λi hi=>.inl hi);refine⟨GP,r1,rfl,λh=>qa.2 (.inr (mj h)),λh=>?_⟩;obtain⟨n1,S7,KW,GQ⟩:=Zz h;have nn:¬dz p.D.nd x p.E.nd y:=λhh=>(qa.1 hh).elim n0 n1
   refine⟨nn,S7,KW,λt ht=>?_⟩;rcases GQ t ht with ht | ht
   ·rcases vS t ht with ht | ht
    ·rcases QX.1 ht with rfl | ht
     ·exact .inr nn
     ·exact .inl ht
    ·exact .inr ht
   ·exact .inr ht
theorem fQ3 (A:Option Addr)(n c:Nat)(a:List Br)(ra:Int)(B:Option Addr)(m d:Nat)(b:List Br)(rb:Int)(w:World)(h:SB w A n c a)(h':SB w B m d b)(ha:VD a ra)(hb:VD b rb):
  Fn Tryz.prog 112 [Xg A n c ra,Xg B m d rb,.bool true] w (λu w'=>∃r:Bool,u= .bool r/\Ext w w'/\(r=true↔dz a ra b rb)):=by
 have KF:=h.2;have ee:=h'.2;refine QF (c:={Mo with cuts:=[]}) Qa Tryz.func112 rfl rfl rfl ?_;refine new (λw1 Qd Q2 Qh=>?_);refine new (λw2 Qg X9 Qw=>?_);refine new (λw3 Qj JV Qu=>?_);have QQ:=(Qd.trans Qg).trans Qj;refine qI Qa fS rfl ?_;intro w4 Qq Kz GR;refine new (λw5 Qt Kv QH=>?_);refine Kq QH (by decide) (λw6 KI Xh=>?_);have Xx:Ext w4 w6:=KI.ext Qt (λi hi=>by omega);refine new (λw7 Q1 YS QY=>?_);refine Kq QY (by decide) (λw8 ZA Xp=>?_);have YV:Ext w6 w8:=ZA.ext Q1 (λi hi=>by omega);have iI:=Xx.trans YV;have YE:=Qq.trans iI;have V9:=QQ.trans YE;have z6:=Xx.size
 let p:MP:=⟨⟨A,n,c,a,ra⟩,⟨B,m,d,b,rb⟩,w2.heap.size,w4.heap.size,w.heap.size,w1.heap.size,w6.heap.size,w3.heap.size⟩
 have hK:MK w8 p:=by
  refine⟨Qu.ext YE,Xh.ext YV,Qh.ext ((Qg.trans Qj).trans YE),Qw.ext (Qj.trans YE),Xp,h.ext V9,h'.ext V9,?_,λad e h0=>?_,λad e h0=>?_⟩
  ·simp only[p];omega
  ·have:=SB.lt h ad e h0;simp only[p];omega
  ·have:=SB.lt h' ad e h0;simp only[p];omega
 refine Qv hK.cxb rfl ?_;refine Qp hK.axb rfl ?_;refine Qp hK.bxb rfl ?_;refine call (O4 p ha.rd0 hb.rd0 (ra.toNat+rb.toNat+1) ra rb [] w8 hK ⟨[],GR.ext iI,λt=>rfl⟩ (λt ht=>by cases ht) ha.2.1 hb.2.1 (by have:=ha.2.2.1;simp only[p];omega) (by have:=hb.2.2.1;simp only[p];omega) (by have:=ha.2.1;have:=hb.2.1;omega)) ?_;rintro _ w9 ⟨Zc,r,rfl,h1,h2⟩;refine⟨r,rfl,Zc.ext V9 (λi hi=>by simp only[p] at hi;have:=QQ.size;omega),⟨h1,λhh=>?_⟩⟩;cases r with
 | true=>rfl
 | false=>exact Xm hh (h2 rfl).1
open Classical in
def oH (a:List Br)(ra:Int)(b:List Br)(rb:Int):Bool:=decide (XC a ra=0/\XC b rb=0/\¬dz a ra b rb)
open Classical in
theorem O5 {a:List Br}{ra:Int}{b:List Br}{rb:Int}:oH a ra b rb=true↔XC a ra=0/\XC b rb=0/\¬dz a ra b rb:=by unfold oH;exact decide_eq_true_iff
theorem O6 {a:List Br}{ra:Int}{b:List Br}{rb:Int}(h:XC a ra=0/\XC b rb=0/\¬dz a ra b rb):oH a ra b rb=true:=O5.2 h
theorem Ex {a:List Br}{ra:Int}{b:List Br}{rb:Int}(h:¬(XC a ra=0/\XC b rb=0/\¬dz a ra b rb)):oH a ra b rb=false:=by
 cases hh:oH a ra b rb with
 | false=>rfl
 | true=>exact Xm (O5.1 hh) h
theorem O7 (A:Option Addr)(n c:Nat)(a:List Br)(ra:Int)(B:Option Addr)(m d:Nat)(b:List Br)(rb:Int)(w:World)(h:SB w A n c a)(h':SB w B m d b):
  Fn Tryz.prog 97 [Xg A n c ra,Xg B m d rb] w (λu w'=>u= .bool (oH a ra b rb)/\Ext w w'):=by
 refine QF (c:={c97 with cuts:=[]}) Qa Tryz.func97 rfl rfl rfl ?_;refine new (λw1 Qd Q2 Qh=>?_);refine new (λw2 Qg X9 Qw=>?_);have Q4:=Qd.trans Qg;refine Qs (Qh.ext Qg) rfl ?_;refine Qs Qw rfl ?_;refine XE Qa [(⟨A,n,c,a,ra⟩:DV).cells,(⟨B,m,d,b,rb⟩:DV).cells] rfl rfl rfl rfl rfl ⟨rfl,rfl,rfl,rfl,⟨⟩⟩ rfl (λcs h=>by simp only[QX,Z3,Z9] at h;rcases h with rfl | rfl<;>rfl) rfl (by decide) (by decide) ?_;intro w5 Qt Kv QH;have Jm:=Q4.trans Qt;have hL:SlS DV.cells 2 w5 (some ⟨w2.heap.size,0,none⟩) 2 2 [⟨A,n,c,a,ra⟩,⟨B,m,d,b,rb⟩]:=⟨Sl.own (sz:=2) (n:=2) QH (QE _) (by decide) (by simp[DV.cells]),rfl⟩
 refine call (yQ _ 2 2 _ w5 hL (λx hx=>by
  simp only[QX,Z3,Z9] at hx;rcases hx with rfl | rfl
  ·exact h.ext Jm
  ·exact h'.ext Jm)) ?_
 rintro v w6 ⟨rfl,Q6⟩;have XG:=Jm.trans Q6;have ef:bq [(⟨A,n,c,a,ra⟩:DV),⟨B,m,d,b,rb⟩]=if XC a ra≠0 then XC a ra else if XC b rb≠0 then XC b rb else 0:=rfl
 have gy:bq [(⟨A,n,c,a,ra⟩:DV),⟨B,m,d,b,rb⟩]=0↔XC a ra=0/\XC b rb=0:=by
  rw[ef];by_cases h1:XC a ra=0
  ·rw[if_neg (λhh=>hh h1)];by_cases h2:XC b rb=0
   ·rw[if_neg (λhh=>hh h2)];simp[h1,h2]
   ·rw[Qe h2];simp[h2]
  ·rw[Qe h1];simp[h1]
 refine Zn (λc1=>?_) (λc1=>?_)
 ·obtain⟨ca,cb⟩:=gy.1 c1;refine Qs ((Qh.ext Qg).ext (Qt.trans Q6)) rfl ?_;refine Qs (Qw.ext (Qt.trans Q6)) rfl ?_;refine call (fQ3 A n c a ra B m d b rb w6 (h.ext XG) (h'.ext XG) (eK.1 ca).2 (eK.1 cb).2) ?_;rintro _ w7 ⟨r,rfl,Q1,hr⟩;refine⟨?_,XG.trans Q1⟩;cases r with
  | true=>rw[Ex (λhh=>hh.2.2 (hr.1 rfl))]<;>rfl
  | false=>rw[O6 ⟨ca,cb,λhh=>by have:=hr.2 hh;cases this⟩];rfl
 ·exact⟨by rw[Ex (λhh=>c1 (gy.2 ⟨hh.1,hh.2.1⟩))],XG⟩
def ixV (l:List Nat):List Value:=l.map (λ(i:Nat)=>Value.int .i64 i)
end
section
def dA (a:List Br)(x:Int)(b:List Br)(y:Int):Prop:=∃e,ev a x e=true/\ev b y e=false
theorem fQ4 {a b:List Br}(ha:Rd0 a)(hb:Rd0 b){x y:Int}(x0:0<=x)(x1:x<a.length+2)(y0:0<=y)(y1:y<b.length+2){v:Int}(hv:v=min (Qk a x) (Qk b y))(dM:v<64):
  dA a x b y↔dA a (Ql a x v).1 b (Ql b y v).1∨dA a (Ql a x v).2 b (Ql b y v).2:=by
 have l1:v<=Qk a x:=by rw[hv,ZR];split<;>omega
 have l2:v<=Qk b y:=by rw[hv,ZR];split<;>omega
 obtain⟨p1,p2,p3,p4,p5⟩:=q7 ha x0 x1 l1 dM;obtain⟨q1,q2,q3,q4,q5⟩:=q7 hb y0 y1 l2 dM;have v0:0<=v:=by
  have:=ha.lvl0 x1;have:=hb.lvl0 y1;rw[hv,ZR];split<;>omega
 constructor
 ·rintro⟨e,e1,e2⟩;rw[p1] at e1;rw[q1] at e2;cases he:e v.toNat with
  | true=>rw[he,Qe rfl] at e1 e2;exact .inr ⟨e,e1,e2⟩
  | false=>rw[he,if_neg (by decide)] at e1 e2;exact .inl ⟨e,e1,e2⟩
 ·rintro(⟨e,e1,e2⟩ | ⟨e,e1,e2⟩)
  ·refine⟨VZ e v.toNat false,?_,?_⟩
   ·rw[p1,show VZ e v.toNat false v.toNat=false from Qe rfl,if_neg (by decide),cz ha v.toNat false e _ _ (dh _) p4 (by omega)];exact e1
   ·rw[q1,show VZ e v.toNat false v.toNat=false from Qe rfl,if_neg (by decide),cz hb v.toNat false e _ _ (dh _) q4 (by omega)];exact e2
  ·refine⟨VZ e v.toNat true,?_,?_⟩
   ·rw[p1,show VZ e v.toNat true v.toNat=true from Qe rfl,Qe rfl,cz ha v.toNat true e _ _ (dh _) p5 (by omega)];exact e1
   ·rw[q1,show VZ e v.toNat true v.toNat=true from Qe rfl,Qe rfl,cz hb v.toNat true e _ _ (dh _) q5 (by omega)];exact e2
structure MPn where
 D:DV
 E:DV
 bo:Nat
 sx:Nat
 ax:Nat
 bx:Nat
 cx:Nat
 q:Nat
def MPn.caps (p:MPn):List Value:=[VP.ptr p.bo,VP.ptr p.sx,VP.ptr p.ax,VP.ptr p.bx,VP.ptr p.cx]
def MPn.clo (p:MPn):Value:=.func (.func 166) #[] #[VP.ptr p.bo,VP.ptr p.sx,VP.ptr p.ax,VP.ptr p.bx,VP.ptr p.cx]
structure MKn (w:World) (p:MPn):Prop where
 bob:Blk w p.bo 4 [.bool false]
 sxb:Blk w p.sx 251 [.map (some p.q)]
 axb:Blk w p.ax 32 p.D.cells
 bxb:Blk w p.bx 32 p.E.cells
 cxb:Blk w p.cx 252 [p.clo]
 as_:SB w p.D.A p.D.n p.D.c p.D.nd
 bs:SB w p.E.A p.E.n p.E.c p.E.nd
 off:p.bo≠p.q/\p.sx≠p.q/\p.ax≠p.q/\p.bx≠p.q/\p.cx≠p.q
 rowA:∀ad,p.D.A=some ad->0<p.D.n->ad.block≠p.q
 rowB:∀ad,p.E.A=some ad->0<p.E.n->ad.block≠p.q
theorem MKn.mod {w w':World}{p:MPn}(h:MKn w p)(hm:Mod (·=p.q) w w'):MKn w' p:=by
 obtain⟨o1,o2,o3,o4,o5⟩:=h.off;refine⟨h.bob.mod hm o1,h.sxb.mod hm o2,h.axb.mod hm o3,h.bxb.mod hm o4,h.cxb.mod hm o5,⟨h.as_.1.modS hm ?_,h.as_.2⟩,⟨h.bs.1.modS hm ?_,h.bs.2⟩,h.off,h.rowA,h.rowB⟩
 ·rintro h0 i ⟨ad,e,rfl⟩;exact h.rowA ad e h0
 ·rintro h0 i ⟨ad,e,rfl⟩;exact h.rowB ad e h0
theorem MKn.ext {w w':World}{p:MPn}(h:MKn w p)(k:Ext w w'):MKn w' p:=h.mod (Mod.of_ext _ k)
def fQ5 (p:MPn)(x y:Int)(S:List I2)(w:World)(v:Value)(w':World):Prop:=
 Mod (·=p.q) w w'/\∃r:Bool,v= .bool r/\(r=true->dA p.D.nd x p.E.nd y)/\(r=false->¬dA p.D.nd x p.E.nd y/\∃S',lN w' p.q S'/\∀t∈S',t∈S∨¬dA p.D.nd t.1 p.E.nd t.2)
theorem O8 (p:MPn)(ha:Rd0 p.D.nd)(hb:Rd0 p.E.nd):∀(k:Nat)(x y:Int)(S:List I2)(w:World),
  MKn w p->lN w p.q S->(∀t∈S,t.1+t.2<=x+y->¬dA p.D.nd t.1 p.E.nd t.2)->0<=x->0<=y->x<p.D.n+2->y<p.E.n+2->x+y<k->
  Fn Tryz.prog 166 (.int .i64 x:: .int .i64 y::p.caps) w (fQ5 p x y S w)
 | 0,x,y,_,_,_,_,_,x0,y0,_,_,hk=>by omega
 | k+1,x,y,S,w,hK,hS,Xi,x0,y0,hx,hy,hk=>by
  have ih:=O8 p ha hb k;have KF:p.D.nd.length=p.D.n:=hK.as_.2;have ee:p.E.nd.length=p.E.n:=hK.bs.2;refine QF (c:={Mq with cuts:=[]}) Qa Tryz.func166 rfl rfl rfl ?_;refine Zn (λc1=>?_) (λc1=>?_)
  ·exact⟨Mod.refl _ _,false,rfl,λh=>(by cases h),λ_=>⟨(λ⟨e,e1,_⟩=>by rw[c1,Jr (by decide)] at e1;cases e1),S,hS,λt ht=>.inl ht⟩⟩
  refine QB (λc2=>?_) (λc2=>?_)
  ·refine Qv hK.bob rfl ?_;by_cases y1:y=1
   ·subst y1;refine Xc rfl ?_;exact⟨Mod.refl _ _,false,rfl,λh=>(by cases h),λ_=>⟨(λ⟨e,_,e1⟩=>by rw[Jr (by decide)] at e1;cases e1),S,hS,λt ht=>.inl ht⟩⟩
   ·have GO:y=0:=by omega
    subst GO;refine Xt rfl ?_;refine X7 c2 ?_;refine⟨Mod.refl _ _,true,rfl,λ_=>?_,λh=>by cases h⟩;obtain⟨e,he⟩:=O3 ha x0 (by omega) c1;exact⟨e,he,by rw[Jr (by decide)];rfl⟩
  refine Xy c2 ?_;obtain⟨mq,cW,Ko⟩:=hS;refine Qv hK.sxb rfl ?_;refine DI (kv:=fS) (a:=((x,y):I2)) Qa rfl rfl rfl rfl zk rfl rfl cW (Ko (x,y)) ?_;refine QB (λc3=>?_) (λc3=>?_)
  ·exact⟨Mod.refl _ _,false,rfl,λh=>(by cases h),λ_=>⟨Xi (x,y) c3 (kX _),S,⟨mq,cW,Ko⟩,λt ht=>.inl ht⟩⟩
  refine Qv hK.sxb rfl ?_;refine qJ (kv:=fS) (a:=((x,y):I2)) Qa rfl rfl rfl rfl zk rfl rfl rfl cW (λw1 dH Q2 gw=>?_);have JX:=hK.mod dH;have KC:lN w1 p.q ((x,y)::S):=⟨_,gw,λt=>by
   rw[W7];by_cases ht:t=(x,y)
   ·subst ht;simp
   ·rw[if_neg ht,Ko t];simp[ht]⟩
  have Zs:min (Qk p.D.nd x) (Qk p.E.nd y)<64:=by
   have:=WE hb.dok (n:=y) c2 (by omega);rw[ZR];split<;>omega
  have zP:=ha.lvl0 (n:=x) (by omega);have Xu:=hb.lvl0 (n:=y) (by omega);refine XJ Qa (Ext w1) 8 [(true,0),(true,1),(true,3),(true,4),(false,2),(false,5),(true,6),(true,7)] (by kernel_rfl) (Ext.drew w1) ?_;refine Xl (vs:=p.D.cells) rfl (λw' Qb j v hj=>by rw[(JX.axb.ext Qb).cell];exact hj) ?_;refine Xl (vs:=p.E.cells) rfl (λw' Qb j v hj=>by rw[(JX.bxb.ext Qb).cell];exact hj) ?_;refine call (cr p.D.A p.D.n p.D.c p.D.r x p.D.nd _ (JX.as_.ext (Ext.drew w1)) (by omega)) ?_;rintro u w2 ⟨rfl,Qg⟩;have Xq:=(Ext.drew w1).trans Qg;refine⟨Xq,?_⟩;refine call (cr p.E.A p.E.n p.E.c p.E.r y p.E.nd _ (JX.bs.ext Xq) (by omega)) ?_;rintro u w3 ⟨rfl,Qj⟩;have XD:=Xq.trans Qj;refine⟨XD,?_⟩;have mQ:(if Qk p.E.nd y<Qk p.D.nd x then Qk p.E.nd y else Qk p.D.nd x)=min (Qk p.D.nd x) (Qk p.E.nd y):=by
   rw[ZR];split<;>split<;>omega
  refine norm (m:=min (Qk p.D.nd x) (Qk p.E.nd y)) mQ ?_;have qa:=fQ4 ha hb x0 (by omega) y0 (by omega) (rfl:min (Qk p.D.nd x) (Qk p.E.nd y)=_) Zs;have ei:Qk p.D.nd x=min (Qk p.D.nd x) (Qk p.E.nd y)∨Qk p.E.nd y=min (Qk p.D.nd x) (Qk p.E.nd y):=by rw[ZR];split<;>simp
  generalize wK:min (Qk p.D.nd x) (Qk p.E.nd y)=v at*;obtain⟨s1,s2,s3,s4,s5⟩:=YP ha.dok (n:=x) x0 Zs;obtain⟨t1,t2,t3,t4,t5⟩:=YP hb.dok (n:=y) y0 Zs;have dec:(Ql p.D.nd x v).1+(Ql p.E.nd y v).1<x+y/\(Ql p.D.nd x v).2+(Ql p.E.nd y v).2<x+y:=by
   rcases ei with e | e
   ·have:=s5 e;omega
   ·have:=t5 e;omega
  have dK:=JX.ext XD;refine Qs dK.axb rfl ?_;refine call (ij p.D.A p.D.n p.D.c p.D.r x v p.D.nd _ dK.as_ (by omega) Zs) ?_;rintro u w4 ⟨rfl,Qq⟩;have Vt:=dK.ext Qq;refine Qs Vt.bxb rfl ?_;refine call (ij p.E.A p.E.n p.E.c p.E.r y v p.E.nd _ Vt.bs (by omega) Zs) ?_;rintro u w5 ⟨rfl,Qt⟩;have iB:=Vt.ext Qt;have Ve:=(XD.trans Qq).trans Qt;have ZW:Mod (·=p.q) w w5:=dH.trans (Mod.of_ext (·=p.q) Ve) (λi hi=>.inl hi);have gg:lN w5 p.q ((x,y)::S):=let ⟨m,k1,k2⟩:=KC;⟨m,k1.ext Ve,k2⟩;refine Qv iB.cxb rfl ?_;refine call (ih (Ql p.D.nd x v).1 (Ql p.E.nd y v).1 ((x,y)::S) w5 iB gg (λt ht ZK=>by
   rcases QX.1 ht with rfl | ht
   ·exact Xm ZK (by simp only;omega)
   ·exact Xi t ht (by omega)) s1 t1 (by omega) (by omega) (by omega)) ?_
  rintro _ w6 ⟨KI,r0,rfl,uW,gy⟩;have vR:Mod (·=p.q) w w6:=ZW.trans KI (λi hi=>.inl hi);cases r0 with
  | true=>
   refine Xc rfl ?_;exact⟨vR,true,rfl,λ_=>qa.2 (.inl (uW rfl)),λh=>by cases h⟩
  | false=>
   obtain⟨n0,S6,iD,vS⟩:=gy rfl;refine Xt rfl ?_;have aQ:=iB.mod KI;refine Qv aQ.cxb rfl ?_;refine call (ih (Ql p.D.nd x v).2 (Ql p.E.nd y v).2 S6 w6 aQ iD (λt ht ZK=>by
    rcases vS t ht with ht | ht
    ·rcases QX.1 ht with rfl | ht
     ·exact Xm ZK (by simp only;omega)
     ·exact Xi t ht (by omega)
    ·exact ht) s3 t3 (by omega) (by omega) (by omega)) ?_
   rintro _ w7 ⟨Q8,r1,rfl,mj,Zz⟩;have GP:Mod (·=p.q) w w7:=vR.trans Q8 (λi hi=>.inl hi);refine⟨GP,r1,rfl,λh=>qa.2 (.inr (mj h)),λh=>?_⟩;obtain⟨n1,S7,KW,GQ⟩:=Zz h;have nn:¬dA p.D.nd x p.E.nd y:=λhh=>(qa.1 hh).elim n0 n1
   refine⟨nn,S7,KW,λt ht=>?_⟩;rcases GQ t ht with ht | ht
   ·rcases vS t ht with ht | ht
    ·rcases QX.1 ht with rfl | ht
     ·exact .inr nn
     ·exact .inl ht
    ·exact .inr ht
   ·exact .inr ht
theorem fQ6 (A:Option Addr)(n c:Nat)(a:List Br)(ra:Int)(B:Option Addr)(m d:Nat)(b:List Br)(rb:Int)(w:World)(h:SB w A n c a)(h':SB w B m d b)(ha:VD a ra)(hb:VD b rb):
  Fn Tryz.prog 112 [Xg A n c ra,Xg B m d rb,.bool false] w (λu w'=>∃r:Bool,u= .bool r/\Ext w w'/\(r=true↔dA a ra b rb)):=by
 have KF:=h.2;have ee:=h'.2;refine QF (c:={Mo with cuts:=[]}) Qa Tryz.func112 rfl rfl rfl ?_;refine new (λw1 Qd Q2 Qh=>?_);refine new (λw2 Qg X9 Qw=>?_);refine new (λw3 Qj JV Qu=>?_);have QQ:=(Qd.trans Qg).trans Qj;refine qI Qa fS rfl ?_;intro w4 Qq Kz GR;refine new (λw5 Qt Kv QH=>?_);refine Kq QH (by decide) (λw6 KI Xh=>?_);have Xx:Ext w4 w6:=KI.ext Qt (λi hi=>by omega);refine new (λw7 Q1 YS QY=>?_);refine Kq QY (by decide) (λw8 ZA Xp=>?_);have YV:Ext w6 w8:=ZA.ext Q1 (λi hi=>by omega);have iI:=Xx.trans YV;have YE:=Qq.trans iI;have V9:=QQ.trans YE;have z6:=Xx.size
 let p:MPn:=⟨⟨A,n,c,a,ra⟩,⟨B,m,d,b,rb⟩,w2.heap.size,w4.heap.size,w.heap.size,w1.heap.size,w6.heap.size,w3.heap.size⟩
 have hK:MKn w8 p:=by
  refine⟨Qu.ext YE,Xh.ext YV,Qh.ext ((Qg.trans Qj).trans YE),Qw.ext (Qj.trans YE),Xp,h.ext V9,h'.ext V9,?_,λad e h0=>?_,λad e h0=>?_⟩
  ·simp only[p];omega
  ·have:=SB.lt h ad e h0;simp only[p];omega
  ·have:=SB.lt h' ad e h0;simp only[p];omega
 refine Qv hK.cxb rfl ?_;refine Qp hK.axb rfl ?_;refine Qp hK.bxb rfl ?_;refine call (O8 p ha.rd0 hb.rd0 (ra.toNat+rb.toNat+1) ra rb [] w8 hK ⟨[],GR.ext iI,λt=>rfl⟩ (λt ht=>by cases ht) ha.2.1 hb.2.1 (by have:=ha.2.2.1;simp only[p];omega) (by have:=hb.2.2.1;simp only[p];omega) (by have:=ha.2.1;have:=hb.2.1;omega)) ?_;rintro _ w9 ⟨Zc,r,rfl,h1,h2⟩;refine⟨r,rfl,Zc.ext V9 (λi hi=>by simp only[p] at hi;have:=QQ.size;omega),⟨h1,λhh=>?_⟩⟩;cases r with
 | true=>rfl
 | false=>exact Xm hh (h2 rfl).1
open Classical in
def fT (a:List Br)(ra:Int)(b:List Br)(rb:Int):Bool:=decide (XC a ra=0/\XC b rb=0/\¬dA a ra b rb)
open Classical in
theorem Ey {a:List Br}{ra:Int}{b:List Br}{rb:Int}:fT a ra b rb=true↔XC a ra=0/\XC b rb=0/\¬dA a ra b rb:=by unfold fT;exact decide_eq_true_iff
theorem fQ7 {a:List Br}{ra:Int}{b:List Br}{rb:Int}(h:XC a ra=0/\XC b rb=0/\¬dA a ra b rb):fT a ra b rb=true:=Ey.2 h
theorem O9 {a:List Br}{ra:Int}{b:List Br}{rb:Int}(h:¬(XC a ra=0/\XC b rb=0/\¬dA a ra b rb)):fT a ra b rb=false:=by
 cases hh:fT a ra b rb with
 | false=>rfl
 | true=>exact Xm (Ey.1 hh) h
theorem Pa (A:Option Addr)(n c:Nat)(a:List Br)(ra:Int)(B:Option Addr)(m d:Nat)(b:List Br)(rb:Int)(w:World)(h:SB w A n c a)(h':SB w B m d b):
  Fn Tryz.prog 62 [Xg A n c ra,Xg B m d rb] w (λu w'=>u= .bool (fT a ra b rb)/\Ext w w'):=by
 refine QF (c:={c62 with cuts:=[]}) Qa Tryz.func62 rfl rfl rfl ?_;refine new (λw1 Qd Q2 Qh=>?_);refine new (λw2 Qg X9 Qw=>?_);have Q4:=Qd.trans Qg;refine Qs (Qh.ext Qg) rfl ?_;refine Qs Qw rfl ?_;refine XE Qa [(⟨A,n,c,a,ra⟩:DV).cells,(⟨B,m,d,b,rb⟩:DV).cells] rfl rfl rfl rfl rfl ⟨rfl,rfl,rfl,rfl,⟨⟩⟩ rfl (λcs h=>by simp only[QX,Z3,Z9] at h;rcases h with rfl | rfl<;>rfl) rfl (by decide) (by decide) ?_;intro w5 Qt Kv QH;have Jm:=Q4.trans Qt;have hL:SlS DV.cells 2 w5 (some ⟨w2.heap.size,0,none⟩) 2 2 [⟨A,n,c,a,ra⟩,⟨B,m,d,b,rb⟩]:=⟨Sl.own (sz:=2) (n:=2) QH (QE _) (by decide) (by simp[DV.cells]),rfl⟩
 refine call (yQ _ 2 2 _ w5 hL (λx hx=>by
  simp only[QX,Z3,Z9] at hx;rcases hx with rfl | rfl
  ·exact h.ext Jm
  ·exact h'.ext Jm)) ?_
 rintro v w6 ⟨rfl,Q6⟩;have XG:=Jm.trans Q6;have ef:bq [(⟨A,n,c,a,ra⟩:DV),⟨B,m,d,b,rb⟩]=if XC a ra≠0 then XC a ra else if XC b rb≠0 then XC b rb else 0:=rfl
 have gy:bq [(⟨A,n,c,a,ra⟩:DV),⟨B,m,d,b,rb⟩]=0↔XC a ra=0/\XC b rb=0:=by
  rw[ef];by_cases h1:XC a ra=0
  ·rw[if_neg (λhh=>hh h1)];by_cases h2:XC b rb=0
   ·rw[if_neg (λhh=>hh h2)];simp[h1,h2]
   ·rw[Qe h2];simp[h2]
  ·rw[Qe h1];simp[h1]
 refine Zn (λc1=>?_) (λc1=>?_)
 ·obtain⟨ca,cb⟩:=gy.1 c1;refine Qs ((Qh.ext Qg).ext (Qt.trans Q6)) rfl ?_;refine Qs (Qw.ext (Qt.trans Q6)) rfl ?_;refine call (fQ6 A n c a ra B m d b rb w6 (h.ext XG) (h'.ext XG) (eK.1 ca).2 (eK.1 cb).2) ?_;rintro _ w7 ⟨r,rfl,Q1,hr⟩;refine⟨?_,XG.trans Q1⟩;cases r with
  | true=>rw[O9 (λhh=>hh.2.2 (hr.1 rfl))]<;>rfl
  | false=>rw[fQ7 ⟨ca,cb,λhh=>by have:=hr.2 hh;cases this⟩];rfl
 ·exact⟨by rw[O9 (λhh=>c1 (gy.2 ⟨hh.1,hh.2.1⟩))],XG⟩
end
theorem zl (l:List Nat)(w:World)(hl:∀x∈l,x<256):
  Fn Tryz.prog 47 [.string (Qf l)] w (λu w'=>u= .bool (aK l)/\Ext w w'):=by
 refine QF (c:={c47 with cuts:=[]}) Qa Tryz.func47 rfl rfl rfl ?_;refine XE Qa ([JG,pElif,pInc].map (λs=>[Value.string (Qf s)])) rfl rfl rfl rfl rfl ⟨rfl,rfl,rfl,rfl,rfl,rfl,⟨⟩⟩ rfl (λcs h=>by simp only[ZY] at h;obtain⟨s,_,rfl⟩:=h;rfl) rfl (by decide) (by decide) ?_;intro w1 Qd Q2 Qh;refine loop Qa [7] (λi:Nat=>[.int .i64 i]) (λi w'=>w1=w'/\i<=3/\([JG,pElif,pInc].take i).any (λp=>p.isPrefixOf l)=false) (λi _=>3-i) 0 rfl ⟨rfl,XM _,rfl⟩ ?_;rintro i _ ⟨rfl,hi,Xi⟩;by_cases h3:i<3
 ·refine X7 (show((i:Nat):Int)<3 by omega) ?_;obtain⟨p,hp⟩:∃p,([JG,pElif,pInc]:List (List Nat))[i]? =some p:=⟨_,Xs (show i<3 from h3)⟩
  have hp8:∀x∈p,x<256:=by
   have:∀q∈([JG,pElif,pInc]:List (List Nat)),∀x∈q,x<256:=by decide
   exact this p (Xe hp)
  refine index (j:=i) h3 ?_;refine Qp (v:=.string (Qf p)) Qh (by
   rcases(show i=0∨i=1∨i=2 by omega)with rfl | rfl | rfl<;>(cases hp;rfl)) ?_
  refine call (Em l p w1 hl hp8) ?_;rintro _ _ ⟨rfl,rfl⟩;refine Y3 (λd1=>?_) (λd1=>?_)
  ·refine⟨?_,Qd⟩;have d1:p.isPrefixOf l=true:=d1;have hm:=Xe hp;simp only[QX,Z3,Z9] at hm;unfold aK;rcases hm with rfl | rfl | rfl<;>rw[d1]<;>simp
  ·have d1:p.isPrefixOf l=false:=d1;refine Qm ((i+1:Nat):Int) (by show((i:Nat):Int)+1=_;omega) (by omega) ?_;refine⟨i+1,rfl,⟨rfl,by omega,?_⟩,by show 3-(i+1)<3-i;omega⟩;rw[VX,hp,List.any_append,Xi];simp[d1]
 ·have hi3:i=3:=by omega
  subst hi3;refine Xy (by decide) ?_;have Xi:(JG.isPrefixOf l||(pElif.isPrefixOf l||(pInc.isPrefixOf l||false)))=false:=Xi;simp only[Bool.or_eq_false_iff] at Xi;obtain⟨n1,n2,n3,_⟩:=Xi;have e:aK l=(decide (l=Y6++ [10])||decide (l=J0++ [10])):=by unfold aK;rw[n1,n2,n3]<;>rfl
  have q1:(Qf l=(Qf (Y6++ [10])))↔l=Y6++ [10]:=⟨λhh=>JD hl (by decide) hh,λhh=>by rw[hh]⟩
  have q2:(Qf l=(Qf (J0++ [10])))↔l=J0++ [10]:=⟨λhh=>JD hl (by decide) hh,λhh=>by rw[hh]⟩
  by_cases c1:l=Y6++ [10]
  ·refine X7 (q1.2 c1) ?_;exact⟨by rw[e,XX c1];rfl,Qd⟩
  ·refine Xy (λhh=>c1 (q1.1 hh)) ?_;refine⟨?_,Qd⟩;rw[e,Zf c1,Bool.false_or];by_cases c2:l=J0++ [10]
   ·rw[XX c2];exact QN Value.bool (XX (q2.2 c2))
   ·rw[Zf c2];exact QN Value.bool (Zf (λhh=>c2 (q2.1 hh)))
theorem fQ8 (l:List Nat)(w:World)(hl:∀x∈l,x<256)(Xb:l.length<=1000000000000):
  Fn Tryz.prog 168 [.string (Qf l),.string (Qf [10])] w (λv w'=>v= .bool (l.getLast? ==some 10)/\w=w'):=by
 have XW:=XU l;refine QF (c:=cQl) Qa Tryz.func168 rfl rfl rfl ?_;have h1:(Qf [10]).size=1:=rfl;refine QB (λc1=>?_) (λc1=>?_)
 ·have fj:1<=l.length:=by omega
  refine Qm ((l.length-1:Nat):Int) (by omega) (by omega) ?_;refine Kf (v':=.string (Qf (l.drop (l.length-1)))) ⟨by omega,by rw[XW];omega,by rw[XW];omega⟩ (by
   rw[Vn,XW];show Value.string (Qf ((l.take l.length).drop _))=_;rw[Jz (QE _)];rfl) ?_
  refine⟨?_,rfl⟩;obtain⟨a,b,rfl⟩:∃a b,l=a++ [b]:=by
   rcases tF l with e | ⟨a,b,e⟩
   ·subst e;simp at fj
   ·exact⟨a,b,by rw[e,List.concat_eq_append]⟩
  have e1:(a++ [b]).drop ((a++ [b]).length-1)=[b]:=by simp
  rw[e1];have hb:b<256:=hl b (by simp);rw[List.getLast?_concat];by_cases pr:b=10
  ·subst pr;simp
  ·have:¬Qf [b]=Qf [10]:=λhh=>pr (by
    have:=JD (l:=[b]) (m:=[10]) (by simpa using hb) (by decide) hh;simpa using this)
   simp[this,pr]
 ·have zP:l=[]:=Y0 (by omega);subst zP;exact⟨rfl,rfl⟩
theorem fQ9 (l:List Nat)(w:World)(hl:∀x∈l,x<256)(Xb:l.length<=1000000000000):
  Fn Tryz.prog 113 [.string (Qf l),.string (Qf [10])] w (λv w'=>v= .bool (l.getLast? ==some 10)/\w=w'):=by
 refine QF (c:=bQK) Qa Tryz.func113 rfl rfl rfl ?_;refine call (fQ8 l w hl Xb) ?_;rintro _ _ ⟨rfl,rfl⟩;exact⟨rfl,rfl⟩
end
section
variable {nm:List (List Nat)} {n:Nat}
def XV (nm:List (List Nat))(f:Nat->List Nat):Nat->Nat->List Nat->List (List Nat)
 | 0,_,l=>QU (f (l.headD 0))
 | k+1,v,l=>if∀c∈l,f c=f (l.headD 0)then QU (f (l.headD 0))else
  if l.filter (λc=> !c.testBit v)=[]∨l.filter (λc=>c.testBit v)=[] then XV nm f k (v+1) l else
  if XV nm f k (v+1) (l.filter (λc=>c.testBit v))=XV nm f k (v+1) (l.filter (λc=> !c.testBit v))then XV nm f k (v+1) (l.filter (λc=>c.testBit v))else
  aJ nm v (XV nm f k (v+1) (l.filter (λc=>c.testBit v))) (XV nm f k (v+1) (l.filter (λc=> !c.testBit v)))
theorem zm {l:List Nat}(h:l≠ []):l.headD 0∈l:=by
 cases l with
 | nil=>exact Xm rfl h
 | cons a l=>simp
theorem rF {f:Nat->List Nat}{l:List Nat}(hl:l≠ []){t:List Nat}(h:∀c∈l,f c=t):∀k v,XV nm f k v l=QU t:=by
 have h0:=h _ (zm hl);intro k v;cases k with
 | zero=>rw[XV,h0]
 | succ k=>rw[XV,Qe (λc hc=>by rw[h c hc,h0]),h0]
theorem rG {f:Nat->List Nat}{l:List Nat}(hl:l≠ [])(k v:Nat):XV nm f (k+1) v l=
  if l.filter (λc=> !c.testBit v)=[]∨l.filter (λc=>c.testBit v)=[] then XV nm f k (v+1) l else
  if XV nm f k (v+1) (l.filter (λc=>c.testBit v))=XV nm f k (v+1) (l.filter (λc=> !c.testBit v))then XV nm f k (v+1) (l.filter (λc=>c.testBit v))else
  aJ nm v (XV nm f k (v+1) (l.filter (λc=>c.testBit v))) (XV nm f k (v+1) (l.filter (λc=> !c.testBit v))):=by
 by_cases hc:∀c∈l,f c=f (l.headD 0)
 ·rw[rF hl hc,rF hl hc];split
  ·rfl
  ·rename_i h;have h1:l.filter (λc=> !c.testBit v)≠ []:=λe=>h (.inl e)
   have h2:l.filter (λc=>c.testBit v)≠ []:=λe=>h (.inr e)
   rw[rF h1 (λc hm=>hc c (KP.1 hm).1),rF h2 (λc hm=>hc c (KP.1 hm).1),Qe rfl]
 ·rw[XV,if_neg hc]
def Apt (l:List Nat)(v k:Nat):Prop:=∀c∈l,∀c'∈l,(∀i,v<=i->i<v+k->c.testBit i=c'.testBit i)->c=c'
theorem Apt.sub {l m:List Nat}{v k:Nat}(h:Apt l v (k+1))(hm:∀c∈m,c∈l)(he:∀c∈m,∀c'∈m,c.testBit v=c'.testBit v):Apt m (v+1) k:=λc hc c' Kc hb=>h c (hm c hc) c' (hm c' Kc) (λi h1 h2=>by
 by_cases e:i=v
 ·subst e;exact he c hc c' Kc
 ·exact hb i (by omega) (by omega))
end
section
section
def ChG:Nat->List Sg->Nat->Prop
 | a,[],b=>a=b
 | a,s::l,b=>s.f=a/\ChG s.t l b
theorem ChG.snoc {x:Sg}:∀{l:List Sg}{a b:Nat},ChG a (l++ [x]) b↔ChG a l x.f/\x.t=b
 | [],a,b=>by simp only[ep,ChG];exact⟨λh=>⟨h.1.symm,h.2⟩,λh=>⟨h.1.symm,h.2⟩⟩
 | s::l,a,b=>by
  simp only[Yd,ChG];rw[ChG.snoc (l:=l)];exact⟨λh=>⟨⟨h.1,h.2.1⟩,h.2.2⟩,λh=>⟨h.1.1,h.1.2,h.2⟩⟩
structure SgOk (fs:List (List Nat×List Nat)) (tx:List Nat) (s:Sg):Prop where
 ft:s.f<s.t
 tl:s.t<=tx.length
 nl:tx[s.t-1]? =some 10
 src:∃x,fs[s.fl]? =some x/\s.at_+(s.t-s.f)<=x.2.length/\(x.2.drop s.at_).take (s.t-s.f)=(tx.take s.t).drop s.f
theorem SgOk.app {fs:List (List Nat×List Nat)}{tx:List Nat}{s:Sg}(h:SgOk fs tx s)(l:List Nat):SgOk fs (tx++l) s:=by
 obtain⟨h1,h2,h3,x,h4,h5,h6⟩:=h;refine⟨h1,by rw[Qy];omega,by rw[bY (by omega)];exact h3,x,h4,h5,?_⟩;rw[Lu h2];exact h6
structure GInv (fs:List (List Nat×List Nat)) (g:Gs):Prop where
 ch:ChG 0 g.sg g.tx.length
 ok:∀s∈g.sg,SgOk fs g.tx s
theorem GInv.fr {fs:List (List Nat×List Nat)}{g:Gs}(h:GInv fs g)(b:Bool):GInv fs {g with fr:=b}:=⟨h.ch,h.ok⟩
def lO (n p:Nat)(k:BF)(g:Gs):Prop:=g.fr=false->∃l x,g.sg=l++ [x]/\x.fl=n/\x.at_+(x.t-x.f)=p/\x.o=k
theorem Pb {fs:List (List Nat×List Nat)}{n p:Nat}{k:BF}{g g':Gs}{s:List Nat}(h:GInv fs g)(hc:lO n p k g){x:List Nat×List Nat}(hx:fs[n]? =some x)(hs:x.2.drop p=s++x.2.drop (p+s.length))(hp:p+s.length<=x.2.length)(hl:s.getLast? =some 10)
  (ha:VH s n p k g=some g'):GInv fs g'/\lO n (p+s.length) k g':=by
 unfold VH at ha;split at ha
 ·cases ha
 cases ha;have zO:0<s.length:=by
  cases s with
  | nil=>cases hl
  | cons _ _=>simp
 have Kn:(g.tx++s)[g.tx.length+s.length-1]? =some 10:=by
  rw[Ws (by omega),show g.tx.length+s.length-1-g.tx.length=s.length-1 by omega,<-qp];exact hl
 cases hf:g.fr with
 | true=>
  rw[Qe rfl,jG];refine⟨⟨?_,λy hy=>?_⟩,λ_=>⟨_,_,rfl,rfl,?_,rfl⟩⟩
  ·simp only;rw[ChG.snoc];exact⟨h.ch,by simp⟩
  ·simp only[XB,QJ] at hy;rcases hy with hy | rfl
   ·exact(h.ok y hy).app s
   ·refine⟨by simp only;omega,by simp,Kn,x,hx,by simp only;omega,?_⟩;simp only;rw[show g.tx.length+s.length-g.tx.length=s.length by omega,hs,List.take_left,Jz (by simp),xI]
  ·simp only;omega
 | false=>
  rw[if_neg (by decide)];obtain⟨l,y,e,e1,e2,e3⟩:=hc hf;have Jn:=h.ch;have Zl:=h.ok;rw[e] at Jn Zl;rw[ChG.snoc] at Jn;obtain⟨q1,q2,q3,z,q4,q5,q6⟩:=Zl y (by simp);rw[e,jG];have hz:z=x:=by rw[e1,hx] at q4;exact(Option.some.inj q4).symm
  subst hz;refine⟨⟨?_,λu hu=>?_⟩,λ_=>⟨_,_,rfl,e1,?_,e3⟩⟩
  ·simp only;rw[ChG.snoc];exact⟨Jn.1,by simp⟩
  ·simp only[XB,QJ] at hu;rcases hu with hu | rfl
   ·exact(Zl u (by simp[hu])).app s
   ·refine⟨by simp only;omega,by simp,Kn,z,q4,by simp only;omega,?_⟩;simp only;rw[show g.tx.length+s.length-y.f=(y.t-y.f)+s.length by omega,Jz (l:=g.tx++s) (by simp),List.drop_append_of_le_length (by omega)];rw[List.take_add,tw,e2,hs,List.take_left,q6,Jn.2,qm]
  ·simp only;omega
theorem Pd {nm:List (List Nat)}{fs:List (List Nat×List Nat)}{n d0:Nat}{inc:oG}{x:List Nat×List Nat}(hx:fs[n]? =some x)
  (hi:∀r ln d k g g',inc r ln d k g= .ok g'->GInv fs g->GInv fs g'):∀(ls:List (List Nat)) (ln at_:Nat) (k:BF) (op:List Se) (g g':Gs),
  x.2.drop at_=Qo ls->at_<=x.2.length->GInv fs g->lO n at_ k g->ZO nm n d0 inc ls ln at_ k op g= .ok g'->GInv fs g'/\g'.fr=true
 | [],ln,at_,k,op,g,g',_,_,hg,_,hr=>by
  cases op with
  | nil=>simp only[ZO,Except.ok.injEq] at hr;subst hr;exact⟨hg.fr true,rfl⟩
  | cons _ _=>simp[ZO] at hr
 | s::ls,ln,at_,k,op,g,g',hd,cY,hg,hc,hr=>by
  have Xu:x.2.drop at_=(s++ [10])++Qo ls:=by rw[hd,Y7];simp
  have hL:(s++ [10]).length=s.length+1:=by simp
  have Xb:x.2.length-at_=s.length+1+(Qo ls).length:=by
   have:=QN List.length Xu;simp only[Y1,Qy,Xk,Z8] at this;omega
  have bG:x.2.drop (at_+s.length+1)=Qo ls:=by
   rw[show at_+s.length+1=at_+(s++ [10]).length by simp;omega,<-tw,Xu,xI]
  have ih:=λk op g g' h1 h2 h3=>Pd (nm:=nm) (d0:=d0) hx hi ls (ln+1) (at_+s.length+1) k op g g' bG (by omega) h1 h2 h3
  have cf:∀k' (g:Gs),lO n (at_+s.length+1) k' {g with fr:=true}:=λk' g h=>by cases h
  rw[ZO.eq_def] at hr;simp only at hr;cases XZ:Jb s with
  | txt=>
   rw[XZ] at hr;simp only at hr;cases ha:VH (s++ [10]) n at_ k g with
   | none=>rw[ha] at hr;cases hr
   | some g1=>
    rw[ha] at hr;simp only at hr;obtain⟨i1,i2⟩:=Pb hg hc hx (by rw[hL,<-nC,bG];exact Xu) (by rw[hL];omega) (by simp) ha;exact ih k op g1 g' i1 (by rw[hL,<-nC] at i2;exact i2) hr
  | ifd r=>
   rw[XZ] at hr;simp only at hr;cases hs:Yj nm r with
   | error e=>rw[hs] at hr;cases hr
   | ok d=>
    rw[hs] at hr;simp only at hr;split at hr
    ·cases hr
    ·exact ih _ _ _ _ (hg.fr true) (cf _ _) hr
  | inc r=>
   rw[XZ] at hr;simp only at hr;cases hs:inc r (ln+1) (d0+op.length) k g with
   | error e=>rw[hs] at hr;cases hr
   | ok g1=>
    rw[hs] at hr;exact ih _ _ _ _ ((hi _ _ _ _ _ _ hs hg).fr true) (cf _ _) hr
  | elif r=>
   rw[XZ] at hr;cases op with
   | nil=>cases hr
   | cons y op=>
    simp only at hr;split at hr
    ·cases hr
    ·cases hs:Yj nm r with
     | error e=>rw[hs] at hr;cases hr
     | ok d=>rw[hs] at hr;exact ih _ _ _ _ (hg.fr true) (cf _ _) hr
  | els=>
   rw[XZ] at hr;cases op with
   | nil=>cases hr
   | cons y op=>
    simp only at hr;split at hr
    ·cases hr
    ·exact ih _ _ _ _ (hg.fr true) (cf _ _) hr
  | en=>
   rw[XZ] at hr;cases op with
   | nil=>cases hr
   | cons y op=>exact ih _ _ _ _ (hg.fr true) (cf _ _) hr
theorem Pe {nm:List (List Nat)}{fs:List (List Nat×List Nat)}(hf:∀x∈fs,bu x.2):∀(f:Nat)(rd:List Nat)(d n:Nat)(k:BF)(g g':Gs),n<fs.length->GInv fs g->aa nm fs f rd d n k g= .ok g'->GInv fs g'/\g'.fr=true
 | 0,_,_,_,_,_,_,_,_,hr=>by cases hr
 | f+1,rd,d,n,k,g,g',hn,hg,hr=>by
  have hx:fs[n]? =some fs[n]:=Xs hn;rw[aa,hx] at hr;simp only[xB,gT] at hr;refine Pd hx ?_ (QU fs[n].2) 0 0 k [] {g with fr:=true} g' (by rw[xz,WG (hf _ (Lw hn))]) (XM _) (hg.fr true) (λh=>by cases h) hr;intro r ln d' k' g1 g2 hi jX;cases he:cA (Ja (fs.map (·.1))) (n::rd) r with
  | error e=>rw[he] at hi;cases hi
  | ok m=>
   rw[he] at hi;simp only at hi;split at hi
   ·cases hi
   ·have hm:m<fs.length:=by
     obtain⟨_,tn,wZ⟩:=Eu he;have:=jF wZ;simpa using this
    exact(Pe hf f _ _ m _ g1 g2 hm jX hi).1
theorem gQa {nm:List (List Nat)}{fs:List (List Nat×List Nat)}{root:List Nat}{g:Gs}(hr:Y9 nm fs root= .ok g):GInv fs g/\fs.length<=256/\∀x∈fs,x.2.length<=1048576:=by
 unfold Y9 at hr;split at hr
 ·cases hr
 cases KM:Y8 fs with
 | some p=>rw[KM] at hr;cases hr
 | none=>
  rw[KM] at hr;simp only at hr;have jQG:fs.length<=256:=by
   unfold Y8 at KM;split at KM
   ·cases KM
   ·omega
  have hall:∀x∈fs,oE x.1=true/\ac x.2=true/\x.2.length<=1048576:=by
   unfold Y8 at KM;rw[if_neg (by omega)] at KM;exact ze fs [] 0 KM
  cases JY:Ja (fs.map (·.1)) root with
  | none=>rw[JY] at hr;cases hr
  | some n=>
   rw[JY] at hr;simp only at hr;have hn:n<fs.length:=by have:=jF JY;simpa using this
   exact⟨(Pe (λx hx=>lM (hall x hx).2.1) 65 [] 0 n _ _ g hn (⟨rfl,λs hs=>by cases hs⟩:GInv fs ⟨[],[],false⟩) hr).1,jQG,λx hx=>(hall x hx).2.2⟩
end
section
def mkX (s:Sg)(x:DV):Sx:=⟨s.f,s.t,s.fl,s.at_,x⟩
def AllS (k:Nat):List Sg->List Sx->Prop
 | [],[]=>True
 | s::l,y::m=>(y.f=s.f/\y.t=s.t/\y.fl=s.fl/\y.at_=s.at_/\Set1 k y.x.nd y.x.r s.o)/\AllS k l m
 | _,_=>False
theorem AllS.len {k:Nat}:∀{l:List Sg}{m:List Sx},AllS k l m->l.length=m.length
 | [],[],_=>rfl
 | _::_,_::_,h=>by simp[AllS.len h.2]
theorem AllS.get {k:Nat}:∀{l:List Sg}{m:List Sx}{i:Nat}{s:Sg}{y:Sx},AllS k l m->l[i]? =some s->m[i]? =some y->y.f=s.f/\y.t=s.t/\y.fl=s.fl/\y.at_=s.at_/\Set1 k y.x.nd y.x.r s.o
 | _::_,_::_,0,_,_,h,h1,h2=>by cases h1;cases h2;exact h.1
 | _::_,_::_,i+1,_,_,h,h1,h2=>AllS.get (i:=i) h.2 (by simpa using h1) (by simpa using h2)
theorem gQb {w:World}{k:Nat}{A:Option Addr}{n c:Nat}{sg:List Sg}{L:List DV}(h:SgIn w k A n c sg L):∃M,SX w A n c M/\AllS k sg M:=by
 have key:∀(sg:List Sg) (L:List DV),L.length=sg.length->(∀(j:Nat) (s:Sg) (x:DV),sg[j]? =some s->L[j]? =some x->SB w x.A x.n x.c x.nd/\Set1 k x.nd x.r s.o)->
   ∃M:List Sx,M.flatMap Sx.cells=bz sg L/\M.length=sg.length/\(∀y∈M,SB w y.x.A y.x.n y.x.c y.x.nd)/\AllS k sg M:=by
  intro sg;induction sg with
  | nil=>
   intro L hl _;have:L=[]:=Y0 hl;subst this;exact⟨[],rfl,rfl,(λy hy=>by cases hy),⟨⟩⟩
  | cons s sg ih=>
   intro L hl hd;cases L with
   | nil=>cases hl
   | cons x L=>
    obtain⟨M,h1,h2,h3,h4⟩:=ih L (by simpa using hl) (λj s x h1 h2=>hd (j+1) s x (by simpa using h1) (by simpa using h2));obtain⟨d1,d2⟩:=hd 0 s x rfl rfl;refine⟨mkX s x::M,?_,by simp[h2],?_,⟨⟨rfl,rfl,rfl,rfl,d2⟩,h4⟩⟩
    ·rw[bX,h1]<;>rfl
    ·intro y hy;rcases QX.1 hy with rfl | hy
     ·exact d1
     ·exact h3 y hy
 obtain⟨M,h1,h2,h3,h4⟩:=key sg L h.len h.dg;exact⟨M,⟨⟨by rw[h1];exact h.sl,by rw[h2];exact h.n⟩,h3⟩,h4⟩
def WN (tx:List Nat)(s:Sg):List Nat:=(tx.take s.t).drop s.f
structure SrcIn (w:World) (k:Nat) (A:Option Addr) (c:Nat) (g:Gs):Prop where
 ok:GsOk g
 kl:k<=12
 ex:∃M,SX w A g.sg.length c M/\AllS k g.sg M/\fQZ g.tx M=0
theorem SrcIn.ext {w w':World}{k:Nat}{A:Option Addr}{c:Nat}{g:Gs}(h:SrcIn w k A c g)(hE:Ext w w'):SrcIn w' k A c g:=⟨h.ok,h.kl,let ⟨M,h1,h2,h3⟩:=h.ex;⟨M,h1.ext hE,h2,h3⟩⟩
section
variable {w:World} {k:Nat} {A:Option Addr} {c:Nat} {g:Gs}
end
end
section
end
end
section
theorem gQc (A:Option Addr)(n c:Nat)(nd:List Br)(root:Int)(iV:Nat)(hcf:iV<=18446744073709551615)(w:World)(h:SB w A n c nd)(hc:XC nd root=0):
  Fn Tryz.prog 53 [Xg A n c root,.int .u64 iV] w (λv w'=>v= .bool (ev nd root (fR iV))/\Ext w w'):=by
 have Xb:=h.2;obtain⟨fk,hv⟩:=eK.1 hc;refine QF (c:={c53 with cuts:=[]}) Qa Tryz.func53 rfl rfl rfl ?_;refine new (λw1 Qd Q2 Qh=>?_);refine Qp Qh rfl ?_;refine loop Qa [5] (λs:Int=>[.int .i64 s]) (λs w'=>Ext w1 w'/\0<=s/\s<n+2/\ev nd s (fR iV)=ev nd root (fR iV)) (λs _=>s.toNat) root rfl ⟨Ext.refl _,hv.2.1,by have:=hv.2.2.1;omega,rfl⟩ ?_;rintro s w3 ⟨Qj,s0,s1,hs⟩;have QQ:=Qd.trans Qj;refine QB (λh1=>?_) (λh1=>?_)
 ·refine Qv (Qh.ext Qj) rfl ?_;refine Qm (((s-2).toNat:Nat):Int) (by omega) (by omega) ?_;refine Zo Y5 (h.ext QQ) rfl (by omega) (λp x hx Iz=>?_);refine J4 (vs:=x.cells) rfl Iz ?_;refine new (λw4 Qq Kz QZ=>?_);refine Qx QZ rfl (sc rfl) (λw5 Jk Kv QH=>?_);have JW:Ext w3 w5:=X0 Qq QZ Jk;obtain⟨b1,b2,b3,b4,b5,b6,b7,b8,b9,aj⟩:=hv.1 _ _ hx;have kE:=br hv.wf (n:=s) (e:=fR iV) (by omega) hx;refine Qv QH rfl ?_;refine nU (x.v.toNat:Int) (by omega) (by omega) ?_;refine yd x.v.toNat (2^x.v.toNat) (by omega) (by show min _ 64=_;omega) rfl ?_;have Xa:iV/2^x.v.toNat<18446744073709551616:=Nat.lt_of_le_of_lt (Nat.div_le_self _ _) (by omega);refine norm (m:=((iV/2^x.v.toNat % 2:Nat):Int)) (fQU _ Xa) ?_;refine Zn (λh2=>?_) (λh2=>?_)
  ·have hb:fR iV x.v.toNat=true:=XX (by omega);rw[hb,Qe rfl] at kE;refine Qp QH rfl ?_;exact⟨x.h,rfl,⟨Qj.trans JW,b5,by omega,by rw[<-kE];exact hs⟩,by show x.h.toNat<s.toNat;omega⟩
  ·have hb:fR iV x.v.toNat=false:=Zf (by omega);rw[hb,if_neg (by decide)] at kE;refine Qp QH rfl ?_;exact⟨x.l,rfl,⟨Qj.trans JW,b3,by omega,by rw[<-kE];exact hs⟩,by show x.l.toNat<s.toNat;omega⟩
 ·refine⟨?_,QQ⟩;rw[<-hs,Jr (by omega)]<;>rfl
theorem gQd (x:Nat)(hx:x<256):IntKind.u8.wrap ((BitVec.ofInt 8 (x:Int) &&& BitVec.ofInt 8 1).toNat)=((x % 2:Nat):Int):=by
 have e:(BitVec.ofInt 8 (x:Int) &&& BitVec.ofInt 8 1).toNat=x % 2:=by
  rw[BitVec.ofInt_natCast,show BitVec.ofInt 8 1=BitVec.ofNat 8 1 from rfl,BitVec.toNat_and,BitVec.toNat_ofNat,BitVec.toNat_ofNat];rw[aw (by omega),show 1 % 2^8=1 by decide,Nat.and_one_is_mod]
 rw[e];rcases(show x % 2=0∨x % 2=1 by omega)with h | h<;>rw[h]<;>decide
theorem gQe (q:Nat):(((q:Nat):Int)==1)=decide (q=1):=by
 by_cases h:q=1
 ·subst h;rfl
 ·rw[Zf h];exact beq_eq_false_iff_ne.2 (by omega)
theorem Pf (k:Nat)(hk:k<=1000000):IntKind.i64.wrap ((k:Int).tdiv 8)=((k/8:Nat):Int):=by
 rw[show(8:Int)=((8:Nat):Int) from rfl,bQg];exact IntWalk.i64_in _ (by omega)
theorem gQf (v:Nat)(hv:v<=6):IntKind.i64.wrap (1*2^(min ((v:Nat):Int).toNat IntKind.i64.bits))=((2^v:Nat):Int):=by
 rcases(show v=0∨v=1∨v=2∨v=3∨v=4∨v=5∨v=6 by omega)with rfl | rfl | rfl | rfl | rfl | rfl | rfl<;>decide
theorem Pg (l:List Nat)(A:Option Addr)(n c N:Nat)(w0:World)(h:Sl w0 1 A n c (Ji l))(h8:∀x∈l,x<=255)(hN:N<=6):∀(d v k:Nat)(w:World),Ext w0 w->v+d=N->k<2^v->
  Fn Tryz.prog 72 [.slice A n c,.int .i64 N,.int .i64 v,.int .i64 k] w (eO w N (bA l d v k))
 | 0,v,k,w,hE,hv,hk=>by
  have hn:l.length=n:=by have:=h.len;rw[tS] at this;omega
  have p6:2^v<=2^6:=Wu (by decide) (by omega);have Ft:n<=9223372036854775807:=by have:=h.le;have:=h.cap;simp only[maxLen] at this;omega
  refine QF (c:={Mm with cuts:=[]}) Qa Tryz.func72 rfl rfl rfl ?_;refine new (λw1 Qd Q2 Qh=>?_);refine Jp (by omega) ?_;refine normIf (m:=((k/8:Nat):Int)) (by decide) (Pf k (by omega)) ?_;have fin:∀b:Bool,b=zg l k->∀w2,Ext w1 w2->∀w3,w2.grownBy w3 (some w.heap.size)->eO w N (bA l 0 v k) (Xg none 0 0 (if b then 1 else 0)) w3:=λb hb w2 Qg w3 ZT=>by
   have ZP:Mod (·=w.heap.size) w2 w3:=mQj ZT rfl;exact⟨none,0,0,[],_,rfl,ZP.ext (Qd.trans Qg) (λi hi=>by omega),SlS.nil _,(aH N b).congr (λ_=>by rw[hb];rfl),λi hi=>by obtain⟨_,e,_⟩:=hi;cases e⟩
  refine QB (λh1=>?_) (λh1=>?_)
  ·refine normIf (m:=((k/8:Nat):Int)) (by decide) (Pf k (by omega)) ?_;have hg:=Xs (show k/8<l.length by omega);generalize l[k/8]=x at hg;have Fr:=h8 x (Xe hg);refine Vz ((h.ext hE).ext Qd) (by omega) (λad u hA hu Xz=>?_);rw[Dh hg] at hu;cases hu;refine load Xz ?_;have m8:k % 8<8:=fA _ (by decide);refine yf (d:=8) (by decide) ?_;refine norm (m:=((k % 8:Nat):Int)) (IntWalk.u64_in _ (by omega)) ?_;refine yd (k % 8) (2^(k % 8)) (by omega) (by show min ((k % 8:Nat):Int).toNat 8=_;omega) rfl ?_;have Xa:x/2^(k % 8)<256:=Nat.lt_of_le_of_lt (Nat.div_le_self _ _) (by omega);refine norm (m:=((x/2^(k % 8) % 2:Nat):Int)) (gQd _ Xa) ?_;refine call (zi (((x/2^(k % 8) % 2:Nat):Int)==1) w1) ?_;rintro _ w2 ⟨rfl,Qg⟩;refine Qx (Qh.ext Qg) rfl (sc rfl) (λw3 ZT _ Qu=>?_);refine Qs Qu rfl ?_;refine fin _ ?_ w2 Qg w3 ZT;unfold zg;rw[XX (show k/8<l.length by omega),hg];simp only[gT,df];exact gQe _
  ·refine call (zi false w1) ?_;rintro _ w2 ⟨rfl,Qg⟩;refine Qx (Qh.ext Qg) rfl (sc rfl) (λw3 ZT _ Qu=>?_);refine Qs Qu rfl ?_;refine fin false ?_ w2 Qg w3 ZT;unfold zg;rw[Zf (show¬k/8<l.length by omega)]<;>rfl
 | d+1,v,k,w,hE,hv,hk=>by
  have p6:2^v<=2^6:=Wu (by decide) (by omega);have ps:2^(v+1)=2^v+2^v:=by rw[kY];omega
  have ih:=Pg l A n c N w0 h h8 hN d;refine QF (c:={Mm with cuts:=[]}) Qa Tryz.func72 rfl rfl rfl ?_;refine new (λw1 Qd Q2 Qh=>?_);refine XP (by omega) ?_;refine call (dQ4 (v:Nat) w1 (by omega) (by omega)) ?_;rintro _ w2 ⟨XA,xn,xc,rfl,Qg,Kh,_⟩;refine new (λw3 Qj JV Qu=>?_);refine Qx Qu rfl (sc rfl) (λw4 bH _ QZ=>?_);have JL:Ext w2 w4:=X0 Qj Qu bH;have Jl:=Qg.trans JL;have XF:=Qd.trans Jl;have Ym:=Kh.ext JL;have sv:=Ew (k:=N) (v:=v) (by omega) (by omega);have qB:∀w',Ext w4 w'->∀(j:Nat) (u:Value),[Value.slice XA xn xc,.int .i64 2][j]? =some u->w'.cell? ((⟨w2.heap.size,0,none⟩:Addr).add j)=some u:=λw' Qb j u hj=>by rw[(QZ.ext Qb).cell];exact hj
  refine XJ Qa (Ext w4) 21 [(true,0),(true,1),(true,2),(true,3),(true,4),(true,5),(true,6),(true,7),(true,8),(true,9),(true,12),(true,13),(true,14),(true,15),(true,16),(true,18),(false,10),(false,11),(false,17),(false,19),(false,20)] (by kernel_rfl) (Ext.drew w4) ?_;refine Xl (vs:=[.slice XA xn xc,.int .i64 2]) rfl (λw' Qb j u hj=>qB w' Qb j u hj) ?_;refine Qm ((v+1:Nat):Int) (by omega) (by omega) ?_;refine norm (m:=((v:Nat):Int)) (IntWalk.u64_in _ (by omega)) ?_;refine normIf (m:=((2^v:Nat):Int)) (by omega) (gQf v (by omega)) ?_;refine Qm ((k+2^v:Nat):Int) (by omega) (by omega) ?_;refine Qm ((v+1:Nat):Int) (by omega) (by omega) ?_;refine Xl (vs:=[.slice XA xn xc,.int .i64 2]) rfl (λw' Qb j u hj=>qB w' Qb j u hj) ?_;refine call (ih (v+1) (k+2^v) _ ((hE.trans XF).trans (Ext.drew w4)) (by omega) (by omega)) ?_;rintro _ w5 ⟨T1,t1n,t1c,nd1,r1,rfl,Qt,hT1,KC,_⟩;have WU:=(Ext.drew w4).trans Qt;refine⟨WU,?_⟩;refine call (O1 (by omega) XA xn xc T1 t1n t1c w5 (Ym.ext WU) hT1 sv KC) ?_;rintro _ w6 ⟨U1,u1n,u1c,ud1,q1,rfl,Q6,hU1,pw,_⟩;have Xx:=WU.trans Q6;refine⟨Xx,?_⟩;refine call (ih (v+1) k _ ((hE.trans XF).trans Xx) (by omega) (by omega)) ?_;rintro _ w7 ⟨T2,t2n,t2c,iC,r2,rfl,Q1,YT,FH,_⟩;have VO:=Xx.trans Q1;refine⟨VO,?_⟩;refine call (fQX (by omega) T2 t2n t2c XA xn xc w7 YT (Ym.ext VO) FH sv) ?_;rintro _ w8 ⟨U2,u2n,u2c,ud2,q2,rfl,Q9,l9,Ay,_⟩;have iI:=VO.trans Q9;refine⟨iI,?_⟩;refine call (O0 (by omega) U1 u1n u1c U2 u2n u2c w8 ((hU1.ext Q1).ext Q9) l9 pw Ay) ?_;rintro _ w9 ⟨U3,u3n,u3c,ud3,q3,rfl,Xw,hU3,j0,gj⟩;have sw:=iI.trans Xw;refine⟨sw,?_⟩;have Vs:=(XF.trans iI).size;have iQW:=(Jl.trans iI).size;refine Qx ((Qh.ext Jl).ext sw) rfl (sc rfl) (λQG ku _ J9=>?_);have Zk:Mod (·=w.heap.size) w9 QG:=mQj ku rfl;refine Qs J9 rfl ?_;refine⟨U3,u3n,u3c,ud3,q3,rfl,Zk.ext (XF.trans sw) (λi hi=>by omega),hU3.mod Zk (λi hi e=>by have:=gj i hi;omega),j0.congr (λe=>?_),λi hi=>by have:=gj i hi;omega⟩;show J5 1 (J5 0 (e v) (bA l d (v+1) (k+2^v) e)) (bA l d (v+1) k e && !e v)=if e v then bA l d (v+1) (k+2^v) e else bA l d (v+1) k e
  cases e v<;>simp[J5]
theorem Ph (l:List Nat)(A:Option Addr)(n c N:Nat)(w:World)(h:Sl w 1 A n c (Ji l))(h8:∀x∈l,x<=255)(hN:N<=6):
  Fn Tryz.prog 28 [.slice A n c,.int .i64 N] w (eO w N (bA l N 0 0)):=by
 refine QF (c:={c28 with cuts:=[]}) Qa Tryz.func28 rfl rfl rfl ?_;refine new (λw1 Qd Q2 Qh=>?_);refine norm (m:=((N:Nat):Int)) (by split<;>omega) ?_;refine norm (m:=((N:Nat):Int)) (by split<;>omega) ?_;refine call (Pg l A n c N w1 (h.ext Qd) h8 hN N 0 0 w1 (Ext.refl _) (by omega) (by decide)) ?_;rintro _ w2 ⟨U,un,uc,nd,r,rfl,Qg,hU,hS,hR⟩;refine Qx (Qh.ext Qg) rfl (sc rfl) (λw3 ZT _ Qu=>?_);have ZP:Mod (·=w.heap.size) w2 w3:=mQj ZT rfl;refine Qs Qu rfl ?_;exact⟨U,un,uc,nd,r,rfl,ZP.ext (Qd.trans Qg) (λi hi=>by omega),hU.mod ZP (λi hi e=>by have:=hR i hi;omega),hS,λi hi=>by have:=hR i hi;omega⟩
theorem gQg (ls:List (List Nat)):ac (Qo ls)=true:=by
 unfold ac;rcases N6 ls with h | h
 ·rw[h]<;>rfl
 ·rw[h];simp
theorem gQh {ls:List (List Nat)}(h:∀s∈ls,∀x∈s,x<256):∀x∈Qo ls,x<256:=λx hx=>by
 unfold Qo at hx;obtain⟨s,hs,hxs⟩:=fz.1 hx;rcases XB.1 hxs with hxs | hxs
 ·exact h s hs x hxs
 ·simp only[QJ] at hxs;subst hxs;decide
theorem Ez (ls:List (List Nat))(s:List Nat):Qo (ls++ [s])=Qo ls++(s++ [10]):=by simp[Qo]
theorem gQi {tx s:List Nat}{x:Sg}(h:x.t<=tx.length):WN (tx++s) x=WN tx x:=by
 unfold WN;rw[Lu h]
structure TxOk (s:List Nat):Prop where
 nl:10∉s
 dr:Jb s= .txt
 b8:∀x∈s,x<256
abbrev Pi (op:List Se):List (BF×BF):=op.map (λx=>(x.ou,x.re))
end
section
open Go Go.RowKit Go.ChangeShapes
variable {H:Type} {enc:TypeId×Value->H}
theorem law_of {P:Program}{f:FuncId}{l:List Value}{w:World}(h:Fn P f l w (λv w'=>v= .bool true/\Ext w w')):
  Calls P f l.toArray w λe w'=>e= .returned (.bool true)/\Below w.heap.size w w':=by
 unfold Fn at h;exact h.mono λe w' he=>by
  cases e with
  | returned v=>exact⟨by rw[he.1],he.2.below⟩
  | panicked ch=>exact he.elim
  | outgrown=>exact he.elim
theorem kQ6 {W:World}{a:Option Addr}{len cap:Nat}{d:DataW H}{p:List MemPlace}(h:DataW.Trod enc Tryz.prog W 0 (λ_=>true) true 37 (.slice a len cap) d p):∃l,Sl W 1 a len cap (X4 l)/\Ke l:=by
 obtain⟨fo,hf⟩:=h;rcases Go.Deep.open_slice Tryz.underlying37 hf with⟨X6,_⟩ | ⟨x,l,c,m,n,D,Pl,X6,_,hl,hm,ZM,_,hx⟩
 ·simp[Value.cells] at X6;obtain⟨rfl,rfl,rfl⟩:=X6;exact⟨[],Sl.nil W 1,λs hs=>by cases hs⟩
 ·simp[Value.cells] at X6;obtain⟨rfl,rfl,rfl⟩:=X6;simp only[if_true] at ZM;subst ZM;have hc9:Tryz.prog.cellsOf 9=1:=by kernel_rfl
  have each:∀i,i<m->∃y:ByteArray,y.size<=maxLen/\W.cell? (x.add i)=some (.string y):=by
   intro i hi;obtain⟨cs,h1,h2⟩:=hx i hi;rw[hc9] at h1;obtain⟨_,Xb,Xz⟩:=World.cells?_some h1
   match cs,Xb with
   | [v],_=>
    obtain⟨s,e1,_,aR⟩:=DataW.trod_string Tryz.underlying9 h2;simp at e1;subst e1;refine⟨s,aR,?_⟩;have:=Xz 0 (by decide);rw[gR] at this;simpa [add_add] using this
  have Q7:Inhabited ByteArray:=⟨⟨#[]⟩⟩
  obtain⟨Y,hY⟩:=Go.Deep.choose_lt each;refine⟨(List.range len).map (λi=>Yv (Y i)),⟨by simp[X4],hl,hm,λ_=>⟨x,rfl,λj u hu=>?_⟩⟩,?_⟩
  ·simp only[X4,xx,K2,CF] at hu;obtain⟨k,hk,rfl⟩:=hu;have hj:=(Zt.1 hk).1;simp at hj;have:k=j:=by rw[List.getElem?_range hj] at hk;exact(Option.some.inj hk).symm
   subst this;rw[(hY k (by omega)).2];simp[bQm]
  ·intro y hy;simp only[ZY,kZ] at hy;obtain⟨i,hi,rfl⟩:=hy;have:=(hY i (by omega)).1;exact⟨bQl _,by rw[tT];simpa [maxLen] using this⟩
theorem Pj {W:World}{a:Option Addr}{len cap:Nat}{d:DataW H}{p:List MemPlace}(h:DataW.Trod enc Tryz.prog W 0 (λ_=>true) true 62 (.slice a len cap) d p):∃l,Sl W 1 a len cap (Ji l)/\∀b∈l,b<=255:=by
 obtain⟨fo,hf⟩:=h;rcases open_ints Tryz.underlying62 Tryz.underlying5 (by kernel_rfl) hf with⟨X6,_⟩ | ⟨x,l,c,zs,X6,_,hl,hm,hz,_,Xz,wL⟩
 ·simp[Value.cells] at X6;obtain⟨rfl,rfl,rfl⟩:=X6;exact⟨[],Sl.nil W 1,by simp⟩
 ·simp[Value.cells] at X6;obtain⟨rfl,rfl,rfl⟩:=X6;simp at hz;have hr:∀n∈zs,0<=n/\n<=255:=λn hn=>by
   have:=wL n hn;simp[Lit.wf,IntKind.min,IntKind.max,IntKind.signed,IntKind.bits] at this;omega
  refine⟨(zs.take len).map Int.toNat,⟨by simp[Ji];omega,hl,hm,λ_=>⟨x,rfl,λj u hu=>?_⟩⟩,?_⟩
  ·simp only[Ji,xx,K2,CF] at hu;obtain⟨y,hy,rfl⟩:=hu;rw[CD] at hy;split at hy
   ·rename_i hj;have Cq:j<zs.length:=by omega
    rw[Xs Cq] at hy;cases hy;have h2:=hr zs[j] (Lw Cq);rw[Xz j Cq];have:zs.getD j 0=zs[j]:=by simp[Cq]
    rw[this];show some (Value.int .u8 _)=some (Value.int .u8 ((zs[j].toNat:Nat):Int));congr 2;omega
   ·cases hy
  ·intro y hy;simp only[ZY] at hy;obtain⟨z,Q2,rfl⟩:=hy;have:=hr z (eu Q2);omega
theorem u8_of {a:Int}(w:(Lit.int .u8 a).wf=true):∃n:Nat,a=n/\n<=255:=by
 simp[Lit.wf,IntKind.min,IntKind.max,IntKind.signed,IntKind.bits] at w;exact⟨a.toNat,by omega,by omega⟩
end
section
open Go Go.RowKit Go.ChangeShapes
variable {H:Type} {enc:TypeId×Value->H}
theorem Pk {α:Type}{l:List α}(h:l.length=3):∃a b c,l=[a,b,c]:=by
 match l,h with
 | [a,b,c],_=>exact⟨a,b,c,rfl⟩
theorem gQj {W:World}{α:Type}{cells:α->List Value}{e:Nat}(xg:∀x,(cells x).length=e)(he:0<e){t te:TypeId}{fo:Nat}{cs:List Value}{z:DataW H×List MemPlace}
  (ht:Tryz.prog.underlying t=some (.slice te)) (hc5:Tryz.prog.cellsOf te=e) (Q7:Inhabited α)
  (one:∀(cs:List Value) (fo:Nat) (D:DataW H×List MemPlace),cs.length=e->DataW.trod enc Tryz.prog W 0 (λ_=>true) true fo te cs=some D->∃y,cells y=cs)
  {a:Option Addr} {len cap:Nat} (X6:cs=[.slice a len cap]) (hf:DataW.trod enc Tryz.prog W 0 (λ_=>true) true fo t cs=some z):∃l,SlS cells e W a len cap l:=by
 subst X6;rcases Go.Deep.open_slice ht hf with⟨X6,_⟩ | ⟨x,l,c,m,n,D,Pl,X6,_,hl,hm,ZM,_,hx⟩
 ·simp at X6;obtain⟨rfl,rfl,rfl⟩:=X6;exact⟨[],SlS.nil W⟩
 ·simp at X6;obtain⟨rfl,rfl,rfl⟩:=X6;simp only[if_true] at ZM;subst ZM;have each:∀i,i<m->∃y:α,∀j v,(cells y)[j]? =some v->W.cell? (x.add (i*e+j))=some v:=by
   intro i hi;obtain⟨cs,h1,h2⟩:=hx i hi;rw[hc5] at h1;obtain⟨_,Xb,Xz⟩:=World.cells?_some h1;obtain⟨y,rfl⟩:=one _ _ _ Xb h2;refine⟨y,λj v hj=>?_⟩;have hj5:j<e:=by have:=(Zt.1 hj).1;rw[xg] at this;exact this
   have:=Xz j hj5;rw[add_add] at this;rw[this];exact hj
  obtain⟨Y,hY⟩:=Go.Deep.choose_lt each;refine⟨(List.range len).map Y,⟨⟨?_,hl,hm,λ_=>⟨x,rfl,λj u hu=>?_⟩⟩,by simp⟩⟩
  ·rw[co xg];simp
  ·have kJ:=(Zt.1 hu).1;rw[co xg] at kJ;simp at kJ;have hi:j/e<len:=Nat.div_lt_of_lt_mul (by rw[tE];exact kJ);have hr:j % e<e:=fA _ he;have Ch:j/e*e+j % e=j:=by rw[tE];exact Nat.div_add_mod j e
   have hg:((List.range len).map Y)[j/e]? =some (Y (j/e)):=by simp[hi]
   have hc:=Xs (l:=cells (Y (j/e))) (i:=j % e) (by rw[xg];exact hr);have h1:=eF xg _ _ _ _ _ hg hc;rw[Ch,hu] at h1;have h2:=hY (j/e) (Vy hi hl) _ _ hc;rw[Ch] at h2;rw[h2,<-Option.some.inj h1]
end
section
open Go Go.RowKit Go.ChangeShapes
variable {H:Type} {enc:TypeId×Value->H}
theorem gQk {α:Type}{p:α->Prop}{f:α->List Value}{sz:Nat}{W:World}{a:Option Addr}{len cap:Nat}(h:∃l:List {x:α // p x},SlS (λy=>f y.1) sz W a len cap l):∃l:List α,SlS f sz W a len cap l/\∀x∈l,p x:=by
 obtain⟨l,h1,h2⟩:=h;refine⟨l.map Subtype.val,⟨?_,by simpa using h2⟩,λx hx=>?_⟩
 ·rw[List.flatMap_map];exact h1
 ·obtain⟨y,_,rfl⟩:=ZY.1 hx;exact y.2
structure Lx where
 k:Nat
 i:Nat
 ws:List Nat
 A:Option Addr
 n:Nat
 c:Nat
structure LxOk (W:World) (x:Lx):Prop where
 k8:x.k<=255
 i8:x.i<=255
 sl:Sl W 1 x.A x.n x.c (Ji x.ws)
 w8:∀b∈x.ws,b<=255
theorem LxOk.ext {W W':World}{x:Lx}(h:LxOk W x)(k:Ext W W'):LxOk W' x:=⟨h.k8,h.i8,h.sl.ext k,h.w8⟩
end
end Go.Proofs.YtjabbbcdgmlojaaGreatDoor
