/-
  What PPatchSections rests on, part 3 (wip/shake.py).
  Conditions: none.
-/
import Derived.Test.YtjabbbcdgmlojaaGreatDoorQPPatchSectionsb
set_option linter.all false
set_option linter.deprecated false
set_option maxHeartbeats 12800000
namespace Go.Proofs.YtjabbbcdgmlojaaGreatDoor
open Go Go.RowKit
section
structure DgI (w0:World) (g:Nat) (f:List Fz) (k n s:Nat) (L:List DV) (w:World):Prop where
 m:Mod (·=g) w0 w
 blk:Blk w g 32 (L.flatMap DV.cells)
 len:L.length=n
 got:∀j,j<s->∃x t,L[j]? =some x/\RepF f t j/\SB w x.A x.n x.c x.nd/\Set1 k x.nd x.r (evF t)/\∀i,Ql x.A i->g<i
theorem SB.mod {S:Nat->Prop}{w w':World}{A:Option Addr}{n c:Nat}{nd:List Br}(h:SB w A n c nd)(hm:Mod S w w')(hr:∀i,Ql A i->¬S i):SB w' A n c nd:=⟨h.1.modS hm (λ_ i hi=>hr i hi),h.2⟩
theorem DgI.mod {w0 w w':World}{g:Nat}{f:List Fz}{k n s:Nat}{L:List DV}(h:DgI w0 g f k n s L w)(k1:Ext w w'):DgI w0 g f k n s L w':=
 ⟨h.m.trans (Mod.of_ext (·=g) k1) (λ_ hi=>.inl hi),h.blk.ext k1,h.len,λj hj=>by
  obtain⟨x,t,h1,h2,h3,h4,h5⟩:=h.got j hj;exact⟨x,t,h1,h2,h3.ext k1,h4,h5⟩⟩
theorem DgI.put {w0 w w':World}{g:Nat}{f:List Fz}{k n s:Nat}{L:List DV}(h:DgI w0 g f k n s L w)(hs:s<n){x:DV}{t:Fm}(ht:RepF f t s)(hx:SB w x.A x.n x.c x.nd)(hS:Set1 k x.nd x.r (evF t))(hr:∀i,Ql x.A i->g<i)(hm:Mod (·=g) w w')
  (hb:Blk w' g 32 (Vh (s*2) x.cells (L.flatMap DV.cells))):DgI w0 g f k n (s+1) (L.set s x) w':=by
 have hl:=h.len;refine⟨h.m.trans hm (λ_ hi=>.inl hi),by rw[<-HK dS L x (by omega)];exact hb,by rw[gb];exact hl,λj hj=>?_⟩;by_cases Y5:j=s
 ·subst Y5;exact⟨x,t,by rw[jG (by omega)],ht,hx.mod hm (λi hi e=>by have:=hr i hi;omega),hS,hr⟩
 ·obtain⟨y,u,h1,h2,h3,h4,h5⟩:=h.got j (by omega);exact⟨y,u,by rw[gf (λe=>Y5 e.symm)];exact h1,h2,h3.mod hm (λi hi e=>by have:=h5 i hi;omega),h4,h5⟩
def DgC (g s:Nat)(L:List DV)(w w':World):Prop:=Mod (·=g) w w'/\∀(j:Nat)(x:DV),j≠s->L[j]? =some x->∀(i:Nat)(v:Value),x.cells[i]? =some v->w'.cell? ((⟨g,0,none⟩:Addr).add (j*2+i))=some v
theorem DgC.of_ext {g s:Nat}{L:List DV}{w w':World}(hb:Blk w g 32 (L.flatMap DV.cells))(h:Ext w w'):DgC g s L w w':=
 ⟨Mod.of_ext _ h,λj x _ hx i v hi=>by rw[(hb.ext h).cell];exact jS dS _ _ _ _ _ hx hi⟩
theorem DgC.put {g s:Nat}{L:List DV}{w w1 w':World}{x:DV}(hs:s<L.length)(h:Ext w w1)(hm:Mod (·=g) w1 w')(hb:Blk w' g 32 (Vh (s*2) x.cells (L.flatMap DV.cells))):DgC g s L w w':=
 ⟨(
  Mod.of_ext (·=g) h).trans hm (λ_ hi=>.inl hi),λj y hj hy i v hi=>by
  rw[hb.cell,HK dS L x hs];exact jS dS _ _ _ _ _ (by rw[gf (λe=>hj e.symm)];exact hy) hi⟩
theorem FV.rep {f:List Fz}(h:FV f){i:Nat}(hi:i<f.length):∃t,RepF f t i:=Sz h.2.2.1 i hi
theorem iQd (F:Option Addr)(n cF:Nat)(f:List Fz)(k:Nat)(hk:k<=12)(w:World)(h:SF w F n cF f)(hv:FV f)(Fy:nQ k f):
  Fn Tryz.prog 203 [.slice F n cF] w (λv w'=>∃A m c nd r,v= .tuple #[Xl A m c r,.int .i64 0]/\Ext w w'/\SB w' A m c nd/\Set1 k nd r (evF (gv f))/\∀i,Ql A i->w.heap.size<i):=by
 have hn:=h.2;have hvl:=hv.1;have fA:=hv.2.1;refine QH (c:={fQN with cuts:=[]}) Qa Tryz.func203 rfl rfl rfl ?_;refine new (λw1 Qd Q9 Qh=>?_);refine call (Sy F n cF f w1 (h.ext Qd)) ?_;rintro _ w2 ⟨rfl,Qg⟩;refine YU (BX hv) ?_;have QR:=Qd.trans Qg;refine iQc dS (by decide) (⟨none,0,0,[],0⟩:DV) Qa rfl rfl rfl rfl rfl rfl rfl rfl (by show 32*n<=_;omega) (by unfold maxLen;omega) (λw3 Qi JD Qu=>?_);have QY:=QR.trans Qi;have mQ0:=QR.size;have Zi:w1.heap.size<=w2.heap.size:=Qg.size;refine loop Qa [17] (λs:Nat×List DV=>[.int .i64 s.1]) (λs w'=>DgI w3 w2.heap.size f k n s.1 s.2 w'/\s.1<=n) (λs _=>n-s.1) (0,List.replicate n ⟨none,0,0,[],0⟩) rfl ⟨⟨Mod.refl _ _,Qu,by simp,λj hj=>Xd hj (by simp)⟩,Xt _⟩ ?_;rintro⟨s,L⟩ w4 ⟨hI,hs⟩;simp only at hI hs;have Qs:Ext w w4:=hI.m.ext QY (λi hi=>by omega);have hL:=hI.len;refine Qz (λh1=>?_) (λh1=>?_)
 ·have aV:s<n:=by simp only at h1;omega
  refine Zz BV (h.ext Qs) rfl aV (λp x hx hc=>?_);refine JN (vs:=x.cells) rfl hc ?_;refine new (λw5 Qx KL QB=>?_);refine Qw QB rfl (sc rfl) (λw6 Wm cj Xg=>?_);have XK:Ext w4 w6:=XV Qx QB Wm;have Jw:=hI.mod XK;obtain⟨t,ht⟩:=hv.rep (i:=s) (by omega);have KW:=hI.m.size;have bQ9:=XK.size;have c0:Set1 k [] 0 (λ_=>false):=bT k false;have hrc:∀i,Ql (none:Option Addr) i->w2.heap.size<i:=λi hi=>by obtain⟨_,e,_⟩:=hi;cases e
  cases t with
  | c b=>
   cases b with
   | false=>
    have Yz:x=⟨0,0,0,0⟩:=Option.some.inj (hx.symm.trans ht);subst Yz;refine Qy Xg rfl ?_;refine J2 rfl ?_;refine Qy Xg rfl ?_;refine call (cQ false w6) ?_;rintro _ w7 ⟨rfl,Xf⟩;have bC:=Jw.mod Xf;refine J3 (j:=s) aV ?_;refine lg (j:=s*2) (vs:=(⟨none,0,0,[],0⟩:DV).cells) bC.blk (by rw[dN dS,hL];show s*2+2<=n*2;omega) (sc rfl) (λw8 YO Yq Xx=>?_);have ZF:Mod (·=w2.heap.size) w7 w8:=qQT YO rfl;have i6:=bC.put aV (x:=⟨none,0,0,[],0⟩) ht (SlS.nil _) (bT k false) hrc ZF Xx;refine YU rfl ?_;refine Qj ((s+1:Nat):Int) (by show((s:Nat):Int)+1=_;omega) (by omega) ?_;exact⟨(s+1,L.set s ⟨none,0,0,[],0⟩),rfl,⟨i6,by show s+1<=n;omega⟩,by show n-(s+1)<n-s;omega⟩
   | true=>
    have Yz:x=⟨1,0,0,0⟩:=Option.some.inj (hx.symm.trans ht);subst Yz;refine Qy Xg rfl ?_;refine XG (show¬(1:Int)=0 by decide) ?_;refine J2 rfl ?_;refine Qy Xg rfl ?_;refine call (cQ true w6) ?_;rintro _ w7 ⟨rfl,Xf⟩;have bC:=Jw.mod Xf;refine J3 (j:=s) aV ?_;refine lg (j:=s*2) (vs:=(⟨none,0,0,[],1⟩:DV).cells) bC.blk (by rw[dN dS,hL];show s*2+2<=n*2;omega) (sc rfl) (λw8 YO Yq Xx=>?_);have ZF:Mod (·=w2.heap.size) w7 w8:=qQT YO rfl;have i6:=bC.put aV (x:=⟨none,0,0,[],1⟩) ht (SlS.nil _) (bT k true) hrc ZF Xx;refine YU rfl ?_;refine Qj ((s+1:Nat):Int) (by show((s:Nat):Int)+1=_;omega) (by omega) ?_;exact⟨(s+1,L.set s ⟨none,0,0,[],1⟩),rfl,⟨i6,by show s+1<=n;omega⟩,by show n-(s+1)<n-s;omega⟩
  | v q=>
   have Yz:x=⟨2,(q:Nat),0,0⟩:=Option.some.inj (hx.symm.trans ht);subst Yz;have hq:(q:Int)<k:=Fy _ (Xk hx) rfl;refine Qy Xg rfl ?_;refine XG (show¬(2:Int)=0 by decide) ?_;refine XG (show¬(2:Int)=1 by decide) ?_;refine J2 rfl ?_;refine Qp Xg rfl ?_;refine call (HG (q:Nat) w6 (by omega) (by omega)) ?_;rintro _ w7 ⟨PA,pn,pc,rfl,Xf,mG,Vk⟩;have bC:=Jw.mod Xf;have sZ:Set1 k [⟨(q:Nat),0,1⟩] 2 (evF (.v q)):=⟨Co (by omega) (by omega),λb hb=>by simp only[QL] at hb;subst hb;exact hq,λe=>by
    rw[cM (Co (k:=((q:Nat):Int)) (by omega) (by omega)).wf (by decide) (b:=⟨(q:Nat),0,1⟩) rfl,JT (by simp),JT (by simp)];cases h:e q<;>simp[evF,h]⟩
   refine J3 (j:=s) aV ?_;refine lg (j:=s*2) (vs:=(⟨PA,pn,pc,[⟨(q:Nat),0,1⟩],2⟩:DV).cells) bC.blk (by rw[dN dS,hL];show s*2+2<=n*2;omega) (sc rfl) (λw8 YO Yq Xx=>?_);have ZF:Mod (·=w2.heap.size) w7 w8:=qQT YO rfl;have i6:=bC.put aV (x:=⟨PA,pn,pc,[⟨(q:Nat),0,1⟩],2⟩) ht mG sZ (λi hi=>by have:=Vk i hi;omega) ZF Xx;refine YU rfl ?_;refine Qj ((s+1:Nat):Int) (by show((s:Nat):Int)+1=_;omega) (by omega) ?_;exact⟨(s+1,L.set s ⟨PA,pn,pc,[⟨(q:Nat),0,1⟩],2⟩),rfl,⟨i6,by show s+1<=n;omega⟩,by show n-(s+1)<n-s;omega⟩
  | not a=>
   obtain⟨j,hj,pQ,Ww⟩:=ht;have Yz:x=⟨3,0,(j:Nat),0⟩:=Option.some.inj (hx.symm.trans pQ);subst Yz;obtain⟨y,u,hy,hu,s6,kK,Ao⟩:=Jw.got j hj;obtain rfl:u=a:=qQX hu Ww;have gR:=iC hk kK c0 3;have XO:=eX kK c0 3;have KB:j<n:=by omega
   refine Qy Xg rfl ?_;refine XG (show¬(3:Int)=0 by decide) ?_;refine XG (show¬(3:Int)=1 by decide) ?_;refine XG (show¬(3:Int)=2 by decide) ?_;refine J2 rfl ?_;refine Qp Xg rfl ?_;refine J3 (j:=j) KB ?_;refine gq (j:=j*2) (vs:=y.cells) Jw.blk rfl (λi v hi=>jS dS _ _ _ _ _ hy hi) ?_;refine call (HJ y.A y.n y.c y.nd y.r w6 s6) ?_;rw[gR];rintro _ w7 ⟨PA,pn,pc,rfl,Xf,mG,Vk⟩;have bC:=Jw.mod Xf;have ht:RepF f (.not u) s:=⟨j,hj,pQ,Ww⟩
   generalize V4 y.nd y.r [] 0 3=D at*;obtain⟨D1,D2⟩:=D;have sZ:Set1 k D1 D2 (evF (.not u)):=XO.congr (λe=>by simp[Kt,evF]);refine J3 (j:=s) aV ?_;refine lg (j:=s*2) (vs:=(⟨PA,pn,pc,D1,D2⟩:DV).cells) bC.blk (by rw[dN dS,hL];show s*2+2<=n*2;omega) (sc rfl) (λw8 YO Yq Xx=>?_);have ZF:Mod (·=w2.heap.size) w7 w8:=qQT YO rfl;have i6:=bC.put aV (x:=⟨PA,pn,pc,D1,D2⟩) ht mG sZ (λi hi=>by have:=Vk i hi;omega) ZF Xx;refine YU rfl ?_;refine Qj ((s+1:Nat):Int) (by show((s:Nat):Int)+1=_;omega) (by omega) ?_;exact⟨(s+1,L.set s ⟨PA,pn,pc,D1,D2⟩),rfl,⟨i6,by show s+1<=n;omega⟩,by show n-(s+1)<n-s;omega⟩
  | and a b=>
   obtain⟨j,l,hj,hl,pQ,Ww,fT⟩:=ht;have Yz:x=⟨4,0,(j:Nat),(l:Nat)⟩:=Option.some.inj (hx.symm.trans pQ);subst Yz;obtain⟨y,u,hy,hu,s6,kK,Ao⟩:=Jw.got j hj;obtain rfl:u=a:=qQX hu Ww;obtain⟨z,u',hz,gZ,OY,Aq,hzr⟩:=Jw.got l hl;obtain rfl:u'=b:=qQX gZ fT;have gR:=iC hk kK Aq 0;have XO:=eX kK Aq 0;have KB:j<n:=by omega
   have jv:l<n:=by omega
   refine Qy Xg rfl ?_;refine XG (show¬(4:Int)=0 by decide) ?_;refine XG (show¬(4:Int)=1 by decide) ?_;refine XG (show¬(4:Int)=2 by decide) ?_;refine XG (show¬(4:Int)=3 by decide) ?_;refine J2 rfl ?_;refine XL Qa (DgC w2.heap.size s L w6) 19 [(true,0),(true,1),(true,2),(true,3),(true,4),(true,5),(true,6),(true,7),(true,8),(true,9),(true,10),(true,11),(false,12),(true,13),(true,14),(true,15),(true,16),(false,17),(true,18)] (by kernel_rfl) (DgC.of_ext Jw.blk (Ext.drew w6)) ?_;have Ar:¬w4.heap.size=w2.heap.size:=by omega
   refine QQ (v:=.int .i64 (j:Nat)) (λw' Qb=>by rw[(Xg.mod Qb.1 Ar).cell];rfl) ?_;refine J3 (j:=j) KB ?_;refine Xo (vs:=y.cells) rfl (λw' Qb i v hi=>by rw[add_add];exact Qb.2 j y (by omega) hy i v hi) ?_;refine QQ (v:=.int .i64 (l:Nat)) (λw' Qb=>by rw[(Xg.mod Qb.1 Ar).cell];rfl) ?_;refine J3 (j:=l) jv ?_;refine Xo (vs:=z.cells) rfl (λw' Qb i v hi=>by rw[add_add];exact Qb.2 l z (by omega) hz i v hi) ?_;refine call (xF y.A y.n y.c y.nd y.r z.A z.n z.c z.nd z.r _ (s6.ext (Ext.drew w6)) (OY.ext (Ext.drew w6))) ?_;rw[gR];rintro _ w7 ⟨PA,pn,pc,rfl,Ms,mG,Vk⟩;have Xf:=(Ext.drew w6).trans Ms;have oQW:=(Ext.drew w6).size;refine⟨DgC.of_ext Jw.blk Xf,?_⟩;have bC:=Jw.mod Xf;have ht:RepF f (.and u u') s:=⟨j,l,hj,hl,pQ,Ww,fT⟩
   generalize V4 y.nd y.r z.nd z.r 0=D at*;obtain⟨D1,D2⟩:=D;have sZ:Set1 k D1 D2 (evF (.and u u')):=XO.congr (λe=>by simp[Kt,evF]);refine J3 (j:=s) aV ?_;refine lg (j:=s*2) (vs:=(⟨PA,pn,pc,D1,D2⟩:DV).cells) bC.blk (by rw[dN dS,hL];show s*2+2<=n*2;omega) (sc rfl) (λw8 YO Yq Xx=>?_);have ZF:Mod (·=w2.heap.size) w7 w8:=qQT YO rfl;have i6:=bC.put aV (x:=⟨PA,pn,pc,D1,D2⟩) ht mG sZ (λi hi=>by have:=Vk i hi;omega) ZF Xx;refine⟨DgC.put (by omega) Xf ZF Xx,?_⟩;refine YU rfl ?_;refine Qj ((s+1:Nat):Int) (by show((s:Nat):Int)+1=_;omega) (by omega) ?_;exact⟨(s+1,L.set s ⟨PA,pn,pc,D1,D2⟩),rfl,⟨i6,by show s+1<=n;omega⟩,by show n-(s+1)<n-s;omega⟩
  | or a b=>
   obtain⟨j,l,hj,hl,pQ,Ww,fT⟩:=ht;have Yz:x=⟨5,0,(j:Nat),(l:Nat)⟩:=Option.some.inj (hx.symm.trans pQ);subst Yz;obtain⟨y,u,hy,hu,s6,kK,Ao⟩:=Jw.got j hj;obtain rfl:u=a:=qQX hu Ww;obtain⟨z,u',hz,gZ,OY,Aq,hzr⟩:=Jw.got l hl;obtain rfl:u'=b:=qQX gZ fT;have gR:=iC hk kK Aq 1;have XO:=eX kK Aq 1;have KB:j<n:=by omega
   have jv:l<n:=by omega
   refine Qy Xg rfl ?_;refine XG (show¬(5:Int)=0 by decide) ?_;refine XG (show¬(5:Int)=1 by decide) ?_;refine XG (show¬(5:Int)=2 by decide) ?_;refine XG (show¬(5:Int)=3 by decide) ?_;refine XG (show¬(5:Int)=4 by decide) ?_;refine J2 rfl ?_;refine XL Qa (DgC w2.heap.size s L w6) 19 [(true,0),(true,1),(true,2),(true,3),(true,4),(true,5),(true,6),(true,7),(true,8),(true,9),(true,10),(true,11),(false,12),(true,13),(true,14),(true,15),(true,16),(false,17),(true,18)] (by kernel_rfl) (DgC.of_ext Jw.blk (Ext.drew w6)) ?_;have Ar:¬w4.heap.size=w2.heap.size:=by omega
   refine QQ (v:=.int .i64 (j:Nat)) (λw' Qb=>by rw[(Xg.mod Qb.1 Ar).cell];rfl) ?_;refine J3 (j:=j) KB ?_;refine Xo (vs:=y.cells) rfl (λw' Qb i v hi=>by rw[add_add];exact Qb.2 j y (by omega) hy i v hi) ?_;refine QQ (v:=.int .i64 (l:Nat)) (λw' Qb=>by rw[(Xg.mod Qb.1 Ar).cell];rfl) ?_;refine J3 (j:=l) jv ?_;refine Xo (vs:=z.cells) rfl (λw' Qb i v hi=>by rw[add_add];exact Qb.2 l z (by omega) hz i v hi) ?_;refine call (TM y.A y.n y.c y.nd y.r z.A z.n z.c z.nd z.r _ (s6.ext (Ext.drew w6)) (OY.ext (Ext.drew w6))) ?_;rw[gR];rintro _ w7 ⟨PA,pn,pc,rfl,Ms,mG,Vk⟩;have Xf:=(Ext.drew w6).trans Ms;have oQW:=(Ext.drew w6).size;refine⟨DgC.of_ext Jw.blk Xf,?_⟩;have bC:=Jw.mod Xf;have ht:RepF f (.or u u') s:=⟨j,l,hj,hl,pQ,Ww,fT⟩
   generalize V4 y.nd y.r z.nd z.r 1=D at*;obtain⟨D1,D2⟩:=D;have sZ:Set1 k D1 D2 (evF (.or u u')):=XO.congr (λe=>by simp[Kt,evF]);refine J3 (j:=s) aV ?_;refine lg (j:=s*2) (vs:=(⟨PA,pn,pc,D1,D2⟩:DV).cells) bC.blk (by rw[dN dS,hL];show s*2+2<=n*2;omega) (sc rfl) (λw8 YO Yq Xx=>?_);have ZF:Mod (·=w2.heap.size) w7 w8:=qQT YO rfl;have i6:=bC.put aV (x:=⟨PA,pn,pc,D1,D2⟩) ht mG sZ (λi hi=>by have:=Vk i hi;omega) ZF Xx;refine⟨DgC.put (by omega) Xf ZF Xx,?_⟩;refine YU rfl ?_;refine Qj ((s+1:Nat):Int) (by show((s:Nat):Int)+1=_;omega) (by omega) ?_;exact⟨(s+1,L.set s ⟨PA,pn,pc,D1,D2⟩),rfl,⟨i6,by show s+1<=n;omega⟩,by show n-(s+1)<n-s;omega⟩
 ·have aV:s=n:=by simp only at h1;omega
  subst aV;obtain⟨y,u,hy,hu,s6,kK,Ao⟩:=hI.got (s-1) (by omega);have FF:=Ha (f:=f) (t:=u) (by rw[hn];exact hu);refine Qj ((s-1:Nat):Int) (by omega) (by omega) ?_;refine J3 (j:=s-1) (by omega) ?_;refine gq (j:=(s-1)*2) (vs:=y.cells) hI.blk rfl (λi v hi=>jS dS _ _ _ _ _ hy hi) ?_;have QX:=((Qh.ext Qg).ext Qi).mod hI.m (by show¬w.heap.size=w2.heap.size;omega);refine Qw QX rfl (sc rfl) (λw5 Js KL QB=>?_);have Jn:Mod (·=w.heap.size) w4 w5:=qQT Js rfl;refine Qt QB rfl ?_;exact⟨y.A,y.n,y.c,y.nd,y.r,rfl,Jn.ext Qs (λi hi=>by omega),s6.mod Jn (λi hi e=>by have:=Ao i hi;omega),by rw[FF];exact kK,λi hi=>by have:=Ao i hi;omega⟩
end
section
section
abbrev J5 (g o:Nat):Addr:=(⟨g,0,none⟩:Addr).add o
def xG (t m o:Nat):Prop:=liesAt Tryz.prog Tryz.prog.depth t (m/Tryz.prog.cellsOf t) o 109 1=true
theorem HL (g o:Nat):(J5 g o).off=o/\(J5 g o).block=g:=by unfold J5;rw[qz];exact⟨rfl,rfl⟩
theorem HM {w:World}{g t o j:Nat}{cs:List Value}(h:Blk w g t cs):w.cell? ((J5 g o).add j)=cs[o+j]? :=by unfold J5;rw[add_add,h.cell]
theorem xH {w:World}{g t o j:Nat}{cs:List Value}{v:Value}{K:Value->Prop}(h:Blk w g t cs)(hv:cs[o+j]? =some v)(k:K v):iq w ((J5 g o).add j) K:=load (by rw[HM h];exact hv) k
theorem TP {w:World}{g t o j:Nat}{cs:List Value}{v:Value}{K:World->Prop}(h:Blk w g t cs)(hj:o+j<cs.length)(k:∀w1,Mod (·=g) w w1->Blk w1 g t (cs.set (o+j) v)->K w1):eP w ((J5 g o).add j) v K:=by
 unfold J5;rw[add_add];exact XQ h hj k
theorem iQe (g t o:Nat)(pa:Value)(cs:List Value)(w:World)(hl:xG t cs.length o)(ho:o<cs.length)(hp:pa= .pointer none∨pa= .pointer (some (J5 g o)))(hB:Blk w g t cs)(hc:cs[o]? =some pa):
  Fn Tryz.prog 106 [.pointer (some (J5 g o))] w (λ_ w'=>Mod (·=g) w w'/\Blk w' g t (cs.set o (.pointer (some (J5 g o))))):=by
 obtain⟨j,hj,oT⟩:=R1;refine QH (c:=RQ) Qa Tryz.func106 rfl rfl rfl ?_;have dw:w.shape? (J5 g o).block=some (t,cs.length):=by rw[(HL g o).2];exact hB.shape
 have ucs:=Tryz.underlying107;have uus:=Tryz.underlying240;rcases hp with rfl | rfl
 ·refine xH hB (by simpa using hc) ?_;refine Xc rfl ?_;refine JG (w':=w) (v:=.pointer (some (J5 g o))) (λa hf=>?_) ?_
  ·have e1:=hf.ev (show Env.ev _ (.tmp 8)=some (.pointer (some (J5 g o))) from rfl);have:=Lib.run_to_unsafe (P:=Tryz.prog) (src:=107) (dst:=240) w (J5 g o) ucs uus hj oT dw (by rw[(HL g o).1];exact ho);simp only[execOp,e1];simp[bR,this]
  refine JG (w':=w) (v:=.pointer (some (J5 g o))) (λa hf=>?_) ?_
  ·have e1:=hf.ev (show Env.ev _ (.tmp 9)=some (.pointer (some (J5 g o))) from rfl);have:=run_callFunc_extern (P:=Tryz.prog) (e:=Extern.AbiNoEscape.same) Tryz.func159 (by kernel_rfl) (by kernel_rfl) (by kernel_rfl) (by kernel_rfl) #[.pointer (some (J5 g o))] w;rw[Lib.run_noEscape] at this;simp only[execOp,resolve,invoke];simp[Deferred.ofValue,Act.eval] at e1 ⊢;simp[e1,bR,this]
  refine JG (w':=w) (v:=.pointer (some (J5 g o))) (λa hf=>?_) ?_
  ·have e1:=hf.ev (show Env.ev _ (.tmp 10)=some (.pointer (some (J5 g o))) from rfl);have:=Lib.run_from_unsafe (P:=Tryz.prog) (src:=240) (dst:=107) (u:=109) w (J5 g o) uus ucs hj dw (by rw[(HL g o).1];exact hl);simp only[execOp,e1];simp[bR,this]
  refine TP hB (by simpa using ho) (λw1 hm Qh=>?_);exact⟨hm,by simpa using Qh⟩
 ·refine xH hB (by simpa using hc) ?_;refine Q7 rfl ?_;refine xH hB (by simpa using hc) ?_;refine JG (w':=w) (v:=.bool false) (λa hf=>?_) ?_
  ·have e1:=hf.ev (show Env.ev _ (.tmp 17)=some (.pointer (some (J5 g o))) from rfl);have e2:=hf.ev (show Env.ev _ (.tmp 18)=some (.pointer (some (J5 g o))) from rfl);have:=Lib.run_neq_ptr_same (P:=Tryz.prog) (tp:=107) w (J5 g o) ucs hj;simp only[execOp,e1,e2,eqGuard];simp[bR,this]
  refine Q7 rfl ?_;refine⟨Mod.refl _ _,?_⟩;have e:cs.set o (.pointer (some (J5 g o)))=cs:=by
   apply Bc;intro i;by_cases hi:i=o
   ·subst hi;rw[jG ho,hc]
   ·rw[gf (λe=>hi e.symm)]
  rw[e];exact hB
theorem iQf (base g t o:Nat)(pa:Value)(cs:List Value)(A:Option Addr)(c:Nat)(out:List Nat)(s:ByteArray)(w:World)(hl:xG t cs.length o)(ho:o+1<cs.length)(hp:pa= .pointer none∨pa= .pointer (some (J5 g o)))(hB:Blk w g t cs)
  (hc:cs[o]? =some pa) (Yr:cs[o+1]? =some (.slice A out.length c)) (Kf:Own w base 5 1 A out.length c (Vs out)) (fk:g<base) (top:base<=w.heap.size) (hs:out.length+s.size<=140737488355328):
  Fn Tryz.prog 56 [.pointer (some (J5 g o)),.string s] w (λ_ w'=>∃A' c',Blk w' g t ((cs.set o (.pointer (some (J5 g o)))).set (o+1) (.slice A' (out.length+s.size) c'))/\Own w' base 5 1 A' (out.length+s.size) c' (Vs (out++Wa s))/\Mod (BldS g A) w w'/\Moved w A A'):=by
 refine QH (c:=RK) Qa Tryz.func56 rfl rfl rfl ?_;refine call (iQe g t o pa cs w hl (by omega) hp hB hc) ?_;rintro v w1 ⟨Zw,Qh⟩;have Yb:=Kf.rows;have hn:¬Ql A g:=λh=>by have:=(Yb g h).1;omega
 have rH:=Kf.mod Zw (λk hk e=>hn (e▸hk));refine xH Qh (v:=.slice A out.length c) (show(cs.set o (.pointer (some (J5 g o))))[o+1]? =_ by rw[gf (by omega)];exact Yr) ?_;refine RZ Qa rfl rfl rfl rfl rfl rfl rfl rfl rfl rfl rfl rH hs (by have:=Zw.size;omega) ?_;intro A' c' w2 XR eo oU;refine TP (Qh.mod XR hn) (by simpa using ho) (λw3 XD Qu=>?_);have rI:=eo.rows;refine⟨A',c',Qu,?_,?_,oU.back Zw.size⟩
 ·rw[BQ,<-R0];exact eo.mod XD (λk hk e=>by have:=(rI k hk).1;omega)
 ·exact((Zw.mono (S':=BldS g A) (λi hi=>.inl (.inl hi))).trans XR (λi hi=>.inl (.inr hi))).trans XD (λi hi=>.inl (.inl hi))
theorem iQg (g t o:Nat)(cs:List Value)(A:Option Addr)(c n:Nat)(w:World)(hB:Blk w g t cs)(Yr:cs[o+1]? =some (.slice A n c)):
  Fn Tryz.prog 205 [.pointer (some (J5 g o))] w (λv w'=>v= .int .i64 n/\w=w'):=by
 refine QH (c:=fQO) Qa Tryz.func205 rfl rfl rfl ?_;refine xH hB Yr ?_;exact⟨rfl,rfl⟩
theorem iQh (base g t o:Nat)(cs:List Value)(A:Option Addr)(c:Nat)(out:List Nat)(w:World)(hB:Blk w g t cs)(Yr:cs[o+1]? =some (.slice A out.length c))(Kf:Own w base 5 1 A out.length c (Vs out))(h8:∀x∈out,x<256)(hs:out.length<=140737488355328):
  Fn Tryz.prog 57 [.pointer (some (J5 g o))] w (λv w'=>v= .string (Qf out)/\Mod (Ql A) w w'):=by
 refine QH (c:=RN) Qa Tryz.func57 rfl rfl rfl ?_;have Q0:(Vs out).length=out.length:=tP out;refine XL Qa (Ext w) 10 [(true,0),(true,1),(true,2),(true,3),(true,5),(true,6),(true,7),(true,8),(true,9),(false,4)] (by kernel_rfl) (Ext.drew w) ?_;refine QQ (v:=.slice A out.length c) (λw' Qb=>by rw[HM (hB.ext Qb)];exact Yr) ?_;refine QQ (v:=.slice A out.length c) (λw' Qb=>by rw[HM (hB.ext Qb)];exact Yr) ?_;have Lp:out.length=0->Value.string ByteArray.empty=Value.string (Qf out):=λh0=>by
  have:out=[]:=Wx h0;subst this;rfl
 by_cases h0:out.length=0
 ·have key:∃p w1,(Builtin.unsafeSliceData_ #[62] 179 #[.slice A out.length c]).run Tryz.prog w.drew= .ok (.pointer p) w1/\Ext w w1:=by
   rcases Kf.row.2 with⟨hv,_⟩ | ⟨g',cap,ZK,hv,hb',V0,_⟩
   ·simp only[Value.slice.injEq] at hv;obtain⟨rfl,_,rfl⟩:=hv;exact⟨none,w.drew,Lib.run_unsafeSliceData_nil _ _ _ _ _,Ext.drew w⟩
   ·simp only[Value.slice.injEq] at hv;obtain⟨rfl,_,rfl⟩:=hv;by_cases yo:c=0
    ·subst yo;have dw:w.drew.shape? g'=some (5,ZK.size):=by
      unfold World.shape?;rw[show w.drew.heap[g']? =_ from V0]
     exact⟨_,_,Lib.run_unsafeSliceData_zero (P:=Tryz.prog) w.drew _ _ 5 Tryz.underlying179 ⟨g',0,none⟩ _ _ dw,(Ext.drew w).trans (Ext.alloc _ _)⟩
    ·exact⟨_,w.drew,Lib.run_unsafeSliceData_row (P:=Tryz.prog) w.drew _ _ ⟨g',0,none⟩ _ _ yo,Ext.drew w⟩
  obtain⟨p,w1,Jg,Qd⟩:=key;refine JG (w':=w1) (v:=.pointer p) (λa hf=>?_) ⟨Qd,?_⟩
  ·have e1:=hf.ev (show Env.ev _ (.tmp 6)=some (.slice A out.length c) from rfl);simp only[execOp,resolve,invoke,builtin];simp[bR,e1,Jg]
  refine JG (w':=w1) (v:=.string ByteArray.empty) (λa hf=>?_) ?_
  ·have e1:=hf.ev (show Env.ev _ (.tmp 7)=some (.pointer p) from rfl);have e2:=hf.ev (show Env.ev _ (.tmp 12)=some (.int .i64 out.length) from rfl);have:=Lib.run_unsafeString_none (P:=Tryz.prog) w1 179 3 9 p;rw[h0] at e2;simp only[execOp,resolve,invoke,builtin];simp[bR,e1,e2];rw[this]<;>rfl
  exact⟨Lp h0,Mod.of_ext _ Qd⟩
 ·obtain⟨g',sp,rfl,hb',K2,dv⟩:=Kf.blk (by omega);have ZL:=Kf.sl.le;refine JG (w':=w.drew) (v:=.pointer (some ⟨g',0,none⟩)) (λa hf=>?_) ⟨Ext.drew w,?_⟩
  ·have e1:=hf.ev (show Env.ev _ (.tmp 6)=some (.slice (some ⟨g',0,none⟩) out.length c) from rfl);have:=Lib.run_unsafeSliceData_row (P:=Tryz.prog) w.drew #[62] 179 ⟨g',0,none⟩ out.length c (by omega);simp only[execOp,resolve,invoke,builtin];simp[bR,e1,this]
  refine JG (w':=w.drew.freeze ⟨g',0,none⟩ out.length) (v:=.string (Qf out)) (λa hf=>?_) ?_
  ·have e1:=hf.ev (show Env.ev _ (.tmp 7)=some (.pointer (some ⟨g',0,none⟩)) from rfl);have e2:=hf.ev (show Env.ev _ (.tmp 12)=some (.int .i64 out.length) from rfl);have dw:w.drew.shape? g'=some (5,(Vs out++sp).length):=(K2.ext (Ext.drew w)).shape;have Ka:(out.map UInt8.ofNat).length=out.length:=by simp
   have:=Lib.run_unsafeString_row (P:=Tryz.prog) w.drew 179 3 9 5 Tryz.underlying179 (by kernel_rfl) g' _ dw (out.map UInt8.ofNat) (by intro e;apply h0;rw[<-Ka,e];rfl) (by simp[tP]) (by rw[Ka];omega) (λj x hj=>by
    rw[(K2.ext (Ext.drew w)).cell];simp only[aq,F9] at hj;obtain⟨y,hy,rfl⟩:=hj;have aj:j<out.length:=(ZM.1 hy).1;rw[eK (by rw[Q0];exact aj),qA hy];have:=h8 y (Xk hy);simp[jE this])
   rw[Ka] at this;simp only[execOp,resolve,invoke,builtin];simp[bR,e1,e2];rw[this]<;>rfl
  exact⟨rfl,(Mod.of_ext (Ql _) (Ext.drew w)).trans (R2 w.drew g' out.length (S:=Ql (some ⟨g',0,none⟩)) ⟨_,rfl,rfl⟩) (λi hi=>.inl hi)⟩
end
section
def aF {α:Type} [DecidableEq α](a:α):List (α×Value)->List (α×Value)
 | []=>[]
 | (b,v)::l=>if a=b then l else(b,v)::aF a l
theorem TR {α:Type} [DecidableEq α](a:α):∀l:List (α×Value),(aF a l).Sublist l
 | []=>List.Sublist.refl _
 | (b,v)::l=>by
  unfold aF;split
  ·exact List.sublist_cons_self _ _
  ·exact(TR a l).cons_cons _
theorem TT {α:Type} [DecidableEq α]{a:α}:∀{l:List (α×Value)},a∉l.map (·.1)->XC a l=none
 | [],_=>rfl
 | (b,v)::l,h=>by
  simp only[Kr,Q3,not_or] at h;unfold XC;rw[if_neg h.1];exact TT h.2
theorem TU {α:Type} [DecidableEq α](a b:α):∀l:List (α×Value),(l.map (·.1)).Nodup->XC b (aF a l)=if b=a then none else XC b l
 | [],_=>by simp[aF,XC]
 | (d,u)::l,hn=>by
  simp only[Kr,Bj] at hn;unfold aF;split
  ·rename_i h;subst h;by_cases hb:b=a
   ·subst hb;rw[Qe rfl];exact TT hn.1
   ·rw[if_neg hb];show _=if b=a then _ else XC b l;rw[if_neg hb]
  ·rename_i h;have ih:=TU a b l hn.2;simp only[XC];by_cases hb:b=d
   ·rw[Qe hb,Qe hb,if_neg (λe=>h (by rw[<-e];exact hb))]
   ·rw[if_neg hb,if_neg hb,ih]
theorem TV {α:Type} [DecidableEq α](a:α)(v:Value):∀l:List (α×Value),(l.map (·.1)).Nodup->((Zg a v l).map (·.1)).Nodup/\∀x,x∈(Zg a v l).map (·.1)->x=a∨x∈l.map (·.1)
 | [],_=>by simp[Zg]
 | (b,u)::l,h=>by
  simp only[Kr,Bj] at h;unfold Zg;split
  ·rename_i Yx;exact⟨by simpa using h,λx hx=>.inr (by simpa using hx)⟩
  ·rename_i Yx;obtain⟨h1,h2⟩:=TV a v l h.2;refine⟨?_,λx hx=>?_⟩
   ·rw[Kr,Bj];exact⟨λhm=>by rcases h2 b hm with e | e;exact Yx e.symm;exact h.1 e,h1⟩
   ·rw[Kr,Q3] at hx;rcases hx with rfl | hx
    ·exact .inr (by simp)
    ·rcases h2 x hx with e | e
     ·exact .inl e
     ·exact .inr (by rw[Kr,Q3];exact .inr e)
theorem TW {α:Type} [DecidableEq α]{d:TypeDesc}{kv:α->Value}(hk:KeyV d kv)(a:α):∀(m:List (α×Value))(bs:List Nat)(i:Nat),bs.length=m.length->
  ∃r,Instr.findNow d (kv a) (XW kv m bs) i=some r/\(∀j v,r=some (j,v)->i<=j/\j-i<m.length/\(XW kv m bs).eraseIdx (j-i)=XW kv (aF a m) (bs.eraseIdx (j-i))/\(aF a m).length+1=m.length)/\(r=none->aF a m=m)
 | [],bs,i,h=>⟨none,rfl,(λj v h=>nomatch h),λ_=>rfl⟩
 | (b,u)::m,[],i,h=>by simp at h
 | (b,u)::m,s::bs,i,h=>by
  have e:XW kv ((b,u)::m) (s::bs)={key:=kv b,val:=u,born:=s}::XW kv m bs:=rfl;rw[e];unfold Instr.findNow;simp only[hk.same];by_cases Yx:a=b
  ·subst Yx;simp only[decide_true];refine⟨some (i,u),rfl,λj v hj=>?_,λh=>by cases h⟩;cases hj;refine⟨QC _,by simp,?_,?_⟩
   ·rw[A6];simp[aF]
   ·simp[aF]
  ·simp only[Yx,decide_false];obtain⟨r,h1,h3,h4⟩:=TW hk a m bs (i+1) (by simpa using h);refine⟨r,h1,λj v hj=>?_,λhn=>by simp[aF,Yx,h4 hn]⟩;obtain⟨h5,h6,h7,h8⟩:=h3 j v hj;refine⟨by omega,by simp;omega,?_,by simp[aF,Yx];omega⟩;rw[show j-i=(j-(i+1))+1 by omega];simp only[List.eraseIdx_cons_succ,h7,aF,Yx,if_false];rfl
theorem iQi {α:Type} [DecidableEq α]{kv:α->Value}{c:Cx}{o:Oper}{S:Env}{w:World}{K:Env->World->Prop}{Q:Zj}{t t2 ke e:Nat}{r rk:TyRow}{x y:Operand}{q:Nat}{m:List (α×Value)}{a:α}(hg:c.g.Ok)
  (ho:o.op= .call ⟨.builtin .delete, #[x,y], #[t,t2]⟩) (jo:o.dst=none) (hr:QU c.g.tys t=some r) (hd:r.d= .map ke e) (bH:QU c.g.tys ke=some rk) (hk:KeyV rk.d kv)
  (hx:S.ev x=some (.map (some q))) (hy:S.ev y=some (kv a)) (hm:MapAt kv w q m)
  (k:∀w1,Mod (·=q) w w1->w1.heap.size=w.heap.size->MapAt kv w1 q (aF a m)->K S w1):Zc c o S w K Q:=by
 have Q4:=(hg.row hr).1;rw[hd] at Q4;have gV:=(hg.row bH).1;obtain⟨bs,ck,hl,hb⟩:=hm.ex;have Xe:q<w.heap.size:=(f9.1 hb).1;obtain⟨res,h1,h3,h4⟩:=TW hk a m bs 0 hl;have eF:(getObj q).run c.g.P w= .ok (.map (XW kv m bs).toArray ck) w:=by simp[getObj,Sem.run,hb]
 have fO:∀ob,(setObj q ob).run c.g.P w= .ok () {w with heap:=w.heap.setIfInBounds q ob}:=λob=>by simp[setObj,Sem.run,hb]
 have main:∃ah,ah.length=(aF a m).length/\(Builtin.delete_ #[t,t2] o.type #[.map (some q),kv a]).run c.g.P w= .ok (.tuple #[]) {w with heap:=w.heap.setIfInBounds q (.map (XW kv (aF a m) ah).toArray ck)}:=by
  cases res with
  | none=>
   refine⟨bs,by rw[h4 rfl];exact hl,?_⟩;rw[h4 rfl];simp only[Builtin.delete_];simp[ZX Q4,eF,wW gV hk.plain,Instr.findKey,ZX gV,h1,fO]
  | some p=>
   obtain⟨j,u⟩:=p;obtain⟨_,h6,h7,h8⟩:=h3 j u rfl;simp only[Nat.sub_zero] at h6 h7;refine⟨bs.eraseIdx j,by rw[List.length_eraseIdx_of_lt (by omega)];omega,?_⟩;simp only[Builtin.delete_];simp[ZX Q4,eF,wW gV hk.plain,Instr.findKey,ZX gV,h1,fO];rw[h7]
 obtain⟨ah,dv,Jg⟩:=main;unfold Zc;intro b hf;have e1:=hf.ev hx;have e2:=hf.ev hy;refine bO (v:=.tuple #[]) (w':={w with heap:=w.heap.setIfInBounds q (.map (XW kv (aF a m) ah).toArray ck)}) ?_ ⟨S,by rw[jo];simpa [Act.put] using hf,k _ ⟨rfl,rfl,rfl,by simp,λi _ hi=>?_⟩ (by simp) ⟨ah,ck,dv,by simp[Xe]⟩⟩
 ·simp only[execOp,ho,resolve,invoke,builtin];simp[e1,e2,Jg]
 ·simp only[F8];rw[if_neg (λe=>hi e.symm)]
theorem Own.kind {w:World}{base e sz n c i:Nat}{A:Option Addr}{cs:List Value}(h:Own w base e sz A n c cs)(hi:Ql A i):∃ZK,w.heap[i]? =some (.cells ZK e (0,0)):=by
 obtain⟨ad,rfl,rfl⟩:=hi;rcases h.row.2 with⟨hv,_⟩ | ⟨g,cap,ZK,hv,_,hg,_⟩
 ·cases hv
 ·cases hv;exact⟨ZK,hg⟩
theorem Own.apart {w:World}{b b' e e' sz sz' n n' c c' i:Nat}{A B:Option Addr}{cs cs':List Value}(h:Own w b e sz A n c cs)(h':Own w b' e' sz' B n' c' cs')(QO:e≠e')(hi:Ql A i):¬Ql B i:=λhj=>by
 obtain⟨c1,h1⟩:=h.kind hi;obtain⟨c2,h2⟩:=h'.kind hj;rw[h1] at h2;simp only[Option.some.injEq,Obj.cells.injEq] at h2;exact QO h2.2.1
theorem Blk.apart {w:World}{b e sz n c g t:Nat}{A:Option Addr}{cs cs':List Value}(h:Blk w g t cs)(h':Own w b e sz A n c cs')(QO:t≠e):¬Ql A g:=λhj=>by
 obtain⟨c2,h2⟩:=h'.kind hj;rw[show w.heap[g]? =_ from h] at h2;simp only[Option.some.injEq,Obj.cells.injEq] at h2;exact QO h2.2.1
theorem MapAt.apart {α:Type}{kv:α->Value}{w:World}{b e sz n c q:Nat}{A:Option Addr}{cs':List Value}{m:List (α×Value)}(h:MapAt kv w q m)(h':Own w b e sz A n c cs'):¬Ql A q:=λhj=>by
 obtain⟨c2,h2⟩:=h'.kind hj;obtain⟨bs,ck,_,h1⟩:=h.ex;rw[h1] at h2;cases h2
structure DgO (w:World) (S:Nat->Prop) (k:Nat) (x:DV) (o:BF):Prop where
 sb:SB w x.A x.n x.c x.nd
 st:Set1 k x.nd x.r o
 off:∀ad,x.A=some ad->0<x.n->¬S ad.block
theorem SB.modo {S:Nat->Prop}{w w':World}{A:Option Addr}{n c:Nat}{nd:List Br}(h:SB w A n c nd)(hm:Mod S w w')(hr:∀ad,A=some ad->0<n->¬S ad.block):SB w' A n c nd:=
 ⟨h.1.modS hm (λh0 i hi=>by obtain⟨ad,e,rfl⟩:=hi;exact hr ad e h0),h.2⟩
theorem DgO.step {w w':World}{S S':Nat->Prop}{k:Nat}{x:DV}{o:BF}(h:DgO w S k x o)(hm:Mod S w w')(hs:∀i,S' i->S i∨w.heap.size<=i):DgO w' S' k x o:=
 ⟨h.sb.modo hm h.off,h.st,λad e h0 hS=>by
  rcases hs _ hS with h1 | h1
  ·exact h.off ad e h0 h1
  ·have:=SB.lt h.sb ad e h0;omega⟩
theorem DgO.keep {w w':World}{S T:Nat->Prop}{k:Nat}{x:DV}{o:BF}(h:DgO w S k x o)(hm:Mod T w w')(ht:∀i,T i->S i∨w.heap.size<=i):DgO w' S k x o:=
 ⟨h.sb.modo (hm.mono ht) h.off,h.st,h.off⟩
theorem DgO.ext {w w':World}{S:Nat->Prop}{k:Nat}{x:DV}{o:BF}(h:DgO w S k x o)(hE:Ext w w'):DgO w' S k x o:=⟨h.sb.ext hE,h.st,h.off⟩
theorem DgO.new {w w':World}{S:Nat->Prop}{k:Nat}{A:Option Addr}{n c:Nat}{nd:List Br}{r:Int}{o:BF}(hb:SB w' A n c nd)(hs:Set1 k nd r o)(hr:∀i,Ql A i->w.heap.size<=i)(hS:∀i,S i->i<w.heap.size):DgO w' S k ⟨A,n,c,nd,r⟩ o:=
 ⟨hb,hs,λad e _ h=>by have:=hr ad.block ⟨ad,e,rfl⟩;have:=hS _ h;omega⟩
end
section
def iE (c:Nat)(l:List Nat):Int:=if c∈l then((l.takeWhile (λb=>b !=c)).length:Nat)else -1
theorem TX {b c:Nat}(hb:b<256)(hc:c<256):(UInt8.ofNat b==UInt8.ofNat c)=(b==c):=by
 rw[p9];simp only[beq_iff_eq];constructor
 ·intro h;have:=QD UInt8.toNat h;simpa [jE hb,jE hc] using this
 ·intro h;rw[h]
theorem Cu {c:Nat}(hc:c<256):∀{l:List Nat},(∀x∈l,x<256)->Lib.indexByte (l.map UInt8.ofNat) (UInt8.ofNat c)=iE c l
 | [],_=>rfl
 | b::l,h=>by
  have ih:=Cu hc (l:=l) (λx hx=>h x (by simp[hx]));have hb:b<256:=h b (by simp);rw[Kr,Lib.indexByte,TX hb hc,ih];unfold iE;by_cases As:b=c
  ·subst As;simp
  ·have h1:(b==c)=false:=by simpa using As
   rw[h1];by_cases hm:c∈l
   ·have h3:¬c=b:=λe=>As e.symm
    simp[hm,As,h3]
   ·have h3:¬c=b:=λe=>As e.symm
    simp[hm,h3]
theorem xI (l:List Nat):(Qf l).data.toList=l.map UInt8.ofNat:=by simp[Qf]
theorem xJ {P:Program}{f:FuncId}{l:List Value}{w:World}{v:Value}(h:Calls P f l.toArray w λe w'=>e= .returned v/\w'=w):Fn P f l w (λu w'=>u=v/\w=w'):=by
 unfold Fn;exact h.mono λe w' he=>by obtain⟨rfl,rfl⟩:=he;exact⟨rfl,rfl⟩
theorem HN (l:List Nat)(c:Nat)(w:World)(hl:∀x∈l,x<256)(hc:c<256):
  Fn Tryz.prog 94 [.string (Qf l),.int .u8 c] w (λv w'=>v= .int .i64 (iE c l)/\w=w'):=by
 have h:=Tryz.strings_IndexByte (Qf l) (c:Int) w;have e:((c:Int).toNat.toUInt8)=UInt8.ofNat c:=rfl;rw[xI,e,Cu hc hl] at h;exact xJ h
theorem TY (l:List Nat)(c:Nat)(w:World)(hl:∀x∈l,x<256)(hc:c<256):
  Fn Tryz.prog 204 [.string (Qf l),.string (Qf [c])] w (λv w'=>v= .int .i64 (l.count c)/\w=w'):=by
 have h:=Tryz.strings_Count_one (Qf l) (UInt8.ofNat c) w;have e:Lib.countByte (Qf l).data.toList (UInt8.ofNat c)=l.count c:=by
  rw[xI];unfold Lib.countByte;clear h;induction l with
  | nil=>rfl
  | cons b l ih=>
   rw[Kr,Bf,Bf,ih (λx hx=>hl x (by simp[hx])),TX (hl b (by simp)) hc]
 rw[e] at h;exact xJ h
def JU (l:List Nat):List Nat:=l.takeWhile (λb=>b !=32)
def Vu (l:List Nat):List Nat:=l.drop ((JU l).length+1)
theorem iQj (l:List Nat):l.take (JU l).length=JU l:=(List.prefix_iff_eq_take.1 (List.takeWhile_prefix _)).symm
theorem TZ {l:List Nat}:(JU l).length<l.length↔32∈l:=by
 unfold JU;induction l with
 | nil=>simp
 | cons b l ih=>
  by_cases hb:b=32
  ·subst hb;simp
  ·have:(b !=32)=true:=by simpa using hb
   rw[bN,Qe this];simp only[Q6,Nat.add_lt_add_iff_right,ih,Q3];constructor
   ·exactλh=>.inr h
   ·rintro(h | h)
    ·exact Xd h.symm hb
    ·exact h
theorem iQk {l:List Nat}(h:32∈l):l=JU l++32::Vu l:=by
 unfold Vu JU;induction l with
 | nil=>simp at h
 | cons b l ih=>
  by_cases hb:b=32
  ·subst hb;simp
  ·have h1:(b !=32)=true:=by simpa using hb
   rw[bN,Qe h1];simp only[Q6,PW,Z5];congr 1;refine ih ?_;simp only[Q3] at h;rcases h with h | h
   ·exact Xd h.symm hb
   ·exact h
theorem HO {l:List Nat}(h:32∉l):JU l=l:=by
 unfold JU;induction l with
 | nil=>rfl
 | cons b l ih=>
  simp only[Q3,not_or] at h;have h1:(b !=32)=true:=by simpa using λe=>h.1 e.symm
  rw[bN,Qe h1,ih h.2]
theorem iQl {l:List Nat}(h:32∈l):((l.takeWhile (λb=>b !=32)).length:Nat)<l.length:=TZ.2 h
theorem iQm (l:List Nat)(w:World)(hl:∀x∈l,x<256)(Q0:l.length<=1000000000000):
  Fn Tryz.prog 201 [.string (Qf l),.string (Qf [32])] w (λv w'=>(v=if 32∈l then .tuple #[.string (Qf (JU l)),.string (Qf (Vu l)),.bool true] else .tuple #[.string (Qf l),.string (Qf []),.bool false])/\Ext w w'):=by
 refine QH (c:=fQL) Qa Tryz.func201 rfl rfl rfl ?_;have h:=Tryz.stringslite_Index_one (Qf l) (UInt8.ofNat 32) w;rw[xI,Cu (by decide) hl] at h;refine call (xJ h) ?_;rintro _ _ ⟨rfl,rfl⟩;unfold iE;by_cases hm:32∈l
 ·rw[Qe hm,Qe hm];have Xe:=iQl hm;refine Zq (by show(0:Int)<=_;omega) ?_;refine wQ Qa (by kernel_rfl) ?_;refine XM (v':=.string (Qf (JU l))) ⟨jH _,by omega,by rw[Xi];omega⟩ ?_ ?_
  ·rw[VN];exact QD (λx=>Value.string (Qf x)) (iQj l)
  refine Qj (((JU l).length+1:Nat):Int) (by rw[Xi];show((_:Nat):Int)+1=_;unfold JU;omega) (by unfold JU;omega) ?_;refine XM (v':=.string (Qf (Vu l))) ⟨by omega,by rw[Xi];unfold JU;omega,by rw[Xi];omega⟩ ?_ ?_
  ·rw[VN];unfold Vu;rw[Xi];show Value.string (Qf ((l.take l.length).drop _))=_;rw[Jv (QC _)]<;>rfl
  exactλw' hE=>⟨rfl,hE⟩
 ·rw[if_neg hm,if_neg hm];refine XF (by decide) ?_;exact⟨rfl,Ext.refl _⟩
theorem iQn (l:List Nat)(w:World)(hl:∀x∈l,x<256)(Q0:l.length<=1000000000000):
  Fn Tryz.prog 143 [.string (Qf l),.string (Qf [32])] w (λv w'=>(v=if 32∈l then .tuple #[.string (Qf (JU l)),.string (Qf (Vu l)),.bool true] else .tuple #[.string (Qf l),.string (Qf []),.bool false])/\Ext w w'):=by
 refine QH (c:=fQa) Qa Tryz.func143 rfl rfl rfl ?_;refine call (iQm l w hl Q0) ?_;rintro v w1 ⟨rfl,Qd⟩;by_cases hm:32∈l
 ·rw[Qe hm];exact⟨rfl,Qd⟩
 ·rw[if_neg hm];exact⟨rfl,Qd⟩
theorem lL {kw s:List Nat}(hk:32∉kw):(kw++ [32]).isPrefixOf s=true↔JU s=kw/\32∈s:=by
 rw[dQL];constructor
 ·rintro⟨r,rfl⟩;refine⟨?_,by simp⟩;unfold JU;rw[ZR,List.takeWhile_append_of_pos (λx hx=>by simpa using λe=>hk (by rw[<-e];exact hx))];simp
 ·rintro⟨h1,h2⟩;have:=iQk h2;rw[h1] at this;exact⟨Vu s,by rw[ZR];exact this.symm⟩
theorem HP {kw s:List Nat}(h:JU s=kw):s.drop (kw.length+1)=Vu s:=by unfold Vu;rw[h]
def nZ:List Nat:=[35,105,102]
def uC:List Nat:=[35,101,108,105,102]
def qV:List Nat:=[35,105,110,99,108,117,100,101]
theorem iQo {s:List Nat}(h:JU s=nZ)(hm:32∈s):Zk s= .ifd (Vu s):=by
 unfold Zk;rw[Qe (show ZC.isPrefixOf s=true from (lL (kw:=nZ) (by decide)).2 ⟨h,hm⟩),<-HP h]<;>rfl
theorem iQp {s:List Nat}(h:JU s=qV)(hm:32∈s):Zk s= .inc (Vu s):=by
 unfold Zk;rw[if_neg (λhp=>by have:=((lL (kw:=nZ) (by decide)).1 hp).1;rw[h] at this;cases this),Qe (show pInc.isPrefixOf s=true from (lL (kw:=qV) (by decide)).2 ⟨h,hm⟩),<-HP h];rfl
theorem iQq {s:List Nat}(h:JU s=uC)(hm:32∈s):Zk s= .elif (Vu s):=by
 unfold Zk;rw[if_neg (λhp=>by have:=((lL (kw:=nZ) (by decide)).1 hp).1;rw[h] at this;cases this),if_neg (λhp=>by have:=((lL (kw:=qV) (by decide)).1 hp).1;rw[h] at this;cases this),
  Qe (show pElif.isPrefixOf s=true from (lL (kw:=uC) (by decide)).2 ⟨h,hm⟩),<-HP h];rfl
theorem iQr {s:List Nat}(h1:¬(JU s=nZ/\32∈s))(h2:¬(JU s=qV/\32∈s))(h3:¬(JU s=uC/\32∈s)):Zk s=if s=Ku then .els else if s=X6 then .en else .txt:=by
 unfold Zk;rw[if_neg (λ(hp:ZC.isPrefixOf s=true)=>h1 ((lL (kw:=nZ) (by decide)).1 hp)),if_neg (λ(hp:pInc.isPrefixOf s=true)=>h2 ((lL (kw:=qV) (by decide)).1 hp)),if_neg (λ(hp:pElif.isPrefixOf s=true)=>h3 ((lL (kw:=uC) (by decide)).1 hp))]
theorem iQs:Zk Ku= .els:=rfl
theorem iQt:Zk X6= .en:=rfl
end
section
section
variable {P:Program} {ops:Array Oper} {md:Region.Mode} {C:World->Prop} {Q:Exit->Act->World->Prop}
def PanW (N:Slots)(Xj:List PanicEntry->World->Prop)(Q:Exit->Act->World->Prop):Exit->Act->World->Prop
 | .panic ch,a,w=>a.tmps.size=N.n/\a.defers=N.ds/\Xj ch w
 | e,a,w=>Q e a w
theorem PanW.put {N:Slots}{Xj:List PanicEntry->World->Prop}{Q:Exit->Act->World->Prop}{ch:List PanicEntry}{a:Act}{d:Option Tmp}{v:Value}{w:World}(h:PanW N Xj Q (.panic ch) (a.put d v) w):PanW N Xj Q (.panic ch) a w:=by
 obtain⟨h1,h2,h3⟩:=h;cases d with
 | none=>exact⟨h1,h2,h3⟩
 | some d=>exact⟨by simpa [Act.put] using h1,by simpa [Act.put] using h2,h3⟩
theorem PanW.imp {c:Cx}{Xj:List PanicEntry->World->Prop}{Q:Zj}(hp:∀ch S w,Xj ch w->Q (.panic ch) S w):∀(e:Exit)(a:Act)(w:World),PanW c.N Xj (Up c Q) e a w->Up c Q e a w:=λe a w h=>by
 cases e<;>first | exact h | (obtain⟨h1,h2,h3⟩:=h;exact⟨[],⟨h1,h2,λk x hk=>by simp[Env.ent] at hk⟩,hp _ _ _ h3⟩)
theorem iQu {N:Slots}{Xj:List PanicEntry->World->Prop}{n i:Nat}{oi:Oper}{v:Value}{L:Array Bool->Act->World->Prop}(hi:ops[i]? =some oi)(jn:∀(j:Nat)(o:Oper) cs b,ops[j]? =some o->o.op≠ .select cs b)
  (hs:jP md ops n) (Q5:i<n) (zW:∀listed a w,L listed a w->∀j∈Region.ready md ops listed,n<=j):
  ∀(f:Nat) (listed:Array Bool) (a:Act) (w:World),HeadInv md ops n listed->
   (∀j oj,ops[j]? =some oj->j≠i->listed.getD j true=false->(∀e∈oj.after,Region.binds md e=true->e.on≠i)->oi.apart ops oj=true)->
   i∈Region.ready md ops listed->YieldsIf P ops C oi v a->C w->
   Yf P md ops (PanW N Xj Q) C n L f (listed.setIfInBounds i true) (a.put oi.dst v) w->Yf P md ops (PanW N Xj Q) C n L (f+1) listed a w:=by
 intro f;induction f with
 | zero=>
  intro listed a w inv _ hr hy hC H;have JY:=(mem_ready.1 hr).1;refine⟨λh=>(by rw[h] at hr;cases hr),λj hj=>?_⟩;have KB:=tR hs inv Q5 JY j hj;refine⟨KB,?_⟩;by_cases Ve:j=i
  ·subst Ve;exact hy.wpOp hi hC ⟨hC,H⟩
  ·have:=zW _ _ _ H j (ready_mono hj Ve);omega
 | succ f ih=>
  intro listed a w inv pL hr hy hC H;have JY:=(mem_ready.1 hr).1;refine⟨λh=>(by rw[h] at hr;cases hr),λj hj=>?_⟩;have KB:=tR hs inv Q5 JY j hj;refine⟨KB,?_⟩;by_cases Ve:j=i
  ·subst Ve;exact hy.wpOp hi hC ⟨hC,H⟩
  ·have h1:=(H.2 j (ready_mono hj Ve)).2;obtain⟨pM,oj,fN,hall⟩:=mem_ready.1 hj;have mU:∀e∈oj.after,Region.binds md e=true->e.on≠i:=λe he hb heq=>by
    have h1:=hall e he hb;rw[heq,getD_both JY] at h1;cases h1
   have h2:=wpOp_putIf fN (pL j oj fN Ve pM mU) (λcs b=>jn i oi cs b hi) (λcs b=>jn j oj cs b fN) (λ_ _ _ h=>PanW.put h) hy h1;have zX:∀k ok,ops[k]? =some ok->k≠i->(listed.setIfInBounds j true).getD k true=false->
     (∀e∈ok.after,Region.binds md e=true->e.on≠i)->oi.apart ops ok=true:=λk ok hk zY JY Xq=>by
    refine pL k ok hk zY ?_ Xq;by_cases pN:j=k
    ·subst pN;exact pM
    ·rw[getD_set_ne true pN] at JY;exact JY
   refine wpOp_mono (λa' w' h3=>⟨h3.2.1,ih (listed.setIfInBounds j true) a' w' (inv.set hj KB) zX (ready_mono hr (Ne.symm Ve)) h3.1 h3.2.1 ?_⟩) h2;rw[dQK _ _ Ve];exact h3.2.2
end
section
variable {c:Cx} {S:Env} {a:Act}
def lM (c:Cx)(Xj:List PanicEntry->World->Prop)(all:List Oper)(C:World->Prop):List (Bool×Nat)->Env->World->(Env->World->Prop)->Prop
 | [],S,w,K=>K S w
 | (true,k)::l,S,w,K=>match K6 all k with
  | some o=>gp all o S (λS=>qD c o S C (λS=>lM c Xj all C l S w K)) (λS=>Xh c S o.dst (.v undef) (λS=>lM c Xj all C l S w K))
  | none=>False
 | (false,k)::l,S,w,K=>match K6 all k with
  | some o=>gp all o S (λS=>dI c o S w (λS w=>C w/\lM c Xj all C l S w K) (λe _ w=>match e with
   | .panic ch=>Xj ch w
   | _=>False)) (λS=>Xh c S o.dst (.v undef) (λS=>lM c Xj all C l S w K))
  | none=>False
theorem Cv (hg:c.g.Ok){md:Region.Mode}{ops:List Oper}{C:World->Prop}{Q:Exit->Act->World->Prop}{n:Nat}(hs:Region.noSelect ops.toArray=true)(hk:jP md ops.toArray n){K:Env->World->Prop}{Xj:List PanicEntry->World->Prop}:
  ∀(l:List (Bool×Nat)) (listed:Array Bool) (S:Env) (a:Act) (w:World),HeadInv md ops.toArray n listed->dM md ops.toArray n l listed=true->lM c Xj ops C l S w K->Fits c.N S a->C w->
  Yf c.g.P md ops.toArray (PanW c.N Xj Q) C n (λJo a' w'=>Region.seqB md ops.toArray (ops.toArray.size-n) n Jo=true/\∃S',Fits c.N S' a'/\K S' w') l.length listed a w
 | [],listed,S,a,w,inv,hB,h,hf,hC=>⟨hB,S,hf,h⟩
 | (true,k)::l,listed,S,a,w,inv,hB,h,hf,hC=>by
  simp only[dM,Z4] at hB;obtain⟨⟨⟨Xn,hr⟩,jl⟩,K2⟩:=hB;have Xn:k<n:=by rw[ii] at Xn;exact Xn
  have Q4:k∈Region.ready md ops.toArray listed:=by simpa using hr
  obtain⟨_,o,ho,_⟩:=mem_ready.1 Q4;have hn:K6 ops k=some o:=by rw[gm];simpa using ho
  simp only[lM,hn] at h;have key:∃v,YieldsIf c.g.P ops.toArray C o v a/\∃S',Fits c.N S' (a.put o.dst v)/\lM c Xj ops C l S' w K:=by
   rcases jQ h hf with⟨hw,S1,Zh,h1⟩ | ⟨hw,S1,Zh,h1⟩
   ·obtain⟨v,h2,h3⟩:=wU hg h1 Zh;exact⟨v,.inl ⟨hw,h2⟩,h3⟩
   ·exact⟨undef,.inr ⟨hw,rfl⟩,Zy (e:=.v undef) h1 Zh⟩
  obtain⟨v,hy,S',QZ,h'⟩:=key;exact iQu ho (Region.noSelect_spec hs) hk Xn (λJo a' w' hL=>seqB_ready hL.1) l.length listed a w inv (Region.free_spec ho jl) Q4 hy hC
   (Cv hg hs hk l _ S' _ w (inv.set Q4 Xn) K2 h' QZ hC)
 | (false,k)::l,listed,S,a,w,inv,hB,h,hf,hC=>by
  simp only[dM,Z4,VJ] at hB;obtain⟨⟨Xn,hr⟩,K2⟩:=hB;have Xn:k<n:=by rw[ii] at Xn;exact Xn
  have Q4:k∈Region.ready md ops.toArray listed:=by rw[hr];simp
  obtain⟨_,o,ho,_⟩:=mem_ready.1 Q4;have hn:K6 ops k=some o:=by rw[gm];simpa using ho
  simp only[lM,hn] at h;have eE:=inv.set Q4 Xn;refine⟨λh0=>(by rw[hr] at h0;cases h0),λi hi=>?_⟩;rw[hr] at hi;have zZ:i=k:=by simpa using hi
  subst zZ;refine⟨Xn,?_⟩;unfold wpOp;simp only[ho];rcases jQ h hf with⟨hw,S1,Zh,h1⟩ | ⟨hw,S1,Zh,h1⟩
  ·rw[Qe hw];refine .inl ?_;have h2:=qw hg h1 Zh;have h3:=Oper.wp_mono (K':=λa' w'=>C w'/\Yf c.g.P md ops.toArray (PanW c.N Xj Q) C n (λJo a' w'=>Region.seqB md ops.toArray (ops.toArray.size-n) n Jo=true/\∃S',Fits c.N S' a'/\K S' w') l.length (listed.setIfInBounds i true) a' w')
    (λa' w' ⟨S',QZ,Z3,VZ⟩=>⟨Z3,Cv hg hs hk l _ S' a' w' eE K2 VZ QZ Z3⟩) h2
   unfold Oper.wp at h3 ⊢;generalize (execOp a.eval o).run c.g.P w=r at*;cases r with
   | ok nx w'=>
    cases nx<;>simp only[Oper.upon] at h3 ⊢ <;> try exact h3
    exact h3.mono λe Vc he=>by
     cases e with
     | returned v=>exact he
     | panicked ch=>obtain⟨_,hfz,he⟩:=he;exact⟨hfz.size,hfz.defers,he⟩
     | outgrown=>obtain⟨_,_,_,_,he⟩:=he;exact he.elim
   | halt x w'=>cases x<;>simp only[Oper.upon] at h3 ⊢ <;> first | exact h3 | (obtain⟨_,hfz,h3⟩:=h3;exact⟨hfz.size,hfz.defers,h3⟩) | (obtain⟨_,_,h3⟩:=h3;exact h3.elim)
  ·rw[if_neg (by rw[hw];decide)];obtain⟨S',QZ,h'⟩:=Zy (e:=.v undef) h1 Zh;exact⟨hC,Cv hg hs hk l _ S' _ w eE K2 h' QZ hC⟩
theorem iQv (hg:c.g.Ok){id:Nat}{ops:List Oper}{w:World}{Q:Zj}(Xj:List PanicEntry->World->Prop)(OZ:∀ch S w,Xj ch w->Q (.panic ch) S w)(C:World->Prop)(n:Nat)(plan:List (Bool×Nat))
  (hB:(Region.noSelect ops.toArray&&Nat.beq plan.length n&&qC .any ops.toArray n&&dM .any ops.toArray n plan (Array.replicate ops.toArray.size false))=true) (hC:C w.drew)
  (h:lM {c with named:=1000000} Xj ops C plan S w.drew (λS w=>YD c ops (ops.drop n) S w (λS w=>Q .normal S w) (λe _ w=>match e with
   | .panic ch=>Xj ch w
   | _=>False))):WA c id ops S w Q:=by
 unfold WA;intro a hf;simp only[Z4] at hB;obtain⟨⟨⟨hs,hl⟩,aU⟩,Jf⟩:=hB;have hl:=VG hl;have hk:=wT aU;have Fq:n<=ops.length:=by
  rcases hk with hk | hk
  ·rw[hk];simp
  ·have:=hk.1;simp at this;omega
 refine Code.wp_mono (PanW.imp OZ) (wp_region_any hg.mixed ?_);have mj:HeadInv .any ops.toArray n (Array.replicate ops.toArray.size false):=
  ⟨by simp,λj oj _ hl=>(by rw[getD_replicate_false] at hl;cases hl),λt _ ht=>getD_in (by simpa using ht) (getD_replicate_false _ _)⟩
 have H:=Cv (c:={c with named:=1000000}) hg (Q:=Up c Q) hs hk plan _ S a _ mj Jf h hf hC;have Yw:(ops.drop n).length=ops.toArray.size-n:=by simp
 have H2:=tQ (Q:=PanW c.N Xj (Up c Q)) (g:=ops.toArray.size-n) (λJo a' w' hL=>by
  obtain⟨hq,S',QZ,VZ⟩:=hL;have h2:=jK (c:=c) hg ops _ _ _ _ VZ QZ;have:=wpAny_of_seq (P:=c.g.P) (md:=.any) (ops:=ops.toArray) (Q':=PanW c.N Xj (Up c Q)) (ops.drop n) n Jo a' w' (λj=>by simp) (by rw[Yw];exact hq) (ld (λe a w hq=>by
   cases e with
   | normal=>exact hq
   | panic ch=>obtain⟨_,hfz,h⟩:=hq;exact⟨hfz.size,hfz.defers,h⟩
   | _=>exact Xd hq (by rintro⟨_,_,h⟩;exact h)) h2)
  rwa [Yw] at this) _ _ _ _ H
 rw[hl,show n+(ops.toArray.size-n)=ops.toArray.size by simp;omega] at H2;exact H2
end
end
end
section
def Vv (l:List Nat):Int:=if ZC.isPrefixOf l then 1 else if l=X6 then -1 else 0
def dp (ls:List (List Nat)):Int:=(ls.map Vv).sum
theorem bt (l:List Nat)(ls:List (List Nat)):dp (l::ls)=Vv l+dp ls:=by simp[dp]
theorem iF (a b:List (List Nat)):dp (a++b)=dp a+dp b:=by simp[dp]
theorem T0 (a:List (List Nat)):dp a.reverse=dp a:=by
 induction a with
 | nil=>rfl
 | cons x a ih=>rw[tq,iF,ih,bt,bt];simp[dp];omega
theorem od {l:List Nat}(h:Zk l= .txt):Vv l=0/\l≠X6/\l≠Ku/\ZC.isPrefixOf l=false:=by
 unfold Zk at h;split at h
 ·cases h
 rename_i h1;split at h
 ·cases h
 split at h
 ·cases h
 split at h
 ·cases h
 split at h
 ·cases h
 ·rename_i h4 h5;have h1:ZC.isPrefixOf l=false:=eN.2 h1;refine⟨?_,h5,h4,h1⟩;unfold Vv;rw[if_neg (by rw[h1];decide),if_neg h5]
def lN:List (List Nat)->List (List Nat)->Nat->Nat->Int->Nat
 | x::a,y::b,k,best,o=>if x=y then lN a b (k+1) (if o+Vv x=0 then k+1 else best) (o+Vv x)else best
 | _,_,_,best,_=>best
def lO (a b:List (List Nat))(o:Int)(q:Nat):Prop:=1<=q/\q<=a.length/\q<=b.length/\a.take q=b.take q/\o+dp (a.take q)=0
theorem HQ {x y:List Nat}{a b:List (List Nat)}{o:Int}{q:Nat}(hq:1<=q):lO (x::a) (y::b) o (q+1)↔x=y/\lO a b (o+Vv x) q:=by
 unfold lO;simp only[Q6,nC,List.cons.injEq,bt];constructor
 ·rintro⟨_,h2,h3,⟨rfl,h4⟩,h5⟩;exact⟨rfl,hq,by omega,by omega,h4,by omega⟩
 ·rintro⟨rfl,_,h2,h3,h4,h5⟩;exact⟨by omega,by omega,by omega,⟨rfl,h4⟩,by omega⟩
theorem T3:∀(a b:List (List Nat))(k best:Nat)(o:Int),((∀q,¬lO a b o q)/\lN a b k best o=best)∨∃p,lO a b o p/\(∀q,lO a b o q->q<=p)/\lN a b k best o=k+p
 | [],b,k,best,o=>.inl ⟨λq h=>by have:=h.1;have:=h.2.1;simp at this;omega,by cases b<;>rfl⟩
 | x::a,[],k,best,o=>.inl ⟨λq h=>by have:=h.1;have:=h.2.2.1;simp at this;omega,rfl⟩
 | x::a,y::b,k,best,o=>by
  rw[lN];by_cases Xu:x=y
  ·rw[Qe Xu];have one:lO (x::a) (y::b) o 1↔o+Vv x=0:=by
    unfold lO;simp[Xu,dp]
   rcases T3 a b (k+1) (if o+Vv x=0 then k+1 else best) (o+Vv x)with⟨h1,h2⟩ | ⟨p,h1,h2,h3⟩
   ·have lst:∀q,lO (x::a) (y::b) o q->q=1:=λq hq=>by
     have:=hq.1
     match q,hq with
     | 1,_=>rfl
     | q+2,hq=>exact Xd ((HQ (by omega)).1 hq).2 (h1 _)
    by_cases h0:o+Vv x=0
    ·rw[Qe h0] at h2 ⊢;exact .inr ⟨1,one.2 h0,λq hq=>by rw[lst q hq];exact QC _,h2⟩
    ·rw[if_neg h0] at h2 ⊢;exact .inl ⟨λq hq=>by have:=lst q hq;subst this;exact h0 (one.1 hq),h2⟩
   ·refine .inr ⟨p+1,(HQ h1.1).2 ⟨Xu,h1⟩,λq hq=>?_,by rw[h3];omega⟩
    match q,hq with
    | 0,_=>omega
    | 1,_=>omega
    | q+2,hq=>have:=h2 _ ((HQ (by omega)).1 hq).2;omega
  ·rw[if_neg Xu];refine .inl ⟨λq hq=>?_,rfl⟩
   match q,hq with
   | 0,hq=>exact Xd hq.1 (by omega)
   | q+1,hq=>have:=hq.2.2.2.1;simp at this;exact Xu this.1
def Yk (a b:List (List Nat)):Nat:=lN a b 0 0 0
theorem Cw (a b:List (List Nat)):Yk a b<=a.length/\Yk a b<=b.length/\a.take (Yk a b)=b.take (Yk a b)/\dp (a.take (Yk a b))=0/\∀q,q<=a.length->q<=b.length->a.take q=b.take q->dp (a.take q)=0->q<=Yk a b:=by
 unfold Yk;rcases T3 a b 0 0 0 with⟨h1,h2⟩ | ⟨p,h1,h2,h3⟩
 ·rw[h2];refine⟨Xt _,Xt _,rfl,rfl,λq q1 q2 q3 q4=>?_⟩;by_cases h0:q=0
  ·omega
  ·exact Xd ⟨by omega,q1,q2,q3,by omega⟩ (h1 q)
 ·rw[h3,a8];obtain⟨p1,p2,p3,p4,p5⟩:=h1;refine⟨p2,p3,p4,by omega,λq q1 q2 q3 q4=>?_⟩;by_cases h0:q=0
  ·omega
  ·exact h2 q ⟨by omega,q1,q2,q3,by omega⟩
def W0 (a b:List (List Nat)):Nat:=Yk a.reverse b.reverse
theorem uD {α:Type}(a:List α)(q:Nat)(h:q<=a.length):a.reverse.take q=(a.drop (a.length-q)).reverse:=by
 rw[List.take_reverse]
theorem HS (a b:List (List Nat)):W0 a b<=a.length/\W0 a b<=b.length/\a.drop (a.length-W0 a b)=b.drop (b.length-W0 a b)/\dp (a.drop (a.length-W0 a b))=0/\∀q,q<=a.length->q<=b.length->a.drop (a.length-q)=b.drop (b.length-q)->dp (a.drop (a.length-q))=0->q<=W0 a b:=by
 obtain⟨h1,h2,h3,h4,h5⟩:=Cw a.reverse b.reverse;rw[List.length_reverse] at h1 h2;unfold W0;rw[uD _ _ h1,uD _ _ h2] at h3;rw[uD _ _ h1,T0] at h4;refine⟨h1,h2,by simpa using h3,h4,λq q1 q2 q3 q4=>h5 q (by simpa using q1) (by simpa using q2) ?_ ?_⟩
 ·rw[uD _ _ q1,uD _ _ q2,q3]
 ·rw[uD _ _ q1,T0];exact q4
def JV (nm:List (List Nat))(v:Nat)(ng:Bool):List Nat:=ZC++((if ng then [33] else [])++(nm[v]?).getD [])
def W3 (nm:List (List Nat))(v:Nat)(h l:List (List Nat)):List (List Nat):=
 let p:=Yk h l
 let h1:=h.drop p
 let l1:=l.drop p
 let s:=W0 h1 l1
 let h2:=h1.take (h1.length-s)
 let l2:=l1.take (l1.length-s)
 h.take p++((if h2=[] then JV nm v true::l2 else JV nm v false::(h2++if l2=[] then [] else Ku::l2))++X6::h1.drop (h1.length-s))
inductive Tr where
 | nil
 | ln (s:List Nat) (r:Tr)
 | sc (v:Nat) (ng:Bool) (h l r:Tr)
def fl (nm:List (List Nat)):Tr->List (List Nat)
 | .nil=>[]
 | .ln s r=>s::fl nm r
 | .sc v ng h .nil r=>JV nm v ng::(fl nm h++X6::fl nm r)
 | .sc v ng h l r=>JV nm v ng::(fl nm h++Ku::(fl nm l++X6::fl nm r))
def ap:Tr->Tr->Tr
 | .nil,t=>t
 | .ln s r,t=>.ln s (ap r t)
 | .sc v ng h l r,t=>.sc v ng h l (ap r t)
def YZ (nm:List (List Nat))(l:Tr):List (List Nat):=match l with
 | .nil=>[]
 | l=>Ku::fl nm l
theorem bV (nm:List (List Nat))(v:Nat)(ng:Bool)(h l r:Tr):fl nm (.sc v ng h l r)=JV nm v ng::((fl nm h++YZ nm l)++X6::fl nm r):=by
 cases l<;>simp[fl,YZ]
theorem gy (nm:List (List Nat)):∀a b:Tr,fl nm (ap a b)=fl nm a++fl nm b
 | .nil,b=>rfl
 | .ln s r,b=>by rw[ap,fl,gy nm r b]<;>rfl
 | .sc v ng h l r,b=>by rw[ap,bV,bV,gy nm r b];simp
def Wt (n:Nat):Tr->Prop
 | .nil=>True
 | .ln s r=>Zk s= .txt/\Wt n r
 | .sc v _ h l r=>v<n/\Wt n h/\Wt n l/\Wt n r
theorem iG {n:Nat}:∀{a b:Tr},Wt n (ap a b)↔Wt n a/\Wt n b
 | .nil,b=>by simp[ap,Wt]
 | .ln s r,b=>by simp[ap,Wt,iG (a:=r) (b:=b),and_assoc]
 | .sc v ng h l r,b=>by simp[ap,Wt,iG (a:=r) (b:=b),and_assoc]
theorem qW (nm:List (List Nat))(v:Nat)(ng:Bool):Vv (JV nm v ng)=1:=by
 unfold Vv JV;rw[Qe (by simp[ZC,List.isPrefixOf])]
theorem uE:Vv Ku=0:=by decide
theorem xK:Vv X6= -1:=by decide
theorem jX (nm:List (List Nat)){n:Nat}:∀{t:Tr},Wt n t->dp (fl nm t)=0/\∀k,0<=dp ((fl nm t).take k)
 | .nil,_=>⟨rfl,λk=>by simp[fl,dp]⟩
 | .ln s r,h=>by
  obtain⟨h1,h2⟩:=jX nm (t:=r) h.2;have e:=(od h.1).1;refine⟨by rw[fl,bt,e,h1];rfl,λk=>?_⟩;cases k with
  | zero=>simp[dp]
  | succ k=>rw[fl,nC,bt,e];have:=h2 k;omega
 | .sc v ng h l r,hw=>by
  obtain⟨_,w1,w2,w3⟩:=hw;obtain⟨a1,a2⟩:=jX nm w1;obtain⟨b1,b2⟩:=jX nm w2;obtain⟨c1,c2⟩:=jX nm w3;have e1:dp (YZ nm l)=0:=by
   cases l with
   | nil=>rfl
   | _=>rw[YZ,bt,uE,b1];rfl;exactλe=>by cases e
  have e2:∀k,0<=dp ((YZ nm l).take k):=λk=>by
   cases k with
   | zero=>simp[dp]
   | succ k=>
    cases l with
    | nil=>simp[YZ,dp]
    | _=>
     rw[YZ,nC,bt,uE]
     ·have:=b2 k;omega
     ·exactλe=>by cases e
  rw[bV];refine⟨by rw[bt,iF,iF,bt,qW,xK,a1,e1,c1];rfl,λk=>?_⟩;cases k with
  | zero=>simp[dp]
  | succ k=>
   rw[nC,bt,qW,tu,tu,iF,iF];have h1:=a2 k;have h2:=e2 (k-(fl nm h).length);generalize k-(fl nm h++YZ nm l).length=q;cases q with
   | zero=>simp only[List.take_zero];show 0<=_+(_+_+dp []);simp only[dp,wv,List.sum_nil];simp only[dp] at h1 h2;omega
   | succ q=>rw[nC,bt,xK];have:=c2 q;omega
deriving instance DecidableEq for Dir
def Jk:List Nat->List (List Nat)
 | []=>[[]]
 | b::l=>if b=10 then [10]::Jk l else match Jk l with
  | []=>[[b]]
  | s::ls=>(b::s)::ls
theorem HT:∀l,Jk l≠ []
 | []=>by simp[Jk]
 | b::l=>by
  unfold Jk;split
  ·simp
  ·split<;>simp
theorem Cy:∀l,(Jk l).length=l.count 10+1
 | []=>rfl
 | b::l=>by
  have ih:=Cy l;unfold Jk;split
  ·rename_i h;subst h;simp[ih]
  ·rename_i h;rw[List.count_cons_of_ne h];split
   ·rename_i e;exact Xd e (HT l)
   ·rename_i e;rw[e] at ih;exact ih
theorem HU:∀{l},10∉l->Jk l=[l]
 | [],_=>rfl
 | b::l,h=>by
  simp only[Q3,not_or] at h;unfold Jk;rw[if_neg (λe=>h.1 e.symm),HU h.2]
def bu (l:List Nat):List Nat:=l.takeWhile (λb=>b !=10)
theorem iQw {l:List Nat}(h:10∈l):(bu l).length<l.length:=by
 unfold bu;induction l with
 | nil=>cases h
 | cons b l ih=>
  by_cases hb:b=10
  ·subst hb;simp
  ·have h1:(b !=10)=true:=by simpa using hb
   rw[bN,Qe h1];simp only[Q6,Nat.add_lt_add_iff_right];exact ih ((Q3.1 h).resolve_left (λe=>hb e.symm))
theorem T4:∀{l},10∈l->Jk l=l.take ((bu l).length+1)::Jk (l.drop ((bu l).length+1))
 | [],h=>by cases h
 | b::l,h=>by
  by_cases hb:b=10
  ·subst hb;rw[Jk,Qe rfl];have e:bu (10::l)=[]:=by simp[bu]
   rw[e]<;>rfl
  ·have h1:(b !=10)=true:=by simpa using hb
   have e:bu (b::l)=b::bu l:=by unfold bu;rw[bN,Qe h1]
   have ih:=T4 ((Q3.1 h).resolve_left (λe=>hb e.symm));rw[Jk,if_neg hb,ih,e]<;>rfl
theorem T5:∀{l},(∀x∈l,x<256)->∀s∈Jk l,(∀x∈s,x<256)/\s.length<=l.length
 | [],_,s,hs=>by
  have:s=[]:=by simpa [Jk] using hs
  subst this;exact⟨(λx hx=>by cases hx),QC _⟩
 | b::l,h,s,hs=>by
  have ih:=T5 (l:=l) (λx hx=>h x (by simp[hx]));unfold Jk at hs;split at hs
  ·rcases Q3.1 hs with rfl | hs
   ·exact⟨by decide,by simp⟩
   ·exact⟨(ih s hs).1,Nat.le_succ_of_le (ih s hs).2⟩
  ·split at hs
   ·rename_i e;exact Xd e (HT l)
   ·rename_i t ts e;rw[e] at ih;rcases Q3.1 hs with rfl | hs
    ·have:=ih t (by simp);exact⟨λx hx=>(Q3.1 hx).elim (λe=>e▸h b (by simp)) (this.1 x),by simp;exact this.2⟩
    ·have:=ih s (by simp[hs]);exact⟨this.1,Nat.le_succ_of_le this.2⟩
def iH (l:List Nat):List (List Nat):=if(Jk l).getLast? =some [] then(Jk l).dropLast else Jk l
theorem T6:∀{l},cN l->Jk l=(QW l).map (·++ [10])++ [[]]
 | [],_=>rfl
 | b::l,h=>by
  have hl:cN l:=by
   cases l with
   | nil=>exact .inl rfl
   | cons c l=>right;rcases h with h | h;cases h;simpa using h
  have ih:=T6 hl;unfold Jk QW;by_cases hb:b=10
  ·subst hb;rw[Qe rfl,Qe rfl,ih]<;>rfl
  ·rw[if_neg hb,if_neg hb,ih];cases Vg:QW l with
   | nil=>
    have:=aE hl;rw[Vg] at this;have:l=[]:=this.symm;subst this;rcases h with h | h
    ·cases h
    ·simp at h;exact Xd h hb
   | cons t ls=>rfl
theorem Cz {l:List Nat}(h:cN l):iH l=(QW l).map (·++ [10]):=by
 unfold iH;rw[T6 h,Qe (by simp)];simp
def bW (s:List Nat):Bool:=ZC.isPrefixOf s||pElif.isPrefixOf s||pInc.isPrefixOf s||decide (s=Ku++ [10])||decide (s=X6++ [10])
theorem xL:∀{p r:List Nat},10∉p->p.isPrefixOf (r++ [10])=p.isPrefixOf r
 | [],r,_=>by simp
 | a::p,[],h=>by
  simp only[Q3,not_or] at h;have:(a==10)=false:=by simpa using λe:a=10=>h.1 e.symm
  simp[List.isPrefixOf,this]
 | a::p,b::r,h=>by
  simp only[Q3,not_or] at h;simp only[Z5,List.isPrefixOf,xL h.2]
theorem CC (r:List Nat):bW (r++ [10])=decide (Zk r≠ .txt):=by
 unfold bW;rw[xL (by decide),xL (by decide),xL (by decide)];have e1:∀k:List Nat,decide (r++ [10]=k++ [10])=decide (r=k):=λk=>by simp
 rw[e1,e1];unfold Zk;by_cases h1:ZC.isPrefixOf r=true
 ·rw[Qe h1,h1];simp
 by_cases h2:pInc.isPrefixOf r=true
 ·rw[if_neg h1,Qe h2,h2];simp
 by_cases h3:pElif.isPrefixOf r=true
 ·rw[if_neg h1,if_neg h2,Qe h3,h3];simp
 by_cases h4:r=Ku
 ·rw[if_neg h1,if_neg h2,if_neg h3,Qe h4,X2 h4];simp
 by_cases h5:r=X6
 ·rw[if_neg h1,if_neg h2,if_neg h3,if_neg h4,Qe h5,X2 h5];simp
 rw[if_neg h1,if_neg h2,if_neg h3,if_neg h4,if_neg h5,eN.2 h1,eN.2 h2,eN.2 h3,Zn h4,Zn h5];simp
def Vj (l:List Nat):Bool:=br l&&(QW l).all (λs=>decide (Zk s= .txt))
theorem iQx (ls:List (List Nat)):((ls.map (·++ [10])).any bW)= !(ls.all (λs=>decide (Zk s= .txt))):=by
 induction ls with
 | nil=>rfl
 | cons s ls ih=>
  rw[Kr,List.any_cons,wu,ih,CC,Bool.not_and];congr 1;by_cases h:Zk s= .txt<;>simp[h]
theorem T7 (r:List Nat):ZC.isPrefixOf (r++ [10])=ZC.isPrefixOf r:=xL (by decide)
theorem iQy (l:List Nat)(w:World)(hl:∀x∈l,x<256):
  Fn Tryz.prog 209 [.string (Qf l),.string (Qf [10])] w (λv w'=>v= .int .i64 (iE 10 l)/\w=w'):=by
 refine QH (c:=fQQ) Qa Tryz.func209 rfl rfl rfl ?_;have h:=Tryz.stringslite_Index_one (Qf l) (UInt8.ofNat 10) w;rw[xI,Cu (by decide) hl] at h;refine call (xJ h) ?_;rintro _ _ ⟨rfl,rfl⟩;exact⟨rfl,rfl⟩
theorem HV (l p:List Nat)(w:World)(hl:∀x∈l,x<256)(hp:∀x∈p,x<256):
  Fn Tryz.prog 96 [.string (Qf l),.string (Qf p)] w (λv w'=>v= .bool (p.isPrefixOf l)/\w=w'):=by
 refine QH (c:=c96) Qa Tryz.func96 rfl rfl rfl ?_;refine call (R4 l p w hl hp) ?_;rintro _ _ ⟨rfl,rfl⟩;exact⟨rfl,rfl⟩
theorem T8 (ds:List (List Nat))(n i:Nat)(s:List Nat)(hi:ds.length=i)(hn:i<n):
  (X9 ds++List.replicate (n-i) (Value.string ⟨#[]⟩)).set i (.string (Qf s))=X9 (ds++ [s])++List.replicate (n-(i+1)) (Value.string ⟨#[]⟩):=by
 have hl:(X9 ds).length=i:=by rw[bn,hi]
 rw[Bk _ _ (by omega),hl,A6,show n-i=(n-(i+1))+1 by omega,PP,PV];simp[X9]
def Sn (w:World)(A:Option Addr)(n c:Nat)(cs:List Value):Prop:=Sl w 1 A n c cs/\(0<n->∃g o,A=some ⟨g,o,none⟩)
theorem Sn.ext {w w':World}{A:Option Addr}{n c:Nat}{cs:List Value}(h:Sn w A n c cs)(k:Ext w w'):Sn w' A n c cs:=⟨h.1.ext k,h.2⟩
theorem iQz (l:List Nat)(w:World)(hl:∀x∈l,x<256)(Q0:l.length<=1000000000):
  Fn Tryz.prog 153 [.string (Qf l),.string (Qf [10]),.int .i64 1,.int .i64 (-1)] w (λu w'=>∃A c,u= .slice A (Jk l).length c/\Ext w w'/\Sn w' A (Jk l).length c (X9 (Jk l))):=by
 have Jf:=Cy l;have dA:l.count 10<=l.length:=List.count_le_length;have X7:=Xi l;refine QH (c:={fQi with cuts:=[]}) Qa Tryz.func153 rfl rfl rfl ?_;refine XG (by decide) ?_;refine Q7 rfl ?_;refine Zq (by decide) ?_;refine call (TY l 10 w hl (by decide)) ?_;rintro _ _ ⟨rfl,rfl⟩;refine Qj ((l.count 10+1:Nat):Int) (by show((_:Nat):Int)+1=_;omega) (by omega) ?_;refine Qj ((l.length+1:Nat):Int) (by rw[X7];omega) (by omega) ?_;refine norm (m:=((l.count 10+1:Nat):Int)) (by split<;>omega) ?_;refine BO Qa rfl rfl rfl rfl rfl rfl rfl rfl (by show 16*(l.count 10+1)<=_;omega) (by unfold maxLen;omega) (λw1 Qd Q9 Qh=>?_);refine Qj ((l.count 10:Nat):Int) (by omega) (by omega) ?_;generalize O0:l.count 10=cn at*;refine loop Qa [10,0] (λs:Nat×List (List Nat)×List Nat=>[.int .i64 s.1,.string (Qf s.2.2)]) (λs w'=>Mod (·=w.heap.size) w1 w'/\s.1<=cn/\s.2.1.length=s.1/\Jk l=s.2.1++Jk s.2.2/\(∀x∈s.2.2,x<256)/\s.2.2.length<=l.length/\Blk w' w.heap.size 9 (X9 s.2.1++List.replicate (cn+1-s.1) (Value.string ⟨#[]⟩))) (λs _=>cn-s.1) (0,[],l) rfl ⟨Mod.refl _ _,Xt _,rfl,rfl,hl,QC _,Qh⟩ ?_;rintro⟨i,ds,r⟩ w2 ⟨o9,hi,jw,Yd,eu,kL,Qv⟩;simp only at hi jw Yd eu kL Qv;have QE:=Xi r;have DN:=QD List.length Yd;rw[Qq,Jf,jw] at DN;refine Qz (λc1=>?_) (λc1=>?_)
 ·have Q5:i<cn:=by simp only at c1;omega
  have hm:10∈r:=Classical.byContradiction (λhh=>by rw[HU hh] at DN;simp at DN;omega);have hhd:=iQw hm;have e1:iE 10 r=((bu r).length:Nat):=by unfold iE bu;rw[Qe hm]
  have At:=iQy r w2 eu;rw[e1] at At;refine call At ?_;rintro _ _ ⟨rfl,rfl⟩;refine XF (by omega) ?_;refine Qj (((bu r).length+1:Nat):Int) (by omega) (by omega) ?_;refine XM (v':=.string (Qf (r.take ((bu r).length+1)))) ⟨by omega,by omega,by rw[QE];omega⟩ (by rw[VN];rfl) ?_;refine index (j:=i) (by omega) ?_;refine XQ Qv (by rw[Qq,bn,List.length_replicate];omega) (λw3 Z7 Qu=>?_);rw[T8 ds (cn+1) i _ jw (by omega)] at Qu;refine Qj (((bu r).length+1:Nat):Int) (by have:(Qf [10]).size=1:=rfl;omega) (by omega) ?_;refine XM (v':=.string (Qf (r.drop ((bu r).length+1)))) ⟨by omega,by rw[QE];omega,by rw[QE];omega⟩ (by
   rw[VN,QE];show Value.string (Qf ((r.take r.length).drop _))=_;rw[Jv (QC _)];rfl) ?_
  refine Qj ((i+1:Nat):Int) (by show((i:Nat):Int)+1=_;omega) (by omega) ?_;refine⟨(i+1,ds++ [r.take ((bu r).length+1)],r.drop ((bu r).length+1)),rfl,⟨o9.trans Z7 (λi hi=>.inl hi),Q5,by simp[jw],?_,λx hx=>eu x (au hx),by simp only[YR];omega,Qu⟩,by show cn-(i+1)<cn-i;omega⟩;simp only;rw[Yd,T4 hm];simp
 ·have Q5:i=cn:=by simp only at c1;omega
  subst Q5;have Xq:10∉r:=λhm=>by have h1:=Cy r;have:=List.count_pos_iff.2 hm;omega
  refine index (j:=i) (by omega) ?_;refine XQ Qv (by rw[Qq,bn,List.length_replicate];omega) (λw3 Z7 Qu=>?_);rw[T8 ds (i+1) i _ jw (by omega)] at Qu;refine Qj ((i+1:Nat):Int) (by show((i:Nat):Int)+1=_;omega) (by omega) ?_;refine jO Qa rfl rfl rfl rfl rfl rfl (QC _) ?_;have e2:Jk l=ds++ [r]:=by rw[Yd,HU Xq]
  have FG:=Sl.own (sz:=1) (n:=i+1) (c:=i+1) Qu (QC _) (by unfold maxLen;omega) (by rw[Qq,bn,Qq,jw];simp);rw[A6,List.replicate_zero,JZ,ga,Jv (by rw[bn,Qq,jw];simp)] at FG;refine⟨_,_,by rw[Jf],(o9.trans Z7 (λi hi=>.inl hi)).ext Qd (λi hi=>by omega),?_⟩;rw[Jf,e2];exact⟨FG,λ_=>⟨_,_,rfl⟩⟩
theorem iQA (l:List Nat)(w:World)(hl:∀x∈l,x<256)(Q0:l.length<=1000000000):
  Fn Tryz.prog 95 [.string (Qf l),.string (Qf [10])] w (λu w'=>∃A c,u= .slice A (Jk l).length c/\Ext w w'/\Sn w' A (Jk l).length c (X9 (Jk l))):=by
 refine QH (c:={c95 with cuts:=[]}) Qa Tryz.func95 rfl rfl rfl ?_;refine call (iQz l w hl Q0) ?_;rintro _ w1 ⟨A,c,rfl,Qd,Vb⟩;exact⟨A,c,rfl,Qd,Vb⟩
def uF (w:World)(u:Value)(ls:List (List Nat))(w':World):Prop:=∃A c,u= .slice A ls.length c/\Ext w w'/\Sn w' A ls.length c (X9 ls)
theorem CD (l:List Nat)(w:World)(hl:∀x∈l,x<256)(Q0:l.length<=1000000000):
  Fn Tryz.prog 46 [.string (Qf l)] w (λu w'=>uF w u (iH l) w'):=by
 have Jf:=Cy l;have dA:l.count 10<=l.length:=List.count_le_length;refine QH (c:={c46 with cuts:=[]}) Qa Tryz.func46 rfl rfl rfl ?_;refine call (iQA l w hl Q0) ?_;rintro _ w1 ⟨A,c,rfl,Qd,Vb⟩;have ZL:=Vb.1.le;refine Qj (((Jk l).length-1:Nat):Int) (by omega) (by omega) ?_;obtain⟨z,hz⟩:∃z,(Jk l).getLast? =some z:=⟨_,List.getLast?_eq_some_getLast (HT l)⟩
 have ag:(Jk l)[(Jk l).length-1]? =some z:=by rw[<-tz];exact hz
 refine Vr Vb.1 (by omega) (λad u hA hu Xy=>?_);rw[lj ag] at hu;cases hu;refine load Xy ?_;have Yq:=(T5 hl z (Xk ag)).1;by_cases h0:z=[]
 ·subst h0;refine Xc rfl ?_;refine Qj (((Jk l).length-1:Nat):Int) (by omega) (by omega) ?_;refine jO Qa rfl rfl rfl rfl rfl rfl (by omega) ?_;have e:iH l=(Jk l).dropLast:=by unfold iH;rw[Qe hz]
  have h2:=Vb.1.take (m:=(Jk l).length-1) (by omega);refine⟨A,c,by rw[e,List.length_dropLast],Qd,?_⟩;rw[e,List.length_dropLast];have e3:X9 (Jk l).dropLast=(X9 (Jk l)).take (((Jk l).length-1)*1):=by
   rw[ga,List.dropLast_eq_take];simp[X9,List.map_take]
  rw[e3];exact⟨h2,λh0=>Vb.2 (by omega)⟩
 ·refine XF (λe=>h0 (Kg Yq (by simp) e)) ?_;have e:iH l=Jk l:=by unfold iH;rw[if_neg (λhh=>h0 (Option.some.inj (hz.symm.trans hh)))]
  exact⟨A,c,by rw[e],Qd,by rw[e];exact Vb⟩
theorem iQB (x z:Bool)(w:World):Fn Tryz.prog 170 [.bool x,.bool false,.bool z] w (λv w'=>v= .bool (Kt 4 x z)/\w=w'):=by
 refine QH (c:={fQw with cuts:=[]}) Qa Tryz.func170 rfl rfl rfl ?_;cases x with
 | true=>
  refine Xc rfl ?_;refine Q7 rfl ?_;refine Q7 rfl ?_;exact⟨rfl,rfl⟩
 | false=>
  refine Q7 rfl ?_;refine Xc rfl ?_;exact⟨by cases z<;>rfl,rfl⟩
structure CPz where
 ox:Nat
 mx:Nat
 lx:Nat
 ax:Nat
 bx:Nat
 pb:Nat
 km:Nat
 mm:Nat
 D:AD
def CPz.caps (p:CPz):List Value:=[VP.ptr p.ox,VP.ptr p.mx,VP.ptr p.lx,VP.ptr p.ax,VP.ptr p.bx]
def CPz.clo (p:CPz):Value:=.func (.func 188) #[] #[VP.ptr p.ox,VP.ptr p.mx,VP.ptr p.lx,VP.ptr p.ax,VP.ptr p.bx]
def CPz.lC (p:CPz):List Value:=[.slice p.D.A p.D.n p.D.c,.int .i64 p.D.ra,.slice none 0 0,.int .i64 0,.slice p.D.B p.D.m p.D.d,.int .i64 p.D.rb]
structure CKz (w:World) (base:Nat) (p:CPz):Prop where
 hF:p.D.op=4
 oxb:Blk w p.ox 205 [.func (.func 170) #[] #[]]
 mxb:Blk w p.mx 272 [.map (some p.mm)]
 lxb:Blk w p.lx 204 p.lC
 axb:Blk w p.ax 273 [p.clo]
 bxb:Blk w p.bx 174 [VP.ptr p.pb]
 as_:SB w p.D.A p.D.n p.D.c p.D.a
 bs:SB w p.D.B p.D.m p.D.d p.D.b
 off:∀k,k=p.ox∨k=p.mx∨k=p.lx∨k=p.ax∨k=p.bx->k<base/\k≠p.pb/\k≠p.km/\k≠p.mm
 rowA:∀ad,p.D.A=some ad->0<p.D.n->ad.block<base/\ad.block≠p.pb/\ad.block≠p.km/\ad.block≠p.mm
 rowB:∀ad,p.D.B=some ad->0<p.D.m->ad.block<base/\ad.block≠p.pb/\ad.block≠p.km/\ad.block≠p.mm
def CSz (p:CPz)(NA:Option Addr):Nat->Prop:=λk=>k=p.mm∨BS p.pb p.km NA k
theorem CSz.moved {w:World}{p:CPz}{A A':Option Addr}(h:Moved w A A'):∀k,CSz p A' k->CSz p A k∨w.heap.size<=k:=by
 rintro k (rfl | hk)
 ·exact .inl (.inl rfl)
 ·rcases BS.moved h k hk with h | h
  ·exact .inl (.inr h)
  ·exact .inr h
theorem CSz.trans {w w1 w2:World}{p:CPz}{A A1:Option Addr}(hm:Mod (CSz p A) w w1)(hv:Moved w A A1)(h:Mod (CSz p A1) w1 w2):Mod (CSz p A) w w2:=hm.trans h (CSz.moved hv)
theorem CSz.no {p:CPz}{base:Nat}{NA:Option Addr}(hr:∀i,Ql NA i->base<=i){k:Nat}(h:k<base/\k≠p.pb/\k≠p.km/\k≠p.mm):¬CSz p NA k:=λe=>by
 obtain⟨h1,h2,h3,h4⟩:=h;rcases e with e | e | e | e
 ·exact h4 e
 ·exact h2 e
 ·exact h3 e
 ·have:=hr k e;omega
theorem CKz.mod {w w':World}{base:Nat}{p:CPz}{NA:Option Addr}(h:CKz w base p)(hr:∀i,Ql NA i->base<=i)(hm:Mod (CSz p NA) w w'):CKz w' base p:=by
 have k:=λk hk=>CSz.no (p:=p) hr (h.off k hk)
 refine⟨h.hF,h.oxb.mod hm (k _ (by simp)),h.mxb.mod hm (k _ (by simp)),h.lxb.mod hm (k _ (by simp)),h.axb.mod hm (k _ (by simp)),h.bxb.mod hm (k _ (by simp)),⟨h.as_.1.modS hm ?_,h.as_.2⟩,⟨h.bs.1.modS hm ?_,h.bs.2⟩,h.off,h.rowA,h.rowB⟩
 ·rintro h0 i ⟨ad,e,rfl⟩;exact CSz.no hr (h.rowA ad e h0)
 ·rintro h0 i ⟨ad,e,rfl⟩;exact CSz.no hr (h.rowB ad e h0)
theorem CKz.ext {w w':World}{base:Nat}{p:CPz}(h:CKz w base p)(k:Ext w w'):CKz w' base p:=
 h.mod (NA:=none) (λi hi=>by obtain⟨_,e,_⟩:=hi;cases e) (Mod.of_ext _ k)
structure CStz (w:World) (base:Nat) (p:CPz) (NA:Option Addr) (nc:Nat) (st:List Br×List Tr3):Prop where
 bd:Bd w base p.pb p.km NA nc st.1
 memo:∃m,MapQ bU w p.mm m/\∀x y:Int,XC ((x,0,y):I3) m=jW st.2 x y
 lt:p.mm<base/\p.mm≠p.pb/\p.mm≠p.km
theorem CStz.ext {w w':World}{base:Nat}{p:CPz}{NA:Option Addr}{nc:Nat}{st:List Br×List Tr3}(h:CStz w base p NA nc st)(k:Ext w w'):CStz w' base p NA nc st:=
 ⟨h.bd.ext k,let ⟨m,h1,h2⟩:=h.memo;⟨m,h1.ext k,h2⟩,h.lt⟩
def iQC (w:World)(base:Nat)(p:CPz)(NA:Option Addr)(st:List Br×List Tr3)(w':World):Prop:=∃NA' nc',CStz w' base p NA' nc' st/\Mod (CSz p NA) w w'/\Moved w NA NA'
theorem T9 (base:Nat)(p:CPz)(ha:VO p.D.a)(hb:VO p.D.b)(eI:p.D.n<=1000000000000/\p.D.m<=1000000000000):∀(m:Nat)(x y:Int)(st:List Br×List Tr3)(NA:Option Addr)(nc:Nat)(w:World),
  CKz w base p->CStz w base p NA nc st->0<=x->0<=y->x+y<m->x<p.D.n+2->y<p.D.m+2->(Xs p.D.a p.D.b p.D.op m x y st).2.1.length<=100000000000->
  Fn Tryz.prog 188 (bU (x,0,y)::p.caps) w (λv w'=>v= .int .i64 (Xs p.D.a p.D.b p.D.op m x y st).1/\iQC w base p NA (Xs p.D.a p.D.b p.D.op m x y st).2 w')
 | 0,x,y,st,NA,nc,w,_,_,x0,y0,hm,_,_,_=>by omega
 | m+1,x,y,st,NA,nc,w,hK,hS,x0,y0,hm,hx,hy,XJ=>by
  have ih:=T9 base p ha hb eI m;have Vf:p.D.a.length=p.D.n:=hK.as_.2;have fU:p.D.b.length=p.D.m:=hK.bs.2;have mW:=hS.bd.top;have OS:∀i,Ql NA i->base<=i:=λi hi=>(hS.bd.own.rows i hi).1
  refine QH (c:={RW with cuts:=[1]}) Qa Tryz.func188 rfl rfl rfl ?_;refine new (λw1 Qd Q9 Qh=>?_)
  replace Qh:Blk w1 w.heap.size 242 (dX (x,0,y)):=Qh;have Kn:=hK.ext Qd;have Vb:=hS.ext Qd;have oB:w.heap.size<w1.heap.size:=by omega
  refine eT [] Qa [] (λ_:Unit=>[]) (λ_ w'=>w1=w'/\¬(x<2/\y<2)) ?_ ?_
  ·refine index (j:=0) (by decide) ?_;refine Qp Qh rfl ?_;refine Qz (λc1=>?_) (λc1=>?_)
   ·refine index (j:=1) (by decide) ?_;refine Qp Qh rfl ?_;refine Zq (show(0:Int)<2 by decide) ?_;refine index (j:=2) (by decide) ?_;refine Qp Qh rfl ?_;refine Qz (λc2=>?_) (λc2=>?_)
    ·refine Qy Kn.oxb rfl ?_;refine index (j:=0) (by decide) ?_;refine Qp Qh rfl ?_;refine index (j:=1) (by decide) ?_;refine Qp Qh rfl ?_;refine index (j:=2) (by decide) ?_;refine Qp Qh rfl ?_;rw[ly ⟨c1,c2⟩,TJ x0 c1 y0 c2,hK.hF];refine call (iQB (decide (x=1)) (decide (y=1)) w1) ?_;rintro v _ ⟨rfl,rfl⟩;cases Kt 4 (decide (x=1)) (decide (y=1))with
     | true=>
      refine Xc rfl ?_;exact⟨rfl,NA,nc,Vb,Mod.of_ext _ Qd,Moved.refl _ _⟩
     | false=>
      refine Q7 rfl ?_;exact⟨rfl,NA,nc,Vb,Mod.of_ext _ Qd,Moved.refl _ _⟩
    ·exact⟨(),rfl,rfl,λhh=>c2 hh.2⟩
   ·exact⟨(),rfl,rfl,λhh=>c1 hh.1⟩
  rintro⟨⟩ _ ⟨rfl,Xu⟩;obtain⟨mq,eH,Vp⟩:=Vb.memo;refine Qy Kn.mxb rfl ?_;refine Qt Qh rfl ?_;refine GX (kv:=bU) (a:=((x,0,y):I3)) Qa rfl rfl rfl rfl Ct rfl rfl eH ?_;cases k:st.2.find? (λt=>decide (t.1=x/\t.2.1=y))with
  | some t=>
   have dB:XC ((x,0,y):I3) mq=some (.int .i64 t.2.2):=by rw[Vp,jW,k]<;>rfl
   refine Xc (by rw[dB];rfl) ?_;rw[lz Xu k];exact⟨by rw[dB];rfl,NA,nc,Vb,Mod.of_ext _ Qd,Moved.refl _ _⟩
  | none=>
  have dB:XC ((x,0,y):I3) mq=none:=by rw[Vp,jW,k]<;>rfl
  refine Q7 (by rw[dB];rfl) ?_;have ZI:min (Qm p.D.a x) (Qm p.D.b y)<64:=by
   by_cases c:x<2
   ·have:=aC hb (n:=y) (λc2=>Xu ⟨c,c2⟩) (by omega);rw[Jb];split<;>omega
   ·have:=aC ha (n:=x) c (by omega);rw[Jb];split<;>omega
  have OT:SB w1 none 0 0 []:=SlS.nil _;have qL:∀w',Ext w1 w'->∀(j:Nat) (v:Value),p.lC[j]? =some v->w'.cell? ((⟨p.lx,0,none⟩:Addr).add j)=some v:=λw' Qb j v hj=>by rw[(Kn.lxb.ext Qb).cell];exact hj
  have qN:∀w',Ext w1 w'->∀(j:Nat) (v:Value),(dX (x,0,y))[j]? =some v->w'.cell? ((⟨w.heap.size,0,none⟩:Addr).add j)=some v:=λw' Qb j v hj=>by rw[(Qh.ext Qb).cell];exact hj
  refine XL Qa (Ext w1) 17 [(true,0),(true,1),(true,2),(true,3),(true,5),(true,6),(true,7),(true,8),(true,10),(true,11),(true,12),(true,13),(false,4),(false,9),(false,14),(true,15),(true,16)] (by kernel_rfl) (Ext.drew w1) ?_;refine J3 (j:=0) (by decide) ?_;refine Xo (vs:=[.slice p.D.A p.D.n p.D.c,.int .i64 p.D.ra]) rfl (λw' Qb j v hj=>by
   rw[add_add,(Kn.lxb.ext Qb).cell]
   match j,hj with
   | 0,hj=>exact hj
   | 1,hj=>exact hj) ?_
  refine index (j:=0) (by decide) ?_;refine QQ (v:=.int .i64 x) (λw' Qb=>qN w' Qb 0 _ rfl) ?_;refine J3 (j:=1) (by decide) ?_;refine Xo (vs:=[.slice none 0 0,.int .i64 0]) rfl (λw' Qb j v hj=>by
   rw[add_add,(Kn.lxb.ext Qb).cell]
   match j,hj with
   | 0,hj=>exact hj
   | 1,hj=>exact hj) ?_
  refine index (j:=1) (by decide) ?_;refine QQ (v:=.int .i64 0) (λw' Qb=>qN w' Qb 1 _ rfl) ?_;refine J3 (j:=2) (by decide) ?_;refine Xo (vs:=[.slice p.D.B p.D.m p.D.d,.int .i64 p.D.rb]) rfl (λw' Qb j v hj=>by
   rw[add_add,(Kn.lxb.ext Qb).cell]
   match j,hj with
   | 0,hj=>exact hj
   | 1,hj=>exact hj) ?_
  refine index (j:=2) (by decide) ?_;refine QQ (v:=.int .i64 y) (λw' Qb=>qN w' Qb 2 _ rfl) ?_;refine call (dQ p.D.A p.D.n p.D.c p.D.ra x p.D.a _ (Kn.as_.ext (Ext.drew w1)) (by omega)) ?_;rintro u w2 ⟨rfl,Qg⟩;have Xm:=(Ext.drew w1).trans Qg;refine⟨Xm,?_⟩;refine call (dQ none 0 0 0 0 [] _ (OT.ext Xm) (by simp)) ?_;rintro u w3 ⟨rfl,Qi⟩;have XI:=Xm.trans Qi;refine⟨XI,?_⟩;refine call (dQ p.D.B p.D.m p.D.d p.D.rb y p.D.b _ (Kn.bs.ext XI) (by omega)) ?_;rintro u w4 ⟨rfl,Qs⟩;have JP:=XI.trans Qs;refine⟨JP,?_⟩;have yG:Qm [] 0=64:=rfl;rw[yG];have OU: -9223372036854775808<=min (Qm p.D.a x) (Qm p.D.b y):=by
   have pos:∀{d:List Br},VO d->∀{n:Int},n<d.length+2->0<=Qm d n:=λ{d} hd {n} hn=>by
    by_cases h2:n<2
    ·rw[iB h2];omega
    ·obtain⟨z,hz⟩:=WG h2 hn;rw[dV h2 hz];exact(hd.2 _ _ hz).1
   have p1:=pos ha (n:=x) (by omega);have p2:=pos hb (n:=y) (by omega);rw[Jb];split<;>omega
  have L3:(if Qm p.D.b y<(if(64:Int)<Qm p.D.a x then 64 else Qm p.D.a x)then Qm p.D.b y else(if(64:Int)<Qm p.D.a x then 64 else Qm p.D.a x))=min (Qm p.D.a x) (Qm p.D.b y):=by
   rw[Jb] at ZI ⊢;split at ZI<;>(try split)<;>(try split)<;>(try split)<;>omega
  refine norm (m:=min (Qm p.D.a x) (Qm p.D.b y)) L3 ?_;rw[lA Xu k _ rfl] at XJ ⊢;generalize Aj:min (Qm p.D.a x) (Qm p.D.b y)=v at*;have QX:=Qh.ext JP;have V9:=Kn.ext JP;have W9:=Vb.ext JP;have Xr:=Qd.trans JP;have L4:=JP.size;refine new (λw5 Qx KL L5=>?_);refine new (λw6 QN cj L6=>?_);have XK:=Qx.trans QN;have L7:=L5.ext QN;have Xg:=QX.ext XK;have cq:=V9.ext XK;have kt:=W9.ext XK;have XS:=Xr.trans XK;obtain⟨s1,s2,s3,s4,s5⟩:=WF ha (n:=x) x0 ZI;obtain⟨t1,t2,t3,t4,t5⟩:=WF hb (n:=y) y0 ZI;refine loop Qa [64] (λs:Nat=>[.int .i64 s]) (λs w'=>Mod (λi=>i=w4.heap.size∨i=w5.heap.size) w6 w'/\s<=3/\Blk w' w4.heap.size 242 (dX (if 0<s then(Qo p.D.a x v).1 else 0,0,if 2<s then(Qo p.D.b y v).1 else 0))/\Blk w' w5.heap.size 242 (dX (if 0<s then(Qo p.D.a x v).2 else 0,0,if 2<s then(Qo p.D.b y v).2 else 0))) (λs _=>3-s) 0 rfl ⟨Mod.refl _ _,Xt _,L7,L6⟩ ?_;rintro s w7 ⟨Xb,rN,fB,df⟩;have hbz:base<=w4.heap.size:=by have:=Qd.size;omega
  have bQ8:w5.heap.size=w4.heap.size+1:=KL;have Ak:w.heap.size<w4.heap.size:=by omega
  have Am:∀k,k<w4.heap.size->¬(k=w4.heap.size∨k=w5.heap.size):=λk hk e=>by omega
  have hlx:=hK.off p.lx (by simp);have Xf:Ext w w7:=Xb.ext XS (λi hi=>by omega);have pe:Ext w1 w7:=Xb.ext (JP.trans XK) (λi hi=>by omega);have Ys:Ext w4 w7:=Xb.ext XK (λi hi=>by omega);have Q8:=QX.ext Ys;have aa:=V9.ext Ys;have YP:=W9.ext Ys;have WJ:=Xb.size;have nLX:=Am p.lx (by omega);have nB:=Am w.heap.size Ak;have h0:Qo [] 0 v=(0,0):=by unfold Qo;rw[Qe (show Qm [] 0≠v by rw[yG];omega)]
  by_cases hs:s<3
  ·rcases(show s=0∨s=1∨s=2 by omega)with rfl | rfl | rfl
   ·refine Zq (show((0:Nat):Int)<3 by decide) ?_;refine XL Qa (Mod (λi=>i=w4.heap.size∨i=w5.heap.size) w7) 17 [(true,0),(true,1),(true,2),(true,3),(true,4),(true,5),(true,6),(true,7),(true,8),(false,9),(true,10),(true,11),(true,12),(true,13),(false,14),(true,15),(false,16)] (by kernel_rfl) (Mod.of_ext _ (Ext.drew w7)) ?_;refine J3 (j:=0) (by decide) ?_;refine Xo (vs:=[.slice p.D.A p.D.n p.D.c,.int .i64 p.D.ra]) rfl (λw' Qb j v hj=>by
     rw[add_add,(aa.lxb.mod Qb nLX).cell]
     match j,hj with
     | 0,hj=>exact hj
     | 1,hj=>exact hj) ?_
    refine index (j:=0) (by decide) ?_;refine QQ (v:=.int .i64 x) (λw' Qb=>by rw[(Q8.mod Qb nB).cell];rfl) ?_;refine call (jV p.D.A p.D.n p.D.c p.D.ra x v p.D.a _ (aa.as_.ext (Ext.drew w7)) (by omega) ZI) ?_;rintro u w8 ⟨rfl,Xp⟩;have Kz:=(Ext.drew w7).trans Xp;refine⟨Mod.of_ext _ Kz,?_⟩;refine index (j:=0) (by decide) ?_;refine XQ (fB.ext Kz) (by simp) (λw9 Zb i5=>?_);have Vn:Mod (λi=>i=w4.heap.size∨i=w5.heap.size) w7 w9:=(Mod.of_ext _ Kz).trans Zb (λi hi=>.inl (.inl hi));refine⟨Vn,?_⟩;have fy:=Vn.size;refine index (j:=0) (by decide) ?_;refine XQ (((df.ext Kz).mod Zb (by show¬w5.heap.size=w4.heap.size;omega))) (by simp) (λQK ZA fC=>?_);have ae:Mod (λi=>i=w4.heap.size∨i=w5.heap.size) w7 QK:=Vn.trans ZA (λi hi=>.inl (.inr hi));refine⟨ae,?_⟩;have fD:=i5.mod ZA (by show¬w4.heap.size=w5.heap.size;omega);refine Qj ((1:Nat):Int) (by decide) (by decide) ?_;exact⟨1,rfl,⟨Xb.trans ae (λi hi=>.inl hi),by decide,fD,fC⟩,by show 3-1<3-0;decide⟩
   ·refine Zq (show((1:Nat):Int)<3 by decide) ?_;refine XL Qa (Mod (λi=>i=w4.heap.size∨i=w5.heap.size) w7) 17 [(true,0),(true,1),(true,2),(true,3),(true,4),(true,5),(true,6),(true,7),(true,8),(false,9),(true,10),(true,11),(true,12),(true,13),(false,14),(true,15),(false,16)] (by kernel_rfl) (Mod.of_ext _ (Ext.drew w7)) ?_;refine J3 (j:=1) (by decide) ?_;refine Xo (vs:=[.slice none 0 0,.int .i64 0]) rfl (λw' Qb j v hj=>by
     rw[add_add,(aa.lxb.mod Qb nLX).cell]
     match j,hj with
     | 0,hj=>exact hj
     | 1,hj=>exact hj) ?_
    refine index (j:=1) (by decide) ?_;refine QQ (v:=.int .i64 0) (λw' Qb=>by rw[(Q8.mod Qb nB).cell];rfl) ?_;refine call (jV none 0 0 0 0 v [] _ (SlS.nil _) (by decide) ZI) ?_;rintro u w8 ⟨rfl,Xp⟩;have Kz:=(Ext.drew w7).trans Xp;refine⟨Mod.of_ext _ Kz,?_⟩;refine index (j:=1) (by decide) ?_;refine XQ (fB.ext Kz) (by simp) (λw9 Zb i5=>?_);have Vn:Mod (λi=>i=w4.heap.size∨i=w5.heap.size) w7 w9:=(Mod.of_ext _ Kz).trans Zb (λi hi=>.inl (.inl hi));refine⟨Vn,?_⟩;have fy:=Vn.size;refine index (j:=1) (by decide) ?_;refine XQ (((df.ext Kz).mod Zb (by show¬w5.heap.size=w4.heap.size;omega))) (by simp) (λQK ZA fC=>?_);have ae:Mod (λi=>i=w4.heap.size∨i=w5.heap.size) w7 QK:=Vn.trans ZA (λi hi=>.inl (.inr hi));refine⟨ae,?_⟩;have fD:=i5.mod ZA (by show¬w4.heap.size=w5.heap.size;omega);refine Qj ((2:Nat):Int) (by decide) (by decide) ?_;rw[h0] at fD fC;exact⟨2,rfl,⟨Xb.trans ae (λi hi=>.inl hi),by decide,fD,fC⟩,by show 3-2<3-1;decide⟩
   ·refine Zq (show((2:Nat):Int)<3 by decide) ?_;refine XL Qa (Mod (λi=>i=w4.heap.size∨i=w5.heap.size) w7) 17 [(true,0),(true,1),(true,2),(true,3),(true,4),(true,5),(true,6),(true,7),(true,8),(false,9),(true,10),(true,11),(true,12),(true,13),(false,14),(true,15),(false,16)] (by kernel_rfl) (Mod.of_ext _ (Ext.drew w7)) ?_;refine J3 (j:=2) (by decide) ?_;refine Xo (vs:=[.slice p.D.B p.D.m p.D.d,.int .i64 p.D.rb]) rfl (λw' Qb j v hj=>by
     rw[add_add,(aa.lxb.mod Qb nLX).cell]
     match j,hj with
     | 0,hj=>exact hj
     | 1,hj=>exact hj) ?_
    refine index (j:=2) (by decide) ?_;refine QQ (v:=.int .i64 y) (λw' Qb=>by rw[(Q8.mod Qb nB).cell];rfl) ?_;refine call (jV p.D.B p.D.m p.D.d p.D.rb y v p.D.b _ (aa.bs.ext (Ext.drew w7)) (by omega) ZI) ?_;rintro u w8 ⟨rfl,Xp⟩;have Kz:=(Ext.drew w7).trans Xp;refine⟨Mod.of_ext _ Kz,?_⟩;refine index (j:=2) (by decide) ?_;refine XQ (fB.ext Kz) (by simp) (λw9 Zb i5=>?_);have Vn:Mod (λi=>i=w4.heap.size∨i=w5.heap.size) w7 w9:=(Mod.of_ext _ Kz).trans Zb (λi hi=>.inl (.inl hi));refine⟨Vn,?_⟩;have fy:=Vn.size;refine index (j:=2) (by decide) ?_;refine XQ (((df.ext Kz).mod Zb (by show¬w5.heap.size=w4.heap.size;omega))) (by simp) (λQK ZA fC=>?_);have ae:Mod (λi=>i=w4.heap.size∨i=w5.heap.size) w7 QK:=Vn.trans ZA (λi hi=>.inl (.inr hi));refine⟨ae,?_⟩;have fD:=i5.mod ZA (by show¬w4.heap.size=w5.heap.size;omega);refine Qj ((3:Nat):Int) (by decide) (by decide) ?_;exact⟨3,rfl,⟨Xb.trans ae (λi hi=>.inl hi),by decide,fD,fC⟩,by show 3-3<3-2;decide⟩
  ·have:s=3:=by omega
   subst this;refine XF (show¬((3:Nat):Int)<3 by decide) ?_
   replace fB:Blk w7 w4.heap.size 242 (dX ((Qo p.D.a x v).1,0,(Qo p.D.b y v).1)):=fB
   replace df:Blk w7 w5.heap.size 242 (dX ((Qo p.D.a x v).2,0,(Qo p.D.b y v).2)):=df;have fV:Qm p.D.a x=v∨Qm p.D.b y=v:=by rw[<-Aj,Jb];split<;>simp
   have dec:(Qo p.D.a x v).1+(Qo p.D.b y v).1<x+y/\(Qo p.D.a x v).2+(Qo p.D.b y v).2<x+y:=by
    rcases fV with e | e
    ·have:=s5 e;omega
    ·have:=t5 e;omega
   have L8:=uB ha hb p.D.op m (Qo p.D.a x v).1 (Qo p.D.b y v).1 st s1 t1 (by omega) (by omega);have L9:=uB ha hb p.D.op m (Qo p.D.a x v).2 (Qo p.D.b y v).2 (Xs p.D.a p.D.b p.D.op m (Qo p.D.a x v).1 (Qo p.D.b y v).1 st).2 s3 t3 (by omega) (by omega);have mo2:=nT p.D.a p.D.b p.D.op m (Qo p.D.a x v).2 (Qo p.D.b y v).2 (Xs p.D.a p.D.b p.D.op m (Qo p.D.a x v).1 (Qo p.D.b y v).1 st).2;have c1:=ih (Qo p.D.a x v).1 (Qo p.D.b y v).1 st NA nc w7 aa YP s1 t1 (by omega) (by omega) (by omega);have c2:=λN1 n1 w' h1 h2=>ih (Qo p.D.a x v).2 (Qo p.D.b y v).2 (Xs p.D.a p.D.b p.D.op m (Qo p.D.a x v).1 (Qo p.D.b y v).1 st).2 N1 n1 w' h1 h2 s3 t3 (by omega) (by omega) (by omega)
   generalize (Xs p.D.a p.D.b p.D.op m (Qo p.D.a x v).1 (Qo p.D.b y v).1 st)=r0 at*;generalize (Xs p.D.a p.D.b p.D.op m (Qo p.D.a x v).2 (Qo p.D.b y v).2 r0.2)=r1 at*;have ul:=xj ⟨v,r0.1,r1.1⟩ r1.2.1;have ul2:(Z6 ⟨v,r0.1,r1.1⟩ r1.2.1).1.length<=r1.2.1.length+1:=by
    unfold Z6;split
    ·exact Bh _
    ·split
     ·exact Bh _
     ·simp
   simp only at XJ;refine Qy aa.axb rfl ?_;refine Qt fB rfl ?_;refine call (c1 (by omega)) ?_;rintro _ QJ ⟨rfl,N1,n1,mz,Z8,yH⟩;have Ma:=df.lt;have ku:=hS.bd.own.rows;obtain⟨l1,l2,l3⟩:=hS.lt;obtain⟨b1,b2,b3⟩:=hS.bd.lt;have new:∀k,w.heap.size<=k->¬CSz p NA k:=λk hk e=>by
    rcases e with e | e | e | e
    ·omega
    ·omega
    ·omega
    ·have:=(ku k e).2;omega
   have fE:=aa.mod OS Z8;have Mb:=df.mod Z8 (new _ (by omega));have Z1:=Q8.mod Z8 (new _ (QC _));have cg:∀i,Ql N1 i->base<=i:=λi hi=>(mz.bd.own.rows i hi).1
   have yI:∀k,w.heap.size<=k->k<w7.heap.size->¬CSz p N1 k:=λk hk h7 e=>by
    rcases CSz.moved yH k e with e | e
    ·exact new k hk e
    ·omega
   have rP:=Z8.size;have OV:=Q8.lt;refine XL Qa (Mod (CSz p N1) QJ) 8 [(true,0),(true,1),(true,2),(true,3),(true,4),(false,5),(false,6),(true,7)] (by kernel_rfl) (Mod.of_ext _ (Ext.drew QJ)) ?_;have nof:=λk hk=>CSz.no (p:=p) cg (fE.off k hk)
   refine QQ (v:=VP.ptr p.pb) (λw' Qb=>by rw[(fE.bxb.mod Qb (nof _ (by simp))).cell0];rfl) ?_;refine QQ (v:=p.clo) (λw' Qb=>by rw[(fE.axb.mod Qb (nof _ (by simp))).cell0];rfl) ?_;refine Xo (vs:=dX ((Qo p.D.a x v).2,0,(Qo p.D.b y v).2)) rfl (λw' Qb j v hj=>by rw[(Mb.mod Qb (yI _ (by omega) Ma)).cell];exact hj) ?_;refine call (c2 N1 n1 _ (fE.ext (Ext.drew QJ)) (mz.ext (Ext.drew QJ)) (by omega)) ?_;rintro _ Xa ⟨rfl,N2,n2,ac,VU,vn⟩;have mB:Mod (CSz p N1) QJ Xa:=(Mod.of_ext _ (Ext.drew QJ)).trans VU (λi hi=>.inl hi);have yJ:Moved QJ N1 N2:=vn.back (Ext.drew QJ).size;refine⟨mB,?_⟩;have Wl:∀i,Ql N2 i->base<=i:=λi hi=>(ac.bd.own.rows i hi).1
   refine call (TH base p.pb p.km N2 n2 r1.2.1 ⟨v,r0.1,r1.1⟩ Xa ac.bd (by omega)) ?_;rintro _ X1 ⟨rfl,N3,n3,dh,Ky,Mc⟩;have Md:Mod (CSz p N2) Xa X1:=Ky.mono (λi hi=>.inl (.inr hi));have mC:Mod (CSz p N1) QJ X1:=CSz.trans mB yJ Md;refine⟨mC,?_⟩;have mQ1:=fE.mod cg mB;have Me:=fE.mod cg mC;have Vm:=Z1.mod mC (yI _ (QC _) OV);obtain⟨Mf,ym,Mg⟩:=ac.memo;have Mh:MapQ bU X1 p.mm Mf:=ym.mod Ky (λe=>by
    rcases e with e | e | e
    ·exact l2 e
    ·exact l3 e
    ·have:=Wl _ e;omega)
   refine Qy Me.mxb rfl ?_;refine Qt Vm rfl ?_;refine tV (kv:=bU) (a:=((x,0,y):I3)) Qa rfl rfl rfl rfl Ct rfl rfl rfl Mh (λZm K9 mQ2 Mi=>?_);have ZP:∀k,k≠p.mm->¬(k=p.mm):=λk h=>h
   obtain⟨d1,d2,d3⟩:=dh.lt;have Mj:∀i,Ql N3 i->base<=i:=λi hi=>(dh.own.rows i hi).1
   obtain⟨kq,OW,OX⟩:=dh.known;have Mk:Bd Zm base p.pb p.km N3 n3 (Z6 ⟨v,r0.1,r1.1⟩ r1.2.1).1:=⟨dh.blk.mod K9 (λe=>l2 e.symm),dh.own.mod K9 (λi hi e=>by have:=Mj i hi;have e':i=p.mm:=e;omega),⟨kq,OW.mod K9 (λe=>l3 e.symm),OX⟩,dh.lt,X4 dh.top K9.size⟩
   have Ml:Mod (CSz p NA) w w7:=Mod.of_ext _ Xf;have mQ3:Moved w NA NA:=Moved.refl _ _;have yK:Mod (CSz p NA) w QJ:=Ml.trans Z8 (λi hi=>.inl hi);have yL:Moved w NA N1:=yH.back Xf.size;have Mm:Mod (CSz p NA) w X1:=CSz.trans yK yL mC;have pf:Mod (CSz p NA) w Zm:=Mm.trans K9 (λi hi=>.inl (.inl hi));have Mo:Moved w NA N3:=yL.trans (yJ.trans Mc mB.size) yK.size;refine⟨rfl,N3,n3,⟨Mk,⟨_,Mi,λx' y'=>?_⟩,hS.lt⟩,pf,Mo⟩;have Xq:r1.2.2.find? (λt=>decide (t.1=x/\t.2.1=y))=none:=by
    rw[wx];intro t ht hh;simp only[VJ] at hh;rcases L9 t ht with h1 | h1
    ·rcases L8 t h1 with h2 | h2
     ·have:=wx.1 k t h2;simp only[VJ] at this;exact this hh
     ·omega
    ·omega
   rw[bj,Mg,jW,jW,List.find?_append];by_cases Yz:(x',y')=(x,y)
   ·cases Yz;rw[Qe rfl,Xq];simp
   ·rw[if_neg (λe=>Yz (by cases e;rfl))];have: [(x,y,(Z6 ⟨v,r0.1,r1.1⟩ r1.2.1).2)].find? (λt:Tr3=>decide (t.1=x'/\t.2.1=y'))=none:=by
     rw[Gf]
     ·rfl
     ·simp only[VJ];exactλe=>Yz (by rw[e.1,e.2])
    rw[this];simp
theorem iQD (A:Option Addr)(n c:Nat)(a:List Br)(ra:Int)(B:Option Addr)(m d:Nat)(b:List Br)(rb:Int)(w:World)(h:SB w A n c a)(h':SB w B m d b)(ha:VO a)(hb:VO b)(r0:0<=ra)(r1:ra<n+2)(s0:0<=rb)(s1:rb<m+2)(hn:n<=1000000000000)(hm:m<=1000000000000)
  (XJ:(lB a ra b rb 4).2.1.length<=100000000000):
  Fn Tryz.prog 128 [.agg #[.slice A n c,.int .i64 ra,.slice none 0 0,.int .i64 0,.slice B m d,.int .i64 rb],.func (.func 170) #[] #[]] w (xg w (V4 a ra b rb 4)):=by
 have Vf:=h.2;have fU:=h'.2;refine QH (c:={RT with cuts:=[]}) Qa Tryz.func128 rfl rfl rfl ?_;refine new (λw1 Qd Q9 Qh=>?_);refine new (λw2 Qg Zi Qv=>?_);refine new (λw3 Qi JD Qu=>?_);refine call (TL w3) ?_;rintro _ w4 ⟨rfl,Qs,KW,QX,Mp⟩;refine new (λw5 Qx KL QB=>?_);refine XQ (j:=0) QB (by decide) (λw6 Vl Xg=>?_);have XK:Ext w4 w6:=Vl.ext Qx (λi hi=>by omega);refine tU Qa bU rfl ?_;intro w7 Xf WJ Mq;refine new (λw8 Xp Yq Xx=>?_);refine XQ (j:=0) Xx (by decide) (λw9 Zb JO=>?_);have VW:Ext w7 w9:=Zb.ext Xp (λi hi=>by omega);refine new (λQK Zx vm Km=>?_);refine XQ (j:=0) Km (by decide) (λQJ Z8 Z1=>?_);have z6:=Vl.size;have z9:=Zb.size;have DJ:=Z8.size;have fG:Ext w9 QJ:=Z8.ext Zx (λi hi=>by omega);have mD:Ext w6 QJ:=(Xf.trans VW).trans fG;have di:Ext w4 QJ:=XK.trans mD;have Va:=Qs;have mE:Ext w3 QJ:=Qs.trans di;have Wo:Ext w QJ:=((Qd.trans Qg).trans Qi).trans mE
 let D:AD:=⟨A,n,c,a,ra,B,m,d,b,rb,4⟩
 let p:CPz:=⟨w1.heap.size,w7.heap.size,w.heap.size,w9.heap.size,w4.heap.size,w3.heap.size+1,w3.heap.size,w6.heap.size,D⟩
 have yM:=Z1.lt;have hK:CKz QJ QJ.heap.size p:=by
  refine⟨rfl,Qv.ext (Qi.trans mE),JO.ext fG,Qh.ext ((Qg.trans Qi).trans mE),Z1,Xg.ext mD,h.ext Wo,h'.ext Wo,λk hk=>?_,λad e h0=>?_,λad e h0=>?_⟩
  ·simp only[p] at hk ⊢;rcases hk with rfl | rfl | rfl | rfl | rfl<;>omega
  ·have:=SB.lt h ad e h0;simp only[p];omega
  ·have:=SB.lt h' ad e h0;simp only[p];omega
 have hS:CStz QJ QJ.heap.size p none 0 ([],[]):=by
  refine⟨⟨QX.ext di,Own.nil _ _ _ _,⟨[],Mp.ext di,λ_=>rfl⟩,?_,QC _⟩,⟨[],Mq.ext (VW.trans fG),λ_ _=>rfl⟩,?_⟩
  ·simp only[p];omega
  ·simp only[p];omega
 have Xq:∀i,Ql none i->QJ.heap.size<=i:=λi hi=>by obtain⟨_,e,_⟩:=hi;cases e
 have nof:=λk hk=>CSz.no (p:=p) Xq (hK.off k hk)
 refine XL Qa (Mod (CSz p none) QJ) 14 [(true,0),(true,1),(true,2),(true,3),(true,4),(true,5),(true,6),(true,7),(true,8),(true,9),(true,10),(true,11),(false,12),(false,13)] (by kernel_rfl) (Mod.of_ext _ (Ext.drew QJ)) ?_;refine QQ (v:=VP.ptr p.pb) (λw' Qb=>by rw[(hK.bxb.mod Qb (nof _ (by simp))).cell0];rfl) ?_;refine QQ (v:=p.clo) (λw' Qb=>by rw[(hK.axb.mod Qb (nof _ (by simp))).cell0];rfl) ?_;refine J3 (j:=0) (by decide) ?_;refine QQ (v:=.int .i64 ra) (λw' Qb=>by rw[add_add,(hK.lxb.mod Qb (nof _ (by simp))).cell];rfl) ?_;refine J3 (j:=1) (by decide) ?_;refine QQ (v:=.int .i64 0) (λw' Qb=>by rw[add_add,(hK.lxb.mod Qb (nof _ (by simp))).cell];rfl) ?_;refine J3 (j:=2) (by decide) ?_;refine QQ (v:=.int .i64 rb) (λw' Qb=>by rw[add_add,(hK.lxb.mod Qb (nof _ (by simp))).cell];rfl) ?_;have inv:=xm ha hb 4 (ra.toNat+rb.toNat+1) ra rb ([],[]) ⟨λj x hx=>by simp at hx,λt ht=>by simp at ht⟩ r0 s0 (by omega) (by omega);refine call (T9 QJ.heap.size p ha hb ⟨hn,hm⟩ (ra.toNat+rb.toNat+1) ra rb ([],[]) none 0 _ (hK.ext (Ext.drew QJ)) (hS.ext (Ext.drew QJ)) r0 s0 (by omega) r1 s1 XJ) ?_;rintro _ Xa ⟨rfl,NA,nc,ac,Mr,vn⟩;have VU:Mod (CSz p none) QJ Xa:=(Mod.of_ext _ (Ext.drew QJ)).trans Mr (λi hi=>.inl hi);refine⟨VU,?_⟩;have mQ4:(Xs a b 4 (ra.toNat+rb.toNat+1) ra rb ([],[])).2.1.length<=100000000000:=XJ;have yN:SB Xa NA _ nc _:=⟨ac.bd.own.sl,rfl⟩
 refine call (Hf p.pb (.map (some p.km)) NA _ nc _ _ Xa ac.bd.blk yN inv.1.1 (by show(Xs a b 4 (ra.toNat+rb.toNat+1) ra rb ([],[])).2.1.length<=_;omega) inv.2.1 inv.2.2 (SB.lt yN)) ?_;rintro _ X1 ⟨OA,k,oc,rfl,XI,ph,iY⟩;have Ky:Mod (CSz p none) QJ X1:=VU.trans (Mod.of_ext (CSz p none) XI) (λi hi=>.inl hi);refine⟨Ky,?_⟩;have nres:¬CSz p none w2.heap.size:=CSz.no (p:=p) Xq (by simp only[p];omega);have Vm:=(Qu.ext mE).mod Ky nres;refine Qw Vm rfl (sc rfl) (λZm fw _ Kc=>?_);have K9:Mod (·=w2.heap.size) X1 Zm:=qQT fw rfl;refine Qt Kc rfl ?_;have rQ:Ext w X1:=Ky.ext Wo (λi hi=>by
  rcases hi with e | e | e | ⟨_,e,_⟩
  ·simp only[p] at e;omega
  ·simp only[p] at e;omega
  ·simp only[p] at e;omega
  ·cases e)
 have z12:=VU.size;have nr:∀i,Ql OA i->¬i=w2.heap.size:=λi hi e=>by have:=iY i hi;omega
 refine⟨OA,k,oc,rfl,K9.ext rQ (λi hi=>by omega),⟨ph.1.modS K9 (λ_ i hi=>nr i hi),ph.2⟩,λi hi=>by have:=iY i hi;have:=Wo.size;omega⟩
end
section
section
structure RP where
 r:Nat
 q:Nat
 nq:Nat
 NA:Option Addr
 nn:Nat
 nc:Nat
 nm:List (List Nat)
 FA:Option Addr
 nf:Nat
 cf:Nat
 fs:List (List Nat×List Nat)
def aG (x:List Nat×List Nat):List Value:=[.string (Qf x.1),.string (Qf x.2)]
theorem HW (x:List Nat×List Nat):(aG x).length=2:=rfl
structure FileOk (x:List Nat×List Nat):Prop where
 n8:∀b∈x.1,b<256
 t8:∀b∈x.2,b<256
 nl:x.1.length<=9223372036854775807
 tl:x.2.length<=1048576
 ok:cN x.2
structure RPok (w0:World) (p:RP):Prop where
 nms:Sl w0 1 p.NA p.nn p.nc (X9 p.nm)
 nmb:KG p.nm
 nmk:p.nm.length<=12
 fls:SlS aG 2 w0 p.FA p.nf p.cf p.fs
 flb:∀x∈p.fs,FileOk x
 nqm:MapAt Yh w0 p.nq (YV (p.fs.map (·.1)) 0 [])
structure RM where
 OA:Option Addr
 oc:Nat
 BA:Option Addr
 bc:Nat
 L:List DV
 pa:Value
 T:Nat->Prop
structure RV where
 d:Nat
 fl:Nat
 ln:Nat
 rd:List Nat
 g:Gs
def oe (x:Sg×DV):List Value:=[.int .i64 x.1.f,.int .i64 x.1.t,.int .i64 x.1.fl,.int .i64 x.1.at_,.slice x.2.A x.2.n x.2.c,.int .i64 x.2.r]
theorem iQE (x:Sg×DV):(oe x).length=6:=rfl
def cR (l:List Sg)(L:List DV):List Value:=(l.zip L).flatMap oe
abbrev lP (p:RP)(m:RM)(v:RV):List Value:=[.slice p.NA p.nn p.nc,.slice p.FA p.nf p.cf,.map (some p.nq),.map (some p.q),.int .i64 v.d,m.pa,.slice m.BA v.g.tx.length m.bc,.slice m.OA v.g.sg.length m.oc,.bool v.g.fr,.int .i64 v.fl,.int .i64 v.ln]
def RS (p:RP)(m:RM):Nat->Prop:=λk=>k=p.r∨k=p.q∨Ql m.OA k∨Ql m.BA k
def TS (p:RP)(m:RM):Nat->Prop:=λk=>RS p m k∨m.T k
structure Rr (w0 w:World) (base:Nat) (p:RP) (m:RM) (v:RV):Prop where
 e0:Ext w0 w
 lor:w0.heap.size<=p.r
 loq:w0.heap.size<=p.q
 rb:p.r<base
 qb:p.q<base
 ne:p.r≠p.q
 top:base<=w.heap.size
 pa:m.pa= .pointer none∨m.pa= .pointer (some (J5 p.r 5))
 blk:Blk w p.r 157 (lP p m v)
 txt:Own w base 5 1 m.BA v.g.tx.length m.bc (Vs v.g.tx)
 out:Own w base 48 6 m.OA v.g.sg.length m.oc (cR v.g.sg m.L)
 len:m.L.length=v.g.sg.length
 dgs:∀(j:Nat) (s:Sg) (x:DV),v.g.sg[j]? =some s->m.L[j]? =some x->DgO w (TS p m) p.nm.length x s.o
 rdm:∃mp,MapAt bq w p.q mp/\(mp.map (·.1)).Nodup/\∀n:Nat,XC (n:Int) mp=if n∈v.rd then some (.bool true)else none
 tl:v.g.tx.length<=1048576
 sl:v.g.sg.length<=65536
 b8:∀x∈v.g.tx,x<256
 nf:v.g.fr=false->v.g.sg≠ []∨v.rd=[]
 tt:∀i,m.T i->i<w.heap.size
section
variable {w0 w w':World} {base:Nat} {p:RP} {m:RM} {v:RV}
theorem Rr.lo (h:Rr w0 w base p m v):∀i,RS p m i->w0.heap.size<=i:=λi hi=>by
 have:=h.lor;have:=h.loq;have:=h.rb;rcases hi with rfl | rfl | hi | hi
 ·assumption
 ·assumption
 ·have:=(h.out.rows i hi).1;omega
 ·have:=(h.txt.rows i hi).1;omega
theorem Rr.hi (h:Rr w0 w base p m v):∀i,RS p m i->i<w.heap.size:=λi hi=>by
 have:=h.rb;have:=h.qb;have:=h.top;rcases hi with rfl | rfl | hi | hi
 ·omega
 ·omega
 ·exact(h.out.rows i hi).2
 ·exact(h.txt.rows i hi).2
theorem Rr.ext (h:Rr w0 w base p m v)(k:Ext w w'):Rr w0 w' base p m v:=
 ⟨h.e0.trans k,h.lor,h.loq,h.rb,h.qb,h.ne,X4 h.top k.size,h.pa,h.blk.ext k,h.txt.ext k,h.out.ext k,h.len,λj s x h1 h2=>(h.dgs j s x h1 h2).ext k,let ⟨mp,h1,h2⟩:=h.rdm;⟨mp,h1.ext k,h2⟩,h.tl,h.sl,h.b8,h.nf,λi hi=>Ye (h.tt i hi) k.size⟩
theorem RS.moved {m':RM}(h1:Moved w m.OA m'.OA)(h2:Moved w m.BA m'.BA):∀k,RS p m' k->RS p m k∨w.heap.size<=k:=by
 rintro k (rfl | rfl | hk | hk)
 ·exact .inl (.inl rfl)
 ·exact .inl (.inr (.inl rfl))
 ·rcases h1.rows k hk with h | h
  ·exact .inl (.inr (.inr (.inl h)))
  ·exact .inr h
 ·rcases h2.rows k hk with h | h
  ·exact .inl (.inr (.inr (.inr h)))
  ·exact .inr h
theorem TS.moved {m':RM}(hT:m'.T=m.T)(h1:Moved w m.OA m'.OA)(h2:Moved w m.BA m'.BA):∀k,TS p m' k->TS p m k∨w.heap.size<=k:=by
 rintro k (hk | hk)
 ·rcases RS.moved (p:=p) h1 h2 k hk with h | h
  ·exact .inl (.inl h)
  ·exact .inr h
 ·exact .inl (.inr (by rw[<-hT];exact hk))
theorem Rr.hiT (h:Rr w0 w base p m v):∀i,TS p m i->i<w.heap.size:=λi hi=>hi.elim (h.hi i) (h.tt i)
theorem Rr.nrow (h:Rr w0 w base p m v):¬Ql m.OA p.r/\¬Ql m.BA p.r:=by
 have:=h.rb;exact⟨λhi=>by have:=(h.out.rows _ hi).1;omega,λhi=>by have:=(h.txt.rows _ hi).1;omega⟩
theorem Rr.put (h:Rr w0 w base p m v){v':RV}(hm:Mod (·=p.r) w w')(hB:Blk w' p.r 157 (lP p m v'))(h1:v'.g.tx=v.g.tx)(h2:v'.g.sg=v.g.sg)(h3:v'.rd=v.rd)(h4:v'.g.fr=false->v'.g.sg≠ []∨v'.rd=[]):Rr w0 w' base p m v':=by
 have hE:=hm.ext h.e0 (λi hi=>by subst hi;exact h.lor);refine⟨hE,h.lor,h.loq,h.rb,h.qb,h.ne,X4 h.top hm.size,h.pa,hB,?_,?_,by rw[h2];exact h.len,λj s x hs hx=>?_,?_,by rw[h1];exact h.tl,by rw[h2];exact h.sl,by rw[h1];exact h.b8,h4,λi hi=>Ye (h.tt i hi) hm.size⟩
 ·rw[h1];exact h.txt.mod hm (λi hi e=>by subst e;exact h.nrow.2 hi)
 ·rw[h2];exact h.out.mod hm (λi hi e=>by subst e;exact h.nrow.1 hi)
 ·rw[h2] at hs;exact(h.dgs j s x hs hx).keep hm (λi hi=>.inl (.inl (.inl hi)))
 ·obtain⟨mp,k1,k2⟩:=h.rdm;rw[h3];exact⟨mp,k1.mod hm (λe=>h.ne e.symm),k2⟩
end
def HX (w0 w:World)(base:Nat)(p:RP)(m:RM)(v:RV)(w':World):Prop:=∃m',m'.T=m.T/\Rr w0 w' base p m' v/\Mod (RS p m) w w'/\Moved w m.OA m'.OA/\Moved w m.BA m'.BA
def gz (e f l:Int):List PanicEntry:=[{v:=.iface 160 (.agg #[.int .i64 e,.int .i64 f,.int .i64 l]),recovered:=false}]
section
variable {w0:World} {base:Nat} {p:RP} {m:RM} {v:RV}
theorem aH (e:Int)(w:World)(h:Rr w0 w base p m v):
  FnP Tryz.prog 148 [.pointer (some ⟨p.r,0,none⟩),.int .i64 e] w (λ_ _=>False) (λch w'=>ch=gz e v.fl v.ln/\Ext w w'):=by
 refine bi (c:={fQf with cuts:=[]}) Qa Tryz.func148 rfl rfl rfl ?_;have hB:=h.blk;refine qy Qa 12 (by kernel_rfl) ?_;refine QQ (v:=.int .i64 v.fl) (λw' Qb=>by subst Qb;rw[(hB.ext (Ext.drew w)).cell];rfl) ?_;refine QQ (v:=.int .i64 v.ln) (λw' Qb=>by subst Qb;rw[(hB.ext (Ext.drew w)).cell];rfl) ?_;exact qH rfl rfl ⟨rfl,Ext.drew w⟩
theorem CE (x:DV)(w:World):Fn Tryz.prog 202 [.pointer (some ⟨p.r,0,none⟩),Xl x.A x.n x.c x.r,.int .i64 0] w (λu w'=>u=Xl x.A x.n x.c x.r/\Ext w w'):=by
 refine QH (c:={fQM with cuts:=[]}) Qa Tryz.func202 rfl rfl rfl ?_;refine new (λw1 Qd Q9 Qh=>?_);refine new (λw2 Qg Zi Qv=>?_);refine YU rfl ?_;refine Qt (Qh.ext Qg) rfl ?_;refine Qw Qv rfl (sc rfl) (λw3 Je _ Qu=>?_);have Qi:Ext w1 w3:=XV Qg Qv Je;refine Qt Qu rfl ?_;exact⟨rfl,Qd.trans Qi⟩
def Ua (w:World)(k:Nat)(o:BF)(u:Value)(w':World):Prop:=∃x:DV,u=Xl x.A x.n x.c x.r/\Ext w w'/\SB w' x.A x.n x.c x.nd/\Set1 k x.nd x.r o/\∀i,Ql x.A i->w.heap.size<=i
theorem Ub (s:List Nat)(w:World)(hP:RPok w0 p)(h:Rr w0 w base p m v)(h8:∀x∈s,x<256)(hl:s.length<=1000000000000):
  FnP Tryz.prog 144 [.pointer (some ⟨p.r,0,none⟩),.string (Qf s)] w (λu w'=>∃o,VQ p.nm s= .ok o/\Ua w p.nm.length o u w') (λch w'=>∃e,VQ p.nm s= .error e/\ch=gz e v.fl v.ln/\Ext w w'):=by
 refine bi (c:={fQb with cuts:=[]}) Qa Tryz.func144 rfl rfl rfl ?_;refine new (λw1 Qd Q9 Qh=>?_);refine Qy (h.blk.ext Qd) rfl ?_;refine call (Ss p.nm p.NA p.nn p.nc s w1 ((hP.nms.ext h.e0).ext Qd) hP.nmb h8 hl) ?_;rw[hQV];have jx:VQ p.nm s=match eY p.nm s with
  | .ok t=>.ok (evF t)
  | .error e=>.error (if e=2 then 2 else 71):=rfl
 cases fM:eY p.nm s with
 | ok t=>
  rw[fM] at jx;obtain⟨k1,k2,k3⟩:=hQW fM;rintro _ w2 ⟨G,mg,cG,rfl,Qg,hG⟩;have hk:=hP.nmk;refine J2 rfl ?_;refine call (iQd G mg cG _ p.nm.length hk w2 hG (Tt (k2.mono (by omega)) k3) (uy t _ 0 k2)) ?_;rintro _ w3 ⟨D,md,cD,nd,r,rfl,Qi,hD,hS,hR⟩;rw[Hy] at hS;refine call (CE ⟨D,md,cD,nd,r⟩ w3) ?_;rintro _ w4 ⟨rfl,Qs⟩;have JP:=(Qg.trans Qi).trans Qs;refine Qw (Qh.ext JP) rfl (sc rfl) (λw5 Js _ QB=>?_);have Jn:Mod (·=w.heap.size) w4 w5:=qQT Js rfl;refine Qt QB rfl ?_;have Zi:=Qg.size;exact⟨_,jx,⟨D,md,cD,nd,r⟩,rfl,Jn.ext (Qd.trans JP) (λi hi=>by omega),SB.mod (hD.ext Qs) Jn (λi hi e=>by have:=hR i hi;omega),hS,λi hi=>by have:=hR i hi;omega⟩
 | error e=>
  rw[fM] at jx;rintro _ w2 ⟨G,mg,cG,rfl,Qg,hG⟩;have Xm:=Qd.trans Qg;have h2:=h.ext Xm;rcases hQX fM with rfl | rfl | rfl | rfl
  ·refine XG (by decide) ?_;refine XG (by decide) ?_;refine XP (aH 71 w2 h2) (λ_ _ hf=>hf.elim) ?_;rintro ch w3 ⟨rfl,Qi⟩;exact⟨_,jx,rfl,Xm.trans Qi⟩
  ·refine XG (by decide) ?_;refine J2 rfl ?_;refine XP (aH 2 w2 h2) (λ_ _ hf=>hf.elim) ?_;rintro ch w3 ⟨rfl,Qi⟩;exact⟨_,jx,rfl,Xm.trans Qi⟩
  ·refine XG (by decide) ?_;refine XG (by decide) ?_;refine XP (aH 71 w2 h2) (λ_ _ hf=>hf.elim) ?_;rintro ch w3 ⟨rfl,Qi⟩;exact⟨_,jx,rfl,Xm.trans Qi⟩
  ·refine XG (by decide) ?_;refine XG (by decide) ?_;refine XP (aH 71 w2 h2) (λ_ _ hf=>hf.elim) ?_;rintro ch w3 ⟨rfl,Qi⟩;exact⟨_,jx,rfl,Xm.trans Qi⟩
theorem Uc (k:Nat)(hk:k<=12)(x y:DV)(o o':BF)(w:World)(hx:SB w x.A x.n x.c x.nd)(hxs:Set1 k x.nd x.r o)(hy:SB w y.A y.n y.c y.nd)(gS:Set1 k y.nd y.r o'):
  Fn Tryz.prog 146 [.pointer (some ⟨p.r,0,none⟩),Xl x.A x.n x.c x.r,Xl y.A y.n y.c y.r] w (λu w'=>∃a b:DV,u= .tuple #[Xl a.A a.n a.c a.r,Xl b.A b.n b.c b.r]/\Ext w w'/\SB w' a.A a.n a.c a.nd/\Set1 k a.nd a.r (ZD o o')/\(∀i,Ql a.A i->w.heap.size<=i)/\SB w' b.A b.n b.c b.nd/\Set1 k b.nd b.r (JI o o')/\∀i,Ql b.A i->w.heap.size<=i):=by
 refine QH (c:={fQd with cuts:=[]}) Qa Tryz.func146 rfl rfl rfl ?_;refine new (λw1 Qd Q9 Qh=>?_);refine new (λw2 Qg Zi Qv=>?_);refine new (λw3 Qi JD Qu=>?_);refine new (λw4 Qs KW QX=>?_);have Va:=Qi.trans Qs;have ZE:=Qg.trans Va;have Xr:=Qd.trans ZE;refine Qt (Qh.ext ZE) rfl ?_;refine Qt (Qv.ext Va) rfl ?_;have hx4:=hx.ext Xr;have Mt:=hy.ext Xr;refine call (xF x.A x.n x.c x.nd x.r y.A y.n y.c y.nd y.r w4 hx4 Mt) ?_;rw[iC hk hxs gS 0];have c1:Set1 k _ _ (ZD o o'):=(eX hxs gS 0).congr (λe=>by simp[Kt]);generalize V4 x.nd x.r y.nd y.r 0=D at*;obtain⟨D1,D2⟩:=D;rintro _ w5 ⟨PA,pn,pc,rfl,Qx,rR,bE⟩;refine call (CE ⟨PA,pn,pc,D1,D2⟩ w5) ?_;rintro _ w6 ⟨rfl,QN⟩;have XK:=Qx.trans QN;refine Qw ((Qu.ext Qs).ext XK) rfl (sc rfl) (λw7 Zs _ Q8=>?_);have Xb:Mod (·=w2.heap.size) w6 w7:=qQT Zs rfl;have XS:=Xr.trans XK;have VV:Ext w w7:=Xb.ext XS (λi hi=>by omega);have n12:¬w.heap.size=w2.heap.size:=by omega
 have DP:¬w1.heap.size=w2.heap.size:=by omega
 have pj:=((Qh.ext ZE).ext XK).mod Xb n12;have mQ6:=((Qv.ext Va).ext XK).mod Xb DP;have mQ7:=(QX.ext XK).mod Xb (by show¬w3.heap.size=w2.heap.size;omega);have mG:=SB.mod (rR.ext QN) Xb (λi hi e=>by have:=bE i hi;omega);refine XL Qa (Ext w7) 12 [(true,0),(true,1),(true,2),(true,3),(false,4),(true,5),(true,6),(false,7),(false,8),(true,9),(true,10),(false,11)] (by kernel_rfl) (Ext.drew w7) ?_;refine Xo (vs:=x.cells) rfl (λw' Qb j u hj=>by rw[(pj.ext Qb).cell];exact hj) ?_;refine Xo (vs:=y.cells) rfl (λw' Qb j u hj=>by rw[(mQ6.ext Qb).cell];exact hj) ?_;have hd:=Ext.drew w7;refine call (HJ y.A y.n y.c y.nd y.r _ ((hy.ext VV).ext hd)) ?_;have c0:Set1 k [] 0 (λ_=>false):=bT k false;rw[iC hk gS c0 3];have c2:Set1 k _ _ (λe=> !o' e):=(eX gS c0 3).congr (λe=>by simp[Kt]);generalize V4 y.nd y.r [] 0 3=F at*;obtain⟨F1,F2⟩:=F;rintro _ w8 ⟨QA,qn,qc,rfl,Xp,hQ8,vq⟩;refine⟨hd.trans Xp,?_⟩;refine call (CE ⟨QA,qn,qc,F1,F2⟩ w8) ?_;rintro _ w9 ⟨rfl,XE⟩;have VW:=(hd.trans Xp).trans XE;refine⟨VW,?_⟩;refine call (xF x.A x.n x.c x.nd x.r QA qn qc F1 F2 w9 ((hx.ext VV).ext VW) (hQ8.ext XE)) ?_;rw[iC hk hxs c2 0];have c3:Set1 k _ _ (JI o o'):=(eX hxs c2 0).congr (λe=>by simp[Kt]);generalize V4 x.nd x.r F1 F2 0=G at*;obtain⟨G1,G2⟩:=G;rintro _ QK ⟨RA,rn,rc,rfl,Zx,mQ8,yQ⟩;refine⟨VW.trans Zx,?_⟩;refine call (CE ⟨RA,rn,rc,G1,G2⟩ QK) ?_;rintro _ QJ ⟨rfl,Z2⟩;have i7:=(VW.trans Zx).trans Z2;refine⟨i7,?_⟩;refine Qw (mQ7.ext i7) rfl (sc rfl) (λXa rS _ K8=>?_);have VU:Mod (·=w3.heap.size) QJ Xa:=qQT rS rfl;have rT:Ext w Xa:=VU.ext (VV.trans i7) (λi hi=>by omega);have cQa:=(Q8.ext i7).mod VU (by show¬w2.heap.size=w3.heap.size;omega);have WJ:=VV.size;have fy:=VW.size;have cQb:=VU.size;have pQK:=i7.size;have bQ9:=XK.size;have pQL:=Xb.size;have mQ9:=SB.mod (mG.ext i7) VU (λi hi e=>by have:=bE i hi;omega);have LN:=SB.mod (mQ8.ext Z2) VU (λi hi e=>by have:=yQ i hi;omega);have mH:=Ext.drew Xa;have n23:¬w3.heap.size=w2.heap.size:=by omega
 refine XL Qa (λw'=>Mod (λi=>i=w2.heap.size∨i=w3.heap.size) Xa w'/\Blk w' w2.heap.size 32 (⟨PA,pn,pc,D1,D2⟩:DV).cells/\Blk w' w3.heap.size 32 (⟨RA,rn,rc,G1,G2⟩:DV).cells) 4 [(true,0),(true,1),(false,2),(false,3)] (by kernel_rfl) ⟨Mod.of_ext _ mH,cQa.ext mH,K8.ext mH⟩ ?_;refine Xo (vs:=(⟨PA,pn,pc,D1,D2⟩:DV).cells) rfl (λw' Qb j u hj=>by rw[Qb.2.1.cell];exact hj) ?_;refine Xo (vs:=(⟨RA,rn,rc,G1,G2⟩:DV).cells) rfl (λw' Qb j u hj=>by rw[Qb.2.2.cell];exact hj) ?_;refine Qw (cQa.ext mH) rfl (sc rfl) (λX1 yR _ Vm=>?_);have Ky:Mod (·=w2.heap.size) Xa.drew X1:=qQT yR rfl;have cQc:Mod (λi=>i=w2.heap.size∨i=w3.heap.size) Xa X1:=(Mod.of_ext _ mH).trans Ky (λi hi=>.inl (.inl hi));have cQd:=(K8.ext mH).mod Ky n23;refine⟨⟨cQc,Vm,cQd⟩,?_⟩;refine Qw cQd rfl (sc rfl) (λZm fw _ Kc=>?_);have K9:Mod (·=w3.heap.size) X1 Zm:=qQT fw rfl;have cQe:=Vm.mod K9 (λe=>n23 e.symm);have pf:=cQc.trans K9 (λi hi=>.inl (.inr hi));refine⟨⟨pf,cQe,Kc⟩,?_⟩;refine Qt cQe rfl ?_;refine Qt Kc rfl ?_;have DQ:Ext w Zm:=pf.ext rT (λi hi=>by rcases hi with rfl | rfl<;>omega);exact⟨⟨PA,pn,pc,D1,D2⟩,⟨RA,rn,rc,G1,G2⟩,rfl,DQ,SB.mod mQ9 pf (λi hi e=>by have:=bE i hi;omega),c1,λi hi=>by have:=bE i hi;have:=Xr.size;omega,
  SB.mod LN pf (λi hi e=>by have:=yQ i hi;omega),c3,λi hi=>by have:=yQ i hi;omega⟩
theorem Ud (w:World)(h:Rr w0 w base p m v)(hd:v.d<=64):
  FnP Tryz.prog 145 [.pointer (some ⟨p.r,0,none⟩)] w (λ_ w'=>v.d≠64/\Rr w0 w' base p m {v with d:=v.d+1}/\Mod (·=p.r) w w') (λch w'=>v.d=64/\ch=gz 2 v.fl v.ln/\Ext w w'):=by
 refine bi (c:={fQc with cuts:=[]}) Qa Tryz.func145 rfl rfl rfl ?_;refine Qp h.blk rfl ?_;refine Zd (λh1=>?_) (λh1=>?_)
 ·refine XP (aH 2 w h) (λ_ _ hf=>hf.elim) ?_;rintro ch w1 ⟨rfl,Qd⟩;exact⟨by omega,rfl,Qd⟩
 ·refine Qp h.blk rfl ?_;refine Qj ((v.d+1:Nat):Int) (by show((v.d:Nat):Int)+1=_;omega) (by omega) ?_;refine XQ h.blk (show 4<11 by decide) (λw1 fm Qh=>?_);exact⟨λe=>h1 (by omega),h.put fm Qh rfl rfl rfl h.nf,fm⟩
theorem iQF (ix:List Nat->Option Nat)(rd s:List Nat):cO ix rd s=if s.length<2∨s.head? ≠some 34∨s.getLast? ≠some 34∨s.count 34≠2 then .error 71 else match ix ((s.drop 1).take (s.length-2))with
  | none=>.error 73
  | some n=>if n∈rd then .error 73 else .ok n:=rfl
theorem CF {ix:List Nat->Option Nat}{rd s:List Nat}(h:s.length<2∨s.head? ≠some 34∨s.getLast? ≠some 34∨s.count 34≠2):cO ix rd s= .error 71:=Qe h
theorem iQG {p:RP}(hP:RPok w0 p):KG (p.fs.map (·.1)):=λs hs=>by
 obtain⟨x,hx,rfl⟩:=ZG.1 hs;exact⟨(hP.flb x hx).n8,(hP.flb x hx).nl⟩
theorem iQH {α:Type} [DecidableEq α]{kv:α->Value}{c:Cx}{o:Oper}{S:Env}{t ke e:Nat}{r rk re:TyRow}{x y:Operand}{q:Nat}{mm:List (α×Value)}{a:α}{C:World->Prop}{K:Env->Prop}(hg:c.g.Ok)(ho:o.op= .lookup t x y true)(hr:QU c.g.tys t=some r)(hd:r.d= .map ke e)(bH:QU c.g.tys ke=some rk)(X8:QU c.g.tys e=some re)(hk:KeyV rk.d kv)
  (hx:S.ev x=some (.map (some q))) (hy:S.ev y=some (kv a)) (hm:∀w,C w->MapAt kv w q mm) {v':Value} {b:Bool} (hv:(XC a mm).getD re.z=v') (hb:(XC a mm).isSome=b) (k:Xh c S o.dst (.v (.tuple #[v',.bool b])) K):cH c o S C K:=by
 subst hv hb;refine eQu (v:=.tuple #[(XC a mm).getD re.z,.bool (XC a mm).isSome]) (λb w hf hw=>?_) k;have e1:=hf.ev hx;have e2:=hf.ev hy;have:=GP (w:=w) (a:=a) hg hr hd bH X8 hk (hm w hw) true;simp only[execOp,ho,e1,e2];simp only[Sem.run_bind,this,Result.andThen_ok];cases XC a mm<;>simp
theorem iQI (s:List Nat)(w:World)(hP:RPok w0 p)(h:Rr w0 w base p m v)(h8:∀x∈s,x<256)(hl:s.length<=1000000000000):
  FnP Tryz.prog 147 [.pointer (some ⟨p.r,0,none⟩),.string (Qf s)] w (λu w'=>∃n:Nat,cO (Jj (p.fs.map (·.1))) v.rd s= .ok n/\u= .int .i64 n/\Ext w w') (λch w'=>∃e,cO (Jj (p.fs.map (·.1))) v.rd s= .error e/\ch=gz e v.fl v.ln/\Ext w w'):=by
 refine bi (c:={fQe with cuts:=[]}) Qa Tryz.func147 rfl rfl rfl ?_;have X7:=Xi s;have cw:=WB h8;refine Qz (λh1=>?_) (λh1=>?_)
 ·have hs:s.length<2:=by rw[X7] at h1;omega
  refine XP (aH 71 w h) (λ_ _ hf=>hf.elim) ?_;rintro ch w1 ⟨rfl,Qd⟩;exact⟨_,CF (.inl hs),rfl,Qd⟩
 have hs:¬s.length<2:=by rw[X7] at h1;omega
 refine dL (j:=0) (by omega) (λx hx gU=>?_);rw[cw] at hx;have dQr:s.head? =some x:=by rw[List.head?_eq_getElem?];exact hx
 refine YE (λh2=>?_) (λh2=>?_)
 ·refine XP (aH 71 w h) (λ_ _ hf=>hf.elim) ?_;rintro ch w1 ⟨rfl,Qd⟩;exact⟨_,CF (.inr (.inl (by rw[dQr];intro e;cases e;exact h2 rfl))),rfl,Qd⟩
 have nQa:x=34:=by omega
 refine Qj ((s.length-1:Nat):Int) (by rw[X7];omega) (by omega) ?_;refine dL (j:=s.length-1) (by omega) (λy hy hyl=>?_);rw[cw] at hy;have pR:s.getLast? =some y:=by rw[tz];exact hy
 refine YE (λh3=>?_) (λh3=>?_)
 ·refine XP (aH 71 w h) (λ_ _ hf=>hf.elim) ?_;rintro ch w1 ⟨rfl,Qd⟩;exact⟨_,CF (.inr (.inr (.inl (by rw[pR];intro e;cases e;exact h3 rfl)))),rfl,Qd⟩
 have nQb:y=34:=by omega
 refine call (TY s 34 w h8 (by decide)) ?_;rintro _ _ ⟨rfl,rfl⟩;refine YE (λh4=>?_) (λh4=>?_)
 ·refine XP (aH 71 w h) (λ_ _ hf=>hf.elim) ?_;rintro ch w1 ⟨rfl,Qd⟩;exact⟨_,CF (.inr (.inr (.inr (by omega)))),rfl,Qd⟩
 have hcond:¬(s.length<2∨s.head? ≠some 34∨s.getLast? ≠some 34∨s.count 34≠2):=by
  rintro(h | h | h | h)
  ·exact hs h
  ·rw[dQr,nQa] at h;exact h rfl
  ·rw[pR,nQb] at h;exact h rfl
  ·omega
 have jy:cO (Jj (p.fs.map (·.1))) v.rd s=match Jj (p.fs.map (·.1)) ((s.drop 1).take (s.length-2))with
  | none=>.error 73
  | some n=>if n∈v.rd then .error 73 else .ok n:=if_neg hcond
 have hn8:∀b∈(s.drop 1).take (s.length-2),b<256:=λb hb=>h8 b (au (bf hb))
 have am:=G8 (iQG hP) _ hn8;have hB:=h.blk;refine XL Qa (Ext w) 15 [(true,0),(true,1),(true,2),(true,3),(true,4),(true,5),(true,6),(true,7),(true,8),(true,9),(true,10),(true,11),(true,12),(true,13),(true,14)] (by kernel_rfl) (Ext.drew w) ?_;refine QQ (v:=.map (some p.nq)) (λw' Qb=>by rw[(hB.ext Qb).cell];rfl) ?_;refine Qj ((s.length-1:Nat):Int) (by rw[X7];omega) (by omega) ?_;refine XM (v':=.string (Qf ((s.drop 1).take (s.length-2)))) ⟨by omega,by omega,by rw[X7];omega⟩ ?_ ?_
 ·rw[VN];simp only[io,Int.toNat_one];rw[jF];congr 3
 generalize zT:(s.drop 1).take (s.length-2)=nm at*;refine iQH (kv:=Yh) (a:=Qf nm) (v':=.int .i64 ((Jj (p.fs.map (·.1)) nm).getD 0:Nat)) (b:=(Jj (p.fs.map (·.1)) nm).isSome) Qa rfl rfl rfl rfl rfl qQU rfl rfl (λw' Qb=>(hP.nqm.ext h.e0).ext Qb) (by rw[am];cases Jj (p.fs.map (·.1)) nm<;>rfl) (by rw[am];cases Jj (p.fs.map (·.1)) nm<;>rfl) ?_;have Qd:=Ext.drew w;have ve:=h.ext Qd;obtain⟨mp,k1,k2,k3⟩:=ve.rdm;cases KF:Jj (p.fs.map (·.1)) nm with
 | none=>
  rw[KF] at jy;refine Xc rfl ?_;refine XP (aH 73 _ ve) (λ_ _ hf=>hf.elim) ?_;rintro ch w1 ⟨rfl,Qg⟩;exact⟨_,jy,rfl,Qd.trans Qg⟩
 | some n=>
  rw[KF] at jy;simp only at jy;refine Q7 rfl ?_;refine Qp ve.blk rfl ?_;refine He (kv:=bq) (a:=(n:Int)) (v:=.bool (decide (n∈v.rd))) Qa rfl rfl rfl rfl rfl (KeyV.int .i64) rfl rfl k1 (by rw[k3 n];by_cases hm:n∈v.rd<;>simp[hm]) ?_;by_cases hm:n∈v.rd
  ·rw[Qe hm] at jy;refine Zq hm ?_;refine XP (aH 73 _ ve) (λ_ _ hf=>hf.elim) ?_;rintro ch w1 ⟨rfl,Qg⟩;exact⟨_,jy,rfl,Qd.trans Qg⟩
  ·rw[if_neg hm] at jy;refine XF hm ?_;exact⟨n,jy,rfl,Qd⟩
end
end
section
theorem iQJ {α:Type}{f:α->List Value}(hf:∀x,∀u∈f x,JF u=true)(l:List α):∀u∈l.flatMap f,JF u=true:=λu hu=>by
 obtain⟨x,_,hx⟩:=cB.1 hu;exact hf x u hx
theorem iQK (x:Br):∀u∈x.cells,JF u=true:=sc rfl
theorem iQL (k:Nat)(hk:k<=12)(x:DV)(o:BF)(w:World)(hx:SB w x.A x.n x.c x.nd)(hs:Set1 k x.nd x.r o):
  Fn Tryz.prog 206 [Xl x.A x.n x.c x.r] w (Ua w k o):=by
 have Q0:=hx.2;have hl:=hs.len hk;refine QH (c:={fQP with cuts:=[]}) Qa Tryz.func206 rfl rfl rfl ?_;refine new (λw1 Qd Q9 Qh=>?_);refine new (λw2 Qg Zi Qv=>?_);have QR:=Qd.trans Qg;have K8:=Qh.ext Qg;refine XL Qa (Ext w2) 6 [(true,0),(true,1),(true,3),(true,4),(false,2),(true,5)] (by kernel_rfl) (Ext.drew w2) ?_;refine QQ (v:=.slice x.A x.n x.c) (λw' Qb=>by rw[(K8.ext Qb).cell];rfl) ?_;refine QQ (v:=.int .i64 x.r) (λw' Qb=>by rw[(K8.ext Qb).cell];rfl) ?_;have hd:=Ext.drew w2;have hz:=hd.size;refine JH (base:=w2.drew.heap.size) Qa rfl rfl rfl rfl rfl (by decide) rfl rfl ⟨_,rfl⟩ rfl rfl (Own.nil _ _ _ _) ((hx.ext QR).ext hd).1 (iQJ iQK _) (by unfold maxLen;omega) (by show(0+x.n)*24<=_;omega) (QC _) ?_;intro A' c' w3 XD oV Dz;have Ya:Ext w2 w3:=XD.ext hd (λi hi=>by obtain⟨_,e,_⟩:=hi;cases e);refine⟨Ya,?_⟩;refine Qw (Qv.ext Ya) rfl (sc rfl) (λw4 W8 _ QX=>?_);have KV:Mod (·=w1.heap.size) w3 w4:=qQT W8 rfl;refine Qt QX rfl ?_;have kH:∀i,Ql A' i->w2.heap.size<=i:=λi hi=>by have:=(oV.rows i hi).1;omega
 refine⟨⟨A',0+x.n,c',x.nd,x.r⟩,rfl,KV.ext (QR.trans Ya) (λi hi=>by omega),?_,hs,λi hi=>by have:=kH i hi;have:=QR.size;omega⟩;refine SB.mod ⟨?_,by show x.nd.length=0+x.n;omega⟩ KV (λi hi e=>by have:=kH i hi;omega);simpa using oV.sl
theorem HY {l:List Sg}{L:List DV}(h:L.length=l.length)(s:Sg)(x:DV):cR (l++ [s]) (L++ [x])=cR l L++oe (s,x):=by
 unfold cR;rw[List.zip_append h.symm];simp
theorem Ue {l:List Sg}{L:List DV}(h:L.length=l.length):(cR l L).length=l.length*6:=by
 unfold cR;rw[dN iQE];simp[h]
theorem iQM (x:Sg×DV):∀u∈oe x,JF u=true:=sc rfl
theorem HZ {w:World}{base e sz n c j:Nat}{a:Addr}{xs:List Value}{v:Value}{K:World->Prop}(h:Own w base e sz (some a) n c xs)(hn:0<n)(hj:j<n*sz)
  (k:∀w1,Mod (Ql (some a)) w w1->Own w1 base e sz (some a) n c (xs.set j v)->K w1):eP w (a.add j) v K:=by
 have _:=hn;have hr:=h.row;have Q0:=hr.1;rcases hr.2 with⟨hv,_⟩ | ⟨g,cap,ZK,hv,hb,hg,mV,dt,XO,sJ⟩
 ·cases hv
 ·cases hv;have hB:Blk w g e ZK.toList:=by unfold Blk;rw[hg]
  have hjc:j<ZK.toList.length:=by
   have:ZK.size=c*sz:=XO;have h2:n*sz<=c*sz:=Y8 _ mV;simp only[Array.length_toList];omega
  refine XQ hB hjc (λw1 hm Qh=>k w1 (hm.mono (λi hi=>.inl ⟨_,rfl,hi.symm⟩)) ⟨⟨by rw[gb];exact Q0,.inr ⟨g,c,(ZK.toList.set j v).toArray,rfl,hb,Qh,mV,dt,by simpa using XO,?_⟩⟩⟩);have ht:ZK.toList.take (n*sz)=xs:=sJ;show((ZK.toList.set j v).toArray.toList).take (n*sz)=xs.set j v;rw[<-ht];simp only[List.take_set]
theorem iQN {l:List Sg}{L:List DV}(h:L.length=l.length)(s:Sg)(x:DV)(t:Nat):(cR (l++ [s]) (L++ [x])).set (l.length*6+1) (.int .i64 t)=cR (l++ [{s with t:=t}]) (L++ [x]):=by
 rw[HY h,HY h,Bk _ _ (by rw[Ue h];omega),Ue h];congr 1;rw[show l.length*6+1-l.length*6=1 by omega]<;>rfl
theorem H0 {a b:List Nat}(ha:∀x∈a,x<256)(hb:∀x∈b,x<256):∀x∈a++b,x<256:=λx hx=>by
 rcases Xv.1 hx with h | h
 ·exact ha x h
 ·exact hb x h
section
variable {w0:World} {base:Nat} {p:RP}
theorem Uf {s:List Nat}{fl at_:Nat}{k:BF}{g:Gs}(h:1048576<g.tx.length+s.length∨(g.fr=true/\g.sg.length=65536)):Vi s fl at_ k g=none:=Qe h
theorem iQO {s:List Nat}{fl at_:Nat}{k:BF}{g:Gs}(h:¬(1048576<g.tx.length+s.length∨(g.fr=true/\g.sg.length=65536))):Vi s fl at_ k g=some ⟨g.tx++s,nY (g.tx.length+s.length) (if g.fr then g.sg++ [⟨g.tx.length,0,fl,at_,k⟩] else g.sg),false⟩:=if_neg h
theorem iQP:xG 157 11 5:=by unfold xG;kernel_rfl
theorem Rr.app {m:RM}{v v':RV}{w w1 w2:World}(h:Rr w0 w base p m v)(s:Sg)(x:DV){A':Option Addr}{c':Nat}(Zw:Mod (Ql m.OA) w w1)(ho:Own w1 base 48 6 A' (v.g.sg.length+1) c' (cR v.g.sg m.L++oe (s,x)))(hv:Moved w m.OA A')(XR:Mod (·=p.r) w1 w2)
  (hx:DgO w (TS p m) p.nm.length x s.o) (hl:v.g.sg.length<65536) (e1:v'.g.tx=v.g.tx) (e2:v'.g.sg=v.g.sg++ [s]) (e3:v'.rd=v.rd) (hB:Blk w2 p.r 157 (lP p {m with OA:=A',oc:=c',L:=m.L++ [x]} v')):Rr w0 w2 base p {m with OA:=A',oc:=c',L:=m.L++ [x]} v':=by
 have QE:=TS.moved (p:=p) (m:=m) (m':={m with OA:=A',oc:=c',L:=m.L++ [x]}) rfl hv (Moved.refl w m.BA);have ZP:Mod (RS p m) w w2:=(Zw.mono (S':=RS p m) (λi hi=>.inl (.inr (.inr (.inl hi))))).trans XR (λi hi=>.inl (.inl hi));have FB:∀i,Ql A' i->¬i=p.r:=λi hi e=>by subst e;have:=(ho.rows _ hi).1;have:=h.rb;omega
 have X7:=h.top;have Q9:=Zw.size;have Zi:=XR.size;refine⟨ZP.ext h.e0 h.lo,h.lor,h.loq,h.rb,h.qb,h.ne,by omega,h.pa,hB,?_,?_,?_,?_,?_,by rw[e1];exact h.tl,?_,by rw[e1];exact h.b8,λ_=>.inl (by rw[e2];simp),λi hi=>Ye (h.tt i hi) (by omega)⟩
 ·rw[e1];exact(h.txt.mod Zw (λi hi hj=>h.txt.apart h.out (by decide) hi hj)).mod XR (λi hi e=>by subst e;exact h.nrow.2 hi)
 ·rw[e2];have:=ho.mod XR FB;rw[HY h.len,Qq];exact this
 ·rw[e2];show(m.L++ [x]).length=_;rw[Qq,Qq,h.len]<;>rfl
 ·rw[e2];intro j s1 x1 cr fp;have fp:(m.L++ [x])[j]? =some x1:=fp;rcases qQ cr with⟨hj,cr⟩ | ⟨hj,cr⟩
  ·rw[eK (by rw[h.len];exact hj)] at fp;exact(h.dgs j s1 x1 cr fp).step (ZP.mono (λi hi=>.inl (.inl hi))) QE
  ·rw[WV (by rw[h.len];exact hj),h.len] at fp;obtain⟨h0,rfl⟩:=lH cr;obtain⟨_,rfl⟩:=lH fp;exact hx.step (ZP.mono (λi hi=>.inl (.inl hi))) QE
 ·obtain⟨mp,k1,k2⟩:=h.rdm;rw[e3];exact⟨mp,(k1.mod Zw (k1.apart h.out)).mod XR (λe=>h.ne e.symm),k2⟩
 ·rw[e2,Qq];simp;omega
theorem iQQ {l:List Sg}{L:List DV}(h:L.length=l.length)(hn:l≠ []):∃l' s L' x,l=l'++ [s]/\L=L'++ [x]/\L'.length=l'.length:=by
 rcases qf l with rfl | ⟨l',s,rfl⟩
 ·exact Xd rfl hn
 rcases qf L with rfl | ⟨L',x,rfl⟩
 ·simp at h
 ·exact⟨l',s,L',x,by simp,by simp,by simpa using h⟩
theorem add_fn (m:RM)(v:RV)(s:List Nat)(at_:Nat)(k:DV)(o:BF)(w:World)(hP:RPok w0 p)(h:Rr w0 w base p m v)(hk:DgO w (RS p m) p.nm.length k o)(h8:∀x∈s,x<256)(mX:s.length<=1048577)(oQX:v.rd≠ []):
  FnP Tryz.prog 150 [.pointer (some ⟨p.r,0,none⟩),.string (Qf s),.int .i64 at_,Xl k.A k.n k.c k.r] w (λ_ w'=>∃g',Vi s v.fl at_ o v.g=some g'/\HX w0 w base p m {v with g:=g'} w') (λch w'=>Vi s v.fl at_ o v.g=none/\ch=gz 2 v.fl v.ln/\Ext w w'):=by
 have sV:=Xi s;have Wv:=h.tl;have qQC:=h.sl;refine bi (c:={fQh with cuts:=[2,4]}) Qa Tryz.func150 rfl rfl rfl ?_;refine new (λw1 Qd Q9 Qh=>?_);have h1:=h.ext Qd;refine call (iQg p.r 157 5 (lP p m v) m.BA m.bc v.g.tx.length w1 h1.blk rfl) ?_;rintro _ _ ⟨rfl,rfl⟩;refine RD [] Qa (λw2=>w1=w2/\¬(1048576<v.g.tx.length+s.length∨(v.g.fr=true/\v.g.sg.length=65536))) ?_ ?_
 ·refine Qj ((v.g.tx.length+s.length:Nat):Int) (by rw[sV];omega) (by omega) ?_;refine Qz (λc1=>?_) (λc1=>?_)
  ·refine XP (aH 2 w1 h1) (λ_ _ hf=>hf.elim) ?_;rintro ch w2 ⟨rfl,Qg⟩;exact⟨Uf (.inl (by omega)),rfl,Qd.trans Qg⟩
  refine Qp h1.blk rfl ?_;refine YT (λf1=>?_) (λf1=>?_)
  ·refine Qp h1.blk rfl ?_;refine Zd (λc2=>?_) (λc2=>?_)
   ·refine XP (aH 2 w1 h1) (λ_ _ hf=>hf.elim) ?_;rintro ch w2 ⟨rfl,Qg⟩;exact⟨Uf (.inr ⟨f1,by omega⟩),rfl,Qd.trans Qg⟩
   ·exact⟨rfl,rfl,by omega⟩
  ·exact⟨rfl,rfl,by rw[f1];intro hh;rcases hh with hh | ⟨hh,_⟩;omega;cases hh⟩
 rintro _ ⟨rfl,sL⟩;have oQY:=iQO (s:=s) (fl:=v.fl) (at_:=at_) (k:=o) (g:=v.g) sL;refine RD [] Qa (HX w0 w1 base p m {v with g:=⟨v.g.tx,if v.g.fr then v.g.sg++ [⟨v.g.tx.length,0,v.fl,at_,o⟩] else v.g.sg,false⟩}) ?_ ?_
 ·refine Qp h1.blk rfl ?_;refine YT (λf1=>?_) (λf1=>?_)
  ·have f1:v.g.fr=true:=f1;have FH:v.g.sg.length<65536:=by
    rcases Nat.lt_or_ge v.g.sg.length 65536 with hh | hh
    ·exact hh
    ·exact Xd (Or.inr ⟨f1,by omega⟩) sL
   have mZ:=h.hi;have mY:¬RS p m w.heap.size:=λhh=>by have:=mZ _ hh;omega
   have nrow:=h.nrow;refine XL Qa (Mod (Ql m.OA) w1) 18 [(true,0),(true,1),(true,2),(true,3),(true,4),(true,5),(true,6),(true,7),(true,8),(true,9),(true,10),(true,11),(false,12),(true,13),(false,14),(false,15),(true,16),(true,17)] (by kernel_rfl) (Mod.of_ext _ (Ext.drew w1)) ?_;refine QQ (v:=.slice m.OA v.g.sg.length m.oc) (λw' Qb=>by rw[(h1.blk.mod Qb nrow.1).cell];rfl) ?_;refine QQ (v:=.int .i64 v.fl) (λw' Qb=>by rw[(h1.blk.mod Qb nrow.1).cell];rfl) ?_;refine Xo (vs:=k.cells) rfl (λw' Qb j u hj=>by rw[(Qh.mod Qb (λhh=>mY (.inr (.inr (.inl hh))))).cell];exact hj) ?_;have hd:=Ext.drew w1;have DR:=hk.ext Qd;refine call (iQL p.nm.length hP.nmk k o w1.drew (DR.sb.ext hd) DR.st) ?_;rintro _ w2 ⟨x,rfl,Qg,LE,hxs,FC⟩;have Xm:=hd.trans Qg;refine⟨Mod.of_ext _ Xm,?_⟩;refine Xw Qa [oe (⟨v.g.tx.length,0,v.fl,at_,o⟩,x)] rfl rfl rfl rfl rfl ⟨rfl,rfl,⟨⟩⟩ rfl (λcs hh=>by simp only[QL] at hh;subst hh;rfl) rfl (by decide) (by decide) ?_;intro w3 Qi JD Qu;have XI:=Xm.trans Qi;refine⟨Mod.of_ext _ XI,?_⟩;have h3:=h1.ext XI;have rN:Sl w3 6 (some ⟨w2.heap.size,0,none⟩) 1 1 (oe (⟨v.g.tx.length,0,v.fl,at_,o⟩,x)):=Sl.own (sz:=6) (n:=1) Qu (QC _) (by decide) (by simp[oe]);refine JH Qa rfl rfl rfl rfl rfl (by decide) rfl rfl ⟨_,rfl⟩ rfl rfl h3.out rN (iQM _) (by unfold maxLen;omega) (by show(v.g.sg.length+1)*64<=_;omega) h3.top ?_;intro A' c' w4 Zl LO cQf;refine⟨(Mod.of_ext (Ql m.OA) XI).trans Zl (λi hi=>.inl hi),?_⟩;refine XQ (h3.blk.mod Zl nrow.1) (show 7<11 by decide) (λw5 XT QB=>?_);refine XQ QB (show 8<11 by decide) (λw6 Vy Xg=>?_);have cQg:Mod (·=p.r) w4 w6:=XT.trans Vy (λi hi=>.inl hi);have nQc:=h1.hiT;have Ae:DgO w3 (TS p m) p.nm.length x o:=(DgO.new (S:=TS p m) LE hxs FC (λi hi=>by have:=nQc i hi;have:=hd.size;omega)).ext Qi;have hx3:DgO w3 (TS p m) p.nm.length x (⟨v.g.tx.length,0,v.fl,at_,o⟩:Sg).o:=Ae;rw[f1,Qe rfl];refine⟨rfl,⟨{m with OA:=A',oc:=c',L:=m.L++ [x]},rfl,h3.app ⟨v.g.tx.length,0,v.fl,at_,o⟩ x Zl LO cQf cQg hx3 FH rfl rfl rfl ?_,?_,cQf.back XI.size,Moved.refl _ _⟩⟩
   ·have e:(v.g.sg++ [(⟨v.g.tx.length,0,v.fl,at_,o⟩:Sg)]).length=v.g.sg.length+1:=by simp
    show Blk w6 p.r 157 [.slice p.NA p.nn p.nc,.slice p.FA p.nf p.cf,.map (some p.nq),.map (some p.q),.int .i64 v.d,m.pa,.slice m.BA v.g.tx.length m.bc,.slice A' (v.g.sg++ [(⟨v.g.tx.length,0,v.fl,at_,o⟩:Sg)]).length c',.bool false,.int .i64 v.fl,.int .i64 v.ln];rw[e];exact Xg
   ·exact((Mod.of_ext (RS p m) XI).trans Zl (λi hi=>.inl (.inr (.inr (.inl hi))))).trans cQg (λi hi=>.inl (.inl hi))
  ·have f1:v.g.fr=false:=f1;have e:({v with g:=⟨v.g.tx,if v.g.fr then v.g.sg++ [⟨v.g.tx.length,0,v.fl,at_,o⟩] else v.g.sg,false⟩}:RV)=v:=by
    obtain⟨d,fl,ln,rd,⟨tx,sg,fr⟩⟩:=v;simp only at f1;subst f1;rfl
   rw[e];exact⟨rfl,m,rfl,h1,Mod.refl _ _,Moved.refl _ _,Moved.refl _ _⟩
 rintro w2 ⟨m2,WM,h2,XR,Kl,Dy⟩;generalize pQM:(if v.g.fr then v.g.sg++ [(⟨v.g.tx.length,0,v.fl,at_,o⟩:Sg)] else v.g.sg)=Wp at*;have QO:Wp≠ []:=(h2.nf rfl).resolve_right oQX;have Ka:=h2.sl;simp only at Ka;obtain⟨l',s0,L',x0,e1,e2,e3⟩:=iQQ (l:=Wp) h2.len QO;have ki:0<Wp.length:=Gk.2 QO;obtain⟨oa,Kq,_⟩:=h2.out.sl.at_ ki;have Kq:m2.OA=some oa:=Kq;have oQZ:xG 157 (lP p m2 {v with g:=⟨v.g.tx,Wp,false⟩}).length 5:=by rw[show(lP p m2 {v with g:=⟨v.g.tx,Wp,false⟩}).length=11 from rfl];exact iQP
 refine call (iQf base p.r 157 5 m2.pa (lP p m2 {v with g:=⟨v.g.tx,Wp,false⟩}) m2.BA m2.bc v.g.tx (Qf s) w2 oQZ (show 6<11 by decide) h2.pa h2.blk rfl rfl h2.txt h2.rb h2.top (by rw[sV];omega)) ?_;rintro _ w3 ⟨B',b',Qu,yS,XD,aM⟩;rw[sV,WB h8] at yS;rw[sV] at Qu;have cQh:=h2.nrow;have cQi:Own w3 base 48 6 m2.OA Wp.length m2.oc (cR Wp m2.L):=h2.out.mod XD (λi hi hj=>by
  rcases hj with rfl | hj
  ·exact cQh.1 hi
  ·exact h2.out.apart h2.txt (by decide) hi hj)
 have hd:=Ext.drew w3;have cQj:=Qu.ext hd;refine qy Qa 16 (by kernel_rfl) ?_;refine QQ (v:=.slice m2.OA Wp.length m2.oc) (λw' Qb=>by subst Qb;rw[cQj.cell];rfl) ?_;refine QQ (v:=.slice m2.OA Wp.length m2.oc) (λw' Qb=>by subst Qb;rw[cQj.cell];rfl) ?_;refine Qj ((Wp.length-1:Nat):Int) (by omega) (by omega) ?_;refine Qj ((v.g.tx.length+s.length:Nat):Int) (by rw[sV];omega) (by omega) ?_;rw[Kq];refine J3 (j:=Wp.length-1) (by omega) ?_;have cQk:=cQi.ext hd;rw[Kq] at cQk;have ZL:Wp.length=l'.length+1:=by rw[e1];simp
 show eP _ ((oa.add ((Wp.length-1)*6)).add 1) _ _;rw[add_add];refine HZ cQk ki (by omega) (λw4 Zl Mu=>?_);have Xy:(cR Wp m2.L).set ((Wp.length-1)*6+1) (.int .i64 ((v.g.tx.length+s.length:Nat):Int))=cR (nY (v.g.tx.length+s.length) Wp) m2.L:=by
  have e:(l'++ [s0]).length-1=l'.length:=by simp
  rw[e1,e2,iD,e,iQN e3]
 rw[Xy] at Mu;have yT:(nY (v.g.tx.length+s.length) Wp).length=Wp.length:=by rw[e1,iD];simp
 have yU:Mod (Ql m2.OA) w3 w4:=by rw[Kq];exact(Mod.of_ext _ hd).trans Zl (λi hi=>.inl hi)
 have oQ0:∀i,Ql B' i->¬Ql m2.OA i:=λi hi hj=>cQi.apart yS (by decide) hj hi
 have hall:Mod (RS p m2) w2 w4:=(XD.mono (S':=RS p m2) (λi hi=>by
   rcases hi with rfl | hi
   ·exact .inl (.inl rfl)
   ·exact .inl (.inr (.inr (.inr hi))))).trans yU (λi hi=>.inl (.inr (.inr (.inl hi))))
 have JD:=XD.size;have KW:=yU.size;have pQN:=h2.top;refine⟨_,oQY,{m2 with BA:=B',bc:=b',pa:=.pointer (some (J5 p.r 5))},WM,⟨hall.ext h2.e0 h2.lo,h2.lor,h2.loq,h2.rb,h2.qb,h2.ne,by omega,.inr rfl,?_,?_,?_,?_,?_,?_,?_,?_,?_,λ_=>?_,λi hi=>Ye (h2.tt i hi) (by omega)⟩,?_,?_,?_⟩
 all_goals try simp only
 ·have e:(v.g.tx++s).length=v.g.tx.length+s.length:=by simp
  show Blk w4 p.r 157 [.slice p.NA p.nn p.nc,.slice p.FA p.nf p.cf,.map (some p.nq),.map (some p.q),.int .i64 v.d,.pointer (some (J5 p.r 5)),.slice B' (v.g.tx++s).length b',.slice m2.OA (nY (v.g.tx.length+s.length) Wp).length m2.oc,.bool false,.int .i64 v.fl,.int .i64 v.ln];rw[e,yT];exact Qu.mod yU cQh.1
 ·rw[Qq];exact yS.mod yU oQ0
 ·rw[yT];rw[<-Kq] at Mu;exact Mu
 ·rw[yT];exact h2.len
 ·intro j s1 x1 cr fp;have QE:=TS.moved (p:=p) (m:=m2) (m':={m2 with BA:=B',bc:=b',pa:=.pointer (some (J5 p.r 5))}) rfl (Moved.refl w2 m2.OA) aM;have key:∃s2,Wp[j]? =some s2/\s2.o=s1.o:=by
   rw[e1,iD] at cr;rw[e1];rcases qQ cr with⟨hj,cr⟩ | ⟨hj,cr⟩
   ·exact⟨s1,by rw[eK hj];exact cr,rfl⟩
   ·obtain⟨h0,rfl⟩:=lH cr;exact⟨s0,by rw[WV hj,h0];rfl,rfl⟩
  obtain⟨s2,mi,jx⟩:=key;rw[<-jx];exact(h2.dgs j s2 x1 mi fp).step (hall.mono (λi hi=>.inl (.inl hi))) QE
 ·obtain⟨mp,k1,k2⟩:=h2.rdm;refine⟨mp,(k1.mod XD (λhj=>?_)).mod yU (k1.apart h2.out),k2⟩;rcases hj with e | hj
  ·exact h2.ne e.symm
  ·exact k1.apart h2.txt hj
 ·rw[Qq];omega
 ·rw[yT];exact Ka
 ·exact H0 h.b8 h8
 ·exact .inl (by rw[<-Gk,yT];exact ki)
 ·exact(((Mod.of_ext (RS p m) Qd).trans XR (λi hi=>.inl hi)).trans hall (λi hi=>by
   rcases RS.moved (p:=p) Kl Dy i hi with hh | hh
   ·exact .inl hh
   ·exact .inr (by have:=Qd.size;omega)))
 ·exact Kl.back Qd.size
 ·exact(Dy.trans aM XR.size).back Qd.size
end
end
section
theorem Rr.modT {w0 w w':World}{base:Nat}{p:RP}{m:RM}{v:RV}{U T':Nat->Prop}(h:Rr w0 w base p m v)(hm:Mod U w w')(hU:∀i,U i->m.T i)(aS:∀i,U i->¬RS p m i)(jz:∀i,U i->w0.heap.size<=i)(hT:∀i,T' i->m.T i∨w.heap.size<=i)(Xe:∀i,T' i->i<w'.heap.size):
  Rr w0 w' base p {m with T:=T'} v:=
 ⟨hm.ext h.e0 jz,h.lor,h.loq,h.rb,h.qb,h.ne,X4 h.top hm.size,h.pa,h.blk.mod hm (λhu=>aS _ hu (.inl rfl)),h.txt.mod hm (λi hi hu=>aS _ hu (.inr (.inr (.inr hi)))),h.out.mod hm (λi hi hu=>aS _ hu (.inr (.inr (.inl hi)))),h.len,
  λj s x h1 h2=>(h.dgs j s x h1 h2).step (hm.mono (λi hi=>.inl (.inr (hU i hi)))) (λi hi=>hi.elim (λhr=>.inl (.inl hr)) (λht=>(hT i ht).elim (λh=>.inl (.inr h)) .inr)),
  let ⟨mp,h1,h2⟩:=h.rdm;⟨mp,h1.mod hm (λhu=>aS _ hu (.inr (.inl rfl))),h2⟩,h.tl,h.sl,h.b8,h.nf,Xe⟩
theorem iQR {j m:Nat}{vs l:List Value}(h:j+vs.length<=m)(hm:m<=l.length):(Vh j vs l).take m=Vh j vs (l.take m):=by
 have hx:(l.take m).length=m:=by rw[K5];omega
 rw[jR j vs l (by omega),jR j vs (l.take m) (by omega)];rw[tu,tu,Qq,K5];rw[List.take_take,Jv (l:=vs) (by omega),List.take_take];rw[show min m j=j by omega,show min j m=j by omega,jF];congr 2;omega
theorem Ug {P:Program}{w:World}{base e sz n c j:Nat}{a:Addr}{xs vs:List Value}{K:World->Prop}(h:Own w base e sz (some a) n c xs)(hj:j+vs.length<=n*sz)(gT:∀u∈vs,JF u=true)
  (k:∀w1,Mod (Ql (some a)) w w1->Own w1 base e sz (some a) n c (Vh j vs xs)->K w1):nE P w (a.add j) vs K:=by
 have hr:=h.row;have Q0:=hr.1;rcases hr.2 with⟨hv,_⟩ | ⟨g,cap,ZK,hv,hb,hg,mV,dt,XO,sJ⟩
 ·cases hv
 ·cases hv;have hB:Blk w g e ZK.toList:=by unfold Blk;rw[hg]
  have dA:ZK.toList.length=c*sz:=by simpa using XO
  have h2:n*sz<=c*sz:=Y8 _ mV;refine lg hB (by omega) gT (λw1 hm _ Qh=>k w1 (qQT hm ⟨_,rfl,rfl⟩) ⟨⟨by rw[RF _ _ _ (by omega)];exact Q0,.inr ⟨g,c,(Vh j vs ZK.toList).toArray,rfl,hb,Qh,mV,dt,?_,?_⟩⟩⟩)
  ·have:=RF j vs ZK.toList (by omega);simp only[List.size_toArray];omega
  ·have ht:ZK.toList.take (n*sz)=xs:=sJ;show((Vh j vs ZK.toList).toArray.toList).take (n*sz)=_;rw[<-ht,<-iQR hj (by omega)]
theorem Uh {w:World}{base e sz n c o i:Nat}{a:Addr}{xs:List Value}{u:Value}{K:Value->Prop}(h:Own w base e sz (some a) n c xs)(hn:0<n)(hv:xs[o+i]? =some u)(k:K u):iq w ((a.add o).add i) K:=by
 obtain⟨ad,e1,hc⟩:=h.sl.at_ hn;cases e1;exact load (by rw[add_add];exact hc _ _ hv) k
theorem CG {w:World}{base e sz n c o i:Nat}{a:Addr}{xs:List Value}{u:Value}(h:Own w base e sz (some a) n c xs)(hn:0<n)(hv:xs[o+i]? =some u):w.cell? ((a.add o).add i)=some u:=by
 obtain⟨ad,e1,hc⟩:=h.sl.at_ hn;cases e1;rw[add_add];exact hc _ _ hv
structure SeV where
 s:Se
 x:DV
 y:DV
def SeV.cells (z:SeV):List Value:=[.slice z.x.A z.x.n z.x.c,.int .i64 z.x.r,.slice z.y.A z.y.n z.y.c,.int .i64 z.y.r,.bool z.s.ot,.int .i64 z.s.ln]
theorem iQS (z:SeV):z.cells.length=6:=rfl
theorem iQT (z:SeV):∀u∈z.cells,JF u=true:=sc rfl
abbrev W4:TypeId:=232
theorem xM {pre:List Value}{z:SeV}{i:Nat}{u:Value}(h:z.cells[i]? =some u):(pre++z.cells)[pre.length+i]? =some u:=by rw[WV (by omega)];rw[show pre.length+i-pre.length=i by omega];exact h
theorem iQU {pre:List Value}{z:SeV}{i:Nat}{u:Value}:(pre++z.cells).set (pre.length+i) u=pre++z.cells.set i u:=by rw[Bk _ _ (by omega)];rw[show pre.length+i-pre.length=i by omega]
theorem Ui (vs:List Value)(i:Nat)(z:List Value):∀(pre:List Value),Vh (pre.length+i) vs (pre++z)=pre++Vh i vs z
 | []=>by simp
 | a::pre=>by
  rw[Q6,show pre.length+1+i=(pre.length+i)+1 by omega];show a::Vh (pre.length+i) vs (pre++z)=_;rw[Ui vs i z pre]<;>rfl
section
variable {w0:World} {base:Nat} {p:RP}
def iQV (w:World)(k:Nat)(nm:List (List Nat))(base n c:Nat)(a:Addr)(pre:List Value)(z:SeV)(bJ:Bool)(s:List Nat)(u:Value)(w':World):Prop:=
 z.s.ot=false/\Mod (Ql (some a)) w w'/\if bJ then u=Xl z.y.A z.y.n z.y.c z.y.r/\Own w' base W4 6 (some a) n c (pre++(⟨{z.s with ot:=true},z.x,z.y⟩:SeV).cells)
  else∃(o:BF) (b d:DV),VQ nm s= .ok o/\u=Xl b.A b.n b.c b.r/\SB w' b.A b.n b.c b.nd/\Set1 k b.nd b.r (ZD z.s.re o)/\(∀i,Ql b.A i->w.heap.size<=i)/\SB w' d.A d.n d.c d.nd/\Set1 k d.nd d.r (JI z.s.re o)/\(∀i,Ql d.A i->w.heap.size<=i)/\
   Own w' base W4 6 (some a) n c (pre++(⟨{z.s with re:=JI z.s.re o},z.x,d⟩:SeV).cells)
theorem Uj (m:RM)(v:RV)(a:Addr)(n c:Nat)(pre:List Value)(z:SeV)(bJ:Bool)(s:List Nat)(w:World)(hP:RPok w0 p)(h:Rr w0 w base p m v)(ho:Own w base W4 6 (some a) n c (pre++z.cells))(hT:∀i,Ql (some a) i->m.T i)(vT:pre.length+6=n*6)
  (hy:DgO w (TS p m) p.nm.length z.y z.s.re) (h8:∀x∈s,x<256) (hl:s.length<=1000000000000) (i9:w0.heap.size<=base):
  FnP Tryz.prog 149 [.pointer (some ⟨p.r,0,none⟩),.pointer (some (a.add pre.length)),.bool bJ,.string (Qf s)] w (iQV w p.nm.length p.nm base n c a pre z bJ s)
   (λch w'=>∃e,(z.s.ot=true/\e=71∨z.s.ot=false/\bJ=false/\VQ p.nm s= .error e)/\ch=gz e v.fl v.ln/\Mod (Ql (some a)) w w'):=by
 have ki:0<n:=by omega
 have Ww:Ql (some a) a.block:=⟨a,rfl,rfl⟩
 have aS:∀i,Ql (some a) i->¬RS p m i:=λi hi hr=>by
  have hb:=(ho.rows i hi).1;have:=h.rb;have:=h.qb;rcases hr with rfl | rfl | hr | hr
  ·omega
  ·omega
  ·exact ho.apart h.out (by decide) hi hr
  ·exact ho.apart h.txt (by decide) hi hr
 have jz:∀i,Ql (some a) i->w0.heap.size<=i:=λi hi=>by have:=(ho.rows i hi).1;omega
 refine bi (c:={fQg with cuts:=[]}) Qa Tryz.func149 rfl rfl rfl ?_;refine new (λw1 Qd Q9 Qh=>?_);have et:=ho.ext Qd;have h1:=h.ext Qd;refine Uh et ki (xM (i:=4) (u:=.bool z.s.ot) rfl) ?_;refine YT (λht=>?_) (λht=>?_)
 ·refine XP (aH 71 w1 h1) (λ_ _ hf=>hf.elim) ?_;rintro ch w2 ⟨rfl,Qg⟩;exact⟨71,.inl ⟨ht,rfl⟩,rfl,Mod.of_ext _ (Qd.trans Qg)⟩
 have ht:z.s.ot=false:=ht;have yget:∀(i:Nat) (u:Value),z.y.cells[i]? =some u->z.cells[2+i]? =some u:=λi u hi=>match i,hi with
  | 0,hi=>hi
  | 1,hi=>hi
  | _+2,hi=>nomatch hi
 refine JN (vs:=z.y.cells) rfl (λi u hi=>?_) ?_
 ·show w1.cell? (((a.add pre.length).add 2).add i)=some u;rw[add_add];exact CG et ki (xM (yget i u hi))
 refine new (λw2 Qg Zi Qv=>?_);have gJ:=et.ext Qg;have h2:=h1.ext Qg;refine Qw Qv rfl (sc rfl) (λw3 Je JD Qu=>?_);have XI:Ext w1 w3:=XV Qg Qv Je;have yS:=et.ext XI;have h3:=h1.ext XI;show eP w3 ((a.add pre.length).add 4) _ _;rw[add_add];refine HZ yS ki (by omega) (λw4 Zl yV=>?_);rw[iQU] at yV;have yV:Own w4 base W4 6 (some a) n c (pre++(⟨{z.s with ot:=bJ},z.x,z.y⟩:SeV).cells):=yV;have QY:=Qd.trans XI;have bz:Mod (Ql (some a)) w w4:=(Mod.of_ext _ QY).trans Zl (λi hi=>.inl hi);have h4:Rr w0 w4 base p m v:=h3.modT Zl hT aS jz (λi hi=>.inl hi) (λi hi=>Ye (h3.tt i hi) Zl.size);have DS:¬Ql (some a) w.heap.size:=λhi=>by have:=(ho.rows _ hi).2;omega
 have Mv:¬Ql (some a) w1.heap.size:=λhi=>by have:=(ho.rows _ hi).2;omega
 have Mw:=XI.size;have Kc:=(Qh.ext XI).mod Zl DS;have kj:=Qu.mod Zl Mv;have KW:=Zl.size;cases bJ with
 | true=>
  refine Q7 rfl ?_;refine Qt kj rfl ?_;refine Qw Kc rfl (sc rfl) (λw5 Js _ QB=>?_);have Jn:Mod (·=w.heap.size) w4 w5:=qQT Js rfl;refine Qt QB rfl ?_;exact⟨ht,bz.trans Jn (λi hi=>.inr (by omega)),rfl,yV.mod Jn (λi hi e=>by subst e;exact DS hi)⟩
 | false=>
  refine Xc rfl ?_;have VF:z.cells=(⟨{z.s with ot:=false},z.x,z.y⟩:SeV).cells:=by
   obtain⟨⟨ou,re,ot,ln⟩,x,y⟩:=z;simp only at ht;subst ht;rfl
  have hoC:∀w',Mod (·=w1.heap.size) w4 w'->Own w' base W4 6 (some a) n c (pre++z.cells):=λw' Qb=>by
   rw[VF];exact yV.mod Qb (λi hi e=>by subst e;exact Mv hi)
  refine iQv Qa (λch w'=>∃e,(z.s.ot=true/\e=71∨z.s.ot=false/\false=false/\VQ p.nm s= .error e)/\ch=gz e v.fl v.ln/\Mod (Ql (some a)) w w') (λch S w' hp=>hp) (Mod (·=w1.heap.size) w4) 14 [(true,0),(true,1),(true,2),(true,3),(true,4),(true,5),(true,6),(true,7),(false,8),(false,9),(true,10),(true,11),(true,12),(false,13)] (by kernel_rfl) (Mod.of_ext _ (Ext.drew w4)) ?_;refine Xo (vs:=z.y.cells) rfl (λw' Qb i u hi=>?_) ?_
  ·show w'.cell? (((a.add pre.length).add 2).add i)=some u;rw[add_add];exact CG (hoC w' Qb) ki (xM (yget i u hi))
  have hd:=Ext.drew w4;refine XP (Ub s w4.drew hP (h4.ext hd) h8 hl) ?_ ?_
  rotate_left
  ·rintro ch w5 ⟨e,he,rfl,Qx⟩;exact⟨e,.inr ⟨ht,rfl,he⟩,rfl,bz.trans (Mod.of_ext _ (hd.trans Qx)) (λi hi=>.inl hi)⟩
  rintro _ w5 ⟨o,he,t,rfl,Qx,ht5,cv,FF⟩;have aN:=hd.trans Qx;have Mt:SB w4 z.y.A z.y.n z.y.c z.y.nd:=SB.modo (hy.sb.ext QY) Zl (λad e h0 hi=>hy.off ad e h0 (.inr (hT _ hi)));refine⟨Mod.of_ext _ aN,?_⟩;refine call (Uc p.nm.length hP.nmk z.y t z.s.re o w5 (Mt.ext aN) hy.st ht5 cv) ?_;rintro _ w6 ⟨b,d,rfl,QN,hb6,Av,g9,hd6,jw,cz⟩;have XK:=aN.trans QN;have bQ9:=XK.size;have bQ8:=aN.size;refine⟨Mod.of_ext _ XK,?_⟩;refine Qw (kj.ext XK) rfl (sc rfl) (λw7 Zs _ Q8=>?_);have Xb:Mod (·=w1.heap.size) w6 w7:=qQT Zs rfl;have vl:Mod (·=w1.heap.size) w4 w7:=(Mod.of_ext _ XK).trans Xb (λi hi=>.inl hi);refine⟨vl,?_⟩;have Mx:=hoC w7 vl;show nE _ w7 ((a.add pre.length).add 2) _ _;rw[add_add];refine Ug Mx (by show pre.length+2+2<=_;omega) (sc rfl) (λw8 Jr DT=>?_);rw[Ui] at DT;have DT:Own w8 base W4 6 (some a) n c (pre++(⟨{z.s with re:=JI z.s.re o},z.x,d⟩:SeV).cells):=DT;have My:=Q8.mod Jr Mv;refine Qt My rfl ?_;have gL:=((Kc.ext XK).mod Xb (by show¬w.heap.size=w1.heap.size;omega)).mod Jr DS;refine Qw gL rfl (sc rfl) (λw9 bB _ JO=>?_);have Zb:Mod (·=w.heap.size) w8 w9:=qQT bB rfl;refine Qt JO rfl ?_;have pQO:=bz.size;have keep:∀x:DV,(∀i,Ql x.A i->w5.heap.size<=i)->SB w6 x.A x.n x.c x.nd->SB w9 x.A x.n x.c x.nd:=λx hr hx=>
   SB.mod (SB.mod (SB.mod hx Xb (λi hi e=>by have:=hr i hi;omega)) Jr (λi hi hj=>by have:=hr i hi;have:=(ho.rows i hj).2;omega)) Zb (λi hi e=>by have:=hr i hi;omega)
  have hall:Mod (Ql (some a)) w w9:=((bz.trans vl (λi hi=>.inr (by omega))).trans Jr (λi hi=>.inl hi)).trans Zb (λi hi=>.inr (by omega));refine⟨ht,hall,o,b,d,he,rfl,keep b g9 hb6,Av,λi hi=>by have:=g9 i hi;omega,keep d cz hd6,jw,λi hi=>by have:=cz i hi;omega,DT.mod Zb (λi hi e=>by subst e;exact DS hi)⟩
end
end
end
section
section
theorem iQW (l:List Nat)(w:World)(hl:∀x∈l,x<256)(Q0:l.length<=1000000000000):
  Fn Tryz.prog 143 [.string (Qf l),.string (Qf [32])] w (λv w'=>v= .tuple #[.string (Qf (JU l)),.string (Qf (if 32∈l then Vu l else [])),.bool (decide (32∈l))]/\Ext w w'):=
 (iQn l w hl Q0).mono λv w' h=>by
  obtain⟨h1,h2⟩:=h;refine⟨?_,h2⟩;rw[h1];by_cases hm:32∈l
  ·rw[Qe hm,Qe hm,X2 hm]
  ·rw[if_neg hm,if_neg hm,Zn hm,HO hm]
section
variable {nm:List (List Nat)} {fl d0:Nat} {inc:List Nat->Nat->Nat->BF->Gs->Except Pl Gs} {s:List Nat} {ls:List (List Nat)} {ln at_:Nat} {k:BF} {op:List Se} {g:Gs} {r:List Nat}
theorem CH (h:Zk s= .ifd r):ZZ nm fl d0 inc (s::ls) ln at_ k op g=match VQ nm r with
   | .error e=>.error ⟨e,fl,((ln+1:Nat):Int)⟩
   | .ok d=>if d0+op.length=64 then .error ⟨2,fl,((ln+1:Nat):Int)⟩else ZZ nm fl d0 inc ls (ln+1) (at_+s.length+1) (ZD k d) (⟨k,JI k d,false,ln+1⟩::op) {g with fr:=true}:=by
 rw[ZZ.eq_def];simp only[h]<;>rfl
theorem xN (h:Zk s= .inc r):ZZ nm fl d0 inc (s::ls) ln at_ k op g=match inc r (ln+1) (d0+op.length) k g with
   | .error p=>.error p
   | .ok g'=>ZZ nm fl d0 inc ls (ln+1) (at_+s.length+1) k op {g' with fr:=true}:=by
 rw[ZZ.eq_def];simp only[h]<;>rfl
theorem CI (h:Zk s= .elif r):ZZ nm fl d0 inc (s::ls) ln at_ k op g=match op with
   | []=>.error ⟨72,fl,((ln+1:Nat):Int)⟩
   | x::Xz=>if x.ot then .error ⟨71,fl,((ln+1:Nat):Int)⟩else match VQ nm r with
    | .error e=>.error ⟨e,fl,((ln+1:Nat):Int)⟩
    | .ok d=>ZZ nm fl d0 inc ls (ln+1) (at_+s.length+1) (ZD x.re d) ({x with re:=JI x.re d}::Xz) {g with fr:=true}:=by
 rw[ZZ.eq_def];simp only[h]<;>rfl
theorem CJ (h:Zk s= .els):ZZ nm fl d0 inc (s::ls) ln at_ k op g=match op with
   | []=>.error ⟨72,fl,((ln+1:Nat):Int)⟩
   | x::Xz=>if x.ot then .error ⟨71,fl,((ln+1:Nat):Int)⟩else ZZ nm fl d0 inc ls (ln+1) (at_+s.length+1) x.re ({x with ot:=true}::Xz) {g with fr:=true}:=by
 rw[ZZ.eq_def];simp only[h]<;>rfl
theorem H3 (h:Zk s= .en):ZZ nm fl d0 inc (s::ls) ln at_ k op g=match op with
   | []=>.error ⟨72,fl,((ln+1:Nat):Int)⟩
   | x::Xz=>ZZ nm fl d0 inc ls (ln+1) (at_+s.length+1) x.ou Xz {g with fr:=true}:=by
 rw[ZZ.eq_def];simp only[h]<;>rfl
theorem lQ (h:Zk s= .txt):ZZ nm fl d0 inc (s::ls) ln at_ k op g=match Vi (s++ [10]) fl at_ k g with
   | none=>.error ⟨2,fl,((ln+1:Nat):Int)⟩
   | some g'=>ZZ nm fl d0 inc ls (ln+1) (at_+s.length+1) k op g':=by
 rw[ZZ.eq_def];simp only[h]<;>rfl
end
theorem Own.take {w:World}{base e sz n c k:Nat}{A:Option Addr}{cs:List Value}(h:Own w base e sz A n c cs)(hk:k<=n):Own w base e sz A k c (cs.take (k*sz)):=by
 have hr:=h.row;have hl:=hr.1;have Xn:k*sz<=n*sz:=Y8 _ hk;refine⟨⟨by rw[K5];omega,?_⟩⟩;rcases hr.2 with⟨hv,hx⟩ | ⟨g,cap,ZK,hv,hb,hg,mV,dt,XO,sJ⟩
 ·cases hv;obtain rfl:k=0:=by omega
  exact .inl ⟨rfl,by simp⟩
 ·cases hv;refine .inr ⟨g,c,ZK,rfl,hb,hg,by omega,dt,XO,?_⟩;have ht:ZK.toList.take (n*sz)=cs:=sJ;rw[<-ht,List.take_take,nv Xn]
theorem H4 {ix:List Nat->Option Nat}{rd s:List Nat}{n:Nat}(h:cO ix rd s= .ok n):n∉rd/\∃t,ix t=some n:=by
 unfold cO at h;split at h
 ·cases h
 split at h
 ·cases h
 ·rename_i m hm;split at h
  ·cases h
  ·rename_i hn;cases h;exact⟨hn,_,hm⟩
structure LS where
 k:DV
 o:BF
 z:List SeV
 m:RM
 g:Gs
 ln:Nat
 at_:Nat
 ls:List (List Nat)
 A:Option Addr
 c:Nat
def Yl (z:List SeV):List Value:=z.flatMap SeV.cells
theorem CL (z:List SeV):(Yl z).length=z.length*6:=dN iQS z
theorem og (z:List SeV)(x:SeV):Yl (z++ [x])=Yl z++x.cells:=by simp[Yl]
def Jz (p:RP)(m:RM)(A:Option Addr)(bk:Nat):Nat->Prop:=λi=>RS p m i∨Ql A i∨i=bk
abbrev oq:=List Nat->Nat->Nat->BF->Gs->Except Pl Gs
structure FrI (w0 w:World) (base:Nat) (p:RP) (m:RM) (v:RV) (n bk:Nat) (text:List Nat) (inc:oq) (res:Except Pl Gs) (s:LS) (w':World):Prop where
 rr:Rr w0 w' base p s.m ⟨v.d+s.z.length,n,s.ln,n::v.rd,s.g⟩
 tt:s.m.T=λi=>m.T i∨Ql s.A i∨i=bk
 kb:Blk w' bk 32 s.k.cells
 kd:DgO w' (TS p s.m) p.nm.length s.k s.o
 ow:Own w' base W4 6 s.A s.z.length s.c (Yl s.z)
 zx:∀z∈s.z,DgO w' (TS p s.m) p.nm.length z.x z.s.ou
 zy:∀z∈s.z,DgO w' (TS p s.m) p.nm.length z.y z.s.re
 dr:text.drop s.at_=Qk s.ls
 al:s.at_+(Qk s.ls).length=text.length
 li:lJ s.ls
 rs:ZZ p.nm n v.d inc s.ls s.ln s.at_ s.o (s.z.reverse.map (·.s)) s.g=res
 mw:Mod (RS p m) w w'
 ma:Moved w m.OA s.m.OA
 mb:Moved w m.BA s.m.BA
 nw:∀i,Ql s.A i->w.heap.size<=i
 dl:v.d+s.z.length<=64
 lb:s.ln+s.ls.length<=1048576
section
variable {w0 w w' Vc:World} {base:Nat} {p:RP} {m:RM} {v:RV} {n bk:Nat} {text:List Nat} {inc:oq} {res:Except Pl Gs} {s s':LS}
theorem FrI.sub (h:FrI w0 w base p m v n bk text inc res s w'):∀i,Jz p s.m s.A bk i->TS p s.m i:=λi hi=>by
 rcases hi with hi | hi | hi
 ·exact .inl hi
 ·exact .inr (by rw[h.tt];exact .inr (.inl hi))
 ·exact .inr (by rw[h.tt];exact .inr (.inr hi))
theorem FrI.kp (h:FrI w0 w base p m v n bk text inc res s w')(hm:Mod (Jz p s.m s.A bk) w' Vc)(tt:s'.m.T=λi=>m.T i∨Ql s'.A i∨i=bk)(hA:Moved w' s.A s'.A)(hO:Moved w' s.m.OA s'.m.OA)(hB:Moved w' s.m.BA s'.m.BA){x:DV}{o:BF}(hx:DgO w' (TS p s.m) p.nm.length x o):DgO Vc (TS p s'.m) p.nm.length x o:=
 hx.step (hm.mono (λi hi=>.inl (h.sub i hi))) (λi hi=>by
  rcases hi with hi | hi
  ·rcases RS.moved (p:=p) hO hB i hi with h1 | h1
   ·exact .inl (.inl h1)
   ·exact .inr h1
  ·rw[tt] at hi;rcases hi with hi | hi | hi
   ·exact .inl (.inr (by rw[h.tt];exact .inl hi))
   ·rcases hA.rows i hi with h1 | h1
    ·exact .inl (.inr (by rw[h.tt];exact .inr (.inl h1)))
    ·exact .inr h1
   ·exact .inl (.inr (by rw[h.tt];exact .inr (.inr hi))))
theorem FrI.mw' (h:FrI w0 w base p m v n bk text inc res s w')(gW:w.heap.size<=bk)(hm:Mod (Jz p s.m s.A bk) w' Vc):Mod (RS p m) w Vc:=
 h.mw.trans hm (λi hi=>by
  rcases hi with hi | hi | hi
  ·exact RS.moved (p:=p) h.ma h.mb i hi
  ·exact .inr (h.nw i hi)
  ·exact .inr (by omega))
theorem FrI.go (h:FrI w0 w base p m v n bk text inc res s w')(gW:w.heap.size<=bk)(hm:Mod (Jz p s.m s.A bk) w' Vc)(rr:Rr w0 Vc base p s'.m ⟨v.d+s'.z.length,n,s'.ln,n::v.rd,s'.g⟩)(tt:s'.m.T=λi=>m.T i∨Ql s'.A i∨i=bk)(hA:Moved w' s.A s'.A)(hO:Moved w' s.m.OA s'.m.OA)(hB:Moved w' s.m.BA s'.m.BA)
  (kb:Blk Vc bk 32 s'.k.cells) (kd:DgO Vc (TS p s'.m) p.nm.length s'.k s'.o) (ow:Own Vc base W4 6 s'.A s'.z.length s'.c (Yl s'.z)) (zx:∀z∈s'.z,DgO Vc (TS p s'.m) p.nm.length z.x z.s.ou) (zy:∀z∈s'.z,DgO Vc (TS p s'.m) p.nm.length z.y z.s.re)
  {l:List Nat} (Vg:s.ls=l::s'.ls) (dB:s'.at_=s.at_+l.length+1) (rs:ZZ p.nm n v.d inc s'.ls s'.ln s'.at_ s'.o (s'.z.reverse.map (·.s)) s'.g=res) (dl:v.d+s'.z.length<=64) (jv:s'.ln=s.ln+1):FrI w0 w base p m v n bk text inc res s' Vc:=by
 have cz:=h.dr;have Vf:=h.al;have vY:=h.lb;have Aw:=h.li;rw[Vg,V6] at cz Vf;rw[Vg] at vY Aw;have hz:=h.mw.size;refine⟨rr,tt,kb,kd,ow,zx,zy,?_,?_,λt ht=>Aw t (by simp[ht]),rs,h.mw' gW hm,h.ma.trans hO hz,h.mb.trans hB hz,λi hi=>?_,dl,?_⟩
 ·rw[dB,show s.at_+l.length+1=s.at_+(l.length+1) by omega,<-tr,cz,<-tr,List.drop_left' rfl]<;>rfl
 ·rw[dB];simp only[Qq,Q6] at Vf;omega
 ·rcases hA.rows i hi with h1 | h1
  ·exact h.nw i h1
  ·omega
 ·rw[jv];simp only[Q6] at vY;omega
theorem FrI.line (h:FrI w0 w base p m v n bk text inc res s w')(ht:text.length<=1048576){l:List Nat}{ls:List (List Nat)}(Vg:s.ls=l::ls):10∉l/\s.at_+l.length+1<=text.length/\text.drop s.at_=l++10::Qk ls/\(text.drop s.at_).take l.length=l/\(text.drop s.at_).take (l.length+1)=l++ [10]:=by
 have cz:=h.dr;have Vf:=h.al;have Aw:=h.li;have _:=ht;rw[Vg,V6] at cz Vf;rw[Vg] at Aw;simp only[Qq,Q6] at Vf;refine⟨Aw l (by simp),by omega,cz,by rw[cz];exact List.take_left' rfl,?_⟩;rw[cz,show l++10::Qk ls=(l++ [10])++Qk ls by simp];exact List.take_left' (by simp)
theorem Rr.putq (h:Rr w0 w base p m v){v':RV}(hm:Mod (λi=>i=p.r∨i=p.q) w w')(hB:Blk w' p.r 157 (lP p m v'))(h1:v'.g.tx=v.g.tx)(h2:v'.g.sg=v.g.sg)(h4:v'.g.fr=false->v'.g.sg≠ []∨v'.rd=[])
  (hq:∃mp,MapAt bq w' p.q mp/\(mp.map (·.1)).Nodup/\∀n:Nat,XC (n:Int) mp=if n∈v'.rd then some (.bool true)else none):Rr w0 w' base p m v':=by
 have hE:=hm.ext h.e0 (λi hi=>by rcases hi with rfl | rfl;exact h.lor;exact h.loq);have Mz:=h.rb;have hb2:=h.qb;refine⟨hE,h.lor,h.loq,h.rb,h.qb,h.ne,X4 h.top hm.size,h.pa,hB,?_,?_,by rw[h2];exact h.len,λj s x hs hx=>?_,hq,by rw[h1];exact h.tl,by rw[h2];exact h.sl,by rw[h1];exact h.b8,h4,λi hi=>Ye (h.tt i hi) hm.size⟩
 ·rw[h1];exact h.txt.mod hm (λi hi e=>by have:=(h.txt.rows i hi).1;rcases e with rfl | rfl<;>omega)
 ·rw[h2];exact h.out.mod hm (λi hi e=>by have:=(h.out.rows i hi).1;rcases e with rfl | rfl<;>omega)
 ·rw[h2] at hs;exact(h.dgs j s x hs hx).keep hm (λi hi=>.inl (.inl (hi.elim .inl (λe=>.inr (.inl e)))))
end
end
section
def ov (p:RP)(f n:Nat)(rd:List Nat):oq:=λr ln d k g=>match cO (Jj (p.fs.map (·.1))) (n::rd) r with
 | .error e=>.error ⟨e,n,ln⟩
 | .ok m=>if d=64 then .error ⟨2,n,ln⟩else WZ p.nm p.fs f (n::rd) (d+1) m k g
def iQX (w0:World)(base:Nat)(p:RP)(f:Nat):Prop:=∀(m:RM)(v:RV)(n:Nat)(k:DV)(o:BF)(w:World),Rr w0 w base p m v->DgO w (TS p m) p.nm.length k o->n<p.fs.length->n∉v.rd->v.d<=64->65<=f+v.d->
 FnP Tryz.prog 92 [.pointer (some ⟨p.r,0,none⟩),.int .i64 n,Xl k.A k.n k.c k.r] w (λ_ w'=>∃g',WZ p.nm p.fs f v.rd v.d n o v.g= .ok g'/\HX w0 w base p m {v with g:=g'} w') (λch w'=>∃q,WZ p.nm p.fs f v.rd v.d n o v.g= .error q/\ch=gz q.e q.f q.l/\Mod (RS p m) w w')
set_option maxRecDepth 2000 in
theorem Uk (w0:World)(base:Nat)(p:RP)(hP:RPok w0 p)(i9:w0.heap.size<=base):∀f,iQX w0 base p f
 | 0=>λm v n k o w h hk hn hr hd hf=>Xd hf (by omega)
 | f+1=>λm v n k o w h hk hn hr hd hf=>by
  have ih:=Uk w0 base p hP i9 f;have hx:p.fs[n]? =some p.fs[n]:=XB hn;have Ax:=hP.flb _ (PX hn);have oQ1:WZ p.nm p.fs (f+1) v.rd v.d n o v.g=ZZ p.nm n v.d (ov p f n v.rd) (QW (p.fs[n].2)) 0 0 o [] {v.g with fr:=true}:=by
   rw[WZ,hx]<;>rfl
  generalize aW:WZ p.nm p.fs (f+1) v.rd v.d n o v.g=res at*;generalize FI:p.fs[n].2=text at*;have ep:∀x∈text,x<256:=by rw[<-FI];exact Ax.t8
  have Wv:text.length<=1048576:=by rw[<-FI];exact Ax.tl
  have O1:Qk (QW text)=text:=aE (by rw[<-FI];exact Ax.ok);have eJ:=hP.fls.2;refine bi (c:={c92 with cuts:=[]}) Qa Tryz.func92 rfl rfl rfl ?_;refine new (λw1 Qd Q9 Qh=>?_)
  let m1:RM:={m with T:=λi=>m.T i∨Ql (none:Option Addr) i∨i=w.heap.size}
  have Ag:=h.tt;have h1:Rr w0 w1 base p m1 v:=h.modT (U:=λ_=>False) (Mod.of_ext _ Qd) (λi hi=>hi.elim) (λi hi=>hi.elim) (λi hi=>hi.elim) (λi hi=>by
    rcases hi with hi | hi | hi
    ·exact .inl hi
    ·obtain⟨_,e,_⟩:=hi;cases e
    ·exact .inr (by omega)) (λi hi=>by
    rcases hi with hi | hi | hi
    ·have:=Ag i hi;omega
    ·obtain⟨_,e,_⟩:=hi;cases e
    ·omega)
  refine XL Qa (Ext w1) 10 [(true,0),(true,1),(true,2),(true,3),(true,4),(true,5),(true,6),(true,7),(true,8),(true,9)] (by kernel_rfl) (Ext.drew w1) ?_;refine QQ (v:=.int .i64 v.fl) (λw' Qb=>by rw[(h1.blk.ext Qb).cell];rfl) ?_;refine QQ (v:=.int .i64 v.ln) (λw' Qb=>by rw[(h1.blk.ext Qb).cell];rfl) ?_;have DU:=Ext.drew w1;have h2:=h1.ext DU;have Qv:=Qh.ext DU;generalize w1.drew=w2 at*;obtain⟨mp,vV,hnd,s9⟩:=h2.rdm;refine Qp h2.blk rfl ?_;refine lh (kv:=bq) (a:=(n:Int)) Qa rfl rfl rfl rfl rfl (KeyV.int .i64) rfl rfl rfl vV (λw3 Je JD XD=>?_);have Z7:Mod (·=p.q) w2 w3:=qQT Je rfl;have nQd:((Zg (n:Int) (Value.bool true) mp).map (·.1)).Nodup:=(TV _ _ _ hnd).1;have nQe:∀j:Nat,XC (j:Int) (Zg (n:Int) (Value.bool true) mp)=if j∈n::v.rd then some (.bool true)else none:=λj=>by
   rw[bj];by_cases hj:j=n
   ·subst hj;simp
   ·rw[if_neg (λe=>hj (by omega)),s9 j];simp[hj]
  have g9:=h2.blk.mod Z7 h2.ne;refine XQ g9 (show 9<11 by decide) (λw4 Zl QX=>?_);refine XQ QX (show 10<11 by decide) (λw5 XT QB=>?_);refine XQ QB (show 8<11 by decide) (λw6 Vy Xg=>?_);have cQl:Mod (·=p.r) w3 w6:=(Zl.trans XT (λi hi=>.inl hi)).trans Vy (λi hi=>.inl hi);have DW:Mod (λi=>i=p.r∨i=p.q) w2 w6:=(Z7.mono (S':=λi=>i=p.r∨i=p.q) (λi hi=>.inl (.inr hi))).trans cQl (λi hi=>.inl (.inl hi));have h6:Rr w0 w6 base p m1 ⟨v.d,n,0,n::v.rd,{v.g with fr:=true}⟩:=h2.putq DW Xg rfl rfl (λe=>by cases e) ⟨_,XD.mod cQl (λe=>h2.ne e.symm),nQd,nQe⟩;have gW:¬(w.heap.size=p.r∨w.heap.size=p.q):=λe=>by have:=h.rb;have:=h.qb;have:=h.top;rcases e with e | e<;>omega
  have oQ2:=Qv.mod DW gW;have XS:Mod (RS p m) w w6:=((Mod.of_ext (RS p m) Qd).trans (Mod.of_ext (RS p m) DU) (λi hi=>.inl hi)).trans (DW.mono (S':=RS p m) (λi hi=>.inl (hi.elim .inl (λe=>.inr (.inl e))))) (λi hi=>.inl hi);refine Qp Xg rfl ?_;refine Zz HW (hP.fls.ext h6.e0) rfl (by omega) (λpp x Yz hc=>?_);obtain rfl:p.fs[n]=x:=Option.some.inj (hx.symm.trans Yz);refine load (hc 1 _ rfl) ?_;rw[FI];have DR:DgO w1 (TS p m1) p.nm.length k o:=hk.step (Mod.of_ext _ Qd) (λi hi=>by
   rcases hi with hi | hi | hi | hi
   ·exact .inl (.inl hi)
   ·exact .inl (.inr hi)
   ·obtain⟨_,e,_⟩:=hi;cases e
   ·exact .inr (by omega))
  have MB:DgO w6 (TS p m1) p.nm.length k o:=(DR.ext DU).keep DW (λi hi=>.inl (.inl (hi.elim .inl (λe=>.inr (.inl e)))));have dy:(QW text).length<=text.length:=by have:=xB (QW text);rw[O1] at this;exact this
  refine loop Qa [8,10] (λs:LS=>[.slice s.A s.z.length s.c,.int .i64 s.at_]) (λs w'=>FrI w0 w base p m v n w.heap.size text (ov p f n v.rd) res s w') (λs _=>s.ls.length) ⟨k,o,[],m1,{v.g with fr:=true},0,0,QW text,none,0⟩ rfl
   ⟨h6,rfl,oQ2,MB,Own.nil _ _ _ _,(λz hz=>by cases hz),(λz hz=>by cases hz),(by rw[O1];rfl),(by rw[O1];simp),nX text,oQ1.symm,XS,Moved.refl _ _,Moved.refl _ _,(λi hi=>by obtain⟨_,e,_⟩:=hi;cases e),hd,(by show 0+(QW text).length<=_;omega)⟩ ?_
  rintro s w7 hI;have h7:=hI.rr;have Vf:=hI.al;refine Qz (λc1=>?_) (λc1=>?_)
  rotate_left
  ·have Vg:s.ls=[]:=by
    have hs:=Xi text;have:=xB s.ls;exact Wx (by omega)
   have h7z:=hI.rr;have QE:=hI.rs;rw[Vg] at QE;refine Qz (λhz=>?_) (λhz=>?_)
   ·obtain⟨z',x,VF⟩:∃z' x,s.z=z'++ [x]:=by
     rcases qf s.z with h0 | ⟨z',x,h0⟩
     ·rw[h0] at hz;exact Xd hz (by decide)
     ·exact⟨z',x,by rw[h0];simp⟩
    have vZ:s.z.length=z'.length+1:=by rw[VF];simp
    have m7:s.z.reverse.map (·.s)=x.s::z'.reverse.map (·.s):=by rw[VF];simp
    obtain⟨oa,Kq,_⟩:=hI.ow.sl.at_ (by omega:0<s.z.length);have Mx:Own w7 base W4 6 (some oa) s.z.length s.c (Yl z'++x.cells):=by rw[<-Kq,<-og,<-VF];exact hI.ow
    have Yw:=hI.dl;refine Qj ((z'.length:Nat):Int) (by omega) (by omega) ?_;rw[Kq];refine J3 (j:=z'.length) (by omega) ?_;rw[show z'.length*6=(Yl z').length from (CL z').symm];refine Uh Mx (by omega) (xM (i:=5) (u:=.int .i64 x.s.ln) rfl) ?_;refine XQ h7.blk (show 10<11 by decide) (λw8 Jr Xx=>?_);have h8:Rr w0 w8 base p s.m ⟨v.d+s.z.length,n,x.s.ln,n::v.rd,s.g⟩:=h7.put Jr Xx rfl rfl rfl h7.nf;refine XP (aH 72 w8 h8) (λ_ _ hf=>hf.elim) ?_;rintro ch w9 ⟨rfl,XE⟩;refine⟨⟨72,n,x.s.ln⟩,?_,rfl,hI.mw' (QC _) ((Jr.mono (S':=Jz p s.m s.A w.heap.size) (λi hi=>.inl (.inl (.inl hi)))).trans (Mod.of_ext _ XE) (λi hi=>.inl hi))⟩;rw[<-QE,ZZ.eq_def,m7]
   ·have mI:s.z=[]:=Wx (by omega);obtain⟨mq,k1,k2,k3⟩:=h7.rdm;refine Qp h7.blk rfl ?_;refine iQi (kv:=bq) (a:=(n:Int)) Qa rfl rfl rfl rfl rfl (KeyV.int .i64) rfl rfl k1 (λw8 ZF Yq Jr=>?_);refine XQ (h7.blk.mod ZF h7.ne) (show 9<11 by decide) (λw9 fq JO=>?_);refine XQ JO (show 10<11 by decide) (λQK JE Km=>?_);refine XQ Km (show 8<11 by decide) (λQJ mJ Z1=>?_);have cQm:Mod (·=p.r) w8 QJ:=(fq.trans JE (λi hi=>.inl hi)).trans mJ (λi hi=>.inl hi);have MC:Mod (λi=>i=p.r∨i=p.q) w7 QJ:=(ZF.mono (S':=λi=>i=p.r∨i=p.q) (λi hi=>.inl (.inr hi))).trans cQm (λi hi=>.inl (.inl hi));have MD:v.d+s.z.length=v.d:=by rw[mI]<;>rfl
    rw[MD] at Z1;have ZW:Rr w0 QJ base p s.m ⟨v.d,v.fl,v.ln,v.rd,{s.g with fr:=true}⟩:=h7.putq MC Z1 rfl rfl (λe=>by cases e) ⟨_,Jr.mod cQm (λe=>h7.ne e.symm),(k2.sublist ((TR (n:Int) mq).map _)),λj=>by
     rw[TU _ _ _ k2];by_cases hj:j=n
     ·subst hj;rw[Qe rfl,if_neg hr]
     ·rw[if_neg (λe=>hj (by omega)),k3 j];simp[hj]⟩
    have XU:Rr w0 QJ base p {s.m with T:=m.T} ⟨v.d,v.fl,v.ln,v.rd,{s.g with fr:=true}⟩:=ZW.modT (U:=λ_=>False) (Mod.refl _ _) (λi hi=>hi.elim) (λi hi=>hi.elim) (λi hi=>hi.elim) (λi hi=>.inl (by rw[hI.tt];exact .inl hi)) (λi hi=>by
     have:=Ag i hi;have:=hI.mw.size;have:=MC.size;omega)
    refine⟨{s.g with fr:=true},?_,{s.m with T:=m.T},rfl,XU,hI.mw' (QC _) (MC.mono (λi hi=>.inl (.inl (hi.elim .inl (λe=>.inr (.inl e)))))),hI.ma,hI.mb⟩;rw[<-QE,ZZ.eq_def,mI]<;>rfl
  ·cases Vg:s.ls with
   | nil=>
    have hs:=Xi text;rw[Vg] at Vf;have:(Qk ([]:List (List Nat))).length=0:=rfl;omega
   | cons l ls=>
    obtain⟨l1,l2,l3,l4,l5⟩:=hI.line Wv Vg;have X7:=Xi text;have gM:∀x∈l,x<256:=λx hx=>ep x (au (by rw[l3];simp[hx]:x∈text.drop s.at_))
    have vY:=hI.lb;refine XM (v':=.string (Qf (text.drop s.at_))) ⟨by omega,by rw[X7];omega,by rw[X7];omega⟩ ?_ ?_
    ·rw[VN,X7];simp only[io];rw[Jv (QC _)]
    refine call (HN (text.drop s.at_) 10 w7 (λx hx=>ep x (au hx)) (by decide)) ?_;rintro _ _ ⟨rfl,rfl⟩;have KF:iE 10 (text.drop s.at_)=(l.length:Nat):=by
     unfold iE;rw[Qe (by rw[l3];simp),l3,List.takeWhile_append_of_pos (λx hx=>by simpa using λe=>l1 (by rw[<-e];exact hx))];simp
    rw[KF];refine Qj ((s.at_+l.length:Nat):Int) (by show((s.at_:Nat):Int)+_=_;omega) (by omega) ?_;refine Qj ((s.at_+l.length+1:Nat):Int) (by omega) (by omega) ?_;refine Qj ((s.at_+l.length:Nat):Int) (by omega) (by omega) ?_;refine XM (v':=.string (Qf l)) ⟨by omega,by omega,by rw[X7];omega⟩ ?_ ?_
    ·rw[VN];simp only[io];rw[jF,show s.at_+l.length-s.at_=l.length by omega,l4]
    refine Qp h7.blk rfl ?_;refine Qj ((s.ln+1:Nat):Int) (by show((s.ln:Nat):Int)+1=_;omega) (by omega) ?_;refine XQ h7.blk (show 10<11 by decide) (λw8 Jr Xx=>?_);have h8:Rr w0 w8 base p s.m ⟨v.d+s.z.length,n,s.ln+1,n::v.rd,s.g⟩:=h7.put Jr Xx rfl rfl rfl h7.nf;refine call (iQW l w8 gM (by omega)) ?_;rintro _ w9 ⟨rfl,XE⟩;have h9:=h8.ext XE;have kM:w.heap.size<=w.heap.size:=QC _;have fH:Mod (Jz p s.m s.A w.heap.size) w7 w9:=(Jr.mono (S':=Jz p s.m s.A w.heap.size) (λi hi=>.inl (.inl (.inl hi)))).trans (Mod.of_ext _ XE) (λi hi=>.inl hi);have npr:¬w.heap.size=p.r:=λe=>gW (.inl e)
    have ct:Blk w9 w.heap.size 32 s.k.cells:=(hI.kb.mod Jr npr).ext XE;have rU:∀{x:DV} {o:BF},DgO w7 (TS p s.m) p.nm.length x o->DgO w9 (TS p s.m) p.nm.length x o:=λhx=>hI.kp fH hI.tt (Moved.refl _ _) (Moved.refl _ _) (Moved.refl _ _) hx
    have ew:=rU hI.kd;have nopr:∀i,Ql s.A i->¬i=p.r:=λi hi e=>by have:=(hI.ow.rows i hi).1;have:=h7.rb;omega
    have WN:Own w9 base W4 6 s.A s.z.length s.c (Yl s.z):=(hI.ow.mod Jr nopr).ext XE;have QE:=hI.rs;rw[Vg] at QE;have kJ:(((Qf (JU l)).size:Int)<(Qf l).size)↔32∈l:=by rw[Xi,Xi,<-TZ];omega
    have Yw:=hI.dl;have pQP:l.length<=1048576:=by omega
    have pQQ:=fH.size;have pQR:=hI.mw.size;have Xj:∀(q:Pl) (ch:List PanicEntry) (w':World),res= .error q->ch=gz q.e q.f q.l->Mod (Jz p s.m s.A w.heap.size) w9 w'->∃q,res= .error q/\ch=gz q.e q.f q.l/\Mod (RS p m) w w':=λq ch w' h1 h2 h3=>⟨q,h1,h2,hI.mw' kM (fH.trans h3 (λi hi=>.inl hi))⟩
    have O2:∀i,Ql s.A i->w0.heap.size<=i:=λi hi=>by have:=(WN.rows i hi).1;omega
    have pS:∀i,Ql s.A i->¬RS p s.m i:=λi hi hr=>by
     have hb:=(WN.rows i hi).1;have:=h9.rb;have:=h9.qb;rcases hr with rfl | rfl | hr | hr
     ·omega
     ·omega
     ·exact WN.apart h9.out (by decide) hi hr
     ·exact WN.apart h9.txt (by decide) hi hr
    have Ay:∀i,Ql s.A i->s.m.T i:=λi hi=>by rw[hI.tt];exact .inr (.inl hi)
    have nbk:¬RS p s.m w.heap.size:=λhr=>by
     have:=h.rb;have:=h.qb;have:=h.top;rcases hr with e | e | hr | hr
     ·omega
     ·omega
     ·exact ct.apart h9.out (by decide) hr
     ·exact ct.apart h9.txt (by decide) hr
    have hhA:∀i,Ql s.A i->i<w9.heap.size:=λi hi=>(WN.rows i hi).2
    have nbA:¬Ql s.A w.heap.size:=ct.apart WN (by decide);have nprA:¬Ql s.A p.r:=λhi=>nopr _ hi rfl
    by_cases P1:JU l=nZ/\32∈l
    ·have XZ:=iQo P1.1 P1.2;rw[Qe P1.2];have eu:∀x∈Vu l,x<256:=λx hx=>gM x (au hx)
     have kL:(Vu l).length<=1000000000000:=by unfold Vu;rw[YR];omega
     refine Zq (by rw[P1.1];rfl) ?_;refine Zq (kJ.2 P1.2) ?_;refine XP (Ub (Vu l) w9 hP h9 eu kL) ?_ ?_
     rotate_left
     ·rintro ch QK ⟨e,he,rfl,Zx⟩;refine Xj ⟨e,n,((s.ln+1:Nat):Int)⟩ _ QK ?_ rfl (Mod.of_ext _ Zx);rw[<-QE,CH XZ,he]
     rintro _ QK ⟨d,he,t,rfl,Zx,nQf,cv,FF⟩;refine new (λQJ Z2 rP Z1=>?_);refine Qw Z1 rfl (sc rfl) (λXa rS _ K8=>?_);have vr:Ext QK Xa:=XV Z2 Z1 rS;have rV:=Zx.trans vr;have XU:=h9.ext rV;have pQS:=rV.size;have nQg:=Zx.size;refine XP (Ud Xa XU Yw) ?_ ?_
     rotate_left
     ·rintro ch X1 ⟨ja,rfl,XI⟩;refine Xj ⟨2,n,((s.ln+1:Nat):Int)⟩ _ X1 ?_ rfl (Mod.of_ext _ (rV.trans XI));have ja:v.d+(s.z.reverse.map (·.s)).length=64:=by simpa using ja
      rw[<-QE,CH XZ,he];simp only[Qe ja]
     rintro _ X1 ⟨rW,KY,aO⟩;have rW:¬v.d+s.z.length=64:=rW;have cQn:=(ct.ext rV).mod aO npr;have n10r:¬QK.heap.size=p.r:=λe=>by have:=h9.rb;have:=h9.top;omega
     have nQh:=K8.mod aO n10r;refine Qt cQn rfl ?_;refine Qt nQh rfl ?_;have ME:=(ew.ext rV).keep aO (λi hi=>.inl (.inl (.inl hi)));have nQi:SB X1 t.A t.n t.c t.nd:=SB.mod (nQf.ext vr) aO (λi hi e=>by have:=FF i hi;have:=h9.rb;have:=h9.top;omega);refine call (Uc p.nm.length hP.nmk s.k t s.o d X1 ME.sb ME.st nQi cv) ?_;rintro _ Zm ⟨a,b,rfl,JP,nQj,has,Ad,nQk,Av,g9⟩;refine new (λKA JQ nQl pk=>?_);refine new (λY4 VX nQm Wq=>?_);have vt:=JQ.trans VX;refine Qw (pk.ext VX) rfl (sc rfl) (λVo MF _ pj=>?_);have rX:Mod (·=Zm.heap.size) Y4 Vo:=qQT MF rfl;have pm:Ext Zm Vo:=rX.ext vt (λi hi=>by omega);refine Qw (Wq.mod rX (by show¬KA.heap.size=Zm.heap.size;omega)) rfl (sc rfl) (λKZ nQn _ gL=>?_);have yW:Mod (·=KA.heap.size) Vo KZ:=qQT nQn rfl;have cQo:Ext Zm KZ:=yW.ext pm (λi hi=>by omega);have nQo:=pj.mod yW (by show¬Zm.heap.size=KA.heap.size;omega);have pq:=JP.trans cQo;have aP:=KY.ext pq;have DX:=cQn.ext pq;have pQT:=ME.ext pq;have nQp:=(WN.ext rV).mod aO nopr;have nQq:=nQp.ext pq;have hd:=Ext.drew KZ;have pQU:=pq.size;have pQV:=aO.size;have pQW:=JP.size;have pQX:=vt.size;have n15A:¬Ql s.A KA.heap.size:=λhi=>by have:=hhA _ hi;omega
     refine XL Qa (Mod (Ql s.A) KZ) 11 [(true,0),(true,1),(true,2),(true,3),(true,4),(true,5),(true,6),(true,7),(false,8),(false,9),(true,10)] (by kernel_rfl) (Mod.of_ext _ hd) ?_;refine Xo (vs:=s.k.cells) rfl (λw' Qb j u hj=>by rw[(DX.mod Qb nbA).cell];exact hj) ?_;refine Xo (vs:=b.cells) rfl (λw' Qb j u hj=>by rw[(gL.mod Qb n15A).cell];exact hj) ?_;refine QQ (v:=.int .i64 ((s.ln+1:Nat):Int)) (λw' Qb=>by rw[(aP.blk.mod Qb nprA).cell];rfl) ?_
     let zn:SeV:=⟨⟨s.o,JI s.o d,false,s.ln+1⟩,s.k,b⟩
     refine Xw Qa [zn.cells] rfl rfl rfl rfl rfl ⟨rfl,rfl,⟨⟩⟩ rfl (λcs hh=>by simp only[QL] at hh;subst hh;rfl) rfl (by decide) (by decide) ?_;intro aQ jb cQp yX;have rY:=hd.trans jb;refine⟨Mod.of_ext _ rY,?_⟩;have nQr:Sl aQ 6 (some ⟨KZ.drew.heap.size,0,none⟩) 1 1 zn.cells:=Sl.own (sz:=6) (n:=1) yX (QC _) (by decide) (by simp[SeV.cells]);refine JH Qa rfl rfl rfl rfl rfl (by decide) rfl rfl ⟨_,rfl⟩ rfl rfl (nQq.ext rY) nQr (iQT zn) (by unfold maxLen;omega) (by show(s.z.length+1)*80<=_;omega) (aP.ext rY).top ?_;intro A' c' Yt DY DZ D0;have rZ:Mod (Ql s.A) KZ Yt:=(Mod.of_ext (Ql s.A) rY).trans DY (λi hi=>.inl hi);refine⟨rZ,?_⟩;have n14A:¬Ql s.A Zm.heap.size:=λhi=>by have:=hhA _ hi;omega
     refine Qt (nQo.mod rZ n14A) rfl ?_;refine Qw (DX.mod rZ nbA) rfl (sc rfl) (λgN yY _ mK=>?_);have kx:Mod (·=w.heap.size) Yt gN:=qQT yY rfl;have nQs:Mod (Jz p s.m s.A w.heap.size) KZ gN:=(rZ.mono (S':=Jz p s.m s.A w.heap.size) (λi hi=>.inl (.inr (.inl hi)))).trans kx (λi hi=>.inl (.inr (.inr hi)));have cQq:=rZ.size;have ez:Rr w0 Yt base p {s.m with T:=λi=>m.T i∨Ql A' i∨i=w.heap.size} ⟨v.d+s.z.length+1,n,s.ln+1,n::v.rd,s.g⟩:=aP.modT rZ Ay pS O2 (λi hi=>by
       rcases hi with hi | hi | hi
       ·exact .inl (by rw[hI.tt];exact .inl hi)
       ·rcases D0.rows i hi with h1 | h1
        ·exact .inl (by rw[hI.tt];exact .inr (.inl h1))
        ·exact .inr (by have:=rY.size;omega)
       ·exact .inl (by rw[hI.tt];exact .inr (.inr hi))) (λi hi=>by
       rcases hi with hi | hi | hi
       ·have:=Ag i hi;omega
       ·exact(DZ.rows i hi).2
       ·have:=DX.lt;omega)
     have fI:Rr w0 gN base p {s.m with T:=λi=>m.T i∨Ql A' i∨i=w.heap.size} ⟨v.d+s.z.length+1,n,s.ln+1,n::v.rd,s.g⟩:=ez.modT kx (λi hi=>.inr (.inr hi)) (λi hi=>by subst hi;exact nbk) (λi hi=>by have:=h.e0.size;omega) (λi hi=>.inl hi) (λi hi=>Ye (ez.tt i hi) kx.size);refine XQ fI.blk (show 8<11 by decide) (λWs D3 ky=>?_);have kz:Rr w0 Ws base p {s.m with T:=λi=>m.T i∨Ql A' i∨i=w.heap.size} ⟨v.d+s.z.length+1,n,s.ln+1,n::v.rd,{s.g with fr:=true}⟩:=fI.put D3 ky rfl rfl rfl (λe=>by cases e);have dQs:Mod (Jz p s.m s.A w.heap.size) w9 KZ:=((Mod.of_ext _ rV).trans (aO.mono (S':=Jz p s.m s.A w.heap.size) (λi hi=>.inl (.inl (.inl hi)))) (λi hi=>.inl hi)).trans (Mod.of_ext _ pq) (λi hi=>.inl hi);have dQt:Mod (Jz p s.m s.A w.heap.size) KZ Ws:=nQs.trans D3 (λi hi=>.inl (.inl (.inl hi)));have dQu:Mod (Jz p s.m s.A w.heap.size) w7 Ws:=(fH.trans dQs (λi hi=>.inl hi)).trans dQt (λi hi=>.inl hi);have dQv:Moved w7 s.A A':=D0.back (by have:=fH.size;have:=dQs.size;have:=rY.size;omega);have qQD:(λi=>m.T i∨Ql A' i∨i=w.heap.size)=(λi=>m.T i∨Ql A' i∨i=w.heap.size):=rfl
     let s':LS:=⟨a,ZD s.o d,s.z++ [zn],{s.m with T:=λi=>m.T i∨Ql A' i∨i=w.heap.size},{s.g with fr:=true},s.ln+1,s.at_+l.length+1,ls,A',c'⟩
     have kp:∀{x:DV} {o:BF},DgO w7 (TS p s.m) p.nm.length x o->DgO Ws (TS p s'.m) p.nm.length x o:=λhx=>hI.kp (s':=s') dQu rfl dQv (Moved.refl _ _) (Moved.refl _ _) hx
     have Az:(s.z++ [zn]).length=s.z.length+1:=by simp
     have oQ3:∀i,TS p s.m i->i<X1.heap.size:=λi hi=>by
      have:=h9.hiT i hi;omega
     have fresh:∀(x:DV) (ox:BF),(∀i,Ql x.A i->X1.heap.size<=i)->SB Zm x.A x.n x.c x.nd->Set1 p.nm.length x.nd x.r ox->DgO Ws (TS p s'.m) p.nm.length x ox:=λx ox hr hx hs=>by
      have e1:DgO KZ (TS p s.m) p.nm.length x ox:=⟨hx.ext cQo,hs,λad e _ hh=>by have:=hr _ ⟨ad,e,rfl⟩;have:=oQ3 _ hh;omega⟩
      exact e1.step (dQt.mono (λi hi=>.inl (hI.sub i hi))) (λi hi=>by
       rcases hi with hi | hi
       ·exact .inl (.inl hi)
       ·rcases hi with hi | hi | hi
        ·exact .inl (.inr (by rw[hI.tt];exact .inl hi))
        ·rcases D0.rows i hi with h1 | h1
         ·exact .inl (.inr (by rw[hI.tt];exact .inr (.inl h1)))
         ·exact .inr (by have:=rY.size;omega)
        ·exact .inl (.inr (by rw[hI.tt];exact .inr (.inr hi))))
     refine⟨s',?_,?_,?_⟩
     ·show Has _ _;have e:(((s.z++ [zn]).length:Nat):Int)=((s.z.length+1:Nat):Int):=by rw[Az]
      simp only[s',Az];rfl
     ·refine hI.go (s':=s') kM dQu ?_ rfl dQv (Moved.refl _ _) (Moved.refl _ _) ?_ ?_ ?_ ?_ ?_ Vg rfl ?_ ?_ rfl
      ·show Rr w0 Ws base p _ ⟨v.d+(s.z++ [zn]).length,n,s.ln+1,n::v.rd,{s.g with fr:=true}⟩;rw[Az];exact kz
      ·exact mK.mod D3 npr
      ·exact fresh a _ Ad nQj has
      ·show Own Ws base W4 6 A' (s.z++ [zn]).length c' (Yl (s.z++ [zn]));rw[Az,og];exact(DZ.mod kx (λi hi e=>by subst e;exact(DX.mod rZ nbA).apart DZ (by decide) hi)).mod D3 (λi hi e=>by subst e;have:=(DZ.rows _ hi).1;have:=h.rb;omega)
      ·intro z hz;simp only[s',Xv,QL] at hz;rcases hz with hz | rfl
       ·exact kp (hI.zx z hz)
       ·exact kp hI.kd
      ·intro z hz;simp only[s',Xv,QL] at hz;rcases hz with hz | rfl
       ·exact kp (hI.zy z hz)
       ·exact fresh b _ g9 nQk Av
      ·have ja:¬v.d+(s.z.reverse.map (·.s)).length=64:=by simpa using rW
       rw[CH XZ,he] at QE;simp only[if_neg ja] at QE;rw[<-QE];simp[s',zn]
      ·show v.d+(s.z++ [zn]).length<=64;rw[Az];omega
     ·show ls.length<(l::ls).length;simp
    have Zp:v.d+(s.z.reverse.map (·.s)).length=v.d+s.z.length:=by simp
    have eu:∀x∈Vu l,x<256:=λx hx=>gM x (au hx)
    have kL:(Vu l).length<=1000000000000:=by unfold Vu;rw[YR];omega
    by_cases P2:JU l=qV/\32∈l
    ·have XZ:=iQp P2.1 P2.2;rw[Qe P2.2];refine XF (by rw[P2.1];decide) ?_;refine Zq (by rw[P2.1];rfl) ?_;refine Zq (kJ.2 P2.2) ?_;refine XP (iQI (Vu l) w9 hP h9 eu kL) ?_ ?_
     rotate_left
     ·rintro ch QK ⟨e,he,rfl,Zx⟩;refine Xj ⟨e,n,((s.ln+1:Nat):Int)⟩ _ QK ?_ rfl (Mod.of_ext _ Zx);rw[<-QE,xN XZ];have hi:ov p f n v.rd (Vu l) (s.ln+1) (v.d+(s.z.reverse.map (·.s)).length) s.o s.g= .error ⟨e,n,((s.ln+1:Nat):Int)⟩:=by
       unfold ov;rw[show cO (Jj (p.fs.map (·.1))) (n::v.rd) (Vu l)= .error e from he]
      rw[hi]
     rintro _ QK ⟨n',he,rfl,Zx⟩;have he:cO (Jj (p.fs.map (·.1))) (n::v.rd) (Vu l)= .ok n':=he;have XN:=h9.ext Zx;refine XP (Ud QK XN Yw) ?_ ?_
     rotate_left
     ·rintro ch QJ ⟨ja,rfl,Z2⟩;refine Xj ⟨2,n,((s.ln+1:Nat):Int)⟩ _ QJ ?_ rfl (Mod.of_ext _ (Zx.trans Z2));have ja:v.d+(s.z.reverse.map (·.s)).length=64:=by simpa using ja
      rw[<-QE,xN XZ];have hi:ov p f n v.rd (Vu l) (s.ln+1) (v.d+(s.z.reverse.map (·.s)).length) s.o s.g= .error ⟨2,n,((s.ln+1:Nat):Int)⟩:=by
       unfold ov;rw[he];simp only[Qe ja]
      rw[hi]
     rintro _ QJ ⟨rW,ZW,mJ⟩;have rW:¬v.d+s.z.length=64:=rW;have ja:¬v.d+(s.z.reverse.map (·.s)).length=64:=by simpa using rW
     have cQr:=(ct.ext Zx).mod mJ npr;refine Qt cQr rfl ?_;obtain⟨vU,tn,AA⟩:=H4 he;have KE:n'<p.fs.length:=by have:=lI AA;simpa using this
     have nQt:=(ew.ext Zx).keep mJ (λi hi=>.inl (.inl (.inl hi)));have jy:∀R,WZ p.nm p.fs f (n::v.rd) (v.d+s.z.length+1) n' s.o s.g=R->ov p f n v.rd (Vu l) (s.ln+1) (v.d+(s.z.reverse.map (·.s)).length) s.o s.g=R:=λR hR=>by
      unfold ov;rw[he];simp only[if_neg ja];rw[Zp];exact hR
     have O3:Mod (Jz p s.m s.A w.heap.size) w9 QJ:=(Mod.of_ext _ Zx).trans (mJ.mono (S':=Jz p s.m s.A w.heap.size) (λi hi=>.inl (.inl (.inl hi)))) (λi hi=>.inl hi);refine XP (ih s.m ⟨v.d+s.z.length+1,n,s.ln+1,n::v.rd,s.g⟩ n' s.k s.o QJ ZW nQt KE vU (by show v.d+s.z.length+1<=64;omega) (by show 65<=f+(v.d+s.z.length+1);omega)) ?_ ?_
     rotate_left
     ·rintro ch Xa ⟨q,hq,rfl,Yu⟩;refine Xj q _ Xa ?_ rfl (O3.trans Yu (λi hi=>.inl (.inl hi)));rw[<-QE,xN XZ,jy _ hq]
     rintro _ Xa ⟨g',V0,m',hZ,XU,Yu,nQu,nQv⟩;refine Qp XU.blk rfl ?_;refine Qj ((v.d+s.z.length:Nat):Int) (by show((v.d+s.z.length+1:Nat):Int)-1=_;omega) (by omega) ?_;refine XQ XU.blk (show 4<11 by decide) (λX1 aO Vm=>?_);have KY:Rr w0 X1 base p m' ⟨v.d+s.z.length,n,s.ln+1,n::v.rd,g'⟩:=XU.put aO Vm rfl rfl rfl XU.nf;refine XQ KY.blk (show 8<11 by decide) (λZm D4 Kc=>?_);have VY:Rr w0 Zm base p m' ⟨v.d+s.z.length,n,s.ln+1,n::v.rd,{g' with fr:=true}⟩:=KY.put D4 Kc rfl rfl rfl (λe=>by cases e);have MG:Mod (·=p.r) Xa Zm:=aO.trans D4 (λi hi=>.inl hi);have oQ4:Mod (Jz p s.m s.A w.heap.size) w9 Zm:=(O3.trans Yu (λi hi=>.inl (.inl hi))).trans MG (λi hi=>.inl (.inl (.inl hi)));have dQw:Mod (Jz p s.m s.A w.heap.size) w7 Zm:=fH.trans oQ4 (λi hi=>.inl hi);have hzm:=O3.size;have KX:Moved w7 s.m.OA m'.OA:=nQu.back (by omega);have eA:Moved w7 s.m.BA m'.BA:=nQv.back (by omega)
     let s':LS:=⟨s.k,s.o,s.z,m',{g' with fr:=true},s.ln+1,s.at_+l.length+1,ls,s.A,s.c⟩
     have WM:s'.m.T=λi=>m.T i∨Ql s'.A i∨i=w.heap.size:=by show m'.T=_;rw[hZ,hI.tt]
     have kp:∀{x:DV} {o:BF},DgO w7 (TS p s.m) p.nm.length x o->DgO Zm (TS p s'.m) p.nm.length x o:=λhx=>hI.kp (s':=s') dQw WM (Moved.refl _ _) KX eA hx
     have nQw:Own Zm base W4 6 s.A s.z.length s.c (Yl s.z):=((((WN.ext Zx).mod mJ nopr).mod Yu pS).mod MG nopr)
     have nQx:=(cQr.mod Yu nbk).mod MG npr;refine⟨s',rfl,?_,?_⟩
     ·refine hI.go (s':=s') kM dQw VY WM (Moved.refl _ _) KX eA nQx (kp hI.kd) nQw (λz hz=>kp (hI.zx z hz)) (λz hz=>kp (hI.zy z hz)) Vg rfl ?_ Yw rfl;rw[xN XZ,jy _ V0] at QE;exact QE
     ·show ls.length<(l::ls).length;simp
    by_cases P3:JU l=uC/\32∈l
    ·have XZ:=iQq P3.1 P3.2;rw[Qe P3.2];refine XF (by rw[P3.1];decide) ?_;refine XF (by rw[P3.1];decide) ?_;refine Zq (by rw[P3.1];rfl) ?_;refine Zq (kJ.2 P3.2) ?_;refine Zd (λhz=>?_) (λhz=>?_)
     ·have mI:s.z=[]:=Wx (by omega);refine XP (aH 72 w9 h9) (λ_ _ hf=>hf.elim) ?_;rintro ch QK ⟨rfl,Zx⟩;refine Xj ⟨72,n,((s.ln+1:Nat):Int)⟩ _ QK ?_ rfl (Mod.of_ext _ Zx);rw[<-QE,CI XZ,mI]<;>rfl
     obtain⟨z',x,VF⟩:∃z' x,s.z=z'++ [x]:=by
      rcases qf s.z with h0 | ⟨z',x,h0⟩
      ·exact Xd (by rw[h0];rfl) hz
      ·exact⟨z',x,by rw[h0];simp⟩
     have vZ:s.z.length=z'.length+1:=by rw[VF];simp
     have m7:s.z.reverse.map (·.s)=x.s::z'.reverse.map (·.s):=by rw[VF];simp
     obtain⟨oa,Kq,_⟩:=WN.sl.at_ (by omega:0<s.z.length);have pT:Ql (some oa)=Ql s.A:=by rw[Kq]
     have yZ:Own w9 base W4 6 (some oa) s.z.length s.c (Yl z'++x.cells):=by rw[<-Kq,<-og,<-VF];exact WN
     have fW:x∈s.z:=by rw[VF];simp
     have Yz:=rU (hI.zx x fW);have Xu:=rU (hI.zy x fW);have Jf:=CL z';have FJ:∀i,TS p s.m i->i<w9.heap.size:=h9.hiT
     refine Qj ((z'.length:Nat):Int) (by omega) (by omega) ?_;rw[Kq];refine J3 (j:=z'.length) (by omega) ?_;rw[show z'.length*6=(Yl z').length from Jf.symm];refine XF (λe=>by have e2:l=X6:=Kg gM (by decide) e;have:=P3.2;rw[e2] at this;exact Xd this (by decide)) ?_;have AB:decide (Qf l=(⟨#[35,101,108,115,101]⟩:ByteArray))=false:=Zn (λe=>by have e2:l=Ku:=Kg gM (by decide) e;have:=P3.2;rw[e2] at this;exact Xd this (by decide));refine XP (Uj s.m ⟨v.d+s.z.length,n,s.ln+1,n::v.rd,s.g⟩ oa s.z.length s.c (Yl z') x (decide (Qf l=(⟨#[35,101,108,115,101]⟩:ByteArray))) (Vu l) w9 hP h9 yZ (by rw[pT];exact Ay) (by rw[Jf];omega) Xu eu kL i9) ?_ ?_
     rotate_left
     ·rintro ch QK ⟨e,he,rfl,JE⟩;refine Xj ⟨e,n,((s.ln+1:Nat):Int)⟩ _ QK ?_ rfl (JE.mono (λi hi=>.inl (.inr (.inl (by rw[<-pT];exact hi)))));rw[AB] at he;rw[<-QE,CI XZ,m7];rcases he with⟨h1,rfl⟩ | ⟨h1,_,h3⟩
      ·simp only[h1,if_true]
      ·simp only[h1,h3];rfl
     rintro u QK ⟨dx,JE,aW⟩;rw[AB,if_neg (by decide)] at aW;obtain⟨o',b,d',fO,rfl,mL,Av,g9,nQy,jw,cz,MH⟩:=aW
     let zn:SeV:=⟨{x.s with re:=JI x.s.re o'},x.x,d'⟩
     let nk:DV:=b
     let no:BF:=ZD x.s.re o'
     rw[pT] at JE;have MI:=ct.mod JE nbA;have XN:Rr w0 QK base p s.m ⟨v.d+s.z.length,n,s.ln+1,n::v.rd,s.g⟩:=h9.modT JE Ay pS O2 (λi hi=>.inl hi) (λi hi=>Ye (h9.tt i hi) JE.size);refine Qw MI rfl (sc rfl) (λQJ y8 _ Z1=>?_);have Z8:Mod (·=w.heap.size) QK QJ:=qQT y8 rfl;have ZW:Rr w0 QJ base p s.m ⟨v.d+s.z.length,n,s.ln+1,n::v.rd,s.g⟩:=XN.modT Z8 (λi hi=>by rw[hI.tt];exact .inr (.inr hi)) (λi hi=>by subst hi;exact nbk) (λi hi=>by have:=h.e0.size;omega) (λi hi=>.inl hi) (λi hi=>Ye (XN.tt i hi) Z8.size);refine XQ ZW.blk (show 8<11 by decide) (λXa Yu K8=>?_);have XU:Rr w0 Xa base p s.m ⟨v.d+s.z.length,n,s.ln+1,n::v.rd,{s.g with fr:=true}⟩:=ZW.put Yu K8 rfl rfl rfl (λe=>by cases e);have AC:Mod (Jz p s.m s.A w.heap.size) QK Xa:=(Z8.mono (S':=Jz p s.m s.A w.heap.size) (λi hi=>.inl (.inr (.inr hi)))).trans Yu (λi hi=>.inl (.inl (.inl hi)));have AE:Mod (Jz p s.m s.A w.heap.size) w9 Xa:=(JE.mono (S':=Jz p s.m s.A w.heap.size) (λi hi=>.inl (.inr (.inl hi)))).trans AC (λi hi=>.inl hi);have pU:Mod (Jz p s.m s.A w.heap.size) w7 Xa:=fH.trans AE (λi hi=>.inl hi);have nh:(z'++ [zn]).length=s.z.length:=by rw[vZ];simp
     let s':LS:=⟨nk,no,z'++ [zn],s.m,{s.g with fr:=true},s.ln+1,s.at_+l.length+1,ls,s.A,s.c⟩
     have kp:∀{x:DV} {o:BF},DgO w7 (TS p s.m) p.nm.length x o->DgO Xa (TS p s'.m) p.nm.length x o:=λhx=>hI.kp (s':=s') pU hI.tt (Moved.refl _ _) (Moved.refl _ _) (Moved.refl _ _) hx
     have fresh:∀(x:DV) (ox:BF),(∀i,Ql x.A i->w9.heap.size<=i)->SB QK x.A x.n x.c x.nd->Set1 p.nm.length x.nd x.r ox->DgO Xa (TS p s'.m) p.nm.length x ox:=λx ox hr hx hs=>by
      have e1:DgO QK (TS p s.m) p.nm.length x ox:=⟨hx,hs,λad e _ hh=>by have:=hr _ ⟨ad,e,rfl⟩;have:=FJ _ hh;omega⟩
      exact e1.step (AC.mono (λi hi=>.inl (hI.sub i hi))) (λi hi=>.inl hi)
     refine⟨s',?_,?_,?_⟩
     ·show Has _ _;simp only[s',nh];rw[Kq]<;>rfl
     ·refine hI.go (s':=s') kM pU ?_ hI.tt (Moved.refl _ _) (Moved.refl _ _) (Moved.refl _ _) ?_ ?_ ?_ ?_ ?_ Vg rfl ?_ ?_ rfl
      ·show Rr w0 Xa base p _ ⟨v.d+(z'++ [zn]).length,n,s.ln+1,n::v.rd,{s.g with fr:=true}⟩;rw[nh];exact XU
      ·exact Z1.mod Yu npr
      ·exact fresh b _ g9 mL Av
      ·show Own Xa base W4 6 s.A (z'++ [zn]).length s.c (Yl (z'++ [zn]));rw[nh,og];have MJ:Own QK base W4 6 s.A s.z.length s.c (Yl z'++zn.cells):=by rw[Kq];exact MH
       exact(MJ.mod Z8 (λi hi e=>by subst e;exact nbA hi)).mod Yu nopr
      ·intro z hz;simp only[s',Xv,QL] at hz;rcases hz with hz | rfl
       ·exact kp (hI.zx z (by rw[VF];simp[hz]))
       ·exact kp (hI.zx x fW)
      ·intro z hz;simp only[s',Xv,QL] at hz;rcases hz with hz | rfl
       ·exact kp (hI.zy z (by rw[VF];simp[hz]))
       ·exact fresh d' _ cz nQy jw
      ·rw[CI XZ,m7] at QE;simp only[dx,fO] at QE;rw[<-QE];simp[s',zn,no,dx]
      ·show v.d+(z'++ [zn]).length<=64;rw[nh];omega
     ·show ls.length<(l::ls).length;simp
    have oQ5:=iQr P1 P2 P3;by_cases pr:l=Ku
    ·have XZ:Zk l= .els:=by rw[pr]<;>rfl
     have Xq:32∉l:=by rw[pr];decide
     have Ju:JU l=Ku:=by rw[HO Xq,pr]
     rw[if_neg Xq];refine XF (by rw[Ju];decide) ?_;refine XF (by rw[Ju];decide) ?_;refine XF (by rw[Ju];decide) ?_;refine Zq (by rw[pr];rfl) ?_;refine Zd (λhz=>?_) (λhz=>?_)
     ·have mI:s.z=[]:=Wx (by omega);refine XP (aH 72 w9 h9) (λ_ _ hf=>hf.elim) ?_;rintro ch QK ⟨rfl,Zx⟩;refine Xj ⟨72,n,((s.ln+1:Nat):Int)⟩ _ QK ?_ rfl (Mod.of_ext _ Zx);rw[<-QE,CJ XZ,mI]<;>rfl
     obtain⟨z',x,VF⟩:∃z' x,s.z=z'++ [x]:=by
      rcases qf s.z with h0 | ⟨z',x,h0⟩
      ·exact Xd (by rw[h0];rfl) hz
      ·exact⟨z',x,by rw[h0];simp⟩
     have vZ:s.z.length=z'.length+1:=by rw[VF];simp
     have m7:s.z.reverse.map (·.s)=x.s::z'.reverse.map (·.s):=by rw[VF];simp
     obtain⟨oa,Kq,_⟩:=WN.sl.at_ (by omega:0<s.z.length);have pT:Ql (some oa)=Ql s.A:=by rw[Kq]
     have yZ:Own w9 base W4 6 (some oa) s.z.length s.c (Yl z'++x.cells):=by rw[<-Kq,<-og,<-VF];exact WN
     have fW:x∈s.z:=by rw[VF];simp
     have Yz:=rU (hI.zx x fW);have Xu:=rU (hI.zy x fW);have Jf:=CL z';have FJ:∀i,TS p s.m i->i<w9.heap.size:=h9.hiT
     refine Qj ((z'.length:Nat):Int) (by omega) (by omega) ?_;rw[Kq];refine J3 (j:=z'.length) (by omega) ?_;rw[show z'.length*6=(Yl z').length from Jf.symm];refine XF (by rw[pr];decide) ?_;have AB:decide (Qf l=(⟨#[35,101,108,115,101]⟩:ByteArray))=true:=X2 (by rw[pr];rfl);refine XP (Uj s.m ⟨v.d+s.z.length,n,s.ln+1,n::v.rd,s.g⟩ oa s.z.length s.c (Yl z') x (decide (Qf l=(⟨#[35,101,108,115,101]⟩:ByteArray))) [] w9 hP h9 yZ (by rw[pT];exact Ay) (by rw[Jf];omega) Xu (λx hx=>by cases hx) (by decide) i9) ?_ ?_
     rotate_left
     ·rintro ch QK ⟨e,he,rfl,JE⟩;refine Xj ⟨e,n,((s.ln+1:Nat):Int)⟩ _ QK ?_ rfl (JE.mono (λi hi=>.inl (.inr (.inl (by rw[<-pT];exact hi)))));rw[AB] at he;rw[<-QE,CJ XZ,m7];rcases he with⟨h1,rfl⟩ | ⟨_,h2,_⟩
      ·simp only[h1,if_true]
      ·cases h2
     rintro u QK ⟨dx,JE,aW⟩;rw[AB,Qe rfl] at aW;obtain⟨rfl,MH⟩:=aW
     let zn:SeV:=⟨{x.s with ot:=true},x.x,x.y⟩
     let nk:DV:=x.y
     let no:BF:=x.s.re
     rw[pT] at JE;have MI:=ct.mod JE nbA;have XN:Rr w0 QK base p s.m ⟨v.d+s.z.length,n,s.ln+1,n::v.rd,s.g⟩:=h9.modT JE Ay pS O2 (λi hi=>.inl hi) (λi hi=>Ye (h9.tt i hi) JE.size);refine Qw MI rfl (sc rfl) (λQJ y8 _ Z1=>?_);have Z8:Mod (·=w.heap.size) QK QJ:=qQT y8 rfl;have ZW:Rr w0 QJ base p s.m ⟨v.d+s.z.length,n,s.ln+1,n::v.rd,s.g⟩:=XN.modT Z8 (λi hi=>by rw[hI.tt];exact .inr (.inr hi)) (λi hi=>by subst hi;exact nbk) (λi hi=>by have:=h.e0.size;omega) (λi hi=>.inl hi) (λi hi=>Ye (XN.tt i hi) Z8.size);refine XQ ZW.blk (show 8<11 by decide) (λXa Yu K8=>?_);have XU:Rr w0 Xa base p s.m ⟨v.d+s.z.length,n,s.ln+1,n::v.rd,{s.g with fr:=true}⟩:=ZW.put Yu K8 rfl rfl rfl (λe=>by cases e);have AC:Mod (Jz p s.m s.A w.heap.size) QK Xa:=(Z8.mono (S':=Jz p s.m s.A w.heap.size) (λi hi=>.inl (.inr (.inr hi)))).trans Yu (λi hi=>.inl (.inl (.inl hi)));have AE:Mod (Jz p s.m s.A w.heap.size) w9 Xa:=(JE.mono (S':=Jz p s.m s.A w.heap.size) (λi hi=>.inl (.inr (.inl hi)))).trans AC (λi hi=>.inl hi);have pU:Mod (Jz p s.m s.A w.heap.size) w7 Xa:=fH.trans AE (λi hi=>.inl hi);have nh:(z'++ [zn]).length=s.z.length:=by rw[vZ];simp
     let s':LS:=⟨nk,no,z'++ [zn],s.m,{s.g with fr:=true},s.ln+1,s.at_+l.length+1,ls,s.A,s.c⟩
     have kp:∀{x:DV} {o:BF},DgO w7 (TS p s.m) p.nm.length x o->DgO Xa (TS p s'.m) p.nm.length x o:=λhx=>hI.kp (s':=s') pU hI.tt (Moved.refl _ _) (Moved.refl _ _) (Moved.refl _ _) hx
     have fresh:∀(x:DV) (ox:BF),(∀i,Ql x.A i->w9.heap.size<=i)->SB QK x.A x.n x.c x.nd->Set1 p.nm.length x.nd x.r ox->DgO Xa (TS p s'.m) p.nm.length x ox:=λx ox hr hx hs=>by
      have e1:DgO QK (TS p s.m) p.nm.length x ox:=⟨hx,hs,λad e _ hh=>by have:=hr _ ⟨ad,e,rfl⟩;have:=FJ _ hh;omega⟩
      exact e1.step (AC.mono (λi hi=>.inl (hI.sub i hi))) (λi hi=>.inl hi)
     refine⟨s',?_,?_,?_⟩
     ·show Has _ _;simp only[s',nh];rw[Kq]<;>rfl
     ·refine hI.go (s':=s') kM pU ?_ hI.tt (Moved.refl _ _) (Moved.refl _ _) (Moved.refl _ _) ?_ ?_ ?_ ?_ ?_ Vg rfl ?_ ?_ rfl
      ·show Rr w0 Xa base p _ ⟨v.d+(z'++ [zn]).length,n,s.ln+1,n::v.rd,{s.g with fr:=true}⟩;rw[nh];exact XU
      ·exact Z1.mod Yu npr
      ·exact kp (hI.zy x fW)
      ·show Own Xa base W4 6 s.A (z'++ [zn]).length s.c (Yl (z'++ [zn]));rw[nh,og];have MJ:Own QK base W4 6 s.A s.z.length s.c (Yl z'++zn.cells):=by rw[Kq];exact MH
       exact(MJ.mod Z8 (λi hi e=>by subst e;exact nbA hi)).mod Yu nopr
      ·intro z hz;simp only[s',Xv,QL] at hz;rcases hz with hz | rfl
       ·exact kp (hI.zx z (by rw[VF];simp[hz]))
       ·exact kp (hI.zx x fW)
      ·intro z hz;simp only[s',Xv,QL] at hz;rcases hz with hz | rfl
       ·exact kp (hI.zy z (by rw[VF];simp[hz]))
       ·exact kp (hI.zy x fW)
      ·rw[CJ XZ,m7] at QE;simp only[dx] at QE;rw[<-QE];simp[s',zn,no]
      ·show v.d+(z'++ [zn]).length<=64;rw[nh];omega
     ·show ls.length<(l::ls).length;simp
    by_cases pu:l=X6
    ·have XZ:Zk l= .en:=by rw[pu]<;>rfl
     have Xq:32∉l:=by rw[pu];decide
     have Ju:JU l=X6:=by rw[HO Xq,pu]
     refine XF (by rw[Ju];decide) ?_;refine XF (by rw[Ju];decide) ?_;refine XF (by rw[Ju];decide) ?_;refine XF (by rw[pu];decide) ?_;refine Zq (by rw[pu];rfl) ?_;refine Zd (λhz=>?_) (λhz=>?_)
     ·have mI:s.z=[]:=Wx (by omega);refine XP (aH 72 w9 h9) (λ_ _ hf=>hf.elim) ?_;rintro ch QK ⟨rfl,Zx⟩;refine Xj ⟨72,n,((s.ln+1:Nat):Int)⟩ _ QK ?_ rfl (Mod.of_ext _ Zx);rw[<-QE,H3 XZ,mI]<;>rfl
     obtain⟨z',x,VF⟩:∃z' x,s.z=z'++ [x]:=by
      rcases qf s.z with h0 | ⟨z',x,h0⟩
      ·exact Xd (by rw[h0];rfl) hz
      ·exact⟨z',x,by rw[h0];simp⟩
     have vZ:s.z.length=z'.length+1:=by rw[VF];simp
     have m7:s.z.reverse.map (·.s)=x.s::z'.reverse.map (·.s):=by rw[VF];simp
     obtain⟨oa,Kq,_⟩:=WN.sl.at_ (by omega:0<s.z.length);have pT:Ql (some oa)=Ql s.A:=by rw[Kq]
     have yZ:Own w9 base W4 6 (some oa) s.z.length s.c (Yl z'++x.cells):=by rw[<-Kq,<-og,<-VF];exact WN
     have fW:x∈s.z:=by rw[VF];simp
     have Yz:=rU (hI.zx x fW);have Xu:=rU (hI.zy x fW);have Jf:=CL z';have FJ:∀i,TS p s.m i->i<w9.heap.size:=h9.hiT
     refine Qj ((z'.length:Nat):Int) (by omega) (by omega) ?_;rw[Kq];refine J3 (j:=z'.length) (by omega) ?_;rw[show z'.length*6=(Yl z').length from Jf.symm];refine Zq (by rw[pu];rfl) ?_;refine JN (vs:=x.x.cells) rfl (λi u hi=>?_) ?_
     ·show w9.cell? (((oa.add (Yl z').length).add 0).add i)=some u;rw[add_add];refine CG yZ (by omega) (xM ?_)
      match i,hi with
      | 0,hi=>exact hi
      | 1,hi=>exact hi
      | _+2,hi=>exact nomatch hi
     refine Qw ct rfl (sc rfl) (λQK mM _ Km=>?_);have ZA:Mod (·=w.heap.size) w9 QK:=qQT mM rfl;have XN:Rr w0 QK base p s.m ⟨v.d+s.z.length,n,s.ln+1,n::v.rd,s.g⟩:=h9.modT ZA (λi hi=>by rw[hI.tt];exact .inr (.inr hi)) (λi hi=>by subst hi;exact nbk) (λi hi=>by have:=h.e0.size;omega) (λi hi=>.inl hi) (λi hi=>Ye (h9.tt i hi) ZA.size);refine Qj ((z'.length:Nat):Int) (by omega) (by omega) ?_;refine jO (h:=z'.length) Qa rfl rfl rfl rfl rfl rfl (by have:=WN.sl.le;omega) ?_;refine Qp XN.blk rfl ?_;refine Qj ((v.d+z'.length:Nat):Int) (by show((v.d+s.z.length:Nat):Int)-1=_;omega) (by omega) ?_;refine XQ XN.blk (show 4<11 by decide) (λQJ mJ Z1=>?_);have ZW:Rr w0 QJ base p s.m ⟨v.d+z'.length,n,s.ln+1,n::v.rd,s.g⟩:=XN.put mJ Z1 rfl rfl rfl XN.nf;refine XQ ZW.blk (show 8<11 by decide) (λXa Yu K8=>?_);have XU:Rr w0 Xa base p s.m ⟨v.d+z'.length,n,s.ln+1,n::v.rd,{s.g with fr:=true}⟩:=ZW.put Yu K8 rfl rfl rfl (λe=>by cases e);have ML:Mod (·=p.r) QK Xa:=mJ.trans Yu (λi hi=>.inl hi);have AE:Mod (Jz p s.m s.A w.heap.size) w9 Xa:=(ZA.mono (S':=Jz p s.m s.A w.heap.size) (λi hi=>.inl (.inr (.inr hi)))).trans ML (λi hi=>.inl (.inl (.inl hi)));have pU:Mod (Jz p s.m s.A w.heap.size) w7 Xa:=fH.trans AE (λi hi=>.inl hi)
     let s':LS:=⟨x.x,x.s.ou,z',s.m,{s.g with fr:=true},s.ln+1,s.at_+l.length+1,ls,s.A,s.c⟩
     have kp:∀{x:DV} {o:BF},DgO w7 (TS p s.m) p.nm.length x o->DgO Xa (TS p s'.m) p.nm.length x o:=λhx=>hI.kp (s':=s') pU hI.tt (Moved.refl _ _) (Moved.refl _ _) (Moved.refl _ _) hx
     refine⟨s',?_,?_,?_⟩
     ·show Has _ _;simp only[s'];rw[Kq]<;>rfl
     ·refine hI.go (s':=s') kM pU XU hI.tt (Moved.refl _ _) (Moved.refl _ _) (Moved.refl _ _) (Km.mod ML npr) (kp (hI.zx x fW)) ?_ (λz hz=>kp (hI.zx z (by rw[VF];simp[show z∈z' from hz]))) (λz hz=>kp (hI.zy z (by rw[VF];simp[show z∈z' from hz]))) Vg rfl ?_ ?_ rfl
      ·have ht:=WN.take (k:=z'.length) (by omega);rw[VF,og,List.take_left' (by rw[Jf])] at ht;exact(ht.mod ZA (λi hi e=>by subst e;exact nbA hi)).mod ML nopr
      ·rw[H3 XZ,m7] at QE;rw[<-QE]
      ·show v.d+z'.length<=64;omega
     ·show ls.length<(l::ls).length;simp
    have XZ:Zk l= .txt:=by rw[oQ5,if_neg pr,if_neg pu]
    have D5:¬Qf l=(⟨#[35,101,108,115,101]⟩:ByteArray):=λe=>pr (Kg gM (by decide) e)
    have D6:¬Qf l=(⟨#[35,101,110,100]⟩:ByteArray):=λe=>pu (Kg gM (by decide) e)
    have pv:∀x∈JU l,x<256:=λx hx=>gM x ((PU _).subset hx)
    by_cases q1:JU l=nZ
    ·refine Zq (by rw[q1];rfl) ?_;refine XF (λe=>P1 ⟨q1,kJ.1 e⟩) ?_;refine XF (by rw[q1];decide) ?_;refine XF (by rw[q1];decide) ?_;refine XF D5 ?_;refine XF D6 ?_;have Kd:=Ext.drew w9;refine qy Qa 7 (by kernel_rfl) ?_;refine XM (v':=.string (Qf (l++ [10]))) ⟨by omega,by omega,by rw[X7];omega⟩ ?_ ?_
     ·rw[VN];simp only[io];rw[jF,show s.at_+l.length+1-s.at_=l.length+1 by omega,l5]
     refine Xo (vs:=s.k.cells) rfl (λw' Qb j u hj=>by subst Qb;rw[(ct.ext Kd).cell];exact hj) ?_;have ta:=h9.ext Kd;have td:DgO w9.drew (RS p s.m) p.nm.length s.k s.o:=⟨ew.sb.ext Kd,ew.st,λad e h0 hh=>ew.off ad e h0 (.inl hh)⟩
     refine XP (add_fn s.m ⟨v.d+s.z.length,n,s.ln+1,n::v.rd,s.g⟩ (l++ [10]) s.at_ s.k s.o w9.drew hP ta td (λx hx=>by
      rcases Xv.1 hx with hx | hx
      ·exact gM x hx
      ·simp only[QL] at hx;omega) (by rw[Qq];simp;omega) (PZ _ _)) ?_ ?_
     rotate_left
     ·rintro ch QK ⟨hg,rfl,Zx⟩;refine Xj ⟨2,n,((s.ln+1:Nat):Int)⟩ _ QK ?_ rfl (Mod.of_ext _ (Kd.trans Zx));rw[<-QE,lQ XZ,show Vi (l++ [10]) n s.at_ s.o s.g=none from hg]
     rintro _ QK ⟨g',V0,m',hZ,XN,JE,r4,r5⟩;have tf:Mod (Jz p s.m s.A w.heap.size) w9 QK:=(Mod.of_ext _ Kd).trans JE (λi hi=>.inl (.inl hi));have jA:Mod (Jz p s.m s.A w.heap.size) w7 QK:=fH.trans tf (λi hi=>.inl hi);have AF:=Kd.size;have KX:Moved w7 s.m.OA m'.OA:=r4.back (by omega);have eA:Moved w7 s.m.BA m'.BA:=r5.back (by omega)
     let s':LS:=⟨s.k,s.o,s.z,m',g',s.ln+1,s.at_+l.length+1,ls,s.A,s.c⟩
     have WM:s'.m.T=λi=>m.T i∨Ql s'.A i∨i=w.heap.size:=by show m'.T=_;rw[hZ,hI.tt]
     have kp:∀{x:DV} {o:BF},DgO w7 (TS p s.m) p.nm.length x o->DgO QK (TS p s'.m) p.nm.length x o:=λhx=>hI.kp (s':=s') jA WM (Moved.refl _ _) KX eA hx
     refine⟨s',rfl,?_,?_⟩
     ·refine hI.go (s':=s') kM jA XN WM (Moved.refl _ _) KX eA ((ct.ext Kd).mod JE nbk) (kp hI.kd) ((WN.ext Kd).mod JE pS) (λz hz=>kp (hI.zx z hz)) (λz hz=>kp (hI.zy z hz)) Vg rfl ?_ Yw rfl;rw[lQ XZ,show Vi (l++ [10]) n s.at_ s.o s.g=some g' from V0] at QE;exact QE
     ·show ls.length<(l::ls).length;simp
    refine XF (λe=>q1 (Kg pv (by decide) e)) ?_;by_cases q2:JU l=qV
    ·refine Zq (by rw[q2];rfl) ?_;refine XF (λe=>P2 ⟨q2,kJ.1 e⟩) ?_;refine XF (by rw[q2];decide) ?_;refine XF D5 ?_;refine XF D6 ?_;have Kd:=Ext.drew w9;refine qy Qa 7 (by kernel_rfl) ?_;refine XM (v':=.string (Qf (l++ [10]))) ⟨by omega,by omega,by rw[X7];omega⟩ ?_ ?_
     ·rw[VN];simp only[io];rw[jF,show s.at_+l.length+1-s.at_=l.length+1 by omega,l5]
     refine Xo (vs:=s.k.cells) rfl (λw' Qb j u hj=>by subst Qb;rw[(ct.ext Kd).cell];exact hj) ?_;have ta:=h9.ext Kd;have td:DgO w9.drew (RS p s.m) p.nm.length s.k s.o:=⟨ew.sb.ext Kd,ew.st,λad e h0 hh=>ew.off ad e h0 (.inl hh)⟩
     refine XP (add_fn s.m ⟨v.d+s.z.length,n,s.ln+1,n::v.rd,s.g⟩ (l++ [10]) s.at_ s.k s.o w9.drew hP ta td (λx hx=>by
      rcases Xv.1 hx with hx | hx
      ·exact gM x hx
      ·simp only[QL] at hx;omega) (by rw[Qq];simp;omega) (PZ _ _)) ?_ ?_
     rotate_left
     ·rintro ch QK ⟨hg,rfl,Zx⟩;refine Xj ⟨2,n,((s.ln+1:Nat):Int)⟩ _ QK ?_ rfl (Mod.of_ext _ (Kd.trans Zx));rw[<-QE,lQ XZ,show Vi (l++ [10]) n s.at_ s.o s.g=none from hg]
     rintro _ QK ⟨g',V0,m',hZ,XN,JE,r4,r5⟩;have tf:Mod (Jz p s.m s.A w.heap.size) w9 QK:=(Mod.of_ext _ Kd).trans JE (λi hi=>.inl (.inl hi));have jA:Mod (Jz p s.m s.A w.heap.size) w7 QK:=fH.trans tf (λi hi=>.inl hi);have AF:=Kd.size;have KX:Moved w7 s.m.OA m'.OA:=r4.back (by omega);have eA:Moved w7 s.m.BA m'.BA:=r5.back (by omega)
     let s':LS:=⟨s.k,s.o,s.z,m',g',s.ln+1,s.at_+l.length+1,ls,s.A,s.c⟩
     have WM:s'.m.T=λi=>m.T i∨Ql s'.A i∨i=w.heap.size:=by show m'.T=_;rw[hZ,hI.tt]
     have kp:∀{x:DV} {o:BF},DgO w7 (TS p s.m) p.nm.length x o->DgO QK (TS p s'.m) p.nm.length x o:=λhx=>hI.kp (s':=s') jA WM (Moved.refl _ _) KX eA hx
     refine⟨s',rfl,?_,?_⟩
     ·refine hI.go (s':=s') kM jA XN WM (Moved.refl _ _) KX eA ((ct.ext Kd).mod JE nbk) (kp hI.kd) ((WN.ext Kd).mod JE pS) (λz hz=>kp (hI.zx z hz)) (λz hz=>kp (hI.zy z hz)) Vg rfl ?_ Yw rfl;rw[lQ XZ,show Vi (l++ [10]) n s.at_ s.o s.g=some g' from V0] at QE;exact QE
     ·show ls.length<(l::ls).length;simp
    refine XF (λe=>q2 (Kg pv (by decide) e)) ?_;by_cases q3:JU l=uC
    ·refine Zq (by rw[q3];rfl) ?_;refine XF (λe=>P3 ⟨q3,kJ.1 e⟩) ?_;refine XF D5 ?_;refine XF D6 ?_;have Kd:=Ext.drew w9;refine qy Qa 7 (by kernel_rfl) ?_;refine XM (v':=.string (Qf (l++ [10]))) ⟨by omega,by omega,by rw[X7];omega⟩ ?_ ?_
     ·rw[VN];simp only[io];rw[jF,show s.at_+l.length+1-s.at_=l.length+1 by omega,l5]
     refine Xo (vs:=s.k.cells) rfl (λw' Qb j u hj=>by subst Qb;rw[(ct.ext Kd).cell];exact hj) ?_;have ta:=h9.ext Kd;have td:DgO w9.drew (RS p s.m) p.nm.length s.k s.o:=⟨ew.sb.ext Kd,ew.st,λad e h0 hh=>ew.off ad e h0 (.inl hh)⟩
     refine XP (add_fn s.m ⟨v.d+s.z.length,n,s.ln+1,n::v.rd,s.g⟩ (l++ [10]) s.at_ s.k s.o w9.drew hP ta td (λx hx=>by
      rcases Xv.1 hx with hx | hx
      ·exact gM x hx
      ·simp only[QL] at hx;omega) (by rw[Qq];simp;omega) (PZ _ _)) ?_ ?_
     rotate_left
     ·rintro ch QK ⟨hg,rfl,Zx⟩;refine Xj ⟨2,n,((s.ln+1:Nat):Int)⟩ _ QK ?_ rfl (Mod.of_ext _ (Kd.trans Zx));rw[<-QE,lQ XZ,show Vi (l++ [10]) n s.at_ s.o s.g=none from hg]
     rintro _ QK ⟨g',V0,m',hZ,XN,JE,r4,r5⟩;have tf:Mod (Jz p s.m s.A w.heap.size) w9 QK:=(Mod.of_ext _ Kd).trans JE (λi hi=>.inl (.inl hi));have jA:Mod (Jz p s.m s.A w.heap.size) w7 QK:=fH.trans tf (λi hi=>.inl hi);have AF:=Kd.size;have KX:Moved w7 s.m.OA m'.OA:=r4.back (by omega);have eA:Moved w7 s.m.BA m'.BA:=r5.back (by omega)
     let s':LS:=⟨s.k,s.o,s.z,m',g',s.ln+1,s.at_+l.length+1,ls,s.A,s.c⟩
     have WM:s'.m.T=λi=>m.T i∨Ql s'.A i∨i=w.heap.size:=by show m'.T=_;rw[hZ,hI.tt]
     have kp:∀{x:DV} {o:BF},DgO w7 (TS p s.m) p.nm.length x o->DgO QK (TS p s'.m) p.nm.length x o:=λhx=>hI.kp (s':=s') jA WM (Moved.refl _ _) KX eA hx
     refine⟨s',rfl,?_,?_⟩
     ·refine hI.go (s':=s') kM jA XN WM (Moved.refl _ _) KX eA ((ct.ext Kd).mod JE nbk) (kp hI.kd) ((WN.ext Kd).mod JE pS) (λz hz=>kp (hI.zx z hz)) (λz hz=>kp (hI.zy z hz)) Vg rfl ?_ Yw rfl;rw[lQ XZ,show Vi (l++ [10]) n s.at_ s.o s.g=some g' from V0] at QE;exact QE
     ·show ls.length<(l::ls).length;simp
    ·refine XF (λe=>q3 (Kg pv (by decide) e)) ?_;refine XF D5 ?_;refine XF D6 ?_;have Kd:=Ext.drew w9;refine qy Qa 7 (by kernel_rfl) ?_;refine XM (v':=.string (Qf (l++ [10]))) ⟨by omega,by omega,by rw[X7];omega⟩ ?_ ?_
     ·rw[VN];simp only[io];rw[jF,show s.at_+l.length+1-s.at_=l.length+1 by omega,l5]
     refine Xo (vs:=s.k.cells) rfl (λw' Qb j u hj=>by subst Qb;rw[(ct.ext Kd).cell];exact hj) ?_;have ta:=h9.ext Kd;have td:DgO w9.drew (RS p s.m) p.nm.length s.k s.o:=⟨ew.sb.ext Kd,ew.st,λad e h0 hh=>ew.off ad e h0 (.inl hh)⟩
     refine XP (add_fn s.m ⟨v.d+s.z.length,n,s.ln+1,n::v.rd,s.g⟩ (l++ [10]) s.at_ s.k s.o w9.drew hP ta td (λx hx=>by
      rcases Xv.1 hx with hx | hx
      ·exact gM x hx
      ·simp only[QL] at hx;omega) (by rw[Qq];simp;omega) (PZ _ _)) ?_ ?_
     rotate_left
     ·rintro ch QK ⟨hg,rfl,Zx⟩;refine Xj ⟨2,n,((s.ln+1:Nat):Int)⟩ _ QK ?_ rfl (Mod.of_ext _ (Kd.trans Zx));rw[<-QE,lQ XZ,show Vi (l++ [10]) n s.at_ s.o s.g=none from hg]
     rintro _ QK ⟨g',V0,m',hZ,XN,JE,r4,r5⟩;have tf:Mod (Jz p s.m s.A w.heap.size) w9 QK:=(Mod.of_ext _ Kd).trans JE (λi hi=>.inl (.inl hi));have jA:Mod (Jz p s.m s.A w.heap.size) w7 QK:=fH.trans tf (λi hi=>.inl hi);have AF:=Kd.size;have KX:Moved w7 s.m.OA m'.OA:=r4.back (by omega);have eA:Moved w7 s.m.BA m'.BA:=r5.back (by omega)
     let s':LS:=⟨s.k,s.o,s.z,m',g',s.ln+1,s.at_+l.length+1,ls,s.A,s.c⟩
     have WM:s'.m.T=λi=>m.T i∨Ql s'.A i∨i=w.heap.size:=by show m'.T=_;rw[hZ,hI.tt]
     have kp:∀{x:DV} {o:BF},DgO w7 (TS p s.m) p.nm.length x o->DgO QK (TS p s'.m) p.nm.length x o:=λhx=>hI.kp (s':=s') jA WM (Moved.refl _ _) KX eA hx
     refine⟨s',rfl,?_,?_⟩
     ·refine hI.go (s':=s') kM jA XN WM (Moved.refl _ _) KX eA ((ct.ext Kd).mod JE nbk) (kp hI.kd) ((WN.ext Kd).mod JE pS) (λz hz=>kp (hI.zx z hz)) (λz hz=>kp (hI.zy z hz)) Vg rfl ?_ Yw rfl;rw[lQ XZ,show Vi (l++ [10]) n s.at_ s.o s.g=some g' from V0] at QE;exact QE
     ·show ls.length<(l::ls).length;simp
end
end
section
section
structure FileB (x:List Nat×List Nat):Prop where
 n8:∀b∈x.1,b<256
 t8:∀b∈x.2,b<256
 nl:x.1.length<=9223372036854775807
 tl:x.2.length<=9223372036854775807
def oy (q:Pl):List Value:=[.int .i64 q.e,.int .i64 q.f,.int .i64 q.l]
def plO (o:Option Pl):Pl:=o.getD ⟨0,0,0⟩
def badB (b:Nat):Bool:=decide (b<32)||b==34||b==127
theorem iQY (s:List Nat):lK s=(decide (s≠ []) && !(s.any badB)):=by
 unfold lK;congr 1;rw[List.any_eq_not_all_not,Bool.not_not];congr 1;funext b;unfold badB;have e:decide (32<=b)= !decide (b<32):=by by_cases h:b<32<;>simp[h]<;>omega
 rw[e];by_cases h1:b=34<;>by_cases h2:b=127<;>by_cases h3:b<32<;>simp[h1,h2,h3,bne]
def aI (x:List Nat×List Nat)(seen:List (List Nat)):Bool:=decide (x.1=[])||decide (x.1∈seen)||(decide (x.2≠ [])&&x.2.getLast? !=some 10)
theorem CM (x:List Nat×List Nat)(seen:List (List Nat)):(aI x seen||x.1.any badB)=true↔¬(lK x.1=true/\x.1∉seen/\br x.2=true):=by
 rw[iQY];unfold aI br;by_cases h1:x.1=[]<;>by_cases h2:x.1∈seen<;>by_cases h3:x.2=[]<;>by_cases h4:x.2.getLast? =some 10<;>simp[h1,h2,h3,h4]
structure CkI (w0:World) (q:Nat) (fs:List (List Nat×List Nat)) (res:Option Pl) (i:Nat) (w:World):Prop where
 e:Ext w0 w
 mp:∃m,MapAt Yh w q m/\∀s:List Nat,(∀x∈s,x<256)->XC (Qf s) m=if s∈(fs.take i).map (·.1)then some (.bool true)else none
 rs:cP (fs.drop i) ((fs.take i).map (·.1)) i=res
 le:i<=fs.length
 qo:w0.heap.size<=q
theorem CkI.ext {w0 w w':World}{q:Nat}{fs:List (List Nat×List Nat)}{res:Option Pl}{i:Nat}(h:CkI w0 q fs res i w)(k:Ext w w'):CkI w0 q fs res i w':=⟨h.e.trans k,let ⟨m,h1,h2⟩:=h.mp;⟨m,h1.ext k,h2⟩,h.rs,h.le,h.qo⟩
theorem iQZ (fs:List (List Nat×List Nat))(FA:Option Addr)(nf cf:Nat)(w:World)(h:SlS aG 2 w FA nf cf fs)(hb:∀x∈fs,FileB x)(hnf:nf<=1000000000000):
  Fn Tryz.prog 90 [.slice FA nf cf] w (λu w'=>u= .agg (oy (plO (YY fs))).toArray/\Ext w w'):=by
 have Q0:=h.2;refine QH (c:={c90 with cuts:=[]}) Qa Tryz.func90 rfl rfl rfl ?_;refine new (λw1 Qd Q9 Qh=>?_);refine Qz (λc1=>?_) (λc1=>?_)
 ·refine Qw Qh rfl (sc rfl) (λw2 cm _ Qv=>?_);refine Qt Qv rfl ?_;refine⟨?_,XV Qd Qh cm⟩;unfold YY;rw[Qe (by omega)]<;>rfl
 have K4:YY fs=cP fs [] 0:=by unfold YY;rw[if_neg (by omega)]
 refine wV Qa Yh rfl (λw2 Qg Zi XR=>?_);have QR:=Qd.trans Qg;refine loop Qa [15] (λi:Nat=>[.int .i64 i]) (λi w'=>CkI w1 w1.heap.size fs (YY fs) i w') (λi _=>fs.length-i) 0 rfl ⟨Qg,⟨[],XR,λs _=>by simp[XC]⟩,by rw[K4];rfl,Xt _,QC _⟩ ?_;rintro i w3 hI;have QY:Ext w w3:=Qd.trans hI.e;refine Qz (λc2=>?_) (λc2=>?_)
 ·have hi:i<nf:=by omega
  refine Zz HW (h.ext QY) rfl hi (λpp x hx hc=>?_);refine JN (vs:=aG x) rfl hc ?_;refine new (λw4 Qs KW QX=>?_);refine Qw QX rfl (sc rfl) (λw5 Js _ QB=>?_);have KM:Ext w3 w5:=XV Qs QX Js;have y9:=hI.ext KM;obtain⟨m,XT,s9⟩:=y9.mp;have Jt:=hb x (Xk hx);have aX:=Xi x.1;have cv:=Xi x.2;have KQ:=Jt.nl;refine Qp QB rfl ?_;by_cases p1:x.1=[]
  ·refine Zq (by rw[p1];rfl) ?_;refine Qp QB rfl ?_;have e0:aI x ((fs.take i).map (·.1))=true:=by simp[aI,p1]
   refine loop Qa [47,6] (λs:Nat×Bool=>[.int .i64 s.1,.bool s.2]) (λs w'=>Ext w5 w'/\s.1<=x.1.length/\s.2=(aI x ((fs.take i).map (·.1))||(x.1.take s.1).any badB)) (λs _=>x.1.length-s.1) (0,true) rfl ⟨Ext.refl _,Xt _,by rw[e0];simp⟩ ?_;rintro⟨k,b⟩ w6 ⟨ZO,hk,VE⟩;simp only at hk VE;have Jw:=y9.ext ZO;have Xg:=QB.ext ZO;refine Qz (λc3=>?_) (λc3=>?_)
   ·have JM:k<x.1.length:=by rw[aX] at c3;simp only at c3;omega
    obtain⟨y,hy⟩:∃y,x.1[k]? =some y:=⟨_,XB JM⟩
    have dC:(x.1.take (k+1)).any badB=((x.1.take k).any badB||badB y):=by
     rw[V3,hy];simp
    have fin:∀b',b'=(b||badB y)->b'=(aI x ((fs.take i).map (·.1))||(x.1.take (k+1)).any badB):=λb' e=>by rw[e,VE,dC,Gi]
    cases b with
    | true=>
     refine Xc rfl ?_;refine Qj ((k+1:Nat):Int) (by show((k:Nat):Int)+1=_;omega) (by omega) ?_;exact⟨(k+1,true),rfl,⟨ZO,JM,fin true rfl⟩,by show x.1.length-(k+1)<x.1.length-k;omega⟩
    | false=>
     have idx:∀K:Int->Prop,K (y:Int)->eQ (Qf x.1) ((k:Nat):Int) K:=λK hK=>by
      refine dL (by rw[aX];exact JM) (λz hz _=>?_);rw[WB Jt.n8,hy] at hz;cases hz;exact hK
     refine Q7 rfl ?_;refine Qp Xg rfl ?_;refine idx _ ?_;refine Qz (λd1=>?_) (λd1=>?_)
     ·refine Qj ((k+1:Nat):Int) (by show((k:Nat):Int)+1=_;omega) (by omega) ?_;exact⟨(k+1,true),rfl,⟨ZO,JM,fin true (by
                                have:y<32:=by omega
                                simp[badB,this])⟩,by show x.1.length-(k+1)<x.1.length-k;omega⟩
     refine Qp Xg rfl ?_;refine idx _ ?_;refine Zd (λd2=>?_) (λd2=>?_)
     ·refine Qj ((k+1:Nat):Int) (by show((k:Nat):Int)+1=_;omega) (by omega) ?_;exact⟨(k+1,true),rfl,⟨ZO,JM,fin true (by
                                have:y=34:=by omega
                                simp[badB,this])⟩,by show x.1.length-(k+1)<x.1.length-k;omega⟩
     refine Qp Xg rfl ?_;refine idx _ ?_;refine Qj ((k+1:Nat):Int) (by show((k:Nat):Int)+1=_;omega) (by omega) ?_;refine⟨(k+1,((y:Int)==127)),rfl,⟨ZO,JM,fin _ ?_⟩,by show x.1.length-(k+1)<x.1.length-k;omega⟩;have n1:¬y<32:=by omega
     have n2:¬y=34:=by omega
     by_cases n3:y=127
     ·subst n3;rfl
     ·have:((y:Int)==127)=false:=by simp;omega
      rw[this];simp[badB,n1,n2,n3]
   ·have JM:k=x.1.length:=by rw[aX] at c3;simp only at c3;omega
    subst JM;rw[qd] at VE;have hall:=CM x ((fs.take i).map (·.1));have bK:fs.drop i=x::fs.drop (i+1):=by
     rw[av (by omega)];congr 1;exact Option.some.inj ((XB (by omega)).symm.trans hx)
    have QE:=Jw.rs;rw[bK,cP] at QE;have Wq:=((Qh.ext hI.e).ext KM).ext ZO;refine YT (λd1=>?_) (λd1=>?_)
    ·have d1:b=true:=d1;rw[Qe (hall.1 (by rw[<-VE,d1]))] at QE;refine Qw Wq rfl (sc rfl) (λw7 Zs _ Q8=>?_);refine Qt Q8 rfl ?_;have Xb:Mod (·=w.heap.size) w6 w7:=qQT Zs rfl;exact⟨by rw[<-QE];rfl,Xb.ext (Qd.trans Jw.e) (λi hi=>by omega)⟩
    have d1:b=false:=d1;have XY:=λhh=>(hall.2 hh).symm.trans (VE.symm.trans d1)
    rw[if_neg (λhh=>by have:=XY hh;cases this)] at QE;refine Qp Xg rfl ?_;refine Qz (λd2=>?_) (λd2=>?_)
    ·rw[Qe (by omega)] at QE;refine Qw Wq rfl (sc rfl) (λw7 Zs _ Q8=>?_);refine Qt Q8 rfl ?_;have Xb:Mod (·=w.heap.size) w6 w7:=qQT Zs rfl;exact⟨by rw[<-QE];rfl,Xb.ext (Qd.trans Jw.e) (λi hi=>by omega)⟩
    rw[if_neg (by omega)] at QE;refine Qp Xg rfl ?_;have Vy:=XT.ext ZO;refine lh (kv:=Yh) (a:=Qf x.1) Qa rfl rfl rfl rfl rfl qQU rfl rfl rfl Vy (λw7 Zs WJ JW=>?_);have Xb:Mod (·=w1.heap.size) w6 w7:=qQT Zs rfl;refine Qj ((i+1:Nat):Int) (by show((i:Nat):Int)+1=_;omega) (by omega) ?_;have VC:(fs.take (i+1)).map (·.1)=(fs.take i).map (·.1)++ [x.1]:=by rw[V3,hx];simp
    refine⟨i+1,rfl,⟨Xb.ext Jw.e (λi hi=>by omega),⟨_,JW,λs hs=>?_⟩,by rw[VC];exact QE,by omega,QC _⟩,by show fs.length-(i+1)<fs.length-i;omega⟩;rw[bj,VC];by_cases dD:s=x.1
    ·subst dD;simp
    ·rw[if_neg (λe=>dD (Kg hs Jt.n8 e)),s9 s hs];simp[dD]
  refine XF (λe=>p1 (Kg Jt.n8 (by simp) e)) ?_;refine Qp QB rfl ?_;refine He (kv:=Yh) (a:=Qf x.1) (v:=.bool (decide (x.1∈(fs.take i).map (·.1)))) Qa rfl rfl rfl rfl rfl qQU rfl rfl XT (by
   rw[s9 x.1 Jt.n8];by_cases hm:x.1∈(fs.take i).map (·.1)
   ·rw[Qe hm,X2 hm]<;>rfl
   ·rw[if_neg hm,Zn hm];rfl) ?_
  by_cases p2:x.1∈(fs.take i).map (·.1)
  ·refine Zq p2 ?_;refine Qp QB rfl ?_;have e0:aI x ((fs.take i).map (·.1))=true:=by unfold aI;rw[X2 p2];simp
   refine loop Qa [47,6] (λs:Nat×Bool=>[.int .i64 s.1,.bool s.2]) (λs w'=>Ext w5 w'/\s.1<=x.1.length/\s.2=(aI x ((fs.take i).map (·.1))||(x.1.take s.1).any badB)) (λs _=>x.1.length-s.1) (0,true) rfl ⟨Ext.refl _,Xt _,by rw[e0];simp⟩ ?_;rintro⟨k,b⟩ w6 ⟨ZO,hk,VE⟩;simp only at hk VE;have Jw:=y9.ext ZO;have Xg:=QB.ext ZO;refine Qz (λc3=>?_) (λc3=>?_)
   ·have JM:k<x.1.length:=by rw[aX] at c3;simp only at c3;omega
    obtain⟨y,hy⟩:∃y,x.1[k]? =some y:=⟨_,XB JM⟩
    have dC:(x.1.take (k+1)).any badB=((x.1.take k).any badB||badB y):=by
     rw[V3,hy];simp
    have fin:∀b',b'=(b||badB y)->b'=(aI x ((fs.take i).map (·.1))||(x.1.take (k+1)).any badB):=λb' e=>by rw[e,VE,dC,Gi]
    cases b with
    | true=>
     refine Xc rfl ?_;refine Qj ((k+1:Nat):Int) (by show((k:Nat):Int)+1=_;omega) (by omega) ?_;exact⟨(k+1,true),rfl,⟨ZO,JM,fin true rfl⟩,by show x.1.length-(k+1)<x.1.length-k;omega⟩
    | false=>
     have idx:∀K:Int->Prop,K (y:Int)->eQ (Qf x.1) ((k:Nat):Int) K:=λK hK=>by
      refine dL (by rw[aX];exact JM) (λz hz _=>?_);rw[WB Jt.n8,hy] at hz;cases hz;exact hK
     refine Q7 rfl ?_;refine Qp Xg rfl ?_;refine idx _ ?_;refine Qz (λd1=>?_) (λd1=>?_)
     ·refine Qj ((k+1:Nat):Int) (by show((k:Nat):Int)+1=_;omega) (by omega) ?_;exact⟨(k+1,true),rfl,⟨ZO,JM,fin true (by
                                have:y<32:=by omega
                                simp[badB,this])⟩,by show x.1.length-(k+1)<x.1.length-k;omega⟩
     refine Qp Xg rfl ?_;refine idx _ ?_;refine Zd (λd2=>?_) (λd2=>?_)
     ·refine Qj ((k+1:Nat):Int) (by show((k:Nat):Int)+1=_;omega) (by omega) ?_;exact⟨(k+1,true),rfl,⟨ZO,JM,fin true (by
                                have:y=34:=by omega
                                simp[badB,this])⟩,by show x.1.length-(k+1)<x.1.length-k;omega⟩
     refine Qp Xg rfl ?_;refine idx _ ?_;refine Qj ((k+1:Nat):Int) (by show((k:Nat):Int)+1=_;omega) (by omega) ?_;refine⟨(k+1,((y:Int)==127)),rfl,⟨ZO,JM,fin _ ?_⟩,by show x.1.length-(k+1)<x.1.length-k;omega⟩;have n1:¬y<32:=by omega
     have n2:¬y=34:=by omega
     by_cases n3:y=127
     ·subst n3;rfl
     ·have:((y:Int)==127)=false:=by simp;omega
      rw[this];simp[badB,n1,n2,n3]
   ·have JM:k=x.1.length:=by rw[aX] at c3;simp only at c3;omega
    subst JM;rw[qd] at VE;have hall:=CM x ((fs.take i).map (·.1));have bK:fs.drop i=x::fs.drop (i+1):=by
     rw[av (by omega)];congr 1;exact Option.some.inj ((XB (by omega)).symm.trans hx)
    have QE:=Jw.rs;rw[bK,cP] at QE;have Wq:=((Qh.ext hI.e).ext KM).ext ZO;refine YT (λd1=>?_) (λd1=>?_)
    ·have d1:b=true:=d1;rw[Qe (hall.1 (by rw[<-VE,d1]))] at QE;refine Qw Wq rfl (sc rfl) (λw7 Zs _ Q8=>?_);refine Qt Q8 rfl ?_;have Xb:Mod (·=w.heap.size) w6 w7:=qQT Zs rfl;exact⟨by rw[<-QE];rfl,Xb.ext (Qd.trans Jw.e) (λi hi=>by omega)⟩
    have d1:b=false:=d1;have XY:=λhh=>(hall.2 hh).symm.trans (VE.symm.trans d1)
    rw[if_neg (λhh=>by have:=XY hh;cases this)] at QE;refine Qp Xg rfl ?_;refine Qz (λd2=>?_) (λd2=>?_)
    ·rw[Qe (by omega)] at QE;refine Qw Wq rfl (sc rfl) (λw7 Zs _ Q8=>?_);refine Qt Q8 rfl ?_;have Xb:Mod (·=w.heap.size) w6 w7:=qQT Zs rfl;exact⟨by rw[<-QE];rfl,Xb.ext (Qd.trans Jw.e) (λi hi=>by omega)⟩
    rw[if_neg (by omega)] at QE;refine Qp Xg rfl ?_;have Vy:=XT.ext ZO;refine lh (kv:=Yh) (a:=Qf x.1) Qa rfl rfl rfl rfl rfl qQU rfl rfl rfl Vy (λw7 Zs WJ JW=>?_);have Xb:Mod (·=w1.heap.size) w6 w7:=qQT Zs rfl;refine Qj ((i+1:Nat):Int) (by show((i:Nat):Int)+1=_;omega) (by omega) ?_;have VC:(fs.take (i+1)).map (·.1)=(fs.take i).map (·.1)++ [x.1]:=by rw[V3,hx];simp
    refine⟨i+1,rfl,⟨Xb.ext Jw.e (λi hi=>by omega),⟨_,JW,λs hs=>?_⟩,by rw[VC];exact QE,by omega,QC _⟩,by show fs.length-(i+1)<fs.length-i;omega⟩;rw[bj,VC];by_cases dD:s=x.1
    ·subst dD;simp
    ·rw[if_neg (λe=>dD (Kg hs Jt.n8 e)),s9 s hs];simp[dD]
  refine XF p2 ?_;refine Qp QB rfl ?_;by_cases p3:x.2=[]
  ·refine Q7 (by rw[p3];rfl) ?_;refine Qp QB rfl ?_;have e0:aI x ((fs.take i).map (·.1))=false:=by unfold aI;rw[Zn p1,Zn p2,p3]<;>rfl
   refine loop Qa [47,6] (λs:Nat×Bool=>[.int .i64 s.1,.bool s.2]) (λs w'=>Ext w5 w'/\s.1<=x.1.length/\s.2=(aI x ((fs.take i).map (·.1))||(x.1.take s.1).any badB)) (λs _=>x.1.length-s.1) (0,false) rfl ⟨Ext.refl _,Xt _,by rw[e0];simp⟩ ?_;rintro⟨k,b⟩ w6 ⟨ZO,hk,VE⟩;simp only at hk VE;have Jw:=y9.ext ZO;have Xg:=QB.ext ZO;refine Qz (λc3=>?_) (λc3=>?_)
   ·have JM:k<x.1.length:=by rw[aX] at c3;simp only at c3;omega
    obtain⟨y,hy⟩:∃y,x.1[k]? =some y:=⟨_,XB JM⟩
    have dC:(x.1.take (k+1)).any badB=((x.1.take k).any badB||badB y):=by
     rw[V3,hy];simp
    have fin:∀b',b'=(b||badB y)->b'=(aI x ((fs.take i).map (·.1))||(x.1.take (k+1)).any badB):=λb' e=>by rw[e,VE,dC,Gi]
    cases b with
    | true=>
     refine Xc rfl ?_;refine Qj ((k+1:Nat):Int) (by show((k:Nat):Int)+1=_;omega) (by omega) ?_;exact⟨(k+1,true),rfl,⟨ZO,JM,fin true rfl⟩,by show x.1.length-(k+1)<x.1.length-k;omega⟩
    | false=>
     have idx:∀K:Int->Prop,K (y:Int)->eQ (Qf x.1) ((k:Nat):Int) K:=λK hK=>by
      refine dL (by rw[aX];exact JM) (λz hz _=>?_);rw[WB Jt.n8,hy] at hz;cases hz;exact hK
     refine Q7 rfl ?_;refine Qp Xg rfl ?_;refine idx _ ?_;refine Qz (λd1=>?_) (λd1=>?_)
     ·refine Qj ((k+1:Nat):Int) (by show((k:Nat):Int)+1=_;omega) (by omega) ?_;exact⟨(k+1,true),rfl,⟨ZO,JM,fin true (by
                                have:y<32:=by omega
                                simp[badB,this])⟩,by show x.1.length-(k+1)<x.1.length-k;omega⟩
     refine Qp Xg rfl ?_;refine idx _ ?_;refine Zd (λd2=>?_) (λd2=>?_)
     ·refine Qj ((k+1:Nat):Int) (by show((k:Nat):Int)+1=_;omega) (by omega) ?_;exact⟨(k+1,true),rfl,⟨ZO,JM,fin true (by
                                have:y=34:=by omega
                                simp[badB,this])⟩,by show x.1.length-(k+1)<x.1.length-k;omega⟩
     refine Qp Xg rfl ?_;refine idx _ ?_;refine Qj ((k+1:Nat):Int) (by show((k:Nat):Int)+1=_;omega) (by omega) ?_;refine⟨(k+1,((y:Int)==127)),rfl,⟨ZO,JM,fin _ ?_⟩,by show x.1.length-(k+1)<x.1.length-k;omega⟩;have n1:¬y<32:=by omega
     have n2:¬y=34:=by omega
     by_cases n3:y=127
     ·subst n3;rfl
     ·have:((y:Int)==127)=false:=by simp;omega
      rw[this];simp[badB,n1,n2,n3]
   ·have JM:k=x.1.length:=by rw[aX] at c3;simp only at c3;omega
    subst JM;rw[qd] at VE;have hall:=CM x ((fs.take i).map (·.1));have bK:fs.drop i=x::fs.drop (i+1):=by
     rw[av (by omega)];congr 1;exact Option.some.inj ((XB (by omega)).symm.trans hx)
    have QE:=Jw.rs;rw[bK,cP] at QE;have Wq:=((Qh.ext hI.e).ext KM).ext ZO;refine YT (λd1=>?_) (λd1=>?_)
    ·have d1:b=true:=d1;rw[Qe (hall.1 (by rw[<-VE,d1]))] at QE;refine Qw Wq rfl (sc rfl) (λw7 Zs _ Q8=>?_);refine Qt Q8 rfl ?_;have Xb:Mod (·=w.heap.size) w6 w7:=qQT Zs rfl;exact⟨by rw[<-QE];rfl,Xb.ext (Qd.trans Jw.e) (λi hi=>by omega)⟩
    have d1:b=false:=d1;have XY:=λhh=>(hall.2 hh).symm.trans (VE.symm.trans d1)
    rw[if_neg (λhh=>by have:=XY hh;cases this)] at QE;refine Qp Xg rfl ?_;refine Qz (λd2=>?_) (λd2=>?_)
    ·rw[Qe (by omega)] at QE;refine Qw Wq rfl (sc rfl) (λw7 Zs _ Q8=>?_);refine Qt Q8 rfl ?_;have Xb:Mod (·=w.heap.size) w6 w7:=qQT Zs rfl;exact⟨by rw[<-QE];rfl,Xb.ext (Qd.trans Jw.e) (λi hi=>by omega)⟩
    rw[if_neg (by omega)] at QE;refine Qp Xg rfl ?_;have Vy:=XT.ext ZO;refine lh (kv:=Yh) (a:=Qf x.1) Qa rfl rfl rfl rfl rfl qQU rfl rfl rfl Vy (λw7 Zs WJ JW=>?_);have Xb:Mod (·=w1.heap.size) w6 w7:=qQT Zs rfl;refine Qj ((i+1:Nat):Int) (by show((i:Nat):Int)+1=_;omega) (by omega) ?_;have VC:(fs.take (i+1)).map (·.1)=(fs.take i).map (·.1)++ [x.1]:=by rw[V3,hx];simp
    refine⟨i+1,rfl,⟨Xb.ext Jw.e (λi hi=>by omega),⟨_,JW,λs hs=>?_⟩,by rw[VC];exact QE,by omega,QC _⟩,by show fs.length-(i+1)<fs.length-i;omega⟩;rw[bj,VC];by_cases dD:s=x.1
    ·subst dD;simp
    ·rw[if_neg (λe=>dD (Kg hs Jt.n8 e)),s9 s hs];simp[dD]
  ·have n3:¬Qf x.2=(⟨#[]⟩:ByteArray):=λe=>p3 (Kg Jt.t8 (by simp) e)
   refine Xc (by simp[n3]) ?_;refine Qp QB rfl ?_;refine Qp QB rfl ?_;have Wv:=Jt.tl;have jt:0<x.2.length:=Gk.2 p3;refine Qj ((x.2.length-1:Nat):Int) (by rw[cv];omega) (by omega) ?_;refine dL (j:=x.2.length-1) (by omega) (λz hz Yq=>?_);rw[WB Jt.t8] at hz;have pR:x.2.getLast? =some z:=by rw[tz];exact hz
   refine Qp QB rfl ?_;have e0:aI x ((fs.take i).map (·.1))=((z:Int) !=10):=by
    unfold aI;rw[Zn p1,Zn p2,X2 p3,pR];by_cases XN:z=10
    ·subst XN;decide
    ·have e1:((z:Int) !=10)=true:=by simp;omega
     rw[e1];simp[XN]
   refine loop Qa [47,6] (λs:Nat×Bool=>[.int .i64 s.1,.bool s.2]) (λs w'=>Ext w5 w'/\s.1<=x.1.length/\s.2=(aI x ((fs.take i).map (·.1))||(x.1.take s.1).any badB)) (λs _=>x.1.length-s.1) (0,((z:Int) !=10)) rfl ⟨Ext.refl _,Xt _,by rw[e0];simp⟩ ?_;rintro⟨k,b⟩ w6 ⟨ZO,hk,VE⟩;simp only at hk VE;have Jw:=y9.ext ZO;have Xg:=QB.ext ZO;refine Qz (λc3=>?_) (λc3=>?_)
   ·have JM:k<x.1.length:=by rw[aX] at c3;simp only at c3;omega
    obtain⟨y,hy⟩:∃y,x.1[k]? =some y:=⟨_,XB JM⟩
    have dC:(x.1.take (k+1)).any badB=((x.1.take k).any badB||badB y):=by
     rw[V3,hy];simp
    have fin:∀b',b'=(b||badB y)->b'=(aI x ((fs.take i).map (·.1))||(x.1.take (k+1)).any badB):=λb' e=>by rw[e,VE,dC,Gi]
    cases b with
    | true=>
     refine Xc rfl ?_;refine Qj ((k+1:Nat):Int) (by show((k:Nat):Int)+1=_;omega) (by omega) ?_;exact⟨(k+1,true),rfl,⟨ZO,JM,fin true rfl⟩,by show x.1.length-(k+1)<x.1.length-k;omega⟩
    | false=>
     have idx:∀K:Int->Prop,K (y:Int)->eQ (Qf x.1) ((k:Nat):Int) K:=λK hK=>by
      refine dL (by rw[aX];exact JM) (λz hz _=>?_);rw[WB Jt.n8,hy] at hz;cases hz;exact hK
     refine Q7 rfl ?_;refine Qp Xg rfl ?_;refine idx _ ?_;refine Qz (λd1=>?_) (λd1=>?_)
     ·refine Qj ((k+1:Nat):Int) (by show((k:Nat):Int)+1=_;omega) (by omega) ?_;exact⟨(k+1,true),rfl,⟨ZO,JM,fin true (by
                                have:y<32:=by omega
                                simp[badB,this])⟩,by show x.1.length-(k+1)<x.1.length-k;omega⟩
     refine Qp Xg rfl ?_;refine idx _ ?_;refine Zd (λd2=>?_) (λd2=>?_)
     ·refine Qj ((k+1:Nat):Int) (by show((k:Nat):Int)+1=_;omega) (by omega) ?_;exact⟨(k+1,true),rfl,⟨ZO,JM,fin true (by
                                have:y=34:=by omega
                                simp[badB,this])⟩,by show x.1.length-(k+1)<x.1.length-k;omega⟩
     refine Qp Xg rfl ?_;refine idx _ ?_;refine Qj ((k+1:Nat):Int) (by show((k:Nat):Int)+1=_;omega) (by omega) ?_;refine⟨(k+1,((y:Int)==127)),rfl,⟨ZO,JM,fin _ ?_⟩,by show x.1.length-(k+1)<x.1.length-k;omega⟩;have n1:¬y<32:=by omega
     have n2:¬y=34:=by omega
     by_cases n3:y=127
     ·subst n3;rfl
     ·have:((y:Int)==127)=false:=by simp;omega
      rw[this];simp[badB,n1,n2,n3]
   ·have JM:k=x.1.length:=by rw[aX] at c3;simp only at c3;omega
    subst JM;rw[qd] at VE;have hall:=CM x ((fs.take i).map (·.1));have bK:fs.drop i=x::fs.drop (i+1):=by
     rw[av (by omega)];congr 1;exact Option.some.inj ((XB (by omega)).symm.trans hx)
    have QE:=Jw.rs;rw[bK,cP] at QE;have Wq:=((Qh.ext hI.e).ext KM).ext ZO;refine YT (λd1=>?_) (λd1=>?_)
    ·have d1:b=true:=d1;rw[Qe (hall.1 (by rw[<-VE,d1]))] at QE;refine Qw Wq rfl (sc rfl) (λw7 Zs _ Q8=>?_);refine Qt Q8 rfl ?_;have Xb:Mod (·=w.heap.size) w6 w7:=qQT Zs rfl;exact⟨by rw[<-QE];rfl,Xb.ext (Qd.trans Jw.e) (λi hi=>by omega)⟩
    have d1:b=false:=d1;have XY:=λhh=>(hall.2 hh).symm.trans (VE.symm.trans d1)
    rw[if_neg (λhh=>by have:=XY hh;cases this)] at QE;refine Qp Xg rfl ?_;refine Qz (λd2=>?_) (λd2=>?_)
    ·rw[Qe (by omega)] at QE;refine Qw Wq rfl (sc rfl) (λw7 Zs _ Q8=>?_);refine Qt Q8 rfl ?_;have Xb:Mod (·=w.heap.size) w6 w7:=qQT Zs rfl;exact⟨by rw[<-QE];rfl,Xb.ext (Qd.trans Jw.e) (λi hi=>by omega)⟩
    rw[if_neg (by omega)] at QE;refine Qp Xg rfl ?_;have Vy:=XT.ext ZO;refine lh (kv:=Yh) (a:=Qf x.1) Qa rfl rfl rfl rfl rfl qQU rfl rfl rfl Vy (λw7 Zs WJ JW=>?_);have Xb:Mod (·=w1.heap.size) w6 w7:=qQT Zs rfl;refine Qj ((i+1:Nat):Int) (by show((i:Nat):Int)+1=_;omega) (by omega) ?_;have VC:(fs.take (i+1)).map (·.1)=(fs.take i).map (·.1)++ [x.1]:=by rw[V3,hx];simp
    refine⟨i+1,rfl,⟨Xb.ext Jw.e (λi hi=>by omega),⟨_,JW,λs hs=>?_⟩,by rw[VC];exact QE,by omega,QC _⟩,by show fs.length-(i+1)<fs.length-i;omega⟩;rw[bj,VC];by_cases dD:s=x.1
    ·subst dD;simp
    ·rw[if_neg (λe=>dD (Kg hs Jt.n8 e)),s9 s hs];simp[dD]
 ·have hi:i=fs.length:=by have:=hI.le;omega
  have QE:=hI.rs;rw[hi,Gl,cP] at QE;refine Qw (Qh.ext hI.e) rfl (sc rfl) (λw4 W8 _ QX=>?_);refine Qt QX rfl ?_;have KV:Mod (·=w.heap.size) w3 w4:=qQT W8 rfl;exact⟨by rw[<-QE];rfl,KV.ext QY (λi hi=>by omega)⟩
end
section
theorem uG {P:Program}{ops:Array Oper}{rest:List Nat}{i:Nat}{o:Oper}{Q:Exit->Act->List Frame->World->Prop}{a:Act}{cs cs':List Frame}{w:World}{v:Value}{d:Nat}(hi:ops[i]? =some o)(h1:o.op= .call ⟨.builtin .recover, #[], #[]⟩)(hd:o.dst=some d)(hg:o.guard=none)
  (OK:recoverD cs=some (v,cs')∨(recoverD cs=none/\v= .nilIface/\cs'=cs)) (h:wpOpsS P ops Q rest (a.put (some d) v) cs' w):wpOpsS P ops Q (i::rest) a cs w:=by
 have e1:(execOp a.eval o).run P w= .ok .recover w:=by
  simp only[execOp,h1,resolve,invoke,builtin];simp
 unfold wpOpsS;rw[hi];simp only;rw[Qe (by simp[Region.wanted,hg]),e1,hd];rcases OK with hr | ⟨hr,rfl,rfl⟩
 ·simp only[hr];exact h
 ·simp only[hr];exact h
theorem JJ {c:Cx}(hg:c.g.Ok){P:Program}(hP:c.g.P=P){ops:Array Oper}{rest:List Nat}{i:Nat}{o:Oper}{Q:Exit->Act->List Frame->World->Prop}{a:Act}{cs:List Frame}{w:World}{S:Env}{K:Env->World->Prop}(hi:ops[i]? =some o)(KN:o.guard=none)(hf:Fits c.N S a)
  (h:dI c o S w K (λ_ _ _=>False)) (hk:∀S' a' w',Fits c.N S' a'->K S' w'->wpOpsS P ops Q rest a' cs w'):wpOpsS P ops Q (i::rest) a cs w:=by
 subst hP;have h1:=qw hg h hf;unfold wpOpsS;rw[hi];simp only;rw[Qe (by simp[Region.wanted,KN])];have h2:=Oper.wp_mono (K':=λa' w'=>wpOpsS c.g.P ops Q rest a' cs w') (λa' w' ⟨S',QZ,hK⟩=>hk _ _ _ QZ hK) h1;unfold Oper.wp at h2;generalize (execOp a.eval o).run c.g.P w=r at*;cases r with
 | ok n w'=>
  cases n<;>simp only[Oper.upon] at h2 ⊢ <;> first | exact h2 | exact h2.elim | skip
  exact h2.mono λe Vc he=>by
   cases e with
   | returned v=>exact he
   | panicked ch=>obtain⟨_,_,he⟩:=he;exact he.elim
   | outgrown=>obtain⟨_,_,_,_,he⟩:=he;exact he.elim
 | halt x w'=>cases x<;>simp only[Oper.upon] at h2 ⊢ <;> first | exact h2 | (obtain⟨_,_,h2⟩:=h2;exact h2.elim) | (obtain⟨_,_,_,_,h2⟩:=h2;exact h2.elim)
theorem iQ0 {c:Cx}{o:Oper}{S:Env}{w:World}{K:Env->World->Prop}{Q:Zj}{x:Operand}{tx t:Nat}{fs:Array Field}{v:Value}{r:TyRow}(hg:c.g.Ok)(ho:o.op= .typeAssert x tx t true)(hr:QU c.g.tys t=some r)(hd:r.d= .struct fs)(hx:S.ev x=some (.iface t v))
  (kk:Xh c S o.dst (.v (.tuple #[v,.bool true])) (λS=>K S w)):Zc c o S w K Q:=by
 have Q4:=(hg.row hr).1;rw[hd] at Q4;refine JG (w':=w) (v:=.tuple #[v,.bool true]) (λa hf=>?_) kk;have e1:=hf.ev hx;simp only[execOp,ho,e1];simp[Instr.typeAssert,ZX Q4]
theorem iQ1 {c:Cx}{o:Oper}{S:Env}{w:World}{K:Env->World->Prop}{Q:Zj}{x:Operand}{tx t:Nat}{fs:Array Field}{r:TyRow}(hg:c.g.Ok)(ho:o.op= .typeAssert x tx t true)(hr:QU c.g.tys t=some r)(hd:r.d= .struct fs)(hx:S.ev x=some .nilIface)
  (kk:Xh c S o.dst (.v (.tuple #[r.z,.bool false])) (λS=>K S w)):Zc c o S w K Q:=by
 obtain⟨Q4,i,hi,_,_,hz⟩:=hg.row hr;rw[hd] at Q4;refine JG (w':=w) (v:=.tuple #[r.z,.bool false]) (λa hf=>?_) kk;have e1:=hf.ev hx;simp only[execOp,ho,e1];simp[Instr.typeAssert,ZX Q4,zeroValue,typeInfo,hi,hz]
def iQ2 (f e:Nat)(q:Pl)(w w':World):Prop:=Blk w' f 41 [.string (Qf []),.slice none 0 0]/\Blk w' e 93 (oy q)/\Mod (λi=>i=f∨i=e) w w'
theorem iQ3 (f e:Nat)(q:Pl)(w:World)(cs1 cs2:List Value)(XJ:cs1.length=2)(Ka:cs2.length=3)(QO:f≠e)(hf:Blk w f 41 cs1)(he:Blk w e 93 cs2):
  CallsD Tryz.prog 91 #[.pointer (some ⟨f,0,none⟩),.pointer (some ⟨e,0,none⟩)] (.panicking (gz q.e q.f q.l)) w
   (λen u' w'=>∃v,en= .returned v/\settle u'= .returning/\iQ2 f e q w w'):=by
 refine callsD_of_wpS Tryz.func91 rfl λc₀ cs hu=>?_
 have Ke:=gn (N:=Tryz.f91.ntmps) [.pointer (some ⟨f,0,none⟩),.pointer (some ⟨e,0,none⟩)] (ij rfl) [(0,.v (.pointer (some ⟨f,0,none⟩))),(1,.v (.pointer (some ⟨e,0,none⟩)))] (by
  intro k x hk
  match k,hk with
  | 0,hk=>cases hk;rfl
  | 1,hk=>cases hk;rfl
  | k+2,hk=>exact nomatch (show(none:Option Ent)=some x from hk))
 have Kb:=Ke.put (d:=5) (by decide) (.v (.iface 160 (.agg #[.int .i64 q.e,.int .i64 q.f,.int .i64 q.l])));refine wpS_seq (wpS_region ?_);show wpOpsS _ _ _ [0,1,2,3,4,5,6,7] _ _ _;refine uG (o:=_) (cs':={c₀ with mode:=.panicking [{v:=.iface 160 (.agg #[.int .i64 q.e,.int .i64 q.f,.int .i64 q.l]),recovered:=true}]}::cs) (v:=.iface 160 (.agg #[.int .i64 q.e,.int .i64 q.f,.int .i64 q.l])) (d:=5) rfl rfl rfl rfl (.inl (by simp[recoverD,hu,gz])) ?_;generalize bL:Act.put _ (some 5) _=act;have jd:Fits ay.N [(5,.v (.iface 160 (.agg #[.int .i64 q.e,.int .i64 q.f,.int .i64 q.l]))),(0,.v (.pointer (some ⟨f,0,none⟩))),(1,.v (.pointer (some ⟨e,0,none⟩)))] act:=by rw[<-bL];exact Kb
 clear bL Kb Ke;generalize ZB: #[_,_,_,_,_,_,_,_]=za;have h1:=(QD (λ(x:Array Oper)=>x[1]?) ZB).symm;have h2:=(QD (λ(x:Array Oper)=>x[2]?) ZB).symm;have h3:=(QD (λ(x:Array Oper)=>x[3]?) ZB).symm;have h4:=(QD (λ(x:Array Oper)=>x[4]?) ZB).symm;have h5:=(QD (λ(x:Array Oper)=>x[5]?) ZB).symm;have h6:=(QD (λ(x:Array Oper)=>x[6]?) ZB).symm;have h7:=(QD (λ(x:Array Oper)=>x[7]?) ZB).symm;clear ZB;refine JJ (c:=ay) Qa rfl h1 rfl jd (K:=λS' w'=>S'=[(6,Ent.v (.tuple #[.agg #[.int .i64 q.e,.int .i64 q.f,.int .i64 q.l],.bool true])),(5,.v (.iface 160 (.agg #[.int .i64 q.e,.int .i64 q.f,.int .i64 q.l]))),(0,.v (.pointer (some ⟨f,0,none⟩))),(1,.v (.pointer (some ⟨e,0,none⟩)))]/\w=w') (iQ0 Qa rfl rfl rfl rfl ⟨rfl,rfl⟩) ?_;rintro _ a1 _ Zh ⟨rfl,rfl⟩;refine JJ (c:=ay) Qa rfl h2 rfl Zh (K:=λS' w'=>S'=_/\w=w') ⟨rfl,rfl⟩ ?_;rintro _ a2 _ ZV ⟨rfl,rfl⟩;refine JJ (c:=ay) Qa rfl h3 rfl ZV (K:=λS' w'=>S'=_/\w=w') ⟨rfl,rfl⟩ ?_;rintro _ a3 _ je ⟨rfl,rfl⟩;refine JJ (c:=ay) Qa rfl h4 rfl je (K:=λS' w'=>S'=_/\w=w') ⟨rfl,rfl⟩ ?_;rintro _ a4 _ jf ⟨rfl,rfl⟩;refine JJ (c:=ay) Qa rfl h5 rfl jf (K:=λS' w'=>S'=(2,.v (.pointer (some ⟨w.heap.size,0,none⟩)))::_/\Ext w w'/\w'.heap.size=w.heap.size+1/\∃ps:List Value,Blk w' w.heap.size 160 ps/\ps.length=3) (new (λw1 Qd Q9 Qh=>⟨rfl,Qd,Q9,_,Qh,rfl⟩)) ?_;rintro _ a5 w5 Kb ⟨rfl,Qx,KL,ps,QB,aT⟩;refine JJ (c:=ay) Qa rfl h6 rfl Kb (K:=λS' w'=>S'=_/\Ext w w'/\w.heap.size+1<=w'.heap.size/\Blk w' w.heap.size 160 (oy q)) (Qw QB (by rw[aT];rfl) (sc rfl) (λw6 Wm cj Xg=>⟨rfl,XV Qx QB Wm,by omega,Xg⟩)) ?_;rintro _ a6 w6 ci ⟨rfl,QN,cj,Xg⟩;refine JJ (c:=ay) Qa rfl h7 rfl ci (K:=λS' w'=>S'=_/\w6=w') ⟨rfl,rfl⟩ ?_;rintro _ a7 _ MM ⟨rfl,rfl⟩;unfold wpOpsS;refine nP (c:=ay) Qa rfl MM ?_;refine Xc rfl ?_;have nf:f≠w.heap.size:=λe=>by have:=hf.lt;omega
 have ne:e≠w.heap.size:=λe=>by have:=he.lt;omega
 have nQz:=hf.ext QN;have nQA:=he.ext QN;refine XL Qa (λw'=>Mod (λi=>i=f∨i=e) w6 w') 5 [(true,0),(true,1),(true,2),(false,3),(false,4)] (by kernel_rfl) (Mod.of_ext _ (Ext.drew w6)) ?_;refine Xo (vs:=oy q) rfl (λw' Qb j u hj=>by rw[add_add,(Xg.mod Qb (λhh=>hh.elim (λe=>nf e.symm) (λe=>ne e.symm))).cell];simpa using hj) ?_;have hd:=Ext.drew w6;refine Qw (nQz.ext hd) (by rw[XJ];rfl) (sc rfl) (λw8 YO _ Xx=>?_);have ZF:Mod (·=f) w6.drew w8:=qQT YO rfl;have zb:Mod (λi=>i=f∨i=e) w6 w8:=(Mod.of_ext _ hd).trans ZF (λi hi=>.inl (.inl hi));refine⟨zb,?_⟩;refine Qw ((nQA.ext hd).mod ZF (λhh=>QO hh.symm)) (by rw[Ka];rfl) (sc rfl) (λw9 bB _ JO=>?_);have Zb:Mod (·=e) w8 w9:=qQT bB rfl;have cQs:Mod (λi=>i=f∨i=e) w6 w9:=zb.trans Zb (λi hi=>.inl (.inr hi));refine⟨cQs,?_⟩;exact⟨_,rfl,rfl,Xx.mod Zb QO,JO,(Mod.of_ext _ QN).trans cQs (λi hi=>.inl hi)⟩
theorem iQ4 (f e:Nat)(w:World):
  CallsD Tryz.prog 91 #[.pointer (some ⟨f,0,none⟩),.pointer (some ⟨e,0,none⟩)] .returning w
   (λen u' w'=>∃v,en= .returned v/\settle u'= .returning/\Ext w w'):=by
 refine callsD_of_wpS Tryz.func91 rfl λc₀ cs hu=>?_
 have Ke:=gn (N:=Tryz.f91.ntmps) [.pointer (some ⟨f,0,none⟩),.pointer (some ⟨e,0,none⟩)] (ij rfl) [(0,.v (.pointer (some ⟨f,0,none⟩))),(1,.v (.pointer (some ⟨e,0,none⟩)))] (by
  intro k x hk
  match k,hk with
  | 0,hk=>cases hk;rfl
  | 1,hk=>cases hk;rfl
  | k+2,hk=>exact nomatch (show(none:Option Ent)=some x from hk))
 have Kb:=Ke.put (d:=5) (by decide) (.v .nilIface);refine wpS_seq (wpS_region ?_);show wpOpsS _ _ _ [0,1,2,3,4,5,6,7] _ _ _;refine uG (o:=_) (cs':={c₀ with mode:=.returning}::cs) (v:=.nilIface) (d:=5) rfl rfl rfl rfl (.inr ⟨by simp[recoverD,hu],rfl,by rw[<-hu]⟩) ?_;generalize bL:Act.put _ (some 5) _=act;have jd:Fits ay.N [(5,.v .nilIface),(0,.v (.pointer (some ⟨f,0,none⟩))),(1,.v (.pointer (some ⟨e,0,none⟩)))] act:=by rw[<-bL];exact Kb
 clear bL Kb Ke;generalize ZB: #[_,_,_,_,_,_,_,_]=za;have h1:=(QD (λ(x:Array Oper)=>x[1]?) ZB).symm;have h2:=(QD (λ(x:Array Oper)=>x[2]?) ZB).symm;have h3:=(QD (λ(x:Array Oper)=>x[3]?) ZB).symm;have h4:=(QD (λ(x:Array Oper)=>x[4]?) ZB).symm;have h5:=(QD (λ(x:Array Oper)=>x[5]?) ZB).symm;have h6:=(QD (λ(x:Array Oper)=>x[6]?) ZB).symm;have h7:=(QD (λ(x:Array Oper)=>x[7]?) ZB).symm;clear ZB;refine JJ (c:=ay) Qa rfl h1 rfl jd (K:=λS' w'=>S'=_/\w=w') (iQ1 Qa rfl rfl rfl rfl ⟨rfl,rfl⟩) ?_;rintro _ a1 _ Zh ⟨rfl,rfl⟩;refine JJ (c:=ay) Qa rfl h2 rfl Zh (K:=λS' w'=>S'=_/\w=w') ⟨rfl,rfl⟩ ?_;rintro _ a2 _ ZV ⟨rfl,rfl⟩;refine JJ (c:=ay) Qa rfl h3 rfl ZV (K:=λS' w'=>S'=_/\w=w') ⟨rfl,rfl⟩ ?_;rintro _ a3 _ je ⟨rfl,rfl⟩;refine JJ (c:=ay) Qa rfl h4 rfl je (K:=λS' w'=>S'=_/\w=w') ⟨rfl,rfl⟩ ?_;rintro _ a4 _ jf ⟨rfl,rfl⟩;refine JJ (c:=ay) Qa rfl h5 rfl jf (K:=λS' w'=>S'=(2,.v (.pointer (some ⟨w.heap.size,0,none⟩)))::_/\Ext w w'/\w'.heap.size=w.heap.size+1/\∃ps:List Value,Blk w' w.heap.size 160 ps/\ps.length=3) (new (λw1 Qd Q9 Qh=>⟨rfl,Qd,Q9,_,Qh,rfl⟩)) ?_;rintro _ a5 w5 Kb ⟨rfl,Qx,KL,ps,QB,aT⟩;refine JJ (c:=ay) Qa rfl h6 rfl Kb (K:=λS' w'=>S'=_/\Ext w w') (Qw QB (by rw[aT];rfl) (sc rfl) (λw6 Wm cj Xg=>⟨rfl,XV Qx QB Wm⟩)) ?_;rintro _ a6 w6 ci ⟨rfl,QN⟩;refine JJ (c:=ay) Qa rfl h7 rfl ci (K:=λS' w'=>S'=_/\w6=w') ⟨rfl,rfl⟩ ?_;rintro _ a7 _ MM ⟨rfl,rfl⟩;unfold wpOpsS;refine nP (c:=ay) Qa rfl MM ?_;refine Q7 rfl ?_;exact⟨_,rfl,rfl,QN⟩
end
section
theorem iQ5 {nm:List (List Nat)}(hb:KG nm):(dP nm WC).2=if ZQ nm then 0 else 1:=by
 by_cases h:ZQ nm=true
 ·rw[Qe h,show WC=ZU nm 0 (.c true) from rfl,hQC h (hQD hb h) (.c true) trivial (by decide)]
 ·rw[if_neg h];unfold dP;rw[if_neg h]
structure SgIn (w:World) (k:Nat) (A:Option Addr) (n c:Nat) (sg:List Sg) (L:List DV):Prop where
 sl:Sl w 6 A n c (cR sg L)
 n:sg.length=n
 len:L.length=sg.length
 dg:∀(j:Nat) (s:Sg) (x:DV),sg[j]? =some s->L[j]? =some x->SB w x.A x.n x.c x.nd/\Set1 k x.nd x.r s.o
theorem SgIn.ext {w w':World}{k:Nat}{A:Option Addr}{n c:Nat}{sg:List Sg}{L:List DV}(h:SgIn w k A n c sg L)(hE:Ext w w'):SgIn w' k A n c sg L:=⟨h.sl.ext hE,h.n,h.len,λj s x h1 h2=>⟨(h.dg j s x h1 h2).1.ext hE,(h.dg j s x h1 h2).2⟩⟩
structure GsOk (g:Gs):Prop where
 b8:∀x∈g.tx,x<256
 tl:g.tx.length<=1048576
 sl:g.sg.length<=65536
abbrev qY (tx:List Nat)(A:Option Addr)(n c:Nat):Value:=.agg #[.string (Qf tx),.slice A n c]
def iQ6 (k:Nat)(w:World)(r:Except Pl Gs)(u:Value)(w':World):Prop:=Ext w w'/\match r with
 | .error q=>u= .tuple #[qY [] none 0 0,.agg (oy q).toArray]
 | .ok g=>GsOk g/\∃A c L,u= .tuple #[qY g.tx A g.sg.length c,.agg (oy ⟨0,0,0⟩).toArray]/\SgIn w' k A g.sg.length c g.sg L
theorem Ul:∀(l:List (List Nat×List Nat))(seen:List (List Nat))(i:Nat)(q:Pl),cP l seen i=some q->q.e≠0
 | [],_,_,_,h=>by cases h
 | x::l,seen,i,q,h=>by
  unfold cP at h;split at h
  ·cases h;exact(by decide:(70:Int)≠0)
  split at h
  ·cases h;exact(by decide:(2:Int)≠0)
  ·exact Ul l _ _ q h
theorem Um {fs:List (List Nat×List Nat)}{q:Pl}(h:YY fs=some q):q.e≠0:=by
 unfold YY at h;split at h
 ·cases h;decide
 ·exact Ul _ _ _ _ h
theorem CN:∀(l:List (List Nat×List Nat))(seen:List (List Nat))(i:Nat),cP l seen i=none->∀x∈l,lK x.1=true/\br x.2=true/\x.2.length<=1048576
 | [],_,_,_,x,hx=>by cases hx
 | y::l,seen,i,h,x,hx=>by
  unfold cP at h;split at h
  ·cases h
  split at h
  ·cases h
  ·rename_i h1 h2;have h1:=Decidable.not_not.1 h1;rcases Q3.1 hx with rfl | hx
   ·exact⟨h1.1,h1.2.2,by omega⟩
   ·exact CN l _ _ h x hx
theorem oz {l:List Nat}(h:br l=true):cN l:=by
 unfold br at h;rw[Bool.or_eq_true] at h;rcases h with h | h
 ·exact .inl (YC h)
 ·exact .inr (by simpa using h)
theorem iQ7 {fs:List (List Nat×List Nat)}(h:YY fs=none)(hb:∀x∈fs,FileB x):fs.length<=256/\∀x∈fs,FileOk x:=by
 unfold YY at h;split at h
 ·cases h
 ·rename_i hl;refine⟨by omega,λx hx=>?_⟩;obtain⟨h1,h2,h3⟩:=CN _ _ _ h x hx;have mY:=hb x hx;exact⟨mY.n8,mY.t8,mY.nl,h3,oz h2⟩
theorem iQ8 {w7 w':World}{nq:Nat}{m:List (ByteArray×Value)}(h:w7.heap.size=nq+1)(hm:Mod (·=nq) w7 w')(hq:MapAt Yh w' nq m):∃w0,Ext w0 w'/\w0.heap.size=nq+1/\MapAt Yh w0 nq m/\∀w,Ext w w7->w.heap.size<=nq->Ext w w0:=by
 obtain⟨bs,ck,hl,hb⟩:=hq.ex;refine⟨{w7 with heap:=w7.heap.setIfInBounds nq (.map (XW Yh m bs).toArray ck)},⟨hm.os,hm.tape,hm.output,?_,λi hi _=>?_⟩,by simp[h],⟨bs,ck,hl,?_⟩,λw hE ZL=>⟨hE.os,hE.tape,hE.output,?_,λi hi hn=>?_⟩⟩
 ·simpa using hm.size
 ·simp only[Array.size_setIfInBounds] at hi;simp only[F8];by_cases e:nq=i
  ·subst e;rw[Qe rfl,Qe (by omega),hb]
  ·rw[if_neg e];exact hm.block i hi (λe2=>e e2.symm)
 ·simp[h]
 ·simpa using hE.size
 ·simp only[F8];rw[if_neg (by omega)];exact hE.block i hi hn
theorem H5 (nm:List (List Nat))(NA:Option Addr)(nn nc:Nat)(fs:List (List Nat×List Nat))(FA:Option Addr)(nf cf:Nat)(root:List Nat)(w:World)(hN:Sl w 1 NA nn nc (X9 nm))(Yc:KG nm)(hk:nm.length<=12)(hF:SlS aG 2 w FA nf cf fs)(FK:∀x∈fs,FileB x)(hnf:nf<=1000000000000)(eu:∀x∈root,x<256):
  Fn Tryz.prog 43 [.slice NA nn nc,.slice FA nf cf,.string (Qf root)] w (iQ6 nm.length w (KH nm fs root)):=by
 refine xe (c:={c43 with cuts:=[]}) Qa Tryz.func43 rfl rfl rfl ?_;refine ZS (ZH Qa ?_);refine new (λw1 Qd Q9 Qh=>?_);refine new (λw2 Qg Zi Qv=>?_);have QR:=Qd.trans Qg;refine ZS (ZH Qa ?_);refine call (Ss nm NA nn nc WC w2 (hN.ext QR) Yc (by decide) (by decide)) ?_;rintro _ w3 ⟨G,mg,cG,rfl,Qi,hG⟩;have QY:=QR.trans Qi;have FL:=(Qh.ext Qg).ext Qi;have hBp:=Qv.ext Qi;have QO:w1.heap.size≠w.heap.size:=by omega
 have fM:=iQ5 Yc;have WT:KH nm fs root=if ZQ nm=false then .error ⟨30, -1,0⟩else match YY fs with
  | some p=>.error p
  | none=>match Jj (fs.map (·.1)) root with
   | none=>.error ⟨73, -1,0⟩
   | some n=>WZ nm fs 65 [] 0 n (λ_=>true) ⟨[],[],false⟩:=rfl
 rw[fM];cases XY:ZQ nm with
 | false=>
  rw[Qe XY] at WT;refine tM (by decide) ?_;refine Qw FL rfl (sc rfl) (λw4 W8 _ QX=>?_);have KV:Mod (·=w.heap.size) w3 w4:=qQT W8 rfl;refine Qw (hBp.mod KV QO) rfl (sc rfl) (λw5 Js _ QB=>?_);have Jn:Mod (·=w1.heap.size) w4 w5:=qQT Js rfl;refine jT Qa rfl (.inl rfl) ?_;refine Qt (QX.mod Jn QO.symm) rfl ?_;refine Qt QB rfl ?_;rw[WT];exact⟨Jn.ext (KV.ext QY (λi hi=>by omega)) (λi hi=>by omega),rfl⟩
 | true=>
  rw[if_neg (by rw[XY];decide)] at WT;refine YU rfl ?_;refine ZS (ZH Qa ?_);refine call (iQZ fs FA nf cf w3 (hF.ext QY) FK hnf) ?_;rintro _ w4 ⟨rfl,Qs⟩;refine new (λw5 Qx KL QB=>?_);refine Qw QB rfl (sc rfl) (λw6 Wm _ Xg=>?_);have XK:Ext w4 w6:=XV Qx QB Wm;have bF:=Qs.trans XK;have XS:=QY.trans bF;have cQt:=FL.ext bF;have cQu:=hBp.ext bF;refine Qp Xg rfl ?_;cases K4:YY fs with
  | some q=>
   rw[K4] at WT Xg;refine tM (Um K4) ?_;have n4:¬w4.heap.size=w.heap.size:=by have:=Qi.size;have:=Qs.size;omega
   have n41:¬w4.heap.size=w1.heap.size:=by have:=Qs.size;have:=Qi.size;omega
   have hd:=Ext.drew w6;refine XL Qa (λw'=>Mod (λi=>i=w.heap.size∨i=w1.heap.size) w6 w') 4 [(true,0),(true,1),(false,2),(false,3)] (by kernel_rfl) (Mod.of_ext _ hd) ?_;refine Xo (vs:=oy q) rfl (λw' Qb j u hj=>by rw[(Xg.mod Qb (λhh=>hh.elim n4 n41)).cell];exact hj) ?_;refine Qw (cQt.ext hd) rfl (sc rfl) (λw7 Zs _ Q8=>?_);have Xb:Mod (·=w.heap.size) w6.drew w7:=qQT Zs rfl;have cQv:Mod (λi=>i=w.heap.size∨i=w1.heap.size) w6 w7:=(Mod.of_ext _ hd).trans Xb (λi hi=>.inl (.inl hi));refine⟨cQv,?_⟩;refine Qw ((cQu.ext hd).mod Xb QO) rfl (sc rfl) (λw8 YO _ Xx=>?_);have ZF:Mod (·=w1.heap.size) w7 w8:=qQT YO rfl;have zb:=cQv.trans ZF (λi hi=>.inl (.inr hi));refine⟨zb,?_⟩;refine jT Qa rfl (.inl rfl) ?_;refine Qt (Q8.mod ZF QO.symm) rfl ?_;refine Qt Xx rfl ?_;rw[WT];exact⟨zb.ext XS (λi hi=>by rcases hi with rfl | rfl<;>omega),rfl⟩
  | none=>
  rw[K4] at WT;refine YU rfl ?_;obtain⟨Ja,Ax⟩:=iQ7 K4 FK;have Q0:=hF.2;refine ZS (ZH Qa ?_);refine wV Qa Yh rfl (λw7 Xf WJ JW=>?_);refine wV Qa bq rfl (λw8 Xp Yq Jr=>?_);refine new (λw9 XE fy JO=>?_);have VW:=Xp.trans XE;have gO:=Xf.trans VW;have cQw:=XS.trans gO;have D7:=Jr.ext XE;have Lv:=JW.ext VW;have O4:KG (fs.map (·.1)):=λs hs=>by
   obtain⟨x,hx,rfl⟩:=ZG.1 hs;exact⟨(FK x hx).n8,(FK x hx).nl⟩
  have nrq:¬w8.heap.size=w6.heap.size:=by omega
  refine ZS (ZH Qa ?_);refine loop Qa [40] (λi:Nat=>[.int .i64 i]) (λi w'=>Mod (·=w6.heap.size) w9 w'/\MapAt Yh w' w6.heap.size (YV ((fs.map (·.1)).take i) 0 [])/\i<=fs.length) (λi _=>fs.length-i) 0 rfl ⟨Mod.refl _ _,Lv,Xt _⟩ ?_;rintro i QK ⟨ZA,JE,pQY⟩;refine Qz (λc2=>?_) (λc2=>?_)
  ·have hi:i<nf:=by omega
   have pw:Ext w QK:=ZA.ext cQw (λi hi=>by have:=XS.size;omega);refine Zz HW (hF.ext pw) rfl hi (λpp x hx hc=>?_);refine JN (vs:=aG x) rfl hc ?_;refine new (λQJ Z2 rP Z1=>?_);refine Qw Z1 rfl (sc rfl) (λXa rS _ K8=>?_);have vr:Ext QK Xa:=XV Z2 Z1 rS;have hd:=Ext.drew Xa;have hBr:=((JO.mod ZA nrq).ext vr).ext hd;refine qy Qa 7 (by kernel_rfl) ?_;refine QQ (v:=.map (some w6.heap.size)) (λw' Qb=>by subst Qb;rw[hBr.cell];rfl) ?_;refine QQ (v:=.string (Qf x.1)) (λw' Qb=>by subst Qb;rw[(K8.ext hd).cell];rfl) ?_;refine lh (kv:=Yh) (a:=Qf x.1) Qa rfl rfl rfl rfl rfl qQU rfl rfl rfl ((JE.ext vr).ext hd) (λX1 yR Mw aO=>?_);have Ky:Mod (·=w6.heap.size) Xa.drew X1:=qQT yR rfl;refine Qj ((i+1:Nat):Int) (by show((i:Nat):Int)+1=_;omega) (by omega) ?_;refine⟨i+1,rfl,⟨(ZA.trans (Mod.of_ext (·=w6.heap.size) (vr.trans hd)) (λi hi=>.inl hi)).trans Ky (λi hi=>.inl hi),?_,by omega⟩,by show fs.length-(i+1)<fs.length-i;omega⟩;rw[Sf (s:=x.1) (by rw[aq,hx];rfl)];exact aO
  have FM:i=fs.length:=by omega
  rw[FM,Jv (by simp)] at JE;have ae:Mod (·=w6.heap.size) w7 QK:=(Mod.of_ext _ VW).trans ZA (λi hi=>.inl hi);obtain⟨w0,vi,hws,hwm,hwe⟩:=iQ8 WJ ae JE;have cQx:=JO.mod ZA nrq;have am:=G8 O4 root eu;have nr6:¬w.heap.size=w6.heap.size:=by have:=bF.size;have:=Qi.size;omega
  have nQB:¬w1.heap.size=w6.heap.size:=by have:=bF.size;have:=Qi.size;omega
  have cQy:=(cQt.ext gO).mod ZA nr6;have cQz:=(cQu.ext gO).mod ZA nQB;have pw:Ext w QK:=ZA.ext cQw (λi hi=>by have:=XS.size;omega);refine ZS (ZH Qa ?_);refine Qp cQx rfl ?_;refine xa (kv:=Yh) (a:=Qf root) (v:=.int .i64 ((Jj (fs.map (·.1)) root).getD 0:Nat)) (b:=(Jj (fs.map (·.1)) root).isSome) Qa rfl rfl rfl rfl rfl qQU rfl rfl JE (by rw[am];cases Jj (fs.map (·.1)) root<;>rfl) (by rw[am];cases Jj (fs.map (·.1)) root<;>rfl) ?_;refine ZS (ZH Qa ?_);cases KF:Jj (fs.map (·.1)) root with
  | none=>
   rw[KF] at WT;refine Xc rfl ?_;refine Qw cQy rfl (sc rfl) (λQJ y8 _ Z1=>?_);have Z8:Mod (·=w.heap.size) QK QJ:=qQT y8 rfl;refine Qw (cQz.mod Z8 QO) rfl (sc rfl) (λXa rS _ K8=>?_);have VU:Mod (·=w1.heap.size) QJ Xa:=qQT rS rfl;refine jT Qa rfl (.inl rfl) ?_;refine Qt (Z1.mod VU QO.symm) rfl ?_;refine Qt K8 rfl ?_;rw[WT];exact⟨VU.ext (Z8.ext pw (λi hi=>by omega)) (λi hi=>by omega),rfl⟩
  | some n=>
  rw[KF] at WT;simp only at WT;refine Q7 rfl ?_;have KQ:n<fs.length:=by have:=lI KF;simpa using this
  refine ZS (xd Qa rfl rfl rfl rfl ⟨_,_,_,_,rfl,rfl,?_⟩);refine ZS (ZH Qa ?_);refine call (cQ true QK) ?_;rintro _ QJ ⟨rfl,Z2⟩
  let p:RP:=⟨w8.heap.size,w7.heap.size,w6.heap.size,NA,nn,nc,nm,FA,nf,cf,fs⟩
  let m:RM:=⟨none,0,none,0,[],.pointer none,λi=>i=w.heap.size∨i=w1.heap.size⟩
  let v:RV:=⟨0,0,0,[],⟨[],[],false⟩⟩
  have nQC:Ext w6 w0:=hwe w6 Xf (QC _);have cQA:Ext w w0:=XS.trans nQC;have hP:RPok w0 p:=⟨hN.ext cQA,Yc,hk,hF.ext cQA,Ax,hwm⟩
  have rP:=Z2.size;have nQg:=ZA.size;have ZW:Rr w0 QJ QJ.heap.size p m v:=by
   refine⟨vi.trans Z2,?_,?_,?_,?_,?_,QC _,.inl rfl,cQx.ext Z2,Own.nil _ _ _ _,Own.nil _ _ _ _,rfl,(λj s x hs=>by simp[v] at hs),?_,(Xt _),(Xt _),(λx hx=>by cases hx),(λ_=>.inr rfl),(λi hi=>by
    have:=bF.size;have:=Qi.size;rcases hi with hi | hi<;>rw[hi]<;>omega)⟩
   ·show w0.heap.size<=w8.heap.size;omega
   ·show w0.heap.size<=w7.heap.size;omega
   ·show w8.heap.size<QJ.heap.size;omega
   ·show w7.heap.size<QJ.heap.size;omega
   ·show w8.heap.size≠w7.heap.size;omega
   ·refine⟨[],(D7.mod ZA (by show¬w7.heap.size=w6.heap.size;omega)).ext Z2,by simp,λn=>by simp[XC,v]⟩
  have nQD:DgO QJ (TS p m) p.nm.length ⟨none,0,0,[],1⟩ (λ_=>true):=⟨SlS.nil _,bT _ true,λad e=>by cases e⟩
  have nQE:w0.heap.size<=QJ.heap.size:=(vi.trans Z2).size;have sW:∀i,RS p m i->i=w8.heap.size∨i=w7.heap.size:=λi hi=>by
   rcases hi with hi | hi | ⟨_,e,_⟩ | ⟨_,e,_⟩
   ·exact .inl hi
   ·exact .inr hi
   ·cases e
   ·cases e
  have nQF:=cQy.ext Z2;have nQG:=cQz.ext Z2;have pQZ:=bF.size;have rN:=Qi.size;have keep:∀w',Mod (RS p m) QJ w'->Ext w w'/\Blk w' w.heap.size 41 (J1 (.agg #[.string ByteArray.empty,.slice none 0 0]))/\Blk w' w1.heap.size 93 (oy ⟨0,0,0⟩):=λw' hm=>by
   refine⟨hm.ext (pw.trans Z2) (λi hi=>?_),nQF.mod hm (λhi=>?_),nQG.mod hm (λhi=>?_)⟩
   ·have:=XS.size;rcases sW i hi with rfl | rfl<;>omega
   ·rcases sW _ hi with e | e<;>omega
   ·rcases sW _ hi with e | e<;>omega
  refine XP (Uk w0 QJ.heap.size p hP nQE 65 m v n ⟨none,0,0,[],1⟩ (λ_=>true) QJ ZW nQD KQ (λhh=>by cases hh) (Xt _) (QC _)) ?_ ?_
  rotate_left
  ·rintro ch Xa ⟨q,hq,rfl,Yu⟩;have hq:WZ nm fs 65 [] 0 n (λ_=>true) ⟨[],[],false⟩= .error q:=hq;rw[hq] at WT;obtain⟨Xm,MN,MO⟩:=keep Xa Yu;refine aA Qa rfl rfl (args:= #[.pointer (some ⟨w.heap.size,0,none⟩),.pointer (some ⟨w1.heap.size,0,none⟩)]) (by simp) ((iQ3 _ _ q Xa _ _ rfl rfl QO.symm MN MO).mono ?_);rintro e u' X1 ⟨v,rfl,MQ,iY⟩;refine⟨v,rfl,MQ,?_⟩;refine Qt iY.1 rfl ?_;refine Qt iY.2.1 rfl ?_;rw[WT];exact⟨iY.2.2.ext Xm (λi hi=>by rcases hi with rfl | rfl<;>omega),rfl⟩
  rintro _ Xa ⟨g',V0,m',hZ,XU,Yu,_,_⟩;have V0:WZ nm fs 65 [] 0 n (λ_=>true) ⟨[],[],false⟩= .ok g':=V0;rw[V0] at WT;obtain⟨Xm,MN,MO⟩:=keep Xa Yu;refine ZS (ZH Qa ?_);have nb:=XU.nrow.2;have pQ0:=XU.rb;have pQ1:=XU.top;have kL:∀i,Ql m'.BA i->QJ.heap.size<=i:=λi hi=>(XU.txt.rows i hi).1
  have nprs:¬(Ql m'.BA w8.heap.size∨w8.heap.size=w.heap.size∨w8.heap.size=w1.heap.size):=λhh=>by
   rcases hh with hh | hh | hh
   ·exact nb hh
   ·omega
   ·omega
  have hd:=Ext.drew Xa;refine XL Qa (Mod (λi=>Ql m'.BA i∨i=w.heap.size∨i=w1.heap.size) Xa) 12 [(true,0),(true,1),(true,2),(true,4),(true,5),(true,6),(true,7),(true,9),(false,3),(true,8),(false,10),(false,11)] (by kernel_rfl) (Mod.of_ext _ hd) ?_;refine QQ (v:=.slice m'.OA g'.sg.length m'.oc) (λw' Qb=>by rw[(XU.blk.mod Qb nprs).cell];rfl) ?_;have Wv:=XU.tl;refine call (iQh QJ.heap.size w8.heap.size 157 5 (lP p m' {v with g:=g'}) m'.BA m'.bc g'.tx Xa.drew (XU.blk.ext hd) rfl (XU.txt.ext hd) XU.b8 (by simp only at Wv;omega)) ?_;rintro _ X1 ⟨rfl,aO⟩;have Ky:Mod (λi=>Ql m'.BA i∨i=w.heap.size∨i=w1.heap.size) Xa X1:=(Mod.of_ext _ hd).trans aO (λi hi=>.inl (.inl hi));refine⟨Ky,?_⟩;have nsB:¬Ql m'.BA w.heap.size:=λhh=>by have:=kL _ hh;omega
  have npB:¬Ql m'.BA w1.heap.size:=λhh=>by have:=kL _ hh;omega
  refine Qw ((MN.ext hd).mod aO nsB) rfl (sc rfl) (λZm fw _ Kc=>?_);have K9:Mod (·=w.heap.size) X1 Zm:=qQT fw rfl;have cQB:=Ky.trans K9 (λi hi=>.inl (.inr (.inl hi)));refine⟨cQB,?_⟩;refine Qw (((MO.ext hd).mod aO npB).mod K9 QO) rfl (sc rfl) (λKA nQH _ pk=>?_);have cQC:Mod (·=w1.heap.size) Zm KA:=qQT nQH rfl;have D8:=cQB.trans cQC (λi hi=>.inl (.inr (.inr hi)));refine⟨D8,?_⟩;have MR:=Kc.mod cQC QO.symm;refine ZH Qa ?_;refine gu Qa rfl rfl (.inl rfl) (args:= #[.pointer (some ⟨w.heap.size,0,none⟩),.pointer (some ⟨w1.heap.size,0,none⟩)]) (by simp) ((iQ4 _ _ KA).mono ?_);rintro e u' Y4 ⟨u,rfl,MS,VX⟩;refine⟨u,rfl,MS,?_⟩;refine Qt (MR.ext VX) rfl ?_;refine Qt (pk.ext VX) rfl ?_;rw[WT];have JQ:Ext w KA:=D8.ext Xm (λi hi=>by
   rcases hi with hi | rfl | rfl
   ·have:=kL _ hi;omega
   ·exact QC _
   ·omega)
  have nO:∀i,Ql m'.OA i->¬(Ql m'.BA i∨i=w.heap.size∨i=w1.heap.size):=λi hi hh=>by
   have:=(XU.out.rows i hi).1;rcases hh with hh | rfl | rfl
   ·exact XU.out.apart XU.txt (by decide) hi hh
   ·omega
   ·omega
  refine⟨JQ.trans VX,⟨XU.b8,XU.tl,XU.sl⟩,m'.OA,m'.oc,m'.L,rfl,SgIn.ext ⟨(XU.out.mod D8 nO).sl,rfl,XU.len,λj s x h1 h2=>?_⟩ VX⟩;have AG:=XU.dgs j s x h1 h2;refine⟨SB.modo AG.sb D8 (λad e h0 hh=>?_),AG.st⟩;rcases hh with hh | hh | hh
  ·exact AG.off ad e h0 (.inl (.inr (.inr (.inr hh))))
  ·exact AG.off ad e h0 (.inr (by rw[hZ];exact .inl hh))
  ·exact AG.off ad e h0 (.inr (by rw[hZ];exact .inr hh))
end
def We (c:Nat):Nat->Bool:=λi=>decide (c/2^i % 2=1)
theorem iQ9 (x:Nat)(hx:x<18446744073709551616):IntKind.u64.wrap ((BitVec.ofInt 64 (x:Int) &&& BitVec.ofInt 64 1).toNat)=((x % 2:Nat):Int):=by
 have e:(BitVec.ofInt 64 (x:Int) &&& BitVec.ofInt 64 1).toNat=x % 2:=by
  rw[BitVec.ofInt_natCast,show BitVec.ofInt 64 1=BitVec.ofNat 64 1 from rfl,BitVec.toNat_and,BitVec.toNat_ofNat,BitVec.toNat_ofNat];rw[jE (by omega),show 1 % 2^64=1 by decide,Nat.and_one_is_mod]
 rw[e];rcases(show x % 2=0∨x % 2=1 by omega)with h | h<;>rw[h]<;>decide
theorem H6 (A:Option Addr)(n c:Nat)(nd:List Br)(root:Int)(kN:Nat)(hcf:kN<=18446744073709551615)(w:World)(h:SB w A n c nd)(hc:XH nd root=0):
  Fn Tryz.prog 18 [Xl A n c root,.int .u64 kN] w (λv w'=>v= .bool (ev nd root (We kN))/\Ext w w'):=by
 have Q0:=h.2;obtain⟨gY,hv⟩:=gw.1 hc;refine QH (c:={c18 with cuts:=[]}) Qa Tryz.func18 rfl rfl rfl ?_;refine new (λw1 Qd Q9 Qh=>?_);refine Qt Qh rfl ?_;refine call (uf A n c nd root w1 (h.ext Qd)) ?_;rintro _ w2 ⟨rfl,Qg⟩;have QR:=Qd.trans Qg;have Qv:=Qh.ext Qg;refine YU hc ?_;refine Qp Qv rfl ?_;refine loop Qa [5] (λs:Int=>[.int .i64 s]) (λs w'=>Ext w2 w'/\0<=s/\s<n+2/\ev nd s (We kN)=ev nd root (We kN)) (λs _=>s.toNat) root rfl ⟨Ext.refl _,hv.2.1,by have:=hv.2.2.1;omega,rfl⟩ ?_;rintro s w3 ⟨Qi,s0,s1,hs⟩;have QY:=QR.trans Qi;refine Qz (λh1=>?_) (λh1=>?_)
 ·refine Qy (Qv.ext Qi) rfl ?_;refine Qj (((s-2).toNat:Nat):Int) (by omega) (by omega) ?_;refine Zz WY (h.ext QY) rfl (by omega) (λp x hx O5=>?_);refine JN (vs:=x.cells) rfl O5 ?_;refine new (λw4 Qs KW QX=>?_);refine Qw QX rfl (sc rfl) (λw5 Js KL QB=>?_);have KM:Ext w3 w5:=XV Qs QX Js;obtain⟨b1,b2,b3,b4,b5,b6,b7,b8,b9,bA⟩:=hv.1 _ _ hx;have jm:=cM hv.wf (n:=s) (e:=We kN) (by omega) hx;refine Qy QB rfl ?_;refine BL x.v.toNat (2^x.v.toNat) b1 (by show min x.v.toNat 64=_;omega) rfl ?_;have Xe:kN/2^x.v.toNat<18446744073709551616:=Nat.lt_of_le_of_lt (Nat.div_le_self _ _) (by omega);refine norm (m:=((kN/2^x.v.toNat % 2:Nat):Int)) (iQ9 _ Xe) ?_;refine Zd (λh2=>?_) (λh2=>?_)
  ·have hb:We kN x.v.toNat=true:=X2 (by omega);rw[hb,Qe rfl] at jm;refine Qp QB rfl ?_;exact⟨x.h,rfl,⟨Qi.trans KM,b5,by omega,by rw[<-jm];exact hs⟩,by show x.h.toNat<s.toNat;omega⟩
  ·have hb:We kN x.v.toNat=false:=Zn (by omega);rw[hb,if_neg (by decide)] at jm;refine Qp QB rfl ?_;exact⟨x.l,rfl,⟨Qi.trans KM,b3,by omega,by rw[<-jm];exact hs⟩,by show x.l.toNat<s.toNat;omega⟩
 ·refine⟨?_,QY⟩;rw[<-hs,JT (by omega)]<;>rfl
def bvL (l:List Bool):List Value:=l.map Value.bool
structure FhI (w0:World) (g:Nat) (f:List Fz) (e:Nat->Bool) (n s:Nat) (L:List Bool) (w:World):Prop where
 m:Mod (·=g) w0 w
 blk:Blk w g 4 (bvL L)
 len:L.length=n
 got:∀j,j<s->∃t,RepF f t j/\L[j]? =some (evF t e)
 rest:∀j,s<=j->j<n->L[j]? =some false
theorem FhI.ext {w0 w w':World}{g:Nat}{f:List Fz}{e:Nat->Bool}{n s:Nat}{L:List Bool}(h:FhI w0 g f e n s L w)(k1:Ext w w'):FhI w0 g f e n s L w':=
 ⟨h.m.trans (Mod.of_ext (·=g) k1) (λ_ hi=>.inl hi),h.blk.ext k1,h.len,h.got,h.rest⟩
def CO (l:List Nat)(k:Nat):Bool:=decide (k/8<l.length)&&decide ((l[k/8]?.getD 0)/2^(k % 8) % 2=1)
def cS (l:List Nat):Nat->Nat->Nat->(Nat->Bool)->Bool
 | 0,_,k,_=>CO l k
 | d+1,v,k,e=>if e v then cS l d (v+1) (k+2^v) e else cS l d (v+1) k e
theorem CQ {nd:List Br}(hw:aB nd){k:Nat}(hk:VIn k nd)(h0:∀b∈nd,0<=b.v){e e':Nat->Bool}(h:∀i,i<k->e i=e' i):∀(m:Nat)(n:Int),n.toNat<m->n<nd.length+2->ev nd n e=ev nd n e'
 | 0,n,hm,_=>by omega
 | m+1,n,hm,hn=>by
  by_cases h2:n<2
  ·rw[JT h2,JT h2]
  obtain⟨b,hb⟩:=WG h2 hn;obtain⟨b3,b4,b5,b6⟩:=hw _ _ hb;have wg:=Xk hb;have hv:=hk b wg;have fA:=h0 b wg;rw[cM hw h2 hb,cM hw h2 hb,CQ hw hk h0 h m b.h (by omega) (by omega),CQ hw hk h0 h m b.l (by omega) (by omega),h b.v.toNat (by omega)]
theorem Set1.ext {k:Nat}{nd:List Br}{r:Int}{o:(Nat->Bool)->Bool}(hS:Set1 k nd r o){e e':Nat->Bool}(h:∀i,i<k->e i=e' i):o e=o e':=by
 rw[<-hS.mean e,<-hS.mean e'];refine CQ hS.vd.wf hS.vin (λb hb=>?_) h (r.toNat+1) r (by omega) hS.vd.2.2.1;obtain⟨j,hj,rfl⟩:=Gd.1 hb;exact(hS.vd.1 j _ (XB hj)).1
end
section
def gA (w:World)(k:Nat)(o:(Nat->Bool)->Bool)(v:Value)(w':World):Prop:=∃A n c nd r,v=Xl A n c r/\Ext w w'/\SB w' A n c nd/\Set1 k nd r o/\∀i,Ql A i->w.heap.size<=i
def xO (w:World)(k:Nat)(o:(Nat->Bool)->Bool)(v:Value)(w':World):Prop:=∃A n c nd r,v= .tuple #[Xl A n c r,.int .i64 0]/\Ext w w'/\SB w' A n c nd/\Set1 k nd r o/\∀i,Ql A i->w.heap.size<=i
theorem CR (b:Bool)(w:World):Fn Tryz.prog 29 [.bool b] w (λv w'=>v=Xl none 0 0 (if b then 1 else 0)/\Ext w w'):=by
 refine QH (c:={c29 with cuts:=[]}) Qa Tryz.func29 rfl rfl rfl ?_;refine new (λw1 Qd Q9 Qh=>?_);cases b with
 | true=>
  refine Xc rfl ?_;refine Qw Qh rfl (sc rfl) (λw3 Je _ Qu=>?_);refine Qt Qu rfl ?_;exact⟨rfl,XV Qd Qh Je⟩
 | false=>
  refine Q7 rfl ?_;refine Qw Qh rfl (sc rfl) (λw3 Je _ Qu=>?_);refine Qt Qu rfl ?_;exact⟨rfl,XV Qd Qh Je⟩
section
variable {k:Nat} (hk:k<=12)
include hk
theorem H7 {a b:List Br}{ra rb:Int}{o o':(Nat->Bool)->Bool}(A:Option Addr)(n c:Nat)(B:Option Addr)(m d:Nat)(op:Int)(ho:op≠3/\op≠4)(w:World)(h:SB w A n c a)(h':SB w B m d b)(s:Set1 k a ra o)(s':Set1 k b rb o'):
  Fn Tryz.prog 58 [Xl A n c ra,Xl B m d rb,.int .i64 op] w (gA w k (λe=>Kt op (o e) (o' e))):=by
 have l1:=s.len hk;have l2:=s'.len hk;have Vf:=h.2;have fU:=h'.2;have hb2:=Hq s.vd s'.vd op;have An:(a.length+2)*(b.length+2)<=4098*4098:=Nat.mul_le_mul (by omega) (by omega);refine(hQb A n c a ra B m d b rb op w h h' s.vd.dok s'.vd.dok s.vd.2.1 (by have:=s.vd.2.2.1;omega) s'.vd.2.1 (by have:=s'.vd.2.2.1;omega) (by omega) (by omega) (by omega) (by omega) ho).mono ?_;rintro v w' ⟨OA,q,oc,rfl,hE,hO,hR⟩;exact⟨OA,q,oc,_,_,rfl,hE,hO,eX s s' op,hR⟩
theorem jQa {a b:List Br}{ra rb:Int}{o o':(Nat->Bool)->Bool}(A:Option Addr)(n c:Nat)(B:Option Addr)(m d:Nat)(w:World)(h:SB w A n c a)(h':SB w B m d b)(s:Set1 k a ra o)(s':Set1 k b rb o'):
  Fn Tryz.prog 66 [Xl A n c ra,Xl B m d rb] w (gA w k (λe=>Kt 1 (o e) (o' e))):=by
 refine QH (c:={c66 with cuts:=[]}) Qa Tryz.func66 rfl rfl rfl ?_;refine new (λw1 Qd Q9 Qh=>?_);refine new (λw2 Qg Zi Qv=>?_);refine new (λw3 Qi JD Qu=>?_);have QY:=(Qd.trans Qg).trans Qi;refine Qt ((Qh.ext Qg).ext Qi) rfl ?_;refine Qt (Qv.ext Qi) rfl ?_;refine call (H7 hk A n c B m d 1 (by decide) w3 (h.ext QY) (h'.ext QY) s s') ?_;rintro _ w4 ⟨PA,q,pc,nd,r,rfl,Qs,fo,W9,co⟩;refine Qw (Qu.ext Qs) rfl (sc rfl) (λw5 Js _ QB=>?_);have Jn:Mod (·=w2.heap.size) w4 w5:=qQT Js rfl;refine Qt QB rfl ?_;exact⟨PA,q,pc,nd,r,rfl,Jn.ext (QY.trans Qs) (λi hi=>by omega),fo.mod Jn (λi hi e=>by have:=co i hi;omega),W9,λi hi=>by have:=co i hi;omega⟩
theorem xP {a b:List Br}{ra rb:Int}{o o':(Nat->Bool)->Bool}(A:Option Addr)(n c:Nat)(B:Option Addr)(m d:Nat)(w:World)(h:SB w A n c a)(h':SB w B m d b)(s:Set1 k a ra o)(s':Set1 k b rb o'):
  Fn Tryz.prog 22 [Xl A n c ra,Xl B m d rb] w (gA w k (λe=>Kt 0 (o e) (o' e))):=by
 refine QH (c:={c22 with cuts:=[]}) Qa Tryz.func22 rfl rfl rfl ?_;refine new (λw1 Qd Q9 Qh=>?_);refine new (λw2 Qg Zi Qv=>?_);refine new (λw3 Qi JD Qu=>?_);have QY:=(Qd.trans Qg).trans Qi;refine Qt ((Qh.ext Qg).ext Qi) rfl ?_;refine Qt (Qv.ext Qi) rfl ?_;refine call (H7 hk A n c B m d 0 (by decide) w3 (h.ext QY) (h'.ext QY) s s') ?_;rintro _ w4 ⟨PA,q,pc,nd,r,rfl,Qs,fo,W9,co⟩;refine Qw (Qu.ext Qs) rfl (sc rfl) (λw5 Js _ QB=>?_);have Jn:Mod (·=w2.heap.size) w4 w5:=qQT Js rfl;refine Qt QB rfl ?_;exact⟨PA,q,pc,nd,r,rfl,Jn.ext (QY.trans Qs) (λi hi=>by omega),fo.mod Jn (λi hi e=>by have:=co i hi;omega),W9,λi hi=>by have:=co i hi;omega⟩
theorem jQb {a:List Br}{ra:Int}{o:(Nat->Bool)->Bool}(A:Option Addr)(n c:Nat)(w:World)(h:SB w A n c a)(s:Set1 k a ra o):
  Fn Tryz.prog 59 [Xl A n c ra] w (gA w k (λe=> !o e)):=by
 refine QH (c:={c59 with cuts:=[]}) Qa Tryz.func59 rfl rfl rfl ?_;refine new (λw1 Qd Q9 Qh=>?_);refine new (λw2 Qg Zi Qv=>?_);have QR:=Qd.trans Qg;have K8:=Qh.ext Qg;refine XL Qa (Ext w2) 3 [(true,0),(false,1),(false,2)] (by kernel_rfl) (Ext.drew w2) ?_;refine Xo (vs:=[.slice A n c,.int .i64 ra]) rfl (λw' Qb j v hj=>by have:=(K8.ext Qb).cell j;rw[this];exact hj) ?_;refine call (CR true _) ?_;rintro _ w3 ⟨rfl,Qi⟩;have Ya:=(Ext.drew w2).trans Qi;refine⟨Ya,?_⟩;have s1:Set1 k [] 1 (λ_=>true):=bT k true;refine call (H7 hk A n c none 0 0 2 (by decide) w3 (h.ext (QR.trans Ya)) (SlS.nil _) s s1) ?_;rintro _ w4 ⟨PA,q,pc,nd,r,rfl,Qs,fo,W9,co⟩;have ZE:=Ya.trans Qs;refine⟨ZE,?_⟩;have hz:=(QR.trans Ya).size;refine Qw (Qv.ext ZE) rfl (sc rfl) (λw5 Js _ QB=>?_);have Jn:Mod (·=w1.heap.size) w4 w5:=qQT Js rfl;refine Qt QB rfl ?_;have cQD:=Ya.size;exact⟨PA,q,pc,nd,r,rfl,Jn.ext (QR.trans ZE) (λi hi=>by omega),fo.mod Jn (λi hi e=>by have:=co i hi;omega),W9.congr (λe=>by cases o e<;>rfl),λi hi=>by have:=co i hi;omega⟩
theorem Un {a b:List Br}{ra rb:Int}{o o':(Nat->Bool)->Bool}(A:Option Addr)(n c:Nat)(B:Option Addr)(m d:Nat)(w:World)(h:SB w A n c a)(h':SB w B m d b)(s:Set1 k a ra o)(s':Set1 k b rb o'):
  Fn Tryz.prog 23 [Xl A n c ra,Xl B m d rb] w (gA w k (λe=>o e && !o' e)):=by
 refine QH (c:={c23 with cuts:=[]}) Qa Tryz.func23 rfl rfl rfl ?_;refine new (λw1 Qd Q9 Qh=>?_);refine new (λw2 Qg Zi Qv=>?_);refine new (λw3 Qi JD Qu=>?_);have QY:=(Qd.trans Qg).trans Qi;have Vm:=(Qh.ext Qg).ext Qi;have ko:=Qv.ext Qi;refine XL Qa (Ext w3) 4 [(true,0),(true,1),(false,2),(false,3)] (by kernel_rfl) (Ext.drew w3) ?_;refine Xo (vs:=[.slice A n c,.int .i64 ra]) rfl (λw' Qb j v hj=>by have:=(Vm.ext Qb).cell j;rw[this];exact hj) ?_;refine Xo (vs:=[.slice B m d,.int .i64 rb]) rfl (λw' Qb j v hj=>by have:=(ko.ext Qb).cell j;rw[this];exact hj) ?_;refine call (jQb hk B m d _ (h'.ext (QY.trans (Ext.drew w3))) s') ?_;rintro _ w4 ⟨QA,q1,qc,nd1,r1,rfl,Qs,hQ4,hT4,_⟩;have Va:=(Ext.drew w3).trans Qs;refine⟨Va,?_⟩;refine call (xP hk A n c QA q1 qc w4 (h.ext (QY.trans Va)) hQ4 s hT4) ?_;rintro _ w5 ⟨PA,q,pc,nd,r,rfl,Qx,rR,iX,bE⟩;have KM:=Va.trans Qx;refine⟨KM,?_⟩;have pQ2:=Va.size;refine Qw (Qu.ext KM) rfl (sc rfl) (λw6 Wm _ Xg=>?_);have Vl:Mod (·=w2.heap.size) w5 w6:=qQT Wm rfl;refine Qt Xg rfl ?_;exact⟨PA,q,pc,nd,r,rfl,Vl.ext (QY.trans KM) (λi hi=>by omega),rR.mod Vl (λi hi e=>by have:=bE i hi;omega),iX.congr (λe=>by simp[Kt]),λi hi=>by have:=bE i hi;omega⟩
end
theorem H8 {k v:Nat}(hv:v<k)(hk:k<=64):Set1 k [⟨(v:Nat),0,1⟩] 2 (λe=>e v):=⟨Co (by omega) (by omega),λb hb=>by simp only[QL] at hb;subst hb;show((v:Nat):Int)<k;omega,λe=>by
 rw[cM (Co (k:=((v:Nat):Int)) (by omega) (by omega)).wf (by decide) (b:=⟨(v:Nat),0,1⟩) rfl,JT (by simp),JT (by simp)];cases h:e v<;>simp[h]⟩
end
noncomputable section
section
structure Sx where
 f:Int
 t:Int
 fl:Int
 at_:Int
 x:DV
def Sx.cells (y:Sx):List Value:=[.int .i64 y.f,.int .i64 y.t,.int .i64 y.fl,.int .i64 y.at_,.slice y.x.A y.x.n y.x.c,.int .i64 y.x.r]
theorem qZ (y:Sx):y.cells.length=6:=rfl
structure SX (w:World) (A:Option Addr) (n c:Nat) (L:List Sx):Prop where
 sl:SlS Sx.cells 6 w A n c L
 dg:∀y∈L,SB w y.x.A y.x.n y.x.c y.x.nd
theorem SX.ext {w w':World}{A:Option Addr}{n c:Nat}{L:List Sx}(h:SX w A n c L)(k:Ext w w'):SX w' A n c L:=⟨h.sl.ext k,λy hy=>(h.dg y hy).ext k⟩
def H9 (tx:List Nat)(at_:Int)(y:Sx):Prop:=y.f=at_/\at_<y.t/\y.t<=tx.length/\tx[(y.t-1).toNat]? =some 10/\XH y.x.nd y.x.r=0/\0<=y.fl/\0<=y.at_/\y.at_<=1048576-(y.t-y.f)
def gB (tx:List Nat):Int->List Sx->Prop
 | at_,[]=>at_=tx.length
 | at_,y::L=>H9 tx at_ y/\gB tx y.t L
open Classical in
def iI (tx:List Nat)(L:List Sx):Int:=if 1048576<tx.length∨65536<L.length then 2 else if gB tx 0 L then 0 else 70
theorem Uo {tx:List Nat}{L:List Sx}:iI tx L=0↔tx.length<=1048576/\L.length<=65536/\gB tx 0 L:=by
 unfold iI;by_cases h1:1048576<tx.length∨65536<L.length
 ·rw[Qe h1];constructor
  ·intro h;cases h
  ·rintro⟨a,b,_⟩;omega
 ·rw[if_neg h1];by_cases h2:gB tx 0 L
  ·rw[Qe h2];exact⟨λ_=>⟨by omega,by omega,h2⟩,λ_=>rfl⟩
  ·rw[if_neg h2];constructor
   ·intro h;cases h
   ·rintro⟨_,_,h⟩;exact Xd h h2
structure ChkI (w0:World) (tx:List Nat) (L:List Sx) (i:Nat) (at_:Int) (w:World):Prop where
 e:Ext w0 w
 le:i<=L.length
 a0:0<=at_
 al:at_<=tx.length
 rs:gB tx 0 L↔gB tx at_ (L.drop i)
theorem jQc (tx:List Nat)(A:Option Addr)(n c:Nat)(L:List Sx)(w:World)(h:SX w A n c L)(h8:∀x∈tx,x<256):
  Fn Tryz.prog 54 [qY tx A n c] w (λu w'=>u= .int .i64 (iI tx L)/\Ext w w'):=by
 have Q0:=h.sl.2;have cv:=Xi tx;refine QH (c:={c54 with cuts:=[]}) Qa Tryz.func54 rfl rfl rfl ?_;refine new (λw1 Qd Q9 Qh=>?_);refine Qy Qh rfl ?_;refine Qz (λc1=>?_) (λc1=>?_)
 ·exact⟨by unfold iI;rw[Qe (.inl (by omega))],Qd⟩
 refine Qp Qh rfl ?_;refine Qz (λc2=>?_) (λc2=>?_)
 ·exact⟨by unfold iI;rw[Qe (.inr (by omega))],Qd⟩
 have XO:iI tx L=open Classical in if gB tx 0 L then 0 else 70:=by unfold iI;rw[if_neg (by omega)]
 refine Qp Qh rfl ?_;refine loop Qa [19,3] (λs:Nat×Int=>[.int .i64 s.1,.int .i64 s.2]) (λs w'=>ChkI w1 tx L s.1 s.2 w') (λs _=>L.length-s.1) (0,0) rfl ⟨Ext.refl _,Xt _,jH _,by omega,Iff.rfl⟩ ?_;rintro⟨i,at_⟩ w2 hI;have QR:=Qd.trans hI.e;have a0:=hI.a0;have al:=hI.al;simp only at a0 al;refine Qz (λc3=>?_) (λc3=>?_)
 ·have hi:i<n:=by omega
  refine Zz qZ (h.sl.ext QR) rfl hi (λp y hy hc=>?_);refine JN (vs:=y.cells) rfl hc ?_;refine new (λw3 Qi JD Qu=>?_);refine Qw Qu rfl (sc rfl) (λw4 W8 _ QX=>?_);have ZE:Ext w2 w4:=XV Qi Qu W8;have Xr:=QR.trans ZE;have vg:=Qh.ext (hI.e.trans ZE);have bK:L.drop i=y::L.drop (i+1):=by
   rw[av (by omega)];congr 1;exact Option.some.inj ((XB (by omega)).symm.trans hy)
  have QE:=hI.rs;simp only at QE;rw[bK,gB] at QE;have bad:¬H9 tx at_ y->∀w',Ext w w'->(Value.int .i64 70= .int .i64 (iI tx L))/\Ext w w':=λXq w' hE=>⟨by rw[XO,if_neg (λhh=>Xq (QE.1 hh).1)],hE⟩
  refine Qy QX rfl ?_;refine YE (λd1=>?_) (λd1=>?_)
  ·exact bad (λhb=>d1 hb.1) _ Xr
  refine Qp QX rfl ?_;refine Qz (λd2=>?_) (λd2=>?_)
  ·exact bad (λhb=>by have:=hb.2.1;omega) _ Xr
  refine Qp QX rfl ?_;refine Qy vg rfl ?_;refine Qz (λd3=>?_) (λd3=>?_)
  ·exact bad (λhb=>by have:=hb.2.2.1;omega) _ Xr
  have hyt:y.t<=tx.length:=by omega
  refine Qy vg rfl ?_;refine Qp QX rfl ?_;have hj:(y.t-1).toNat<tx.length:=by omega
  refine Qj (((y.t-1).toNat:Nat):Int) (by omega) (by omega) ?_;refine dL (by rw[cv];exact hj) (λb hb _=>?_);rw[WB h8] at hb;refine YE (λd4=>?_) (λd4=>?_)
  ·exact bad (λhh=>by have:=hh.2.2.2.1;rw[hb] at this;exact d4 (by have:=Option.some.inj this;omega)) _ Xr
  have mL:tx[(y.t-1).toNat]? =some 10:=by rw[hb];congr 1;omega
  refine JN (vs:=[.slice y.x.A y.x.n y.x.c,.int .i64 y.x.r]) rfl (λj v hj=>by rw[Addr.add_add];exact(QX.cell _).trans (by match j,hj with | 0,hj=>exact hj | 1,hj=>exact hj)) ?_;refine call (uf y.x.A y.x.n y.x.c y.x.nd y.x.r w4 ((h.dg y (Xk hy)).ext Xr)) ?_;rintro _ w5 ⟨rfl,Qx⟩;have Z9:=Xr.trans Qx;have QB:=QX.ext Qx;refine YE (λd5=>?_) (λd5=>?_)
  ·exact bad (λhh=>d5 hh.2.2.2.2.1) _ Z9
  refine Qp QB rfl ?_;refine Qz (λd6=>?_) (λd6=>?_)
  ·exact bad (λhh=>by have:=hh.2.2.2.2.2.1;omega) _ Z9
  refine Qp QB rfl ?_;refine Qz (λd7=>?_) (λd7=>?_)
  ·exact bad (λhh=>by have:=hh.2.2.2.2.2.2.1;omega) _ Z9
  refine Qp QB rfl ?_;refine Qp QB rfl ?_;refine Qy QB rfl ?_;refine Qj (y.t-y.f) rfl (by omega) ?_;refine Qj (1048576-(y.t-y.f)) rfl (by omega) ?_;refine Qz (λd8=>?_) (λd8=>?_)
  ·exact bad (λhh=>by have:=hh.2.2.2.2.2.2.2;omega) _ Z9
  refine Qp QB rfl ?_;refine Qj ((i+1:Nat):Int) (by show((i:Nat):Int)+1=_;omega) (by omega) ?_;have XY:H9 tx at_ y:=⟨d1,by omega,hyt,mL,d5,by omega,by omega,by omega⟩
  exact⟨(i+1,y.t),rfl,⟨hI.e.trans (ZE.trans Qx),by show i+1<=L.length;omega,by show 0<=y.t;omega,hyt,by simp only;rw[QE];exact⟨λhh=>hh.2,λhh=>⟨XY,hh⟩⟩⟩,by show L.length-(i+1)<L.length-i;omega⟩
 ·have bK:L.drop i=[]:=qg (by omega);have QE:=hI.rs;simp only at QE;rw[bK,gB] at QE;refine Qy (Qh.ext hI.e) rfl ?_;refine Qz (λd1=>?_) (λd1=>?_)
  ·exact⟨by rw[XO,if_neg (λhh=>by have:=QE.1 hh;omega)],QR⟩
  ·exact⟨by rw[XO,Qe (QE.2 (by omega))],QR⟩
end
section
structure SegB (tx:List Nat) (y:Sx):Prop where
 f0:0<=y.f
 ft:y.f<y.t
 tl:y.t<=tx.length
 ck:XH y.x.nd y.x.r=0
 l0:0<=y.fl
 a0:0<=y.at_
 a1:y.at_<=1048576
theorem Uq {tx:List Nat}:∀{L:List Sx}{a:Int},0<=a->gB tx a L->∀y∈L,SegB tx y
 | [],_,_,_,y,hy=>by cases hy
 | z::L,a,ha,h,y,hy=>by
  obtain⟨⟨h1,h2,h3,h4,h5,h6,h7,h8⟩,hr⟩:=h;rcases Q3.1 hy with rfl | hy
  ·exact⟨by omega,by omega,h3,h5,h6,h7,by omega⟩
  ·exact Uq (by omega) hr y hy
def W5 (L:List Sx):Int:=(L.map (λy=>y.t-y.f)).sum
theorem uH (y:Sx)(L:List Sx):W5 (y::L)=(y.t-y.f)+W5 L:=by simp[W5]
theorem Ur {tx:List Nat}:∀{L:List Sx},(∀y∈L,SegB tx y)->0<=W5 L
 | [],_=>by simp[W5]
 | y::L,h=>by
  rw[uH];have:=(h y (by simp)).ft;have:0<=W5 L:=Ur (tx:=tx) (λz hz=>h z (dF _ hz));omega
theorem Us {tx:List Nat}:∀{L:List Sx}{a:Int},gB tx a L->W5 L=tx.length-a
 | [],a,h=>by have:a=tx.length:=h;simp[W5,this]
 | y::L,a,h=>by
  rw[uH,Us h.2,h.1.1];omega
theorem Ut {tx:List Nat}(q:Sx->Bool):∀{L:List Sx},(∀y∈L,SegB tx y)->W5 (L.filter q)<=W5 L
 | [],_=>by simp[W5]
 | y::L,h=>by
  have h1:=(h y (by simp)).ft;have h2:W5 (L.filter q)<=W5 L:=Ut (tx:=tx) q (λz hz=>h z (dF _ hz));rw[gh];split
  ·rw[uH,uH];omega
  ·rw[uH];omega
def xQ (c:Nat)(y:Sx):Bool:=ev y.x.nd y.x.r (We c)
def Vw (c:Nat)(L:List Sx):List Sx:=L.filter (xQ c)
def bX (tx:List Nat)(y:Sx):List Nat:=(tx.take y.t.toNat).drop y.f.toNat
def CT (tx:List Nat)(L:List Sx)(c:Nat):List Nat:=if iI tx L=0 then(Vw c L).flatMap (bX tx)else []
theorem Ia {α:Type}{l:List α}{i:Nat}{x:α}(h:l[i]? =some x):l.drop i=x::l.drop (i+1):=by
 obtain⟨h1,rfl⟩:=ZM.1 h;exact av h1
theorem jQd (y:Sx):∀u∈y.cells,JF u=true:=by intro u hu;simp[Sx.cells] at hu;rcases hu with rfl | rfl | rfl | rfl | rfl | rfl<;>rfl
structure SelI (w0:World) (base:Nat) (c:Nat) (L:List Sx) (i:Nat) (O:Option Addr) (oc:Nat) (w:World):Prop where
 e:Ext w0 w
 le:i<=L.length
 own:Own w base 48 6 O (Vw c (L.take i)).length oc ((Vw c (L.take i)).flatMap Sx.cells)
theorem jQe (tx:List Nat)(A:Option Addr)(n cp:Nat)(L:List Sx)(c:Nat)(w:World)(h:SX w A n cp L)(hc:c<=18446744073709551615)(hv:∀y∈L,XH y.x.nd y.x.r=0)(hn:n<=65536):
  Fn Tryz.prog 55 [qY tx A n cp,.int .u64 c] w (λu w'=>∃O oc,u= .slice O (Vw c L).length oc/\Ext w w'/\SX w' O (Vw c L).length oc (Vw c L)/\Own w' w.heap.size 48 6 O (Vw c L).length oc ((Vw c L).flatMap Sx.cells)):=by
 have Q0:=h.sl.2;refine QH (c:={c55 with cuts:=[]}) Qa Tryz.func55 rfl rfl rfl ?_;refine new (λw1 Qd Q9 Qh=>?_);refine Qp Qh rfl ?_;refine loop Qa [11,5] (λs:Nat×Option Addr×Nat=>[.int .i64 s.1,.slice s.2.1 (Vw c (L.take s.1)).length s.2.2]) (λs w'=>SelI w1 w1.heap.size c L s.1 s.2.1 s.2.2 w') (λs _=>L.length-s.1) (0,none,0) rfl ⟨Ext.refl _,Xt _,Own.nil _ _ _ _⟩ ?_;rintro⟨i,O,oc⟩ w2 hI;have QR:=Qd.trans hI.e;have ho:=hI.own;have ZL:=hI.le;simp only at ho ZL;refine Qz (λc3=>?_) (λc3=>?_)
 ·have hi:i<n:=by omega
  refine Zz qZ (h.sl.ext QR) rfl hi (λp y hy dA=>?_);have VC:L.take (i+1)=L.take i++ [y]:=by rw[V3,hy]<;>rfl
  refine JN (vs:=y.cells) rfl dA ?_;refine new (λw3 Qi JD Qu=>?_);refine Qw Qu rfl (sc rfl) (λw4 W8 _ QX=>?_);have ZE:Ext w2 w4:=XV Qi Qu W8;have Xr:=QR.trans ZE;refine JN (vs:=[.slice y.x.A y.x.n y.x.c,.int .i64 y.x.r]) rfl (λj v hj=>by rw[Addr.add_add];exact(QX.cell _).trans (by match j,hj with | 0,hj=>exact hj | 1,hj=>exact hj)) ?_;have FN:=Xk hy;refine call (H6 y.x.A y.x.n y.x.c y.x.nd y.x.r c hc w4 ((h.dg y FN).ext Xr) (hv y FN)) ?_;rintro _ w5 ⟨rfl,Qx⟩;have Ko:=ZE.trans Qx;have QB:=QX.ext Qx;refine YT (λd1=>?_) (λd1=>?_)
  ·have d1:xQ c y=true:=d1;have mX:Vw c (L.take (i+1))=Vw c (L.take i)++ [y]:=by rw[VC];unfold Vw;rw[tC];simp[d1]
   refine Qt QB rfl ?_;refine Xw Qa [y.cells] rfl rfl rfl rfl rfl ⟨rfl,rfl,⟨⟩⟩ rfl (λcs hh=>by simp only[QL] at hh;subst hh;rfl) rfl (by decide) (by decide) ?_;intro w6 QN cj Xg;have jg:=Ko.trans QN;have yu:Sl w6 6 (some ⟨w5.heap.size,0,none⟩) 1 1 y.cells:=Sl.own (sz:=6) (n:=1) Xg (QC _) (by decide) (by simp[Sx.cells]);have Ja:(Vw c (L.take i)).length<=i:=X4 (qh _ _) (by simp;omega);refine JH (n:=(Vw c (L.take i)).length) Qa rfl rfl rfl rfl rfl (by decide) rfl rfl ⟨_,rfl⟩ rfl rfl (ho.ext jg) yu (jQd y) (by unfold maxLen;omega) (by show((Vw c (L.take i)).length+1)*64<=_;omega) (by have:=hI.e.size;have:=jg.size;omega) ?_;intro A' c' w7 JW o7 nQI;refine Qj ((i+1:Nat):Int) (by show((i:Nat):Int)+1=_;omega) (by omega) ?_;refine⟨(i+1,A',c'),by simp only[mX,Qq];rfl,⟨JW.ext (hI.e.trans jg) (λk hk=>(ho.rows k hk).1),by show i+1<=L.length;omega,?_⟩,by show L.length-(i+1)<L.length-i;omega⟩;simp only;rw[mX,Wy,Qq];simpa using o7
  ·have d1:xQ c y=false:=d1;have mX:Vw c (L.take (i+1))=Vw c (L.take i):=by rw[VC];unfold Vw;rw[tC];simp[d1]
   refine Qj ((i+1:Nat):Int) (by show((i:Nat):Int)+1=_;omega) (by omega) ?_;refine⟨(i+1,O,oc),by simp only[mX];rfl,⟨hI.e.trans Ko,by show i+1<=L.length;omega,?_⟩,by show L.length-(i+1)<L.length-i;omega⟩;simp only;rw[mX];exact ho.ext Ko
 ·have hall:L.take i=L:=Jv (by omega);rw[hall] at ho;refine⟨O,oc,?_,QR,⟨⟨ho.sl,rfl⟩,λy hy=>(h.dg y (Jc.1 hy).1).ext QR⟩,ho.up (by omega)⟩;rw[hall]
theorem Uu {tx:List Nat}:∀{L:List Sx},(∀y∈L,SegB tx y)->((L.flatMap (bX tx)).length:Int)=W5 L
 | [],_=>rfl
 | y::L,h=>by
  have h1:=h y (by simp);have h2:=Uu (L:=L) (tx:=tx) (λz hz=>h z (dF _ hz));have:=h1.f0;have:=h1.ft;have:=h1.tl;rw[VH,Qq,uH,<-h2];have:(bX tx y).length=y.t.toNat-y.f.toNat:=by unfold bX;rw[YR,K5];omega
  rw[this];omega
theorem Uv {tx:List Nat}(h8:∀x∈tx,x<256)(y:Sx):∀x∈bX tx y,x<256:=λx hx=>h8 x (bf (au hx))
structure SelJ (w0:World) (base g:Nat) (tx:List Nat) (M:List Sx) (i:Nat) (w:World):Prop where
 e:Ext w0 w
 le:i<=M.length
 b:∃A c,Bld w base g 109 [] A c ((M.take i).flatMap (bX tx))
theorem jQf (tx:List Nat)(A:Option Addr)(n cp:Nat)(L:List Sx)(c:Nat)(w:World)(h:SX w A n cp L)(hc:c<=18446744073709551615)(h8:∀x∈tx,x<256):
  Fn Tryz.prog 21 [qY tx A n cp,.int .u64 c] w (λu w'=>u= .string (Qf (CT tx L c))/\Ext w w'):=by
 have Q0:=h.sl.2;refine QH (c:={c21 with cuts:=[]}) Qa Tryz.func21 rfl rfl rfl ?_;refine new (λw1 Qd Q9 Qh=>?_);refine Qt Qh rfl ?_;refine call (jQc tx A n cp L w1 (h.ext Qd) h8) ?_;rintro _ w2 ⟨rfl,Qg⟩;have QR:=Qd.trans Qg;refine YE (λc1=>?_) (λc1=>?_)
 ·exact⟨by unfold CT;rw[if_neg c1];rfl,QR⟩
 obtain⟨t1,t2,t3⟩:=Uo.1 c1;have hall:=Uq (jH 0) t3;refine new (λw3 Qi JD Qu=>?_);have QY:=QR.trans Qi;refine Qt (Qh.ext (Qg.trans Qi)) rfl ?_;refine call (jQe tx A n cp L c w3 (h.ext QY) hc (λy hy=>(hall y hy).ck) (by omega)) ?_;rintro _ w4 ⟨O,oc,rfl,Qs,r6,cQE⟩;have Xr:=QY.trans Qs;have O6:∀y∈Vw c L,SegB tx y:=λy hy=>hall y (Jc.1 hy).1
 have qQE:∀y∈Vw c L,SB w y.x.A y.x.n y.x.c y.x.nd:=λy hy=>h.dg y (Jc.1 hy).1
 have dQx:W5 (Vw c L)<=tx.length:=by
  have e1:=Ut (xQ c) hall;have e2:=Us t3;unfold Vw;omega
 have FO:(Vw c L).length<=65536:=X4 (qh _ _) t2;have kJ:CT tx L c=(Vw c L).flatMap (bX tx):=Qe c1;generalize hM:Vw c L=M at*;have pQ3:=Qs.size;have nQJ:=cQE.rows;have LH:Bld w4 w4.heap.size w2.heap.size 109 [] none 0 (([]:List Sx).flatMap (bX tx)):=⟨by omega,QC _,⟨_,.inl rfl,Qu.ext Qs⟩,Own.nil _ _ _ _⟩
 have cm:=QR.size;have Jf:∀i,(((M.take i).flatMap (bX tx)).length:Int)<=tx.length:=λi=>by
  have e1:=Uu (L:=M.take i) (tx:=tx) (λz hz=>O6 z (bf hz));have e2:=Ur (L:=M.drop i) (tx:=tx) (λz hz=>O6 z (au hz));have e3:W5 M=W5 (M.take i)+W5 (M.drop i):=by
   unfold W5;rw[<-List.sum_append,<-be,dE]
  omega
 refine loop Qa [15] (λi:Nat=>[.int .i64 i]) (λi w'=>SelJ w2 w4.heap.size w2.heap.size tx M i w'/\Mod (λk=>k=w2.heap.size∨w4.heap.size<=k) w4 w') (λi _=>M.length-i) 0 rfl ⟨⟨Qi.trans Qs,Xt _,_,_,LH⟩,Mod.refl _ _⟩ ?_;rintro i w5 ⟨hI,cQF⟩;have Z9:Ext w w5:=QR.trans hI.e;have nQK:Own w5 w3.heap.size 48 6 O M.length oc (M.flatMap Sx.cells):=cQE.mod cQF (λk hk hS=>by have:=nQJ k hk;omega);obtain⟨BA,bc,V8⟩:=hI.b;refine Qz (λc3=>?_) (λc3=>?_)
 ·have hi:i<M.length:=by omega
  refine Zz (l:=M) qZ ⟨nQK.sl,rfl⟩ rfl hi (λp y hy dA=>?_);have FN:=Xk hy;have eG:=O6 y FN;have VC:M.take (i+1)=M.take i++ [y]:=by rw[V3,hy]<;>rfl
  refine JN (vs:=y.cells) rfl dA ?_;refine new (λw6 QN cj Xg=>?_);refine Qw Xg rfl (sc rfl) (λw7 Zs _ Q8=>?_);have JX:Ext w5 w7:=XV QN Xg Zs;refine Qy ((Qh.ext Qg).ext (hI.e.trans JX)) rfl ?_;refine Qy Q8 rfl ?_;refine Qp Q8 rfl ?_;have q1:=eG.f0;have q2:=eG.ft;have q3:=eG.tl;have cv:=Xi tx;refine XM (v':=.string (Qf (bX tx y))) ⟨q1,by omega,by rw[cv];omega⟩ (by rw[VN];rfl) ?_;have js:=Jf (i+1);rw[VC,Wy,Qq] at js;have hpe: [y].flatMap (bX tx)=bX tx y:=by simp
  rw[hpe] at js;have aT:=Xi (bX tx y);refine call (iw w4.heap.size w2.heap.size _ [] BA bc _ (Qf (bX tx y)) w7 WE (V8.grow JX) (by rw[aT];omega)) ?_;rintro _ w8 ⟨A8,c8,Lu,Jr,hv8⟩;have g9:=(V8.own.rows)
  have gK:∀k,BldS w2.heap.size BA k->k=w2.heap.size∨w4.heap.size<=k:=λk hk=>hk.elim .inl (λhk=>.inr (g9 k hk).1)
  refine Qj ((i+1:Nat):Int) (by show((i:Nat):Int)+1=_;omega) (by omega) ?_;refine⟨i+1,rfl,⟨⟨Jr.ext (hI.e.trans JX) (λk hk=>by rcases gK k hk with e | e<;>omega),hi,A8,c8,?_⟩,?_⟩,by show M.length-(i+1)<M.length-i;omega⟩
  ·rw[VC,Wy,hpe];rw[WB (Uv h8 y)] at Lu;exact Lu
  ·exact(cQF.trans (Mod.of_ext (λk=>k=w2.heap.size∨w4.heap.size<=k) JX) (λk hk=>.inl hk)).trans (Jr.mono (λk hk=>.inl (gK k hk))) (λk hk=>.inl hk)
 ·have hall:M.take i=M:=Jv (by omega);rw[hall] at V8;have js:=Jf i;rw[hall] at js;refine call (R3 w4.heap.size w2.heap.size _ [] BA bc _ w5 V8 (λx hx=>by
   obtain⟨y,_,Xu⟩:=cB.1 hx;exact Uv h8 y x Xu) (by omega)) ?_
  rintro _ w6 ⟨rfl,Vy⟩;have g9:=(V8.own.rows)
  exact⟨by rw[kJ],Vy.ext Z9 (λk hk=>by have:=g9 k hk;omega)⟩
end
section
abbrev I2:=Int×Int
abbrev iJ:I2->Value:=λt=>.agg #[.int .i64 t.1,.int .i64 t.2]
theorem jQg (a b:I2)(n:Nat)(w:World):(Op.equalIn (n+2) 253 (iJ a) (iJ b)).run Tryz.prog w= .ok (decide (a=b)) w:=by
 obtain⟨i,hi⟩:=PY.1 (show(Tryz.prog.info? 3).isSome=true by kernel_rfl);obtain⟨a0,a1⟩:=a;obtain⟨b0,b1⟩:=b;have e:=run_equalIn_array (w:=w) (n+1) #[.int .i64 a0,.int .i64 a1] #[.int .i64 b0,.int .i64 b1] Tryz.underlying253 hi;rw[Cs,show List.range 2=[0,1] from rfl] at e;refine e.trans ?_;have p0:∀x y:Int,(part 3 #[Value.int .i64 x,.int .i64 y] (0*1)).run Tryz.prog w= .ok (.int .i64 x) w:=λx y=>cC k3 rfl w
 have p1:∀x y:Int,(part 3 #[Value.int .i64 x,.int .i64 y] (1*1)).run Tryz.prog w= .ok (.int .i64 y) w:=λx y=>cC k3 rfl w
 have dd:decide ((a0,a1)=(b0,b1))=(a0==b0&&a1==b1):=by
  by_cases h0:a0=b0<;>by_cases h1:a1=b1<;>simp[h0,h1]
 rw[dd];simp only[Op.eqItems,Sem.run_bind,p0,Result.andThen_ok,xE];cases h0:a0==b0 with
 | false=>simp
 | true=>
  simp only[Bool.not_true,PS,if_false,Sem.run_bind,p1,Result.andThen_ok,xE,bg];cases h1:a1==b1<;>simp
theorem jQh (b:Bool)(a:I2)(n:Nat)(w:World):(Instr.checkKey b (n+2) 253 (iJ a)).run Tryz.prog w= .ok () w:=by
 obtain⟨i,hi⟩:=PY.1 (show(Tryz.prog.info? 3).isSome=true by kernel_rfl);have p0:∀x y:Int,(part 3 #[Value.int .i64 x,.int .i64 y] 0).run Tryz.prog w= .ok (.int .i64 x) w:=λx y=>cC k3 rfl w
 have p1:∀x y:Int,(part 3 #[Value.int .i64 x,.int .i64 y] 1).run Tryz.prog w= .ok (.int .i64 y) w:=λx y=>cC k3 rfl w
 have hz:(sizeOf 3).run Tryz.prog w= .ok 1 w:=by rw[<-Cs];exact Go.run_sizeOf w hi
 simp[Instr.checkKey,ZX Tryz.underlying253,ZX Tryz.underlying3,hz,p0,p1,Std.Legacy.Range.forIn_eq_forIn_range',Std.Legacy.Range.size,List.range'_succ]
theorem CU:KeyQ Tryz.prog 253 iJ:=
 qQ0 Tryz.underlying253 (λa b w=>jQg a b 9998 w) (λb a w=>jQh b a 9998 w) (λa=>by simp[Instr.sameBits])
def eZ (a:List Br)(x:Int)(b:List Br)(y:Int):Prop:=∃e,ev a x e=true/\ev b y e=true
theorem Uw {a:List Br}(h:Rd0 a){x:Int}(h0:0<=x)(h1:x<a.length+2)(hx:x≠0):∃e,ev a x e=true:=by
 apply Classical.byContradiction;intro hn;refine hx (inj h h0 (by decide) h1 (by omega) (λe=>?_));have e1:ev a 0 e=false:=by rw[JT (by decide)]<;>rfl
 rw[e1];cases hc:ev a x e with
 | false=>rfl
 | true=>exact Xd ⟨e,hc⟩ hn
theorem jQi {a b:List Br}(ha:Rd0 a)(hb:Rd0 b){x y:Int}(x0:0<=x)(x1:x<a.length+2)(y0:0<=y)(y1:y<b.length+2){v:Int}(hv:v=min (Qm a x) (Qm b y))(fx:v<64):
  eZ a x b y↔eZ a (Qo a x v).1 b (Qo b y v).1∨eZ a (Qo a x v).2 b (Qo b y v).2:=by
 have l1:v<=Qm a x:=by rw[hv,Jb];split<;>omega
 have l2:v<=Qm b y:=by rw[hv,Jb];split<;>omega
 obtain⟨p1,p2,p3,p4,p5⟩:=um ha x0 x1 l1 fx;obtain⟨q1,q2,q3,q4,q5⟩:=um hb y0 y1 l2 fx;have v0:0<=v:=by
  have:=ha.lvl0 x1;have:=hb.lvl0 y1;rw[hv,Jb];split<;>omega
 constructor
 ·rintro⟨e,e1,e2⟩;rw[p1] at e1;rw[q1] at e2;cases he:e v.toNat with
  | true=>rw[he,Qe rfl] at e1 e2;exact .inr ⟨e,e1,e2⟩
  | false=>rw[he,if_neg (by decide)] at e1 e2;exact .inl ⟨e,e1,e2⟩
 ·rintro(⟨e,e1,e2⟩ | ⟨e,e1,e2⟩)
  ·refine⟨YG e v.toNat false,?_,?_⟩
   ·rw[p1,show YG e v.toNat false v.toNat=false from Qe rfl,if_neg (by decide),dW ha v.toNat false e _ _ (eL _) p4 (by omega)];exact e1
   ·rw[q1,show YG e v.toNat false v.toNat=false from Qe rfl,if_neg (by decide),dW hb v.toNat false e _ _ (eL _) q4 (by omega)];exact e2
  ·refine⟨YG e v.toNat true,?_,?_⟩
   ·rw[p1,show YG e v.toNat true v.toNat=true from Qe rfl,Qe rfl,dW ha v.toNat true e _ _ (eL _) p5 (by omega)];exact e1
   ·rw[q1,show YG e v.toNat true v.toNat=true from Qe rfl,Qe rfl,dW hb v.toNat true e _ _ (eL _) q5 (by omega)];exact e2
structure MP where
 D:DV
 E:DV
 bo:Nat
 sx:Nat
 ax:Nat
 bx:Nat
 cx:Nat
 q:Nat
def MP.caps (p:MP):List Value:=[VP.ptr p.bo,VP.ptr p.sx,VP.ptr p.ax,VP.ptr p.bx,VP.ptr p.cx]
def MP.clo (p:MP):Value:=.func (.func 166) #[] #[VP.ptr p.bo,VP.ptr p.sx,VP.ptr p.ax,VP.ptr p.bx,VP.ptr p.cx]
structure MK (w:World) (p:MP):Prop where
 bob:Blk w p.bo 4 [.bool true]
 sxb:Blk w p.sx 251 [.map (some p.q)]
 axb:Blk w p.ax 32 p.D.cells
 bxb:Blk w p.bx 32 p.E.cells
 cxb:Blk w p.cx 252 [p.clo]
 as_:SB w p.D.A p.D.n p.D.c p.D.nd
 bs:SB w p.E.A p.E.n p.E.c p.E.nd
 off:p.bo≠p.q/\p.sx≠p.q/\p.ax≠p.q/\p.bx≠p.q/\p.cx≠p.q
 rowA:∀ad,p.D.A=some ad->0<p.D.n->ad.block≠p.q
 rowB:∀ad,p.E.A=some ad->0<p.E.n->ad.block≠p.q
theorem MK.mod {w w':World}{p:MP}(h:MK w p)(hm:Mod (·=p.q) w w'):MK w' p:=by
 obtain⟨o1,o2,o3,o4,o5⟩:=h.off;refine⟨h.bob.mod hm o1,h.sxb.mod hm o2,h.axb.mod hm o3,h.bxb.mod hm o4,h.cxb.mod hm o5,⟨h.as_.1.modS hm ?_,h.as_.2⟩,⟨h.bs.1.modS hm ?_,h.bs.2⟩,h.off,h.rowA,h.rowB⟩
 ·rintro h0 i ⟨ad,e,rfl⟩;exact h.rowA ad e h0
 ·rintro h0 i ⟨ad,e,rfl⟩;exact h.rowB ad e h0
theorem MK.ext {w w':World}{p:MP}(h:MK w p)(k:Ext w w'):MK w' p:=h.mod (Mod.of_ext _ k)
def oA (w:World)(q:Nat)(S:List I2):Prop:=∃m,MapQ iJ w q m/\∀t,(XC t m).getD (.bool false)= .bool (decide (t∈S))
def MtC (p:MP)(x y:Int)(S:List I2)(w:World)(v:Value)(w':World):Prop:=
 Mod (·=p.q) w w'/\∃r:Bool,v= .bool r/\(r=true->eZ p.D.nd x p.E.nd y)/\(r=false->¬eZ p.D.nd x p.E.nd y/\∃S',oA w' p.q S'/\∀t∈S',t∈S∨¬eZ p.D.nd t.1 p.E.nd t.2)
theorem Ux (p:MP)(ha:Rd0 p.D.nd)(hb:Rd0 p.E.nd):∀(k:Nat)(x y:Int)(S:List I2)(w:World),
  MK w p->oA w p.q S->(∀t∈S,t.1+t.2<=x+y->¬eZ p.D.nd t.1 p.E.nd t.2)->0<=x->0<=y->x<p.D.n+2->y<p.E.n+2->x+y<k->
  Fn Tryz.prog 166 (.int .i64 x:: .int .i64 y::p.caps) w (MtC p x y S w)
 | 0,x,y,_,_,_,_,_,x0,y0,_,_,hk=>by omega
 | k+1,x,y,S,w,hK,hS,Xq,x0,y0,hx,hy,hk=>by
  have ih:=Ux p ha hb k;have Vf:p.D.nd.length=p.D.n:=hK.as_.2;have fU:p.E.nd.length=p.E.n:=hK.bs.2;refine QH (c:={RU with cuts:=[]}) Qa Tryz.func166 rfl rfl rfl ?_;refine Zd (λc1=>?_) (λc1=>?_)
  ·exact⟨Mod.refl _ _,false,rfl,λh=>(by cases h),λ_=>⟨(λ⟨e,e1,_⟩=>by rw[c1,JT (by decide)] at e1;cases e1),S,hS,λt ht=>.inl ht⟩⟩
  refine Qz (λc2=>?_) (λc2=>?_)
  ·refine Qy hK.bob rfl ?_;by_cases y1:y=1
   ·subst y1;refine Q7 rfl ?_;refine Zq c2 ?_;refine⟨Mod.refl _ _,true,rfl,λ_=>?_,λh=>by cases h⟩;obtain⟨e,he⟩:=Uw ha x0 (by omega) c1;exact⟨e,he,by rw[JT (by decide)];rfl⟩
   ·have MT:y=0:=by omega
    subst MT;refine Xc rfl ?_;exact⟨Mod.refl _ _,false,rfl,λh=>(by cases h),λ_=>⟨(λ⟨e,_,e1⟩=>by rw[JT (by decide)] at e1;cases e1),S,hS,λt ht=>.inl ht⟩⟩
  refine XF c2 ?_;obtain⟨mq,eH,Vp⟩:=hS;refine Qy hK.sxb rfl ?_;refine Hg (kv:=iJ) (a:=((x,y):I2)) Qa rfl rfl rfl rfl CU rfl rfl eH (Vp (x,y)) ?_;refine Qz (λc3=>?_) (λc3=>?_)
  ·exact⟨Mod.refl _ _,false,rfl,λh=>(by cases h),λ_=>⟨Xq (x,y) c3 (jH _),S,⟨mq,eH,Vp⟩,λt ht=>.inl ht⟩⟩
  refine Qy hK.sxb rfl ?_;refine tV (kv:=iJ) (a:=((x,y):I2)) Qa rfl rfl rfl rfl CU rfl rfl rfl eH (λw1 fm Q9 kA=>?_);have Kn:=hK.mod fm;have Vb:oA w1 p.q ((x,y)::S):=⟨_,kA,λt=>by
   rw[bj];by_cases ht:t=(x,y)
   ·subst ht;simp
   ·rw[if_neg ht,Vp t];simp[ht]⟩
  have ZI:min (Qm p.D.nd x) (Qm p.E.nd y)<64:=by
   have:=aC hb.dok (n:=y) c2 (by omega);rw[Jb];split<;>omega
  have DC:=ha.lvl0 (n:=x) (by omega);have XJ:=hb.lvl0 (n:=y) (by omega);refine XL Qa (Ext w1) 8 [(true,0),(true,1),(true,3),(true,4),(false,2),(false,5),(true,6),(true,7)] (by kernel_rfl) (Ext.drew w1) ?_;refine Xo (vs:=p.D.cells) rfl (λw' Qb j v hj=>by rw[(Kn.axb.ext Qb).cell];exact hj) ?_;refine Xo (vs:=p.E.cells) rfl (λw' Qb j v hj=>by rw[(Kn.bxb.ext Qb).cell];exact hj) ?_;refine call (dQ p.D.A p.D.n p.D.c p.D.r x p.D.nd _ (Kn.as_.ext (Ext.drew w1)) (by omega)) ?_;rintro u w2 ⟨rfl,Qg⟩;have Xm:=(Ext.drew w1).trans Qg;refine⟨Xm,?_⟩;refine call (dQ p.E.A p.E.n p.E.c p.E.r y p.E.nd _ (Kn.bs.ext Xm) (by omega)) ?_;rintro u w3 ⟨rfl,Qi⟩;have XI:=Xm.trans Qi;refine⟨XI,?_⟩;have pK:(if Qm p.E.nd y<Qm p.D.nd x then Qm p.E.nd y else Qm p.D.nd x)=min (Qm p.D.nd x) (Qm p.E.nd y):=by
   rw[Jb];split<;>split<;>omega
  refine norm (m:=min (Qm p.D.nd x) (Qm p.E.nd y)) pK ?_;have tg:=jQi ha hb x0 (by omega) y0 (by omega) (rfl:min (Qm p.D.nd x) (Qm p.E.nd y)=_) ZI;have fV:Qm p.D.nd x=min (Qm p.D.nd x) (Qm p.E.nd y)∨Qm p.E.nd y=min (Qm p.D.nd x) (Qm p.E.nd y):=by rw[Jb];split<;>simp
  generalize Aj:min (Qm p.D.nd x) (Qm p.E.nd y)=v at*;obtain⟨s1,s2,s3,s4,s5⟩:=WF ha.dok (n:=x) x0 ZI;obtain⟨t1,t2,t3,t4,t5⟩:=WF hb.dok (n:=y) y0 ZI;have dec:(Qo p.D.nd x v).1+(Qo p.E.nd y v).1<x+y/\(Qo p.D.nd x v).2+(Qo p.E.nd y v).2<x+y:=by
   rcases fV with e | e
   ·have:=s5 e;omega
   ·have:=t5 e;omega
  have fu:=Kn.ext XI;refine Qt fu.axb rfl ?_;refine call (jV p.D.A p.D.n p.D.c p.D.r x v p.D.nd _ fu.as_ (by omega) ZI) ?_;rintro u w4 ⟨rfl,Qs⟩;have V9:=fu.ext Qs;refine Qt V9.bxb rfl ?_;refine call (jV p.E.A p.E.n p.E.c p.E.r y v p.E.nd _ V9.bs (by omega) ZI) ?_;rintro u w5 ⟨rfl,Qx⟩;have kn:=V9.ext Qx;have JQ:=(XI.trans Qs).trans Qx;have Jn:Mod (·=p.q) w w5:=fm.trans (Mod.of_ext (·=p.q) JQ) (λi hi=>.inl hi);have iX:oA w5 p.q ((x,y)::S):=let ⟨m,k1,k2⟩:=Vb;⟨m,k1.ext JQ,k2⟩;refine Qy kn.cxb rfl ?_;refine call (ih (Qo p.D.nd x v).1 (Qo p.E.nd y v).1 ((x,y)::S) w5 kn iX (λt ht ZL=>by
   rcases Q3.1 ht with rfl | ht
   ·exact Xd ZL (by simp only;omega)
   ·exact Xq t ht (by omega)) s1 t1 (by omega) (by omega) (by omega)) ?_
  rintro _ w6 ⟨Vl,r0,rfl,yk,jh⟩;have zd:Mod (·=p.q) w w6:=Jn.trans Vl (λi hi=>.inl hi);cases r0 with
  | true=>
   refine Xc rfl ?_;exact⟨zd,true,rfl,λ_=>tg.2 (.inl (yk rfl)),λh=>by cases h⟩
  | false=>
   obtain⟨n0,S6,kt,ze⟩:=jh rfl;refine Q7 rfl ?_;have cq:=kn.mod Vl;refine Qy cq.cxb rfl ?_;refine call (ih (Qo p.D.nd x v).2 (Qo p.E.nd y v).2 S6 w6 cq kt (λt ht ZL=>by
    rcases ze t ht with ht | ht
    ·rcases Q3.1 ht with rfl | ht
     ·exact Xd ZL (by simp only;omega)
     ·exact Xq t ht (by omega)
    ·exact ht) s3 t3 (by omega) (by omega) (by omega)) ?_
   rintro _ w7 ⟨Xb,r1,rfl,o8,Zh⟩;have MU:Mod (·=p.q) w w7:=zd.trans Xb (λi hi=>.inl hi);refine⟨MU,r1,rfl,λh=>tg.2 (.inr (o8 h)),λh=>?_⟩;obtain⟨n1,S7,YP,MV⟩:=Zh h;have nn:¬eZ p.D.nd x p.E.nd y:=λhh=>(tg.1 hh).elim n0 n1
   refine⟨nn,S7,YP,λt ht=>?_⟩;rcases MV t ht with ht | ht
   ·rcases ze t ht with ht | ht
    ·rcases Q3.1 ht with rfl | ht
     ·exact .inr nn
     ·exact .inl ht
    ·exact .inr ht
   ·exact .inr ht
theorem jQj (A:Option Addr)(n c:Nat)(a:List Br)(ra:Int)(B:Option Addr)(m d:Nat)(b:List Br)(rb:Int)(w:World)(h:SB w A n c a)(h':SB w B m d b)(ha:VD a ra)(hb:VD b rb):
  Fn Tryz.prog 112 [Xl A n c ra,Xl B m d rb,.bool true] w (λu w'=>∃r:Bool,u= .bool r/\Ext w w'/\(r=true↔eZ a ra b rb)):=by
 have Vf:=h.2;have fU:=h'.2;refine QH (c:={RR with cuts:=[]}) Qa Tryz.func112 rfl rfl rfl ?_;refine new (λw1 Qd Q9 Qh=>?_);refine new (λw2 Qg Zi Qv=>?_);refine new (λw3 Qi JD Qu=>?_);have QY:=(Qd.trans Qg).trans Qi;refine tU Qa iJ rfl ?_;intro w4 Qs KW MW;refine new (λw5 Qx KL QB=>?_);refine KS QB (by decide) (λw6 Vl Xg=>?_);have XK:Ext w4 w6:=Vl.ext Qx (λi hi=>by omega);refine new (λw7 Xf WJ Q8=>?_);refine KS Q8 (by decide) (λw8 ZF Xx=>?_);have gP:Ext w6 w8:=ZF.ext Xf (λi hi=>by omega);have eB:=XK.trans gP;have mN:=Qs.trans eB;have Wn:=QY.trans mN;have z6:=XK.size
 let p:MP:=⟨⟨A,n,c,a,ra⟩,⟨B,m,d,b,rb⟩,w2.heap.size,w4.heap.size,w.heap.size,w1.heap.size,w6.heap.size,w3.heap.size⟩
 have hK:MK w8 p:=by
  refine⟨Qu.ext mN,Xg.ext gP,Qh.ext ((Qg.trans Qi).trans mN),Qv.ext (Qi.trans mN),Xx,h.ext Wn,h'.ext Wn,?_,λad e h0=>?_,λad e h0=>?_⟩
  ·simp only[p];omega
  ·have:=SB.lt h ad e h0;simp only[p];omega
  ·have:=SB.lt h' ad e h0;simp only[p];omega
 refine Qy hK.cxb rfl ?_;refine Qp hK.axb rfl ?_;refine Qp hK.bxb rfl ?_;refine call (Ux p ha.rd0 hb.rd0 (ra.toNat+rb.toNat+1) ra rb [] w8 hK ⟨[],MW.ext eB,λt=>rfl⟩ (λt ht=>by cases ht) ha.2.1 hb.2.1 (by have:=ha.2.2.1;simp only[p];omega) (by have:=hb.2.2.1;simp only[p];omega) (by have:=ha.2.1;have:=hb.2.1;omega)) ?_;rintro _ w9 ⟨Zb,r,rfl,h1,h2⟩;refine⟨r,rfl,Zb.ext Wn (λi hi=>by simp only[p] at hi;have:=QY.size;omega),⟨h1,λhh=>?_⟩⟩;cases r with
 | true=>rfl
 | false=>exact Xd hh (h2 rfl).1
open Classical in
def q7 (a:List Br)(ra:Int)(b:List Br)(rb:Int):Bool:=decide (XH a ra=0/\XH b rb=0/\¬eZ a ra b rb)
open Classical in
theorem Uy {a:List Br}{ra:Int}{b:List Br}{rb:Int}:q7 a ra b rb=true↔XH a ra=0/\XH b rb=0/\¬eZ a ra b rb:=by unfold q7;exact decide_eq_true_iff
theorem Uz {a:List Br}{ra:Int}{b:List Br}{rb:Int}(h:XH a ra=0/\XH b rb=0/\¬eZ a ra b rb):q7 a ra b rb=true:=Uy.2 h
theorem Ib {a:List Br}{ra:Int}{b:List Br}{rb:Int}(h:¬(XH a ra=0/\XH b rb=0/\¬eZ a ra b rb)):q7 a ra b rb=false:=by
 cases hh:q7 a ra b rb with
 | false=>rfl
 | true=>exact Xd (Uy.1 hh) h
theorem UA (A:Option Addr)(n c:Nat)(a:List Br)(ra:Int)(B:Option Addr)(m d:Nat)(b:List Br)(rb:Int)(w:World)(h:SB w A n c a)(h':SB w B m d b):
  Fn Tryz.prog 97 [Xl A n c ra,Xl B m d rb] w (λu w'=>u= .bool (q7 a ra b rb)/\Ext w w'):=by
 refine QH (c:={c97 with cuts:=[]}) Qa Tryz.func97 rfl rfl rfl ?_;refine new (λw1 Qd Q9 Qh=>?_);refine new (λw2 Qg Zi Qv=>?_);have QR:=Qd.trans Qg;refine Qt (Qh.ext Qg) rfl ?_;refine Qt Qv rfl ?_;refine Xw Qa [(⟨A,n,c,a,ra⟩:DV).cells,(⟨B,m,d,b,rb⟩:DV).cells] rfl rfl rfl rfl rfl ⟨rfl,rfl,rfl,rfl,⟨⟩⟩ rfl (λcs h=>by simp only[Q3,Jx,or_false] at h;rcases h with rfl | rfl<;>rfl) rfl (by decide) (by decide) ?_;intro w5 Qx KL QB;have Z9:=QR.trans Qx;have hL:SlS DV.cells 2 w5 (some ⟨w2.heap.size,0,none⟩) 2 2 [⟨A,n,c,a,ra⟩,⟨B,m,d,b,rb⟩]:=⟨Sl.own (sz:=2) (n:=2) QB (QC _) (by decide) (by simp[DV.cells]),rfl⟩
 refine call (Cr _ 2 2 _ w5 hL (λx hx=>by
  simp only[Q3,Jx,or_false] at hx;rcases hx with rfl | rfl
  ·exact h.ext Z9
  ·exact h'.ext Z9)) ?_
 rintro v w6 ⟨rfl,QN⟩;have XS:=Z9.trans QN;have ef:cL [(⟨A,n,c,a,ra⟩:DV),⟨B,m,d,b,rb⟩]=if XH a ra≠0 then XH a ra else if XH b rb≠0 then XH b rb else 0:=rfl
 have jh:cL [(⟨A,n,c,a,ra⟩:DV),⟨B,m,d,b,rb⟩]=0↔XH a ra=0/\XH b rb=0:=by
  rw[ef];by_cases h1:XH a ra=0
  ·rw[if_neg (λhh=>hh h1)];by_cases h2:XH b rb=0
   ·rw[if_neg (λhh=>hh h2)];simp[h1,h2]
   ·rw[Qe h2];simp[h2]
  ·rw[Qe h1];simp[h1]
 refine Zd (λc1=>?_) (λc1=>?_)
 ·obtain⟨ca,cb⟩:=jh.1 c1;refine Qt ((Qh.ext Qg).ext (Qx.trans QN)) rfl ?_;refine Qt (Qv.ext (Qx.trans QN)) rfl ?_;refine call (jQj A n c a ra B m d b rb w6 (h.ext XS) (h'.ext XS) (gw.1 ca).2 (gw.1 cb).2) ?_;rintro _ w7 ⟨r,rfl,Xf,hr⟩;refine⟨?_,XS.trans Xf⟩;cases r with
  | true=>rw[Ib (λhh=>hh.2.2 (hr.1 rfl))]<;>rfl
  | false=>rw[Uz ⟨ca,cb,λhh=>by have:=hr.2 hh;cases this⟩];rfl
 ·exact⟨by rw[Ib (λhh=>c1 (jh.2 ⟨hh.1,hh.2.1⟩))],XS⟩
def ixV (l:List Nat):List Value:=l.map (λ(i:Nat)=>Value.int .i64 i)
end
section
def fa (a:List Br)(x:Int)(b:List Br)(y:Int):Prop:=∃e,ev a x e=true/\ev b y e=false
theorem jQk {a b:List Br}(ha:Rd0 a)(hb:Rd0 b){x y:Int}(x0:0<=x)(x1:x<a.length+2)(y0:0<=y)(y1:y<b.length+2){v:Int}(hv:v=min (Qm a x) (Qm b y))(fx:v<64):
  fa a x b y↔fa a (Qo a x v).1 b (Qo b y v).1∨fa a (Qo a x v).2 b (Qo b y v).2:=by
 have l1:v<=Qm a x:=by rw[hv,Jb];split<;>omega
 have l2:v<=Qm b y:=by rw[hv,Jb];split<;>omega
 obtain⟨p1,p2,p3,p4,p5⟩:=um ha x0 x1 l1 fx;obtain⟨q1,q2,q3,q4,q5⟩:=um hb y0 y1 l2 fx;have v0:0<=v:=by
  have:=ha.lvl0 x1;have:=hb.lvl0 y1;rw[hv,Jb];split<;>omega
 constructor
 ·rintro⟨e,e1,e2⟩;rw[p1] at e1;rw[q1] at e2;cases he:e v.toNat with
  | true=>rw[he,Qe rfl] at e1 e2;exact .inr ⟨e,e1,e2⟩
  | false=>rw[he,if_neg (by decide)] at e1 e2;exact .inl ⟨e,e1,e2⟩
 ·rintro(⟨e,e1,e2⟩ | ⟨e,e1,e2⟩)
  ·refine⟨YG e v.toNat false,?_,?_⟩
   ·rw[p1,show YG e v.toNat false v.toNat=false from Qe rfl,if_neg (by decide),dW ha v.toNat false e _ _ (eL _) p4 (by omega)];exact e1
   ·rw[q1,show YG e v.toNat false v.toNat=false from Qe rfl,if_neg (by decide),dW hb v.toNat false e _ _ (eL _) q4 (by omega)];exact e2
  ·refine⟨YG e v.toNat true,?_,?_⟩
   ·rw[p1,show YG e v.toNat true v.toNat=true from Qe rfl,Qe rfl,dW ha v.toNat true e _ _ (eL _) p5 (by omega)];exact e1
   ·rw[q1,show YG e v.toNat true v.toNat=true from Qe rfl,Qe rfl,dW hb v.toNat true e _ _ (eL _) q5 (by omega)];exact e2
structure MPn where
 D:DV
 E:DV
 bo:Nat
 sx:Nat
 ax:Nat
 bx:Nat
 cx:Nat
 q:Nat
def MPn.caps (p:MPn):List Value:=[VP.ptr p.bo,VP.ptr p.sx,VP.ptr p.ax,VP.ptr p.bx,VP.ptr p.cx]
def MPn.clo (p:MPn):Value:=.func (.func 166) #[] #[VP.ptr p.bo,VP.ptr p.sx,VP.ptr p.ax,VP.ptr p.bx,VP.ptr p.cx]
structure MKn (w:World) (p:MPn):Prop where
 bob:Blk w p.bo 4 [.bool false]
 sxb:Blk w p.sx 251 [.map (some p.q)]
 axb:Blk w p.ax 32 p.D.cells
 bxb:Blk w p.bx 32 p.E.cells
 cxb:Blk w p.cx 252 [p.clo]
 as_:SB w p.D.A p.D.n p.D.c p.D.nd
 bs:SB w p.E.A p.E.n p.E.c p.E.nd
 off:p.bo≠p.q/\p.sx≠p.q/\p.ax≠p.q/\p.bx≠p.q/\p.cx≠p.q
 rowA:∀ad,p.D.A=some ad->0<p.D.n->ad.block≠p.q
 rowB:∀ad,p.E.A=some ad->0<p.E.n->ad.block≠p.q
theorem MKn.mod {w w':World}{p:MPn}(h:MKn w p)(hm:Mod (·=p.q) w w'):MKn w' p:=by
 obtain⟨o1,o2,o3,o4,o5⟩:=h.off;refine⟨h.bob.mod hm o1,h.sxb.mod hm o2,h.axb.mod hm o3,h.bxb.mod hm o4,h.cxb.mod hm o5,⟨h.as_.1.modS hm ?_,h.as_.2⟩,⟨h.bs.1.modS hm ?_,h.bs.2⟩,h.off,h.rowA,h.rowB⟩
 ·rintro h0 i ⟨ad,e,rfl⟩;exact h.rowA ad e h0
 ·rintro h0 i ⟨ad,e,rfl⟩;exact h.rowB ad e h0
theorem MKn.ext {w w':World}{p:MPn}(h:MKn w p)(k:Ext w w'):MKn w' p:=h.mod (Mod.of_ext _ k)
def jQl (p:MPn)(x y:Int)(S:List I2)(w:World)(v:Value)(w':World):Prop:=
 Mod (·=p.q) w w'/\∃r:Bool,v= .bool r/\(r=true->fa p.D.nd x p.E.nd y)/\(r=false->¬fa p.D.nd x p.E.nd y/\∃S',oA w' p.q S'/\∀t∈S',t∈S∨¬fa p.D.nd t.1 p.E.nd t.2)
theorem UB (p:MPn)(ha:Rd0 p.D.nd)(hb:Rd0 p.E.nd):∀(k:Nat)(x y:Int)(S:List I2)(w:World),
  MKn w p->oA w p.q S->(∀t∈S,t.1+t.2<=x+y->¬fa p.D.nd t.1 p.E.nd t.2)->0<=x->0<=y->x<p.D.n+2->y<p.E.n+2->x+y<k->
  Fn Tryz.prog 166 (.int .i64 x:: .int .i64 y::p.caps) w (jQl p x y S w)
 | 0,x,y,_,_,_,_,_,x0,y0,_,_,hk=>by omega
 | k+1,x,y,S,w,hK,hS,Xq,x0,y0,hx,hy,hk=>by
  have ih:=UB p ha hb k;have Vf:p.D.nd.length=p.D.n:=hK.as_.2;have fU:p.E.nd.length=p.E.n:=hK.bs.2;refine QH (c:={RU with cuts:=[]}) Qa Tryz.func166 rfl rfl rfl ?_;refine Zd (λc1=>?_) (λc1=>?_)
  ·exact⟨Mod.refl _ _,false,rfl,λh=>(by cases h),λ_=>⟨(λ⟨e,e1,_⟩=>by rw[c1,JT (by decide)] at e1;cases e1),S,hS,λt ht=>.inl ht⟩⟩
  refine Qz (λc2=>?_) (λc2=>?_)
  ·refine Qy hK.bob rfl ?_;by_cases y1:y=1
   ·subst y1;refine Xc rfl ?_;exact⟨Mod.refl _ _,false,rfl,λh=>(by cases h),λ_=>⟨(λ⟨e,_,e1⟩=>by rw[JT (by decide)] at e1;cases e1),S,hS,λt ht=>.inl ht⟩⟩
   ·have MT:y=0:=by omega
    subst MT;refine Q7 rfl ?_;refine Zq c2 ?_;refine⟨Mod.refl _ _,true,rfl,λ_=>?_,λh=>by cases h⟩;obtain⟨e,he⟩:=Uw ha x0 (by omega) c1;exact⟨e,he,by rw[JT (by decide)];rfl⟩
  refine XF c2 ?_;obtain⟨mq,eH,Vp⟩:=hS;refine Qy hK.sxb rfl ?_;refine Hg (kv:=iJ) (a:=((x,y):I2)) Qa rfl rfl rfl rfl CU rfl rfl eH (Vp (x,y)) ?_;refine Qz (λc3=>?_) (λc3=>?_)
  ·exact⟨Mod.refl _ _,false,rfl,λh=>(by cases h),λ_=>⟨Xq (x,y) c3 (jH _),S,⟨mq,eH,Vp⟩,λt ht=>.inl ht⟩⟩
  refine Qy hK.sxb rfl ?_;refine tV (kv:=iJ) (a:=((x,y):I2)) Qa rfl rfl rfl rfl CU rfl rfl rfl eH (λw1 fm Q9 kA=>?_);have Kn:=hK.mod fm;have Vb:oA w1 p.q ((x,y)::S):=⟨_,kA,λt=>by
   rw[bj];by_cases ht:t=(x,y)
   ·subst ht;simp
   ·rw[if_neg ht,Vp t];simp[ht]⟩
  have ZI:min (Qm p.D.nd x) (Qm p.E.nd y)<64:=by
   have:=aC hb.dok (n:=y) c2 (by omega);rw[Jb];split<;>omega
  have DC:=ha.lvl0 (n:=x) (by omega);have XJ:=hb.lvl0 (n:=y) (by omega);refine XL Qa (Ext w1) 8 [(true,0),(true,1),(true,3),(true,4),(false,2),(false,5),(true,6),(true,7)] (by kernel_rfl) (Ext.drew w1) ?_;refine Xo (vs:=p.D.cells) rfl (λw' Qb j v hj=>by rw[(Kn.axb.ext Qb).cell];exact hj) ?_;refine Xo (vs:=p.E.cells) rfl (λw' Qb j v hj=>by rw[(Kn.bxb.ext Qb).cell];exact hj) ?_;refine call (dQ p.D.A p.D.n p.D.c p.D.r x p.D.nd _ (Kn.as_.ext (Ext.drew w1)) (by omega)) ?_;rintro u w2 ⟨rfl,Qg⟩;have Xm:=(Ext.drew w1).trans Qg;refine⟨Xm,?_⟩;refine call (dQ p.E.A p.E.n p.E.c p.E.r y p.E.nd _ (Kn.bs.ext Xm) (by omega)) ?_;rintro u w3 ⟨rfl,Qi⟩;have XI:=Xm.trans Qi;refine⟨XI,?_⟩;have pK:(if Qm p.E.nd y<Qm p.D.nd x then Qm p.E.nd y else Qm p.D.nd x)=min (Qm p.D.nd x) (Qm p.E.nd y):=by
   rw[Jb];split<;>split<;>omega
  refine norm (m:=min (Qm p.D.nd x) (Qm p.E.nd y)) pK ?_;have tg:=jQk ha hb x0 (by omega) y0 (by omega) (rfl:min (Qm p.D.nd x) (Qm p.E.nd y)=_) ZI;have fV:Qm p.D.nd x=min (Qm p.D.nd x) (Qm p.E.nd y)∨Qm p.E.nd y=min (Qm p.D.nd x) (Qm p.E.nd y):=by rw[Jb];split<;>simp
  generalize Aj:min (Qm p.D.nd x) (Qm p.E.nd y)=v at*;obtain⟨s1,s2,s3,s4,s5⟩:=WF ha.dok (n:=x) x0 ZI;obtain⟨t1,t2,t3,t4,t5⟩:=WF hb.dok (n:=y) y0 ZI;have dec:(Qo p.D.nd x v).1+(Qo p.E.nd y v).1<x+y/\(Qo p.D.nd x v).2+(Qo p.E.nd y v).2<x+y:=by
   rcases fV with e | e
   ·have:=s5 e;omega
   ·have:=t5 e;omega
  have fu:=Kn.ext XI;refine Qt fu.axb rfl ?_;refine call (jV p.D.A p.D.n p.D.c p.D.r x v p.D.nd _ fu.as_ (by omega) ZI) ?_;rintro u w4 ⟨rfl,Qs⟩;have V9:=fu.ext Qs;refine Qt V9.bxb rfl ?_;refine call (jV p.E.A p.E.n p.E.c p.E.r y v p.E.nd _ V9.bs (by omega) ZI) ?_;rintro u w5 ⟨rfl,Qx⟩;have kn:=V9.ext Qx;have JQ:=(XI.trans Qs).trans Qx;have Jn:Mod (·=p.q) w w5:=fm.trans (Mod.of_ext (·=p.q) JQ) (λi hi=>.inl hi);have iX:oA w5 p.q ((x,y)::S):=let ⟨m,k1,k2⟩:=Vb;⟨m,k1.ext JQ,k2⟩;refine Qy kn.cxb rfl ?_;refine call (ih (Qo p.D.nd x v).1 (Qo p.E.nd y v).1 ((x,y)::S) w5 kn iX (λt ht ZL=>by
   rcases Q3.1 ht with rfl | ht
   ·exact Xd ZL (by simp only;omega)
   ·exact Xq t ht (by omega)) s1 t1 (by omega) (by omega) (by omega)) ?_
  rintro _ w6 ⟨Vl,r0,rfl,yk,jh⟩;have zd:Mod (·=p.q) w w6:=Jn.trans Vl (λi hi=>.inl hi);cases r0 with
  | true=>
   refine Xc rfl ?_;exact⟨zd,true,rfl,λ_=>tg.2 (.inl (yk rfl)),λh=>by cases h⟩
  | false=>
   obtain⟨n0,S6,kt,ze⟩:=jh rfl;refine Q7 rfl ?_;have cq:=kn.mod Vl;refine Qy cq.cxb rfl ?_;refine call (ih (Qo p.D.nd x v).2 (Qo p.E.nd y v).2 S6 w6 cq kt (λt ht ZL=>by
    rcases ze t ht with ht | ht
    ·rcases Q3.1 ht with rfl | ht
     ·exact Xd ZL (by simp only;omega)
     ·exact Xq t ht (by omega)
    ·exact ht) s3 t3 (by omega) (by omega) (by omega)) ?_
   rintro _ w7 ⟨Xb,r1,rfl,o8,Zh⟩;have MU:Mod (·=p.q) w w7:=zd.trans Xb (λi hi=>.inl hi);refine⟨MU,r1,rfl,λh=>tg.2 (.inr (o8 h)),λh=>?_⟩;obtain⟨n1,S7,YP,MV⟩:=Zh h;have nn:¬fa p.D.nd x p.E.nd y:=λhh=>(tg.1 hh).elim n0 n1
   refine⟨nn,S7,YP,λt ht=>?_⟩;rcases MV t ht with ht | ht
   ·rcases ze t ht with ht | ht
    ·rcases Q3.1 ht with rfl | ht
     ·exact .inr nn
     ·exact .inl ht
    ·exact .inr ht
   ·exact .inr ht
theorem jQm (A:Option Addr)(n c:Nat)(a:List Br)(ra:Int)(B:Option Addr)(m d:Nat)(b:List Br)(rb:Int)(w:World)(h:SB w A n c a)(h':SB w B m d b)(ha:VD a ra)(hb:VD b rb):
  Fn Tryz.prog 112 [Xl A n c ra,Xl B m d rb,.bool false] w (λu w'=>∃r:Bool,u= .bool r/\Ext w w'/\(r=true↔fa a ra b rb)):=by
 have Vf:=h.2;have fU:=h'.2;refine QH (c:={RR with cuts:=[]}) Qa Tryz.func112 rfl rfl rfl ?_;refine new (λw1 Qd Q9 Qh=>?_);refine new (λw2 Qg Zi Qv=>?_);refine new (λw3 Qi JD Qu=>?_);have QY:=(Qd.trans Qg).trans Qi;refine tU Qa iJ rfl ?_;intro w4 Qs KW MW;refine new (λw5 Qx KL QB=>?_);refine KS QB (by decide) (λw6 Vl Xg=>?_);have XK:Ext w4 w6:=Vl.ext Qx (λi hi=>by omega);refine new (λw7 Xf WJ Q8=>?_);refine KS Q8 (by decide) (λw8 ZF Xx=>?_);have gP:Ext w6 w8:=ZF.ext Xf (λi hi=>by omega);have eB:=XK.trans gP;have mN:=Qs.trans eB;have Wn:=QY.trans mN;have z6:=XK.size
 let p:MPn:=⟨⟨A,n,c,a,ra⟩,⟨B,m,d,b,rb⟩,w2.heap.size,w4.heap.size,w.heap.size,w1.heap.size,w6.heap.size,w3.heap.size⟩
 have hK:MKn w8 p:=by
  refine⟨Qu.ext mN,Xg.ext gP,Qh.ext ((Qg.trans Qi).trans mN),Qv.ext (Qi.trans mN),Xx,h.ext Wn,h'.ext Wn,?_,λad e h0=>?_,λad e h0=>?_⟩
  ·simp only[p];omega
  ·have:=SB.lt h ad e h0;simp only[p];omega
  ·have:=SB.lt h' ad e h0;simp only[p];omega
 refine Qy hK.cxb rfl ?_;refine Qp hK.axb rfl ?_;refine Qp hK.bxb rfl ?_;refine call (UB p ha.rd0 hb.rd0 (ra.toNat+rb.toNat+1) ra rb [] w8 hK ⟨[],MW.ext eB,λt=>rfl⟩ (λt ht=>by cases ht) ha.2.1 hb.2.1 (by have:=ha.2.2.1;simp only[p];omega) (by have:=hb.2.2.1;simp only[p];omega) (by have:=ha.2.1;have:=hb.2.1;omega)) ?_;rintro _ w9 ⟨Zb,r,rfl,h1,h2⟩;refine⟨r,rfl,Zb.ext Wn (λi hi=>by simp only[p] at hi;have:=QY.size;omega),⟨h1,λhh=>?_⟩⟩;cases r with
 | true=>rfl
 | false=>exact Xd hh (h2 rfl).1
open Classical in
def iK (a:List Br)(ra:Int)(b:List Br)(rb:Int):Bool:=decide (XH a ra=0/\XH b rb=0/\¬fa a ra b rb)
open Classical in
theorem Ic {a:List Br}{ra:Int}{b:List Br}{rb:Int}:iK a ra b rb=true↔XH a ra=0/\XH b rb=0/\¬fa a ra b rb:=by unfold iK;exact decide_eq_true_iff
theorem jQn {a:List Br}{ra:Int}{b:List Br}{rb:Int}(h:XH a ra=0/\XH b rb=0/\¬fa a ra b rb):iK a ra b rb=true:=Ic.2 h
theorem UC {a:List Br}{ra:Int}{b:List Br}{rb:Int}(h:¬(XH a ra=0/\XH b rb=0/\¬fa a ra b rb)):iK a ra b rb=false:=by
 cases hh:iK a ra b rb with
 | false=>rfl
 | true=>exact Xd (Ic.1 hh) h
theorem UD (A:Option Addr)(n c:Nat)(a:List Br)(ra:Int)(B:Option Addr)(m d:Nat)(b:List Br)(rb:Int)(w:World)(h:SB w A n c a)(h':SB w B m d b):
  Fn Tryz.prog 62 [Xl A n c ra,Xl B m d rb] w (λu w'=>u= .bool (iK a ra b rb)/\Ext w w'):=by
 refine QH (c:={c62 with cuts:=[]}) Qa Tryz.func62 rfl rfl rfl ?_;refine new (λw1 Qd Q9 Qh=>?_);refine new (λw2 Qg Zi Qv=>?_);have QR:=Qd.trans Qg;refine Qt (Qh.ext Qg) rfl ?_;refine Qt Qv rfl ?_;refine Xw Qa [(⟨A,n,c,a,ra⟩:DV).cells,(⟨B,m,d,b,rb⟩:DV).cells] rfl rfl rfl rfl rfl ⟨rfl,rfl,rfl,rfl,⟨⟩⟩ rfl (λcs h=>by simp only[Q3,Jx,or_false] at h;rcases h with rfl | rfl<;>rfl) rfl (by decide) (by decide) ?_;intro w5 Qx KL QB;have Z9:=QR.trans Qx;have hL:SlS DV.cells 2 w5 (some ⟨w2.heap.size,0,none⟩) 2 2 [⟨A,n,c,a,ra⟩,⟨B,m,d,b,rb⟩]:=⟨Sl.own (sz:=2) (n:=2) QB (QC _) (by decide) (by simp[DV.cells]),rfl⟩
 refine call (Cr _ 2 2 _ w5 hL (λx hx=>by
  simp only[Q3,Jx,or_false] at hx;rcases hx with rfl | rfl
  ·exact h.ext Z9
  ·exact h'.ext Z9)) ?_
 rintro v w6 ⟨rfl,QN⟩;have XS:=Z9.trans QN;have ef:cL [(⟨A,n,c,a,ra⟩:DV),⟨B,m,d,b,rb⟩]=if XH a ra≠0 then XH a ra else if XH b rb≠0 then XH b rb else 0:=rfl
 have jh:cL [(⟨A,n,c,a,ra⟩:DV),⟨B,m,d,b,rb⟩]=0↔XH a ra=0/\XH b rb=0:=by
  rw[ef];by_cases h1:XH a ra=0
  ·rw[if_neg (λhh=>hh h1)];by_cases h2:XH b rb=0
   ·rw[if_neg (λhh=>hh h2)];simp[h1,h2]
   ·rw[Qe h2];simp[h2]
  ·rw[Qe h1];simp[h1]
 refine Zd (λc1=>?_) (λc1=>?_)
 ·obtain⟨ca,cb⟩:=jh.1 c1;refine Qt ((Qh.ext Qg).ext (Qx.trans QN)) rfl ?_;refine Qt (Qv.ext (Qx.trans QN)) rfl ?_;refine call (jQm A n c a ra B m d b rb w6 (h.ext XS) (h'.ext XS) (gw.1 ca).2 (gw.1 cb).2) ?_;rintro _ w7 ⟨r,rfl,Xf,hr⟩;refine⟨?_,XS.trans Xf⟩;cases r with
  | true=>rw[UC (λhh=>hh.2.2 (hr.1 rfl))]<;>rfl
  | false=>rw[jQn ⟨ca,cb,λhh=>by have:=hr.2 hh;cases this⟩];rfl
 ·exact⟨by rw[UC (λhh=>c1 (jh.2 ⟨hh.1,hh.2.1⟩))],XS⟩
end
theorem CV (l:List Nat)(w:World)(hl:∀x∈l,x<256):
  Fn Tryz.prog 47 [.string (Qf l)] w (λu w'=>u= .bool (bW l)/\Ext w w'):=by
 refine QH (c:={c47 with cuts:=[]}) Qa Tryz.func47 rfl rfl rfl ?_;refine Xw Qa ([ZC,pElif,pInc].map (λs=>[Value.string (Qf s)])) rfl rfl rfl rfl rfl ⟨rfl,rfl,rfl,rfl,rfl,rfl,⟨⟩⟩ rfl (λcs h=>by simp only[ZG] at h;obtain⟨s,_,rfl⟩:=h;rfl) rfl (by decide) (by decide) ?_;intro w1 Qd Q9 Qh;refine loop Qa [7] (λi:Nat=>[.int .i64 i]) (λi w'=>w1=w'/\i<=3/\([ZC,pElif,pInc].take i).any (λp=>p.isPrefixOf l)=false) (λi _=>3-i) 0 rfl ⟨rfl,Xt _,rfl⟩ ?_;rintro i _ ⟨rfl,hi,Xq⟩;by_cases h3:i<3
 ·refine Zq (show((i:Nat):Int)<3 by omega) ?_;obtain⟨p,hp⟩:∃p,([ZC,pElif,pInc]:List (List Nat))[i]? =some p:=⟨_,XB (show i<3 from h3)⟩
  have hp8:∀x∈p,x<256:=by
   have:∀q∈([ZC,pElif,pInc]:List (List Nat)),∀x∈q,x<256:=by decide
   exact this p (Xk hp)
  refine index (j:=i) h3 ?_;refine Qp (v:=.string (Qf p)) Qh (by
   rcases(show i=0∨i=1∨i=2 by omega)with rfl | rfl | rfl<;>(cases hp;rfl)) ?_
  refine call (HV l p w1 hl hp8) ?_;rintro _ _ ⟨rfl,rfl⟩;refine YT (λd1=>?_) (λd1=>?_)
  ·refine⟨?_,Qd⟩;have d1:p.isPrefixOf l=true:=d1;have hm:=Xk hp;simp only[Q3,Jx,or_false] at hm;unfold bW;rcases hm with rfl | rfl | rfl<;>rw[d1]<;>simp
  ·have d1:p.isPrefixOf l=false:=d1;refine Qj ((i+1:Nat):Int) (by show((i:Nat):Int)+1=_;omega) (by omega) ?_;refine⟨i+1,rfl,⟨rfl,by omega,?_⟩,by show 3-(i+1)<3-i;omega⟩;rw[V3,hp,List.any_append,Xq];simp[d1]
 ·have hi3:i=3:=by omega
  subst hi3;refine XF (by decide) ?_;have Xq:(ZC.isPrefixOf l||(pElif.isPrefixOf l||(pInc.isPrefixOf l||false)))=false:=Xq;simp only[Bool.or_eq_false_iff] at Xq;obtain⟨n1,n2,n3,_⟩:=Xq;have e:bW l=(decide (l=Ku++ [10])||decide (l=X6++ [10])):=by unfold bW;rw[n1,n2,n3]<;>rfl
  have q1:(Qf l=(Qf (Ku++ [10])))↔l=Ku++ [10]:=⟨λhh=>Kg hl (by decide) hh,λhh=>by rw[hh]⟩
  have q2:(Qf l=(Qf (X6++ [10])))↔l=X6++ [10]:=⟨λhh=>Kg hl (by decide) hh,λhh=>by rw[hh]⟩
  by_cases c1:l=Ku++ [10]
  ·refine Zq (q1.2 c1) ?_;exact⟨by rw[e,X2 c1];rfl,Qd⟩
  ·refine XF (λhh=>c1 (q1.1 hh)) ?_;refine⟨?_,Qd⟩;rw[e,Zn c1,Bool.false_or];by_cases c2:l=X6++ [10]
   ·rw[X2 c2];exact QD Value.bool (X2 (q2.2 c2))
   ·rw[Zn c2];exact QD Value.bool (Zn (λhh=>c2 (q2.1 hh)))
theorem jQo (l:List Nat)(w:World)(hl:∀x∈l,x<256)(Q0:l.length<=1000000000000):
  Fn Tryz.prog 168 [.string (Qf l),.string (Qf [10])] w (λv w'=>v= .bool (l.getLast? ==some 10)/\w=w'):=by
 have X7:=Xi l;refine QH (c:=fQu) Qa Tryz.func168 rfl rfl rfl ?_;have h1:(Qf [10]).size=1:=rfl;refine Qz (λc1=>?_) (λc1=>?_)
 ·have jt:1<=l.length:=by omega
  refine Qj ((l.length-1:Nat):Int) (by omega) (by omega) ?_;refine XM (v':=.string (Qf (l.drop (l.length-1)))) ⟨by omega,by rw[X7];omega,by rw[X7];omega⟩ (by
   rw[VN,X7];show Value.string (Qf ((l.take l.length).drop _))=_;rw[Jv (QC _)];rfl) ?_
  refine⟨?_,rfl⟩;obtain⟨a,b,rfl⟩:∃a b,l=a++ [b]:=by
   rcases qf l with e | ⟨a,b,e⟩
   ·subst e;simp at jt
   ·exact⟨a,b,by rw[e,List.concat_eq_append]⟩
  have e1:(a++ [b]).drop ((a++ [b]).length-1)=[b]:=by simp
  rw[e1];have hb:b<256:=hl b (by simp);rw[List.getLast?_concat];by_cases mL:b=10
  ·subst mL;simp
  ·have:¬Qf [b]=Qf [10]:=λhh=>mL (by
    have:=Kg (l:=[b]) (m:=[10]) (by simpa using hb) (by decide) hh;simpa using this)
   simp[this,mL]
 ·have DC:l=[]:=Wx (by omega);subst DC;exact⟨rfl,rfl⟩
theorem jQp (l:List Nat)(w:World)(hl:∀x∈l,x<256)(Q0:l.length<=1000000000000):
  Fn Tryz.prog 113 [.string (Qf l),.string (Qf [10])] w (λv w'=>v= .bool (l.getLast? ==some 10)/\w=w'):=by
 refine QH (c:=eQR) Qa Tryz.func113 rfl rfl rfl ?_;refine call (jQo l w hl Q0) ?_;rintro _ _ ⟨rfl,rfl⟩;exact⟨rfl,rfl⟩
end
section
variable {nm:List (List Nat)} {n:Nat}
theorem jQq {l:Tr}(w:Wt n l):dp (YZ nm l)=0/\∀k,0<=dp ((YZ nm l).take k):=by
 obtain⟨b1,b2⟩:=jX nm w;cases l with
 | nil=>exact⟨rfl,λk=>by simp[YZ,dp]⟩
 | _=>
  rw[YZ]
  ·refine⟨by rw[bt,uE,b1];rfl,λk=>?_⟩;cases k with
   | zero=>simp[dp]
   | succ k=>rw[nC,bt,uE];have:=b2 k;omega
  ·exactλe=>by cases e
theorem jQr {h l:Tr}(w:Wt n h)(w':Wt n l):dp (fl nm h++YZ nm l)=0/\∀k,0<=dp ((fl nm h++YZ nm l).take k):=by
 obtain⟨a1,a2⟩:=jX nm w;obtain⟨b1,b2⟩:=jQq (nm:=nm) w';refine⟨by rw[iF,a1,b1];rfl,λk=>?_⟩;rw[tu,iF];have:=a2 k;have:=b2 (k-(fl nm h).length);omega
theorem uI:∀{t:Tr},Wt n t->∀A B,fl nm t=A++B->dp A=0->∃a b,t=ap a b/\fl nm a=A/\fl nm b=B
 | t,_,[],B,h,_=>⟨.nil,t,rfl,rfl,by simpa using h⟩
 | .nil,_,x::A,B,h,_=>by cases h
 | .ln s r,w,x::A,B,h,h0=>by
  rw[fl,Z5] at h;obtain⟨rfl,h'⟩:=List.cons.inj h;rw[bt,(od w.1).1] at h0;obtain⟨a,b,rfl,h1,h2⟩:=uI w.2 A B h' (by omega);exact⟨.ln s a,b,rfl,by rw[fl,h1],h2⟩
 | .sc v ng h l r,w,x::A,B,hf,h0=>by
  obtain⟨_,w1,w2,w3⟩:=w;rw[bV,Z5] at hf;obtain⟨rfl,QZ⟩:=List.cons.inj hf;rw[bt,qW] at h0;obtain⟨d1,d2⟩:=jQr (nm:=nm) w1 w2;rcases List.append_eq_append_iff.1 QZ with⟨a',rfl,ha⟩ | ⟨c',hc,rfl⟩
  ·cases a' with
   | nil=>rw[JZ] at h0;omega
   | cons y a'=>
    rw[Z5] at ha;obtain⟨rfl,sU⟩:=List.cons.inj ha;rw[iF,bt,xK] at h0;obtain⟨a,b,rfl,h1,h2⟩:=uI w3 a' B sU (by omega);exact⟨.sc v ng h l a,b,rfl,by rw[bV,h1],h2⟩
  ·have:=d2 A.length;rw[hc,List.take_left] at this;omega
def xR (nm:List (List Nat))(n:Nat):Prop:=∀v v' ng ng',v<n->v'<n->JV nm v ng=JV nm v' ng'->v=v'/\ng=ng'
theorem UE (l:Tr)(z:List (List Nat)):(l= .nil/\YZ nm l++X6::z=X6::z)∨(l≠ .nil/\YZ nm l++X6::z=Ku::(fl nm l++X6::z)):=by
 cases l with
 | nil=>exact .inl ⟨rfl,rfl⟩
 | _=>exact .inr ⟨(by intro e;cases e),by simp[YZ]⟩
theorem lR (hI:xR nm n):∀{a:Tr},Wt n a->∀{a':Tr},Wt n a'->∀{x x':List Nat}{y y':List (List Nat)},(x=Ku∨x=X6)->(x'=Ku∨x'=X6)->fl nm a++x::y=fl nm a'++x'::y'->a=a'/\x=x'/\y=y'
 | .nil,_,.nil,_,x,x',y,y',_,_,h=>by obtain⟨h1,h2⟩:=List.cons.inj h;exact⟨rfl,h1,h2⟩
 | .nil,_,.ln s r,w,x,x',y,y',hx,_,h=>by
  have h:=(List.cons.inj h).1;subst h;have:=od w.1;rcases hx with e | e
  ·exact Xd e this.2.2.1
  ·exact Xd e this.2.1
 | .nil,_,.sc v ng p q r,w,x,x',y,y',hx,_,h=>by
  rw[bV] at h;have h:=(List.cons.inj h).1;have e:=qW nm v ng;rw[<-h] at e;rcases hx with rfl | rfl
  ·rw[uE] at e;cases e
  ·rw[xK] at e;cases e
 | .ln s r,w,.nil,_,x,x',y,y',_,hx,h=>by
  have h:=(List.cons.inj h).1;subst h;have:=od w.1;rcases hx with e | e
  ·exact Xd e this.2.2.1
  ·exact Xd e this.2.1
 | .ln s r,w,.ln s' r',w',x,x',y,y',hx,KP,h=>by
  rw[fl,fl,Z5,Z5] at h;obtain⟨rfl,h'⟩:=List.cons.inj h;obtain⟨rfl,h1,h2⟩:=lR hI w.2 w'.2 hx KP h';exact⟨rfl,h1,h2⟩
 | .ln s r,w,.sc v ng p q r',w',x,x',y,y',_,_,h=>by
  rw[fl,bV] at h;have h:=(List.cons.inj h).1;have e:=(od w.1).1;rw[h,qW] at e;cases e
 | .sc v ng p q r,w,.nil,_,x,x',y,y',_,hx,h=>by
  rw[bV] at h;have h:=(List.cons.inj h).1;have e:=qW nm v ng;rw[h] at e;rcases hx with rfl | rfl
  ·rw[uE] at e;cases e
  ·rw[xK] at e;cases e
 | .sc v ng p q r',w,.ln s r,w',x,x',y,y',_,_,h=>by
  rw[fl,bV] at h;have h:=(List.cons.inj h).1;have e:=(od w'.1).1;rw[<-h,qW] at e;cases e
 | .sc v ng p q r,w,.sc v' ng' p' q' r',w',x,x',y,y',hx,KP,h=>by
  rw[bV,bV,Z5,Z5] at h;obtain⟨h0,hq⟩:=List.cons.inj h;obtain⟨e0,e0'⟩:=hI v v' ng ng' w.1 w'.1 h0;subst e0 e0';rw[ZR,ZR,ZR,ZR,Z5,Z5] at hq;rcases UE (nm:=nm) q (fl nm r++x::y)with⟨e1,e2⟩ | ⟨e1,e2⟩<;>rcases UE (nm:=nm) q' (fl nm r'++x'::y')with⟨f1,f2⟩ | ⟨f1,f2⟩<;>rw[e2,f2] at hq
  ·obtain⟨k1,_,k2⟩:=lR hI w.2.1 w'.2.1 (.inr rfl) (.inr rfl) hq;obtain⟨k3,h1,h2⟩:=lR hI w.2.2.2 w'.2.2.2 hx KP k2;exact⟨by rw[k1,k3,e1,f1],h1,h2⟩
  ·obtain⟨_,e,_⟩:=lR hI w.2.1 w'.2.1 (.inr rfl) (.inl rfl) hq;exact Xd e (by decide)
  ·obtain⟨_,e,_⟩:=lR hI w.2.1 w'.2.1 (.inl rfl) (.inr rfl) hq;exact Xd e (by decide)
  ·obtain⟨k1,_,k2⟩:=lR hI w.2.1 w'.2.1 (.inl rfl) (.inl rfl) hq;obtain⟨k3,_,k4⟩:=lR hI w.2.2.1 w'.2.2.1 (.inr rfl) (.inr rfl) k2;obtain⟨k5,h1,h2⟩:=lR hI w.2.2.2 w'.2.2.2 hx KP k4;exact⟨by rw[k1,k3,k5],h1,h2⟩
theorem Id (hI:xR nm n){a a':Tr}(w:Wt n a)(w':Wt n a')(h:fl nm a=fl nm a'):a=a':=
 (lR hI w w' (x:=X6) (x':=X6) (y:=[]) (y':=[]) (.inr rfl) (.inr rfl) (by rw[h])).1
def jY (v:Nat)(h l e:Tr):Tr:=match h with
 | .nil=>.sc v true l .nil e
 | h=>.sc v false h l e
theorem q9 {v:Nat}{h l e:Tr}(hh:h≠ .nil):jY v h l e= .sc v false h l e:=by
 cases h with
 | nil=>exact Xd rfl hh
 | _=>rfl
theorem UF {l:Tr}(hh:l≠ .nil):YZ nm l=Ku::fl nm l:=by
 cases l with
 | nil=>exact Xd rfl hh
 | _=>rfl
def Ie (a b:List (List Nat)):Prop:=∀s,Zk s= .txt->¬(a.head? =some s/\b.head? =some s)/\¬(a.getLast? =some s/\b.getLast? =some s)
theorem CW {t:Tr}:fl nm t=[]↔t= .nil:=by
 cases t with
 | nil=>simp[fl]
 | ln s r=>simp[fl]
 | sc v ng h l r=>rw[bV];simp
theorem jQs (hI:xR nm n){v:Nat}{H L:Tr}(wH:Wt n H)(wL:Wt n L)(QO:fl nm H≠fl nm L):
  ∃P H2 L2 E,H=ap P (ap H2 E)/\L=ap P (ap L2 E)/\W3 nm v (fl nm H) (fl nm L)=fl nm (ap P (jY v H2 L2 E))/\(H2≠ .nil∨L2≠ .nil)/\Ie (fl nm H2) (fl nm L2):=by
 obtain⟨p1,p2,p3,p4,p5⟩:=Cw (fl nm H) (fl nm L);generalize hp:Yk (fl nm H) (fl nm L)=p at*;obtain⟨P,H1,rfl,a1,a2⟩:=uI wH _ _ (dE p (fl nm H)).symm p4;obtain⟨P',L1,rfl,b1,b2⟩:=uI wL _ _ (dE p (fl nm L)).symm (by rw[<-p3];exact p4);obtain⟨wP,MY⟩:=iG.1 wH;obtain⟨wP',MZ⟩:=iG.1 wL;have hPP:P=P':=Id hI wP wP' (by rw[a1,b1,p3]);subst hPP;have hPl:(fl nm P).length=p:=by rw[a1,K5];omega
 obtain⟨s1,s2,s3,s4,s5⟩:=HS (fl nm H1) (fl nm L1);have hj:W3 nm v (fl nm (ap P H1)) (fl nm (ap P L1))=fl nm P++((if(fl nm H1).take ((fl nm H1).length-W0 (fl nm H1) (fl nm L1))=[] then JV nm v true::(fl nm L1).take ((fl nm L1).length-W0 (fl nm H1) (fl nm L1))else JV nm v false::((fl nm H1).take ((fl nm H1).length-W0 (fl nm H1) (fl nm L1))++if(fl nm L1).take ((fl nm L1).length-W0 (fl nm H1) (fl nm L1))=[] then [] else Ku::(fl nm L1).take ((fl nm L1).length-W0 (fl nm H1) (fl nm L1))))++X6::(fl nm H1).drop ((fl nm H1).length-W0 (fl nm H1) (fl nm L1))):=by
  unfold W3;simp only[hp];rw[<-a1,<-a2,<-b2]
 generalize W0 (fl nm H1) (fl nm L1)=s at*;have e1:dp ((fl nm H1).take ((fl nm H1).length-s))=0:=by
  have:=(jX nm MY).1;rw[<-dE ((fl nm H1).length-s) (fl nm H1),iF,s4] at this;omega
 have e2:dp ((fl nm L1).take ((fl nm L1).length-s))=0:=by
  have:=(jX nm MZ).1;rw[<-dE ((fl nm L1).length-s) (fl nm L1),iF,<-s3,s4] at this;omega
 obtain⟨H2,E,rfl,c1,c2⟩:=uI MY _ _ (dE ((fl nm H1).length-s) (fl nm H1)).symm e1;obtain⟨L2,E',rfl,d1,d2⟩:=uI MZ _ _ (dE ((fl nm L1).length-s) (fl nm L1)).symm e2;obtain⟨wH2,wE⟩:=iG.1 MY;obtain⟨wL2,wE'⟩:=iG.1 MZ;have hEE:E=E':=Id hI wE wE' (by rw[c2,d2,s3]);subst hEE;have hEl:(fl nm E).length=s:=by rw[c2,YR];omega
 refine⟨P,H2,L2,E,rfl,rfl,?_,?_,λx hx=>⟨λhh=>?_,λhh=>?_⟩⟩
 ·rw[hj,<-c1,<-c2,<-d1,gy];congr 1;by_cases e1:H2= .nil
  ·subst e1;rw[Qe (CW.2 rfl),jY,bV];simp[YZ]
  ·rw[if_neg (λe=>e1 (CW.1 e)),q9 e1,bV];by_cases e2:L2= .nil
   ·subst e2;rw[Qe (CW.2 rfl)];simp[YZ]
   ·rw[if_neg (λe=>e2 (CW.1 e)),UF e2];simp
 ·by_cases h:H2= .nil
  ·right
   intro h';subst h h';exact QO rfl
  ·exact .inl h
 ·obtain⟨h1,h2⟩:=hh;have:=p5 (p+1);cases hq:fl nm H2 with
  | nil=>rw[hq] at h1;cases h1
  | cons y A=>
   cases hq':fl nm L2 with
   | nil=>rw[hq'] at h2;cases h2
   | cons y' A'=>
    rw[hq] at h1;rw[hq'] at h2;cases h1;cases h2;rw[gy,gy,gy,gy,hq,hq',<-hPl] at this;have t1:∀z:List (List Nat),(fl nm P++(x::z)).take ((fl nm P).length+1)=fl nm P++ [x]:=λz=>by rw[tu];simp[Jv]
    rw[Z5,Z5,t1,t1,iF,(jX nm wP).1] at this;have:=this (by simp) (by simp) rfl (by simp[dp,(od hx).1]);omega
 ·obtain⟨h1,h2⟩:=hh;have:=s5 (s+1);rcases qf (fl nm H2)with hq | ⟨A,y,hq⟩
  ·rw[hq] at h1;cases h1
  rcases qf (fl nm L2)with hq' | ⟨A',y',hq'⟩
  ·rw[hq'] at h2;cases h2
  rw[List.concat_eq_append] at hq hq';rw[hq] at h1;rw[hq'] at h2;simp only[List.getLast?_concat,Option.some.injEq] at h1 h2;subst h1 h2;rw[gy,gy,hq,hq'] at this;have t1:∀z:List (List Nat),(z++ [y']++fl nm E).drop ((z++ [y']++fl nm E).length-(s+1))=y'::fl nm E:=λz=>by
   rw[ZR,show(z++([y']++fl nm E)).length-(s+1)=z.length by simp only[Qq,Q6,Ji];omega,qi];rfl
  rw[t1,t1,bt,(od hx).1,(jX nm wE).1] at this;have:=this (by simp only[Qq,Q6,Ji];omega) (by simp only[Qq,Q6,Ji];omega) rfl rfl;omega
end
end Go.Proofs.YtjabbbcdgmlojaaGreatDoor
