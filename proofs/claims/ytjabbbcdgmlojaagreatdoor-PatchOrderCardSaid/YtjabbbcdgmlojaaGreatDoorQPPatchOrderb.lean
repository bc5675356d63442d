/-
  What PPatchOrder rests on, part 2 (wip/shake.py).
  Conditions: none.
-/
import Derived.Test.YtjabbbcdgmlojaaGreatDoorQPPatchOrdera
set_option linter.all false
set_option linter.deprecated false
set_option maxHeartbeats 12800000
namespace Go.Proofs.YtjabbbcdgmlojaaGreatDoor
open Go Go.RowKit
noncomputable section
section
def Zg (o:Int):Int:=if o=0∨o=1∨o=2 then 0 else if o=3 then 1 else if o=4∨o=5 then 2 else -1
theorem qQ (o:Int):((o=0∨o=1∨o=2)/\Zg o=0)∨(o=3/\Zg o=1)∨((o=4∨o=5)/\Zg o=2)∨(Zg o= -1/\o≠0/\o≠1/\o≠2/\o≠3/\o≠4/\o≠5):=by
 unfold Zg;split
 ·left;omega
 ·split
  ·right;left;omega
  ·split
   ·right;right;left;omega
   ·right;right;right;omega
def KR (x:Fz)(i:Nat):Prop:=0<=Zg x.o/\(if x.o=2 then 0<=x.v/\x.v<64 else x.v=0)/\(if 0<Zg x.o then 0<=x.a/\x.a<i else x.a=0)/\(if 1<Zg x.o then 0<=x.b/\x.b<i else x.b=0)
instance (x:Fz) (i:Nat):Decidable (KR x i):=by unfold KR;infer_instance
def Yx (x:Fz):Fz:=⟨x.o,if x.o=2 then x.v else 0,if 0<Zg x.o then x.a else 0,if 1<Zg x.o then x.b else 0⟩
theorem MW (a b c d a' b' c' d':Int):(a==a'&&(b==b'&&(c==c'&&(d==d'&&true))))=decide (a=a'/\b=b'/\c=c'/\d=d'):=by
 rw[nA];simp only[JR,beq_iff_eq,Vl,and_true]
theorem MY (x:Fz):(x.o=(Yx x).o/\x.v=(Yx x).v/\x.a=(Yx x).a/\x.b=(Yx x).b)↔((x.o≠2->x.v=0)/\(Zg x.o<=0->x.a=0)/\(Zg x.o<=1->x.b=0)):=by
 unfold Yx;simp only;constructor
 ·rintro⟨_,h1,h2,h3⟩;split at h1<;>split at h2<;>split at h3<;>omega
 ·rintro⟨h1,h2,h3⟩;refine⟨trivial,?_,?_,?_⟩<;>split<;>omega
theorem dQl (x:Fz)(i:Nat)(w:World):Fn Tryz.prog 223 [.agg x.cells.toArray,.int .i64 i] w (λv w'=>v= .int .i64 (if KR x i then Zg x.o else -1)/\Ext w w'):=by
 refine QF (c:={cQM with cuts:=[3]}) Qa Tryz.func223 rfl rfl rfl ?_;refine new (λw1 Qd Q2 Qh=>?_);refine Qv Qh rfl ?_;refine new (λw2 Qg X9 Qw=>?_);refine Qx Qw rfl (sc rfl) (λw3 ZT _ Qu=>?_);have Xo:Mod (·=w1.heap.size) w2 w3:=mQj ZT rfl
 replace Qu:Blk w3 w1.heap.size 280 [.int .i64 x.o,.int .i64 0,.int .i64 0,.int .i64 0]:=Qu;have KU:=(Qh.ext Qg).mod Xo (by omega);have Qj:Ext w w3:=Xo.ext (Qd.trans Qg) (λi hi=>by omega);refine ia [] Qa [6] (λk:Int=>[.int .i64 k]) (λk w'=>Ext w w'/\Blk w' w.heap.size 280 x.cells/\Blk w' w1.heap.size 280 (Yx x).cells/\k=Zg x.o/\0<=Zg x.o/\(x.o=2->0<=x.v/\x.v<64)) ?_ ?_
 ·refine Qv KU rfl ?_;refine Zn (λh=>?_) (λh=>?_)
  ·refine⟨_,rfl,Qj,KU,?_,?_,?_,?_⟩
   ·rw[show(Yx x).cells=[.int .i64 x.o,.int .i64 0,.int .i64 0,.int .i64 0] from by simp[Yx,Fz.cells,h,Zg]];exact Qu
   ·rw[h]<;>rfl
   ·rw[h];decide
   ·intro h2;omega
  refine Zn (λh1=>?_) (λh1=>?_)
  ·refine⟨_,rfl,Qj,KU,?_,?_,?_,?_⟩
   ·rw[show(Yx x).cells=[.int .i64 x.o,.int .i64 0,.int .i64 0,.int .i64 0] from by simp[Yx,Fz.cells,h1,Zg]];exact Qu
   ·rw[h1]<;>rfl
   ·rw[h1];decide
   ·intro h2;omega
  refine Zn (λh2=>?_) (λh2=>?_)
  ·refine Qp KU rfl ?_;refine XK Qu (by simp) (λw4 Zb QZ=>?_);have Ym:=KU.mod Zb (by omega);have Qq:=Zb.ext Qj (λi hi=>by omega);refine Qp Ym rfl ?_;refine QB (λh3=>?_) (λh3=>?_)
   ·exact⟨by rw[if_neg (λhf=>by have:=hf.2.1;rw[Qe h2] at this;omega)],Qq⟩
   refine Qp Ym rfl ?_;refine QB (λh4=>?_) (λh4=>?_)
   ·exact⟨by rw[if_neg (λhf=>by have:=hf.2.1;rw[Qe h2] at this;omega)],Qq⟩
   refine⟨_,rfl,Qq,Ym,?_,?_,?_,?_⟩
   ·rw[show(Yx x).cells=[.int .i64 x.o,.int .i64 x.v,.int .i64 0,.int .i64 0] from by simp[Yx,Fz.cells,h2,Zg]];exact QZ
   ·rw[h2]<;>rfl
   ·rw[h2];decide
   ·intro _;omega
  refine Zn (λh3=>?_) (λh3=>?_)
  ·refine Qp KU rfl ?_;refine XK Qu (by simp) (λw4 Zb QZ=>?_);have Ym:=KU.mod Zb (by omega);have Qq:=Zb.ext Qj (λi hi=>by omega);refine⟨_,rfl,Qq,Ym,?_,?_,?_,?_⟩
   ·rw[show(Yx x).cells=[.int .i64 x.o,.int .i64 0,.int .i64 x.a,.int .i64 0] from by simp[Yx,Fz.cells,h3,Zg]];exact QZ
   ·rw[h3]<;>rfl
   ·rw[h3];decide
   ·intro _;omega
  have two:(x.o=4∨x.o=5)->∀w4,Mod (·=w1.heap.size) w3 w4->Blk w4 w1.heap.size 280 [.int .i64 x.o,.int .i64 0,.int .i64 x.a,.int .i64 x.b]->Ext w w4/\Blk w4 w.heap.size 280 x.cells/\Blk w4 w1.heap.size 280 (Yx x).cells/\(2:Int)=Zg x.o/\0<=Zg x.o/\(x.o=2->0<=x.v/\x.v<64):=λho w4 Zb QZ=>by
   have e:Zg x.o=2:=by rcases ho with h | h<;>rw[h]<;>rfl
   refine⟨Zb.ext Qj (λi hi=>by omega),KU.mod Zb (by omega),?_,e.symm,by omega,by omega⟩;rw[show(Yx x).cells=[.int .i64 x.o,.int .i64 0,.int .i64 x.a,.int .i64 x.b] from by simp[Yx,Fz.cells,h2,e]];exact QZ
  refine Zn (λh4=>?_) (λh4=>?_)
  ·refine Qp KU rfl ?_;refine XK Qu (by simp) (λw4 Zb QZ=>?_);have Ym:=KU.mod Zb (by omega);refine Qp Ym rfl ?_;refine XK QZ (by simp) (λw5 XO QH=>?_);exact⟨_,rfl,two (.inl h4) w5 (Zb.trans XO (λi hi=>.inl hi)) QH⟩
  refine Zn (λh5=>?_) (λh5=>?_)
  ·refine Qp KU rfl ?_;refine XK Qu (by simp) (λw4 Zb QZ=>?_);have Ym:=KU.mod Zb (by omega);refine Qp Ym rfl ?_;refine XK QZ (by simp) (λw5 XO QH=>?_);exact⟨_,rfl,two (.inr h5) w5 (Zb.trans XO (λi hi=>.inl hi)) QH⟩
  ·have Zj:Zg x.o= -1:=by rcases qQ x.o with h | h | h | h<;>omega
   exact⟨by rw[if_neg (λhf=>by have:=hf.1;omega)],Qj⟩
 rintro k w4 ⟨Qq,Ym,dI,rfl,h0,hv⟩;have no:¬KR x i->∀w',Ext w w'->(Value.int .i64 (-1))= .int .i64 (if KR x i then Zg x.o else -1)/\Ext w w':=λh w' hE=>⟨by rw[if_neg h],hE⟩
 have yes:KR x i->∀w',Ext w w'->(Value.int .i64 (Zg x.o))= .int .i64 (if KR x i then Zg x.o else -1)/\Ext w w':=λh w' hE=>⟨by rw[Qe h],hE⟩
 have X6:=qQ x.o;refine Qs Ym rfl ?_;refine Qs dI rfl ?_;by_cases hp:x.o=(Yx x).o/\x.v=(Yx x).v/\x.a=(Yx x).a/\x.b=(Yx x).b
 rotate_left
 ·refine Xc (by rw[MW,Zf hp];rfl) ?_;refine no (λhf=>hp ((MY x).2 ?_)) _ Qq;obtain⟨f1,f2,f3,f4⟩:=hf;split at f2<;>split at f3<;>split at f4<;>omega
 refine Xt (by rw[MW,XX hp];rfl) ?_;have hq:=(MY x).1 hp;have bad:(x.a<0∨x.b<0∨(0<Zg x.o/\(i<=x.a∨i<=x.b)))->¬KR x i:=λhb hf=>by
  obtain⟨f1,f2,f3,f4⟩:=hf;split at f3<;>split at f4<;>omega
 refine Qp Ym rfl ?_;refine QB (λh1=>?_) (λh1=>?_)
 ·exact no (bad (.inl h1)) _ Qq
 refine Qp Ym rfl ?_;refine QB (λh2=>?_) (λh2=>?_)
 ·exact no (bad (.inr (.inl h2))) _ Qq
 refine QB (λh3=>?_) (λh3=>?_)
 ·refine Qp Ym rfl ?_;refine Qp Ym rfl ?_;refine norm (m:=max x.a x.b) (by rw[Int.max_def];split<;>split<;>omega) ?_;refine QB (λh4=>?_) (λh4=>?_)
  ·refine no (bad (.inr (.inr ⟨h3,?_⟩))) _ Qq;rw[Int.max_def] at h4;split at h4<;>omega
  ·rw[Int.max_def] at h4;refine yes ⟨h0,?_,?_,?_⟩ _ Qq
   ·split
    ·rename_i h;exact hv h
    ·rename_i h;exact hq.1 h
   ·rw[Qe h3];split at h4<;>omega
   ·split
    ·split at h4<;>omega
    ·exact hq.2.2 (by omega)
 ·refine yes ⟨h0,?_,?_,?_⟩ _ Qq
  ·split
   ·rename_i h;exact hv h
   ·rename_i h;exact hq.1 h
  ·rw[if_neg h3];exact hq.2.1 (by omega)
  ·rw[if_neg (by omega)];exact hq.2.2 (by omega)
end
section
def fJ (l:List Bool):List Value:=l.map .bool
theorem MZ {l:List Bool}{j:Nat}{b:Bool}(h:l[j]? =some b):(fJ l)[j]? =some (.bool b):=by simp[fJ,h]
theorem dQm (l:List Bool):(fJ l).length=l.length:=by simp[fJ]
theorem dQn (l:List Bool)(i:Nat)(b:Bool):fJ (l.set i b)=(fJ l).set i (.bool b):=by simp[fJ,List.map_set]
def Yh (x:Fz):List Nat:=if Zg x.o=2 then [x.a.toNat,x.b.toNat] else if Zg x.o=1 then [x.a.toNat] else []
def Jq (f:List Fz):List Nat:=f.flatMap Yh
def FV (f:List Fz):Prop:=f.length<=512/\0<f.length/\(∀i x,f[i]? =some x->KR x i)/\∀i,i+1<f.length->(Jq f).count i=1
open Classical in
def qR (f:List Fz):Int:=if FV f then 0 else 30
theorem yv {f:List Fz}(h:FV f):qR f=0:=Qe h
theorem yw {f:List Fz}(h:¬FV f):qR f=30:=if_neg h
theorem dQo {f:List Fz}:qR f=0↔FV f:=by
 constructor
 ·intro h;unfold qR at h;split at h
  ·assumption
  ·cases h
 ·exact yv
theorem dQp (d:List Fz){i:Nat}{x:Fz}(h:d[i]? =some x):Jq (d.take (i+1))=Jq (d.take i)++Yh x:=by
 simp[Jq,VX,h]
theorem dQq {x:Fz}{i:Nat}(h:KR x i):∀j∈Yh x,j<i:=by
 intro j hj;obtain⟨_,_,h3,h4⟩:=h;unfold Yh at hj;split at hj
 ·rename_i h2;rw[Qe (by omega)] at h3 h4;simp at hj;omega
 ·split at hj
  ·rename_i h2;rw[Qe (by omega)] at h3;simp at hj;omega
  ·simp at hj
theorem dQr {d:List Fz}{i:Nat}(h:∀j x,j<i->d[j]? =some x->KR x j):∀j∈Jq (d.take i),j+1<i:=by
 intro j hj;simp only[Jq,fz] at hj;obtain⟨x,hx,hk⟩:=hj;obtain⟨m,hm,Vi⟩:=CJ.1 hx;have Xb:m<i:=by simp at hm;omega
 have FC:d[m]? =some x:=by
  rw[List.getElem_take] at Vi;rw[<-Vi];exact Xs _
 have:=dQq (h m x Xb FC) j hk;omega
def dv (l:List Nat)(n:Nat):List Bool:=(List.range n).map λj=>decide (j∈l)
theorem M0 (l:List Nat)(n j:Nat)(hj:j<n):(dv l n)[j]? =some (decide (j∈l)):=by simp[dv,hj]
theorem dQs (l:List Nat)(n:Nat):(dv l n).length=n:=by simp[dv]
theorem dQt (l:List Nat)(n k:Nat):(dv l n).set k true=dv (l++ [k]) n:=by
 unfold dv;apply List.ext_getElem
 ·simp
 ·intro i h1 h2;simp at h1;simp only[List.getElem_set,List.getElem_map,List.getElem_range,XB,QJ];split
  ·rename_i h;subst h;simp
  ·rename_i h;have:¬i=k:=λe=>h e.symm
   simp[this]
theorem dQu (n:Nat):dv [] n=List.replicate n false:=by
 apply List.ext_getElem
 ·simp[dv]
 ·intro i h1 h2;simp[dv]
theorem dQv {d:List Fz}{s:Nat}{x:Fz}(hx:d[s]? =some x)(h:¬KR x s):¬FV d:=λhv=>h (hv.2.2.1 s x hx)
theorem dQw {d:List Fz}{s:Nat}(hnd:∀j x,j<s->d[j]? =some x->KR x j)(hs:s<=d.length)(h:¬(Jq (d.take s)).Nodup):¬FV d:=λhv=>by
 apply h;rw[List.nodup_iff_count];intro a;by_cases ha:a∈Jq (d.take s)
 ·have h1:=dQr hnd a ha;have h2:=hv.2.2.2 a (by omega);rw[<-h2];have pQ:(Jq (d.take s)).Sublist (Jq d):=by
   have:Jq d=Jq (d.take s)++Jq (d.drop s):=by
    unfold Jq;rw[<-ce,qj]
   rw[this];exact List.sublist_append_left _ _
  exact pQ.count_le a
 ·rw[List.count_eq_zero.2 ha];omega
theorem dQx {d:List Fz}(h1:d.length<=512)(h2:0<d.length)(hnd:∀j x,j<d.length->d[j]? =some x->KR x j)(hn:(Jq d).Nodup)(hu:∀j,j+1<d.length->j∈Jq d):FV d:=
 ⟨h1,h2,λi x hx=>hnd i x (Zt.1 hx).1 hx,λi hi=>by
  have h3:=List.nodup_iff_count.1 hn i;have h4:=List.count_pos_iff.2 (hu i hi);omega⟩
theorem dQy {w:World}{t:TypeId}{cs cs':List Value}{K:Addr->World->Prop}(h:cs=cs')(k:∀w1,Ext w w1->w1.heap.size=w.heap.size+1->Blk w1 w.heap.size t cs'->K ⟨w.heap.size,0,none⟩ w1):nI w t cs K:=by
 subst h;exact new k
abbrev SF (w:World)(A:Option Addr)(n c:Nat)(f:List Fz):Prop:=SlS Fz.cells 4 w A n c f
def jp (x:Fz):List Int:=[x.a,x.b].take (Zg x.o).toNat
theorem dQz {x:Fz}{i:Nat}(h:KR x i):(jp x).length=(Zg x.o).toNat/\∀j:Nat,∀a:Int,(jp x)[j]? =some a->0<=a/\a<i/\(Yh x)[j]? =some a.toNat:=by
 obtain⟨h1,_,h3,h4⟩:=h;unfold jp Yh;rcases qQ x.o with⟨_,e⟩ | ⟨_,e⟩ | ⟨_,e⟩ | ⟨e,_⟩
 ·rw[e];simp
 ·rw[e] at h3 ⊢;simp at h3;simp;intro j a ha;cases j with
  | zero=>simp at ha;subst ha;simp;omega
  | succ j=>simp at ha
 ·rw[e] at h3 h4 ⊢;simp at h3 h4;simp;intro j a ha
  match j,ha with
  | 0,ha=>simp at ha;subst ha;simp;omega
  | 1,ha=>simp at ha;subst ha;simp;omega
  | j+2,ha=>simp at ha
 ·rw[e] at h1;omega
theorem dQA (x:Fz)(_:0<=Zg x.o):(Yh x).length=(Zg x.o).toNat:=by
 unfold Yh;rcases qQ x.o with⟨_,e⟩ | ⟨_,e⟩ | ⟨_,e⟩ | ⟨e,_⟩<;>rw[e]<;>first | rfl | omega
end
section
theorem M1 (A:Option Addr)(n c:Nat)(f:List Fz)(w:World)(h:SF w A n c f):
  Fn Tryz.prog 193 [.slice A n c] w (λv w'=>v= .int .i64 (qR f)/\Ext w w'):=by
 have Xb:=h.2;refine QF (c:={cQu with cuts:=[4]}) Qa Tryz.func193 rfl rfl rfl ?_;refine Zn (λh1=>?_) (λh1=>?_)
 ·exact⟨by rw[yw (λhv=>by have:=hv.2.1;omega)],Ext.refl w⟩
 refine QB (λh2=>?_) (λh2=>?_)
 ·exact⟨by rw[yw (λhv=>by have:=hv.1;omega)],Ext.refl w⟩
 refine dQy (cs':=fJ (List.replicate 512 false)) (by kernel_rfl) (λw1 Qd Q2 Qh=>?_);rw[<-dQu] at Qh;refine ia [] Qa [] (λ_:Unit=>[]) (λ_ w'=>Ext w w'/\Blk w' w.heap.size 297 (fJ (dv (Jq f) 512))/\(∀j x,j<n->f[j]? =some x->KR x j)/\(Jq f).Nodup) ?_ ?_
 ·refine loop Qa [20] (λs:Nat=>[.int .i64 s]) (λs w'=>Ext w w'/\Blk w' w.heap.size 297 (fJ (dv (Jq (f.take s)) 512))/\s<=n/\(∀j x,j<s->f[j]? =some x->KR x j)/\(Jq (f.take s)).Nodup) (λs _=>n-s) 0 rfl ⟨Qd,Qh,XM _,λj x hj=>Xm hj (by omega),by simp[Jq]⟩ ?_;rintro s w2 ⟨Qg,l9,hs,hnd,d7⟩;refine QB (λh3=>?_) (λh3=>?_)
  ·refine Zo yr (h.ext Qg) rfl (by omega) (λp x hx hc=>?_);refine J4 (vs:=x.cells) rfl hc ?_;refine new (λw3 Qj JV Qu=>?_);refine Qx Qu rfl (sc rfl) (λw4 bH Kz QZ=>?_);have JL:Ext w2 w4:=X0 Qj Qu bH;have Qq:=Qg.trans JL;have hU4:=l9.ext JL;refine Qs QZ rfl ?_;refine call (dQl x s w4) ?_;rintro v w5 ⟨rfl,Qt⟩;have QH:=QZ.ext Qt;have bad:¬(KR x s/\(Jq (f.take (s+1))).Nodup)->qR f=30:=λXi=>by
    refine yw ?_;by_cases dJ:KR x s
    ·refine dQw (s:=s+1) (λj y hj hy=>?_) (by omega) (λh=>Xi ⟨dJ,h⟩);by_cases Ys:j<s
     ·exact hnd j y Ys hy
     ·have:j=s:=by omega
      subst this;rw[Option.some.inj (hy.symm.trans hx)];exact dJ
    ·exact dQv hx dJ
   by_cases mX:¬KR x s
   ·refine X7 (by rw[if_neg mX];decide) ?_;exact⟨by rw[bad (λhh=>mX hh.1)],Qq.trans Qt⟩
   replace mX:=Decidable.not_not.1 mX;have h0:=mX.1;have e5:(if KR x s then Zg x.o else -1)=((Zg x.o).toNat:Int):=by rw[Qe mX];omega
   rw[e5];refine Xy (by omega) ?_;refine Qp QH rfl ?_;refine Qp QH rfl ?_;refine qC Qa rfl rfl rfl rfl rfl rfl rfl rfl rfl rfl (λw6 Q6 cL Xh=>?_);have wE:(Zg x.o).toNat<=2:=by rcases qQ x.o with h | h | h | h<;>omega
   refine ji Qa rfl rfl rfl rfl rfl rfl wE ?_;have Zv:=Qt.trans Q6;have FD:=hU4.ext Zv;have XG:=Qq.trans Zv;obtain⟨ol,ok⟩:=dQz mX;have Kk:=dQA x h0;have BZ:Sl w6 1 (some ⟨w5.heap.size,0,none⟩) (Zg x.o).toNat 2 ((jp x).map (Value.int .i64)):=by
    have:=Sl.own (sz:=1) (n:=(Zg x.o).toNat) (c:=2) Xh wE (by decide) (by simpa using wE);rw[gR] at this;simpa [jp,List.map_take] using this
   have hkz:Jq (f.take (s+1))=Jq (f.take s)++Yh x:=dQp f hx;refine loop Qa [38] (λt:Nat=>[.int .i64 t]) (λt w'=>Mod (·=w.heap.size) w6 w'/\Blk w' w.heap.size 297 (fJ (dv (Jq (f.take s)++(Yh x).take t) 512))/\t<=(Zg x.o).toNat/\(Jq (f.take s)++(Yh x).take t).Nodup) (λt _=>(Zg x.o).toNat-t) 0 rfl ⟨Mod.refl _ _,by simpa using FD,XM _,by simpa using d7⟩ ?_;rintro t w7 ⟨Jv,zT,ht,FE⟩;have Q1:Ext w w7:=Jv.ext XG (λi hi=>by omega);refine QB (λh7=>?_) (λh7=>?_)
   ·have Yr:t<(jp x).length:=by omega
    have mY:(jp x)[t]? =some (jp x)[t]:=Xs Yr;generalize (jp x)[t]=a at mY;obtain⟨a0,ai,ak⟩:=ok t a mY;refine Vz BZ (by omega) (λad u hA hu Xz=>?_);simp only[K2,mY,xB] at hu;cases hu;have iQD:w7.cell? (ad.add t)=some (.int .i64 a):=World.grownBy.cell (Jv.grown (row:=some w.heap.size) (λi hi=>by rw[hi])) Xz (by
     rw[nV];cases hA;intro e;have:=(Option.some.inj e)
     have:=Qq.size;have:=Qt.size;have:=Qd.size;have:=l9.lt;simp only at*;omega)
    refine load iQD ?_;have KF:a.toNat<512:=by omega
    refine yp (j:=a.toNat) (by omega) KF ?_;refine Qp zT (MZ (M0 _ _ _ KF)) ?_;have YH:(Yh x).take (t+1)=(Yh x).take t++ [a.toNat]:=by rw[VX,ak]<;>rfl
    refine QB (λh8=>?_) (λh8=>?_)
    ·refine⟨?_,Q1⟩;rw[bad];rintro⟨_,Sb⟩;rw[hkz] at Sb;have pQ:(Jq (f.take s)++(Yh x).take (t+1)).Nodup:=Sb.sublist ((List.Sublist.refl _).append (List.take_sublist _ _));rw[YH,<-KO,CH] at pQ;exact pQ.2.2 _ h8 _ (by simp) rfl
    ·refine yp (j:=a.toNat) (by omega) KF ?_;refine XK zT (by rw[dQm,dQs];exact KF) (λw8 Ju Xp=>?_);rw[<-dQn,dQt,KO,<-YH] at Xp;refine Qm ((t+1:Nat):Int) (by omega) (by omega) ?_;refine⟨t+1,rfl,⟨Jv.trans Ju (λi hi=>.inl hi),Xp,by omega,?_⟩,by show(Zg x.o).toNat-(t+1)<(Zg x.o).toNat-t;omega⟩;rw[YH,<-KO,CH];refine⟨FE,by simp,λu hu v hv e=>?_⟩;simp only[QJ] at hv;subst hv;subst e;exact h8 hu
   ·have e:(Yh x).take t=Yh x:=Jz (by omega);rw[e,<-hkz] at zT FE;refine Qm ((s+1:Nat):Int) (by omega) (by omega) ?_;refine⟨s+1,rfl,⟨Q1,zT,by omega,λj y hj hy=>?_,FE⟩,by show n-(s+1)<n-s;omega⟩;by_cases Ys:j<s
    ·exact hnd j y Ys hy
    ·have:j=s:=by omega
     subst this;rw[Option.some.inj (hy.symm.trans hx)];exact mX
  ·have:s=n:=by omega
   subst this;rw[Jz (by omega)] at l9 d7;exact⟨(),rfl,Qg,l9,hnd,d7⟩
 rintro⟨⟩ w2 ⟨Qg,l9,hnd,d7⟩;refine Qm ((n-1:Nat):Int) (by omega) (by omega) ?_;refine ji Qa rfl rfl rfl rfl rfl rfl (by have:=h.1.le;omega) ?_;refine loop Qa [55] (λs:Nat=>[.int .i64 s]) (λs w'=>w2=w'/\s<=n-1/\∀j,j<s->j∈Jq f) (λs _=>n-s) 0 rfl ⟨rfl,XM _,λj hj=>Xm hj (by omega)⟩ ?_;rintro s _ ⟨rfl,hs,hu⟩;refine QB (λh3=>?_) (λh3=>?_)
 ·refine index (by omega) ?_;refine Qp l9 (MZ (M0 _ _ s (by omega))) ?_;refine lk (QB (λhm=>?_) (λhm=>?_))
  ·refine Qm ((s+1:Nat):Int) (by omega) (by omega) ?_;refine⟨s+1,rfl,⟨rfl,by omega,λj hj=>?_⟩,by show n-(s+1)<n-s;omega⟩;by_cases Ys:j<s
   ·exact hu j Ys
   ·have:j=s:=by omega
    rw[this];exact hm
  ·refine⟨?_,Qg⟩;rw[yw (λhv=>?_)];have:=hv.2.2.2 s (by omega);rw[List.count_eq_zero.2 hm] at this;cases this
 ·exact⟨by rw[yv (dQx (by omega) (by omega) (λj x hj hx=>hnd j x (by omega) hx) d7 (λj hj=>hu j (by omega)))],Qg⟩
end
section
inductive Fm where
 | c (b:Bool)
 | v (n:Nat)
 | not (a:Fm)
 | and (a b:Fm)
 | or (a b:Fm)
deriving DecidableEq
def RepF (f:List Fz):Fm->Nat->Prop
 | .c b,i=>f[i]? =some ⟨if b then 1 else 0,0,0,0⟩
 | .v n,i=>f[i]? =some ⟨2,(n:Nat),0,0⟩
 | .not a,i=>∃j:Nat,j<i/\f[i]? =some ⟨3,0,(j:Nat),0⟩/\RepF f a j
 | .and a b,i=>∃j k:Nat,j<i/\k<i/\f[i]? =some ⟨4,0,(j:Nat),(k:Nat)⟩/\RepF f a j/\RepF f b k
 | .or a b,i=>∃j k:Nat,j<i/\k<i/\f[i]? =some ⟨5,0,(j:Nat),(k:Nat)⟩/\RepF f a j/\RepF f b k
theorem dQB {x:Fz}{i:Nat}(h:KR x i):(x=⟨0,0,0,0⟩)∨(x=⟨1,0,0,0⟩)∨(∃n:Nat,n<64/\x=⟨2,n,0,0⟩)∨(∃j:Nat,j<i/\x=⟨3,0,j,0⟩)∨(∃j k:Nat,j<i/\k<i/\(x=⟨4,0,j,k⟩∨x=⟨5,0,j,k⟩)):=by
 obtain⟨o,v,a,b⟩:=x;obtain⟨h1,h2,h3,h4⟩:=h;simp only at h1 h2 h3 h4;rcases qQ o with⟨ho,e⟩ | ⟨ho,e⟩ | ⟨ho,e⟩ | ⟨e,_⟩
 ·rw[if_neg (by omega)] at h3 h4;subst h3;subst h4;rcases ho with rfl | rfl | rfl
  ·rw[if_neg (by omega)] at h2;subst h2;exact .inl rfl
  ·rw[if_neg (by omega)] at h2;subst h2;exact .inr (.inl rfl)
  ·rw[Qe rfl] at h2;refine .inr (.inr (.inl ⟨v.toNat,by omega,?_⟩));rw[CL h2.1]
 ·rw[Qe (by omega)] at h3;rw[if_neg (by omega)] at h4 h2;subst ho;subst h4;subst h2;refine .inr (.inr (.inr (.inl ⟨a.toNat,by omega,?_⟩)));rw[CL h3.1]
 ·rw[Qe (by omega)] at h3 h4;rw[if_neg (by omega)] at h2;subst h2;refine .inr (.inr (.inr (.inr ⟨a.toNat,b.toNat,by omega,by omega,?_⟩)));rw[CL h3.1,CL h4.1];rcases ho with rfl | rfl
  ·exact .inl rfl
  ·exact .inr rfl
 ·omega
theorem M2 {f:List Fz}(h:∀i x,f[i]? =some x->KR x i):∀i,i<f.length->∃t,RepF f t i:=by
 intro i;induction i using Nat.strongRecOn with
 | _ i ih=>
  intro hi;have hx:=Xs hi;rcases dQB (h i _ hx)with e | e | ⟨n,_,e⟩ | ⟨j,hj,e⟩ | ⟨j,k,hj,hk,e⟩
  ·exact⟨.c false,by rw[e] at hx;exact hx⟩
  ·exact⟨.c true,by rw[e] at hx;exact hx⟩
  ·exact⟨.v n,by rw[e] at hx;exact hx⟩
  ·obtain⟨a,ha⟩:=ih j hj (by omega);exact⟨.not a,j,hj,by rw[e] at hx;exact hx,ha⟩
  ·obtain⟨a,ha⟩:=ih j hj (by omega);obtain⟨b,hb⟩:=ih k hk (by omega);rcases e with e | e
   ·exact⟨.and a b,j,k,hj,hk,by rw[e] at hx;exact hx,ha,hb⟩
   ·exact⟨.or a b,j,k,hj,hk,by rw[e] at hx;exact hx,ha,hb⟩
theorem RepF.lt {f:List Fz}:∀{t:Fm}{i:Nat},RepF f t i->i<f.length
 | .c _,_,h=>(Zt.1 h).1
 | .v _,_,h=>(Zt.1 h).1
 | .not _,_,⟨_,_,h,_⟩=>(Zt.1 h).1
 | .and _ _,_,⟨_,_,_,_,h,_⟩=>(Zt.1 h).1
 | .or _ _,_,⟨_,_,_,_,h,_⟩=>(Zt.1 h).1
def ZD:Fm->Nat
 | .or _ _=>0
 | .and _ _=>1
 | _=>2
def VY (b:Bool)(s:List Nat):List Nat:=if b then 40::s++ [41] else s
def Z4 (nm:List (List Nat)):Fm->List Nat
 | .c b=>if b then YN else bm
 | .v n=>nm[n]?.getD []
 | .not a=>33::VY (decide (ZD a<2)) (Z4 nm a)
 | .and a b=>VY (decide (ZD a<1)) (Z4 nm a)++ [32,38,38,32]++VY (decide (ZD b<2)) (Z4 nm b)
 | .or a b=>VY (decide (ZD a<0)) (Z4 nm a)++ [32,124,124,32]++VY (decide (ZD b<1)) (Z4 nm b)
def ZE (nm:List (List Nat))(least:Nat)(t:Fm):List Nat:=VY (decide (ZD t<least)) (Z4 nm t)
def VarsIn (n:Nat):Fm->Prop
 | .c _=>True
 | .v k=>k<n
 | .not a=>VarsIn n a
 | .and a b=>VarsIn n a/\VarsIn n b
 | .or a b=>VarsIn n a/\VarsIn n b
theorem dQC (o:Int)(w:World):Fn Tryz.prog 224 [.int .i64 o] w (λv w'=>v= .int .i64 (if o=5 then 0 else if o=4 then 1 else 2)/\w=w'):=by
 refine QF (c:=cQN) Qa Tryz.func224 rfl rfl rfl ?_;refine Zn (λh=>?_) (λh=>?_)
 ·exact⟨by rw[Qe h],rfl⟩
 refine Zn (λh1=>?_) (λh1=>?_)
 ·exact⟨by rw[if_neg h,Qe h1],rfl⟩
 ·exact⟨by rw[if_neg h,if_neg h1],rfl⟩
theorem qS (u:FrameMode)(base g t:Nat)(rest:List Value)(A:Option Addr)(c:Nat)(out:List Nat)(b:Nat)(w:World)(hl:nW t (rest.length+2))(hb:Bld w base g t rest A c out)(hs:out.length+1<=140737488355328):
  CallsD Tryz.prog 225 [.pointer (some ⟨g,0,none⟩),.int .u8 b].toArray u w (λe u' w'=>u'=u/\∃v,e= .returned v/\(λ_ w'=>∃A' c',Bld w' base g t rest A' c' (out++ [b])/\Mod (BldS g A) w w'/\Moved w A A') v w'):=by
 refine dQh (c:=Mt) Qa u Tryz.func225 rfl rfl rfl ?_;obtain⟨pa,ZL,hB⟩:=hb.blk;refine call (Dm g t pa _ rest w hl ZL hB) ?_;rintro v w1 ⟨Zj,Qh⟩;have Vv:=hb.own.rows;have jX:=hb.g1;have kI:=hb.top;have hn:¬Qi A g:=λh=>by have:=(Vv g h).1;omega
 have oV:=hb.own.mod Zj (λk hk e=>hn (e▸hk));refine Qp Qh rfl ?_;refine Ma Qa rfl rfl rfl rfl rfl rfl rfl rfl ?_;intro w7 Q1 iQz QY;have jY:Sl w7 1 (some ⟨w1.heap.size,0,none⟩) 1 1 [.int .u8 (b:Int)]:=Sl.own' QY rfl (by simp[maxLen]);have iQA:=Zj.size;have iQB:=Q1.size;refine JE Qa rfl rfl rfl rfl rfl (by decide) rfl rfl ⟨_,rfl⟩ rfl rfl (oV.ext Q1) jY (by simp[Jo]) (by unfold maxLen;omega) (by show _*1<=_;omega) (by omega) ?_;intro A' c' w2 XL cI lX;refine XK ((Qh.ext Q1).mod XL hn) (by simp) (λw3 Xo Qu=>?_);have oW:=cI.rows;refine⟨A',c',⟨jX,by have:=XL.size;have:=Xo.size;omega,⟨_,.inr rfl,by rw[Qy];exact Qu⟩,?_⟩,?_,lX.back (by omega)⟩
 ·rw[Qy,yj];exact cI.mod Xo (λk hk e=>by have:=(oW k hk).1;omega)
 ·exact(((Zj.mono (S':=BldS g A) (λi hi=>.inl (.inl hi))).trans (Mod.of_ext (λ_=>False) Q1) (λi hi=>hi.elim)).trans XL (λi hi=>.inl (.inr hi))).trans Xo (λi hi=>.inl (.inl hi))
end
section
theorem qT (a b:Value):(#[]++ [a,b].toArray)++ #[]=[a,b].toArray:=by simp
theorem Y4:nW 109 2:=by unfold nW;kernel_rfl
def Wr (base g:Nat)(W:World)(A1:Option Addr)(out xs:List Nat)(w':World):Prop:=∃A' c',Bld w' base g 109 [] A' c' (out++xs)/\Mod (BldS g A1) W w'/\Moved W A1 A'
theorem Wr.trans {base g:Nat}{W w1 w2:World}{A1 A':Option Addr}{out xs ys:List Nat}(hm:Mod (BldS g A1) W w1)(hv:Moved W A1 A')(k:Wr base g w1 A' (out++xs) ys w2):Wr base g W A1 out (xs++ys) w2:=by
 obtain⟨A2,c2,hb2,XL,JT⟩:=k;exact⟨A2,c2,by rw[<-KO];exact hb2,hm.trans XL (BldS.moved hv),hv.trans JT hm.size⟩
theorem Wr.pre {base g:Nat}{w w2 w':World}{A:Option Addr}{out xs:List Nat}(h:Wr base g w2 A out xs w')(hE:Ext w w2):Wr base g w A out xs w':=by
 obtain⟨A2,c2,hb2,XL,JT⟩:=h;exact⟨A2,c2,hb2,(Mod.of_ext _ hE).trans XL (λi hi=>.inl hi),JT.back hE.size⟩
theorem BldS.kept {base g:Nat}{w0 W:World}{A:Option Addr}{c:Nat}{out:List Nat}(h:Bld W base g 109 [] A c out)(hg:w0.heap.size<=g):∀i,BldS g A i->w0.heap.size<=i:=λi hi=>by
 have:=h.g1;rcases hi with rfl | hi
 ·exact hg
 ·have:=(h.own.rows i hi).1;omega
def Qz:Fm->Nat
 | .c _=>1
 | .v _=>1
 | .not a=>Qz a+1
 | .and a b=>Qz a+Qz b+1
 | .or a b=>Qz a+Qz b+1
def VF:Fm->Int
 | .c b=>if b then 1 else 0
 | .v _=>2
 | .not _=>3
 | .and _ _=>4
 | .or _ _=>5
theorem dQD (t:Fm):(if VF t=5 then(0:Int)else if VF t=4 then 1 else 2)=(ZD t:Nat):=by
 cases t with
 | c b=>cases b<;>rfl
 | _=>rfl
theorem RepF.node {f:List Fz}{t:Fm}{i:Nat}(h:RepF f t i):∃x,f[i]? =some x/\x.o=VF t:=by
 cases t with
 | c b=>exact⟨_,h,rfl⟩
 | v n=>exact⟨_,h,rfl⟩
 | not a=>obtain⟨j,_,h,_⟩:=h;exact⟨_,h,rfl⟩
 | and a b=>obtain⟨j,k,_,_,h,_⟩:=h;exact⟨_,h,rfl⟩
 | or a b=>obtain⟨j,k,_,_,h,_⟩:=h;exact⟨_,h,rfl⟩
def yx (base g:Nat)(w0:World)(NA:Option Addr)(nn nc:Nat)(nm:List (List Nat))(FA:Option Addr)(nf cf:Nat)(f:List Fz)(t:Fm):Prop:=
 ∀(i least:Nat) (A:Option Addr) (c:Nat) (out:List Nat) (w:World),Ext w0 w->Bld w base g 109 [] A c out->RepF f t i->VarsIn nn t->out.length+(ZE nm least t).length<=140737488355328->least<=2->
  Fn Tryz.prog 194 [.pointer (some ⟨g,0,none⟩),.slice NA nn nc,.slice FA nf cf,.int .i64 i,.int .i64 least] w (λ_ w'=>Wr base g w A out (ZE nm least t) w')
theorem dQE (base g:Nat)(w0:World)(NA:Option Addr)(nn nc:Nat)(nm:List (List Nat))(FA:Option Addr)(nf cf:Nat)(f:List Fz)(hN:Sl w0 1 NA nn nc (X4 nm))(Vw:Ke nm)(hF:SF w0 FA nf cf f)(FF:w0.heap.size<=g)(t:Fm)(ih:∀u:Fm,Qz u<Qz t->yx base g w0 NA nn nc nm FA nf cf f u):yx base g w0 NA nn nc nm FA nf cf f t:=by
 intro i least A c out w hE hb hr hv hl ZK;have Kk:=hF.2;have Kn:nm.length=nn:=by have:=hN.len;rw[aF] at this;omega
 have hi:=hr.lt;obtain⟨x,hx,wF⟩:=hr.node;refine ud (c:={cQv with cuts:=[]}) Qa Tryz.func194 rfl rfl rfl ?_;refine ZC (Zq Qa ?_);refine Zo yr (hF.ext hE) rfl (by omega) (λp y hy hc=>?_);have gG:y=x:=Option.some.inj (hy.symm.trans hx);subst gG;refine J4 (vs:=y.cells) rfl hc ?_;refine new (λw1 Qd Q2 Qh=>?_);refine Qx Qh rfl (sc rfl) (λw2 ga X9 Kh=>?_);have Xq:Ext w w2:=X0 Qd Qh ga;have Q4:=hE.trans Xq;have hb2:=hb.grow Xq;have kI:=hb.top;have jX:=hb.g1;have gI:¬BldS g A w.heap.size:=λe=>by
  rcases e with e | e
  ·omega
  ·have:=(hb.own.rows _ e).2;omega
 refine ZC (Zq Qa ?_);refine Qv Kh rfl ?_;refine call (dQC y.o w2) ?_;rintro v _ ⟨rfl,rfl⟩;rw[wF,dQD];have Je:(ZE nm least t).length=(Z4 nm t).length+(if ZD t<least then 2 else 0):=by
  unfold ZE VY;split
  ·rename_i h;rw[Qe (by simpa using h)];simp
  ·rename_i h;rw[if_neg (by simpa using h)]<;>rfl
 have rX:∀A' c' out' W w',Bld W base g 109 [] A' c' out'->Mod (BldS g A') W w'->Ext w0 W->Ext w0 w':=λA' c' out' W w' hb hm hE=>hm.ext hE (BldS.kept hb FF)
 refine ZC ?_;refine ZC (Zq Qa ?_);by_cases hd:ZD t<least
 ·rw[Qe hd] at Je;have d8:ZE nm least t=[40]++(Z4 nm t++ [41]):=by unfold ZE VY;rw[Qe (by simpa using hd)];simp
  refine dQf rfl (XX (by omega)) (ZC (Zq Qa ?_));refine call (Dn base g _ [] _ _ _ 40 w2 Y4 hb2 (by omega)) ?_;rintro v w3 ⟨A3,c3,me,Xo,WT⟩;generalize cM:out++ [40]=oo at me;have KU:=Kh.mod Xo gI;have QQ:=rX _ _ _ _ _ hb2 Xo Q4;have rY:¬BldS g A3 w.heap.size:=λe=>(BldS.moved WT _ e).elim gI (λh=>by omega)
  refine ub Qa rfl rfl rfl rfl ⟨_,_,_,_,rfl,rfl,?_⟩;have Xu:oo.length+(Z4 nm t).length<=140737488355327:=by rw[<-cM,Qy];simp only[Xk,Z8];omega
  have JU:=Xu
  replace Xu:oo.length+(Z4 nm t).length<=140737488355328:=by omega
  have pR:∀w',Mod (BldS g A3) w3 w'->Blk w' w.heap.size 280 y.cells/\Ext w0 w':=λw' hm=>⟨KU.mod hm rY,rX _ _ _ _ _ me hm QQ⟩
  refine ZC (Zq Qa ?_);refine Qv KU rfl ?_;refine Zq Qa ?_;rw[wF] at*;cases t with
  | c b=>
   cases b with
   | false=>
    refine Jp rfl ?_;refine call (ie base g _ [] _ _ _ _ w3 Y4 me (by have:(Z4 nm (.c false)).length=5:=rfl;rw[this] at Xu;exact Xu)) ?_;rintro v w9 h9
    replace h9:Wr base g w3 A3 _ (Z4 nm (.c false)) w9:=h9;obtain⟨A9,c9,gb,Yn,gc⟩:=h9;refine eH (eI Qa rfl rfl (.inr rfl) (qT _ _) ((qS .returning base g _ [] A9 c9 _ 41 w9 Y4 gb (by rw[Qy];omega)).mono ?_));rintro e u' QG ⟨rfl,v,rfl,XH⟩;refine⟨v,rfl,rfl,?_⟩;show Wr base g w A out (ZE nm least _) QG;rw[d8];exact Wr.pre (Wr.trans Xo WT (by rw[cM];exact Wr.trans Yn gc XH)) Xq
   | true=>
    refine XP (by decide) ?_;refine Jp rfl ?_;refine call (ie base g _ [] _ _ _ _ w3 Y4 me (by have:(Z4 nm (.c true)).length=4:=rfl;rw[this] at Xu;exact Xu)) ?_;rintro v w9 h9
    replace h9:Wr base g w3 A3 _ (Z4 nm (.c true)) w9:=h9;obtain⟨A9,c9,gb,Yn,gc⟩:=h9;refine eH (eI Qa rfl rfl (.inr rfl) (qT _ _) ((qS .returning base g _ [] A9 c9 _ 41 w9 Y4 gb (by rw[Qy];omega)).mono ?_));rintro e u' QG ⟨rfl,v,rfl,XH⟩;refine⟨v,rfl,rfl,?_⟩;show Wr base g w A out (ZE nm least _) QG;rw[d8];exact Wr.pre (Wr.trans Xo WT (by rw[cM];exact Wr.trans Yn gc XH)) Xq
  | v n=>
   have hy:y=⟨2,(n:Nat),0,0⟩:=Option.some.inj (hx.symm.trans hr);subst hy;refine XP (by show(2:Int)≠_;decide) ?_;refine XP (by show(2:Int)≠_;decide) ?_;refine Jp rfl ?_;refine Qp KU rfl ?_;have hn:n<nn:=hv;have pS:nm[n]? =some nm[n]:=Xs (by omega);have sZ:Z4 nm (.v n)=nm[n]:=by show nm[n]?.getD []=_;rw[pS]<;>rfl
   rw[sZ] at Xu;generalize nm[n]=s at*;refine Vz (hN.ext QQ) (by omega) (λad u hA hu Xz=>?_);rw[lm pS] at hu;cases hu;refine load Xz ?_;refine call (ie base g _ [] _ _ _ _ w3 Y4 me (by rw[XU];exact Xu)) ?_;rintro v w9 h9;rw[Wy (Vw s (Xe pS)).1] at h9;rw[<-sZ] at h9;obtain⟨A9,c9,gb,Yn,gc⟩:=h9;refine eH (eI Qa rfl rfl (.inr rfl) (qT _ _) ((qS .returning base g _ [] A9 c9 _ 41 w9 Y4 gb (by rw[Qy];omega)).mono ?_));rintro e u' QG ⟨rfl,v,rfl,XH⟩;refine⟨v,rfl,rfl,?_⟩;show Wr base g w A out (ZE nm least _) QG;rw[d8];exact Wr.pre (Wr.trans Xo WT (by rw[cM];exact Wr.trans Yn gc XH)) Xq
  | not a=>
   obtain⟨j,hj,hy,YI⟩:=hr;have hy:=Option.some.inj (hx.symm.trans hy);subst hy;refine XP (by show(3:Int)≠_;decide) ?_;refine XP (by show(3:Int)≠_;decide) ?_;refine XP (by show(3:Int)≠_;decide) ?_;refine Jp rfl ?_;have ZL:Z4 nm (.not a)=[33]++ZE nm 2 a:=rfl;rw[ZL,Qy] at Xu;simp only[Xk,Z8] at Xu;refine call (Dn base g _ [] _ _ _ 33 w3 Y4 me (by omega)) ?_;rintro v w7 ⟨A7,c7,gf,Jv,Ku⟩;obtain⟨vf,Q1⟩:=pR w7 Jv;refine Qp vf rfl ?_;refine call (ih a (by simp only[Qz];omega) j 2 A7 c7 _ w7 Q1 gf YI hv (by rw[Qy];simp only[Xk,Z8];omega) (QE _)) ?_;rintro v w9 h9
   replace h9:=Wr.trans Jv Ku h9;rw[<-ZL] at h9;obtain⟨A9,c9,gb,Yn,gc⟩:=h9;refine eH (eI Qa rfl rfl (.inr rfl) (qT _ _) ((qS .returning base g _ [] A9 c9 _ 41 w9 Y4 gb (by rw[Qy];omega)).mono ?_));rintro e u' QG ⟨rfl,v,rfl,XH⟩;refine⟨v,rfl,rfl,?_⟩;show Wr base g w A out (ZE nm least _) QG;rw[d8];exact Wr.pre (Wr.trans Xo WT (by rw[cM];exact Wr.trans Yn gc XH)) Xq
  | and a b=>
   obtain⟨j,k,hj,hk,hy,YI,d9⟩:=hr;have hy:=Option.some.inj (hx.symm.trans hy);subst hy;refine XP (by show(4:Int)≠_;decide) ?_;refine XP (by show(4:Int)≠_;decide) ?_;refine XP (by show(4:Int)≠_;decide) ?_;refine XP (by show(4:Int)≠_;decide) ?_;have ZL:Z4 nm (.and a b)=(ZE nm 1 a++ [32,38,38,32])++ZE nm 2 b:=rfl;rw[ZL,Qy,Qy] at Xu;simp only[Xk,Z8] at Xu;refine Qp KU rfl ?_;refine call (ih a (by simp only[Qz];omega) j 1 _ _ _ w3 QQ me YI hv.1 (by omega) (by omega)) ?_;rintro v w7 ⟨A7,c7,gf,Jv,Ku⟩;refine qC Qa rfl rfl rfl rfl rfl rfl rfl rfl rfl rfl (λw8 Q9 Vs Xp=>?_);refine index (j:=1) (by decide) ?_;refine Qp Xp rfl ?_;have Ju:=Jv.trans (Mod.of_ext (BldS g A7) Q9) (BldS.moved Ku);refine call (ie base g _ [] _ _ _ _ w8 Y4 (gf.grow Q9) (by rw[Qy,show(⟨#[32,38,38,32]⟩:ByteArray).size=4 from rfl];omega)) ?_;rintro v w5 h5
   replace h5:=Wr.trans Ju Ku (show Wr base g w8 A7 _ [32,38,38,32] w5 from (by obtain⟨A5,c5,We,XO,VN⟩:=h5;exact⟨A5,c5,We,XO,VN⟩));obtain⟨A5,c5,We,XO,VN⟩:=h5;obtain⟨Ki,Qt⟩:=pR w5 XO;refine Qp Ki rfl ?_;refine Qm 2 (by show(1:Int)+1=2;decide) (by decide) ?_;refine call (ih b (by simp only[Qz];omega) k 2 A5 c5 _ w5 Qt We d9 hv.2 (by rw[Qy,Qy];simp only[Xk,Z8];omega) (by omega)) ?_;rintro v w9 h9
   replace h9:=Wr.trans XO VN h9;rw[<-ZL] at h9;obtain⟨A9,c9,gb,Yn,gc⟩:=h9;refine eH (eI Qa rfl rfl (.inr rfl) (qT _ _) ((qS .returning base g _ [] A9 c9 _ 41 w9 Y4 gb (by rw[Qy];omega)).mono ?_));rintro e u' QG ⟨rfl,v,rfl,XH⟩;refine⟨v,rfl,rfl,?_⟩;show Wr base g w A out (ZE nm least _) QG;rw[d8];exact Wr.pre (Wr.trans Xo WT (by rw[cM];exact Wr.trans Yn gc XH)) Xq
  | or a b=>
   obtain⟨j,k,hj,hk,hy,YI,d9⟩:=hr;have hy:=Option.some.inj (hx.symm.trans hy);subst hy;refine XP (by show(5:Int)≠_;decide) ?_;refine XP (by show(5:Int)≠_;decide) ?_;refine XP (by show(5:Int)≠_;decide) ?_;refine XP (by show(5:Int)≠_;decide) ?_;have ZL:Z4 nm (.or a b)=(ZE nm 0 a++ [32,124,124,32])++ZE nm 1 b:=rfl;rw[ZL,Qy,Qy] at Xu;simp only[Xk,Z8] at Xu;refine Qp KU rfl ?_;refine call (ih a (by simp only[Qz];omega) j 0 _ _ _ w3 QQ me YI hv.1 (by omega) (by omega)) ?_;rintro v w7 ⟨A7,c7,gf,Jv,Ku⟩;refine qC Qa rfl rfl rfl rfl rfl rfl rfl rfl rfl rfl (λw8 Q9 Vs Xp=>?_);refine index (j:=0) (by decide) ?_;refine Qp Xp rfl ?_;have Ju:=Jv.trans (Mod.of_ext (BldS g A7) Q9) (BldS.moved Ku);refine call (ie base g _ [] _ _ _ _ w8 Y4 (gf.grow Q9) (by rw[Qy,show(⟨#[32,124,124,32]⟩:ByteArray).size=4 from rfl];omega)) ?_;rintro v w5 h5
   replace h5:=Wr.trans Ju Ku (show Wr base g w8 A7 _ [32,124,124,32] w5 from (by obtain⟨A5,c5,We,XO,VN⟩:=h5;exact⟨A5,c5,We,XO,VN⟩));obtain⟨A5,c5,We,XO,VN⟩:=h5;obtain⟨Ki,Qt⟩:=pR w5 XO;refine Qp Ki rfl ?_;refine Qm 1 (by show(0:Int)+1=1;decide) (by decide) ?_;refine call (ih b (by simp only[Qz];omega) k 1 A5 c5 _ w5 Qt We d9 hv.2 (by rw[Qy,Qy];simp only[Xk,Z8];omega) (by omega)) ?_;rintro v w9 h9
   replace h9:=Wr.trans XO VN h9;rw[<-ZL] at h9;obtain⟨A9,c9,gb,Yn,gc⟩:=h9;refine eH (eI Qa rfl rfl (.inr rfl) (qT _ _) ((qS .returning base g _ [] A9 c9 _ 41 w9 Y4 gb (by rw[Qy];omega)).mono ?_));rintro e u' QG ⟨rfl,v,rfl,XH⟩;refine⟨v,rfl,rfl,?_⟩;show Wr base g w A out (ZE nm least _) QG;rw[d8];exact Wr.pre (Wr.trans Xo WT (by rw[cM];exact Wr.trans Yn gc XH)) Xq
 ·rw[if_neg hd] at Je;have d8:ZE nm least t=Z4 nm t:=by unfold ZE VY;rw[if_neg (by simpa using hd)]
  refine dQg rfl (Zf (by omega)) (Zq Qa ?_);have Xu:out.length+(Z4 nm t).length<=140737488355328:=by omega
  have pR:∀w',Mod (BldS g A) w2 w'->Blk w' w.heap.size 280 y.cells/\Ext w0 w':=λw' hm=>⟨Kh.mod hm gI,rX _ _ _ _ _ hb2 hm Q4⟩
  refine ZC (Zq Qa ?_);refine Qv Kh rfl ?_;refine Zq Qa ?_;rw[wF] at*;cases t with
  | c b=>
   cases b with
   | false=>
    refine Jp rfl ?_;refine call (ie base g _ [] _ _ _ _ w2 Y4 hb2 (by have:(Z4 nm (.c false)).length=5:=rfl;rw[this] at Xu;exact Xu)) ?_;rintro v w9 h9
    replace h9:Wr base g w2 A _ (Z4 nm (.c false)) w9:=h9;refine eH (ig Qa rfl (.inr rfl) ?_);show Wr base g w A out (ZE nm least _) w9;rw[d8];exact Wr.pre h9 Xq
   | true=>
    refine XP (by decide) ?_;refine Jp rfl ?_;refine call (ie base g _ [] _ _ _ _ w2 Y4 hb2 (by have:(Z4 nm (.c true)).length=4:=rfl;rw[this] at Xu;exact Xu)) ?_;rintro v w9 h9
    replace h9:Wr base g w2 A _ (Z4 nm (.c true)) w9:=h9;refine eH (ig Qa rfl (.inr rfl) ?_);show Wr base g w A out (ZE nm least _) w9;rw[d8];exact Wr.pre h9 Xq
  | v n=>
   have hy:y=⟨2,(n:Nat),0,0⟩:=Option.some.inj (hx.symm.trans hr);subst hy;refine XP (by show(2:Int)≠_;decide) ?_;refine XP (by show(2:Int)≠_;decide) ?_;refine Jp rfl ?_;refine Qp Kh rfl ?_;have hn:n<nn:=hv;have pS:nm[n]? =some nm[n]:=Xs (by omega);have sZ:Z4 nm (.v n)=nm[n]:=by show nm[n]?.getD []=_;rw[pS]<;>rfl
   rw[sZ] at Xu;generalize nm[n]=s at*;refine Vz (hN.ext Q4) (by omega) (λad u hA hu Xz=>?_);rw[lm pS] at hu;cases hu;refine load Xz ?_;refine call (ie base g _ [] _ _ _ _ w2 Y4 hb2 (by rw[XU];exact Xu)) ?_;rintro v w9 h9;rw[Wy (Vw s (Xe pS)).1] at h9;rw[<-sZ] at h9;refine eH (ig Qa rfl (.inr rfl) ?_);show Wr base g w A out (ZE nm least _) w9;rw[d8];exact Wr.pre h9 Xq
  | not a=>
   obtain⟨j,hj,hy,YI⟩:=hr;have hy:=Option.some.inj (hx.symm.trans hy);subst hy;refine XP (by show(3:Int)≠_;decide) ?_;refine XP (by show(3:Int)≠_;decide) ?_;refine XP (by show(3:Int)≠_;decide) ?_;refine Jp rfl ?_;have ZL:Z4 nm (.not a)=[33]++ZE nm 2 a:=rfl;rw[ZL,Qy] at Xu;simp only[Xk,Z8] at Xu;refine call (Dn base g _ [] _ _ _ 33 w2 Y4 hb2 (by omega)) ?_;rintro v w7 ⟨A7,c7,gf,Jv,Ku⟩;obtain⟨vf,Q1⟩:=pR w7 Jv;refine Qp vf rfl ?_;refine call (ih a (by simp only[Qz];omega) j 2 A7 c7 _ w7 Q1 gf YI hv (by rw[Qy];simp only[Xk,Z8];omega) (QE _)) ?_;rintro v w9 h9
   replace h9:=Wr.trans Jv Ku h9;rw[<-ZL] at h9;refine eH (ig Qa rfl (.inr rfl) ?_);show Wr base g w A out (ZE nm least _) w9;rw[d8];exact Wr.pre h9 Xq
  | and a b=>
   obtain⟨j,k,hj,hk,hy,YI,d9⟩:=hr;have hy:=Option.some.inj (hx.symm.trans hy);subst hy;refine XP (by show(4:Int)≠_;decide) ?_;refine XP (by show(4:Int)≠_;decide) ?_;refine XP (by show(4:Int)≠_;decide) ?_;refine XP (by show(4:Int)≠_;decide) ?_;have ZL:Z4 nm (.and a b)=(ZE nm 1 a++ [32,38,38,32])++ZE nm 2 b:=rfl;rw[ZL,Qy,Qy] at Xu;simp only[Xk,Z8] at Xu;refine Qp Kh rfl ?_;refine call (ih a (by simp only[Qz];omega) j 1 _ _ _ w2 Q4 hb2 YI hv.1 (by omega) (by omega)) ?_;rintro v w7 ⟨A7,c7,gf,Jv,Ku⟩;refine qC Qa rfl rfl rfl rfl rfl rfl rfl rfl rfl rfl (λw8 Q9 Vs Xp=>?_);refine index (j:=1) (by decide) ?_;refine Qp Xp rfl ?_;have Ju:=Jv.trans (Mod.of_ext (BldS g A7) Q9) (BldS.moved Ku);refine call (ie base g _ [] _ _ _ _ w8 Y4 (gf.grow Q9) (by rw[Qy,show(⟨#[32,38,38,32]⟩:ByteArray).size=4 from rfl];omega)) ?_;rintro v w5 h5
   replace h5:=Wr.trans Ju Ku (show Wr base g w8 A7 _ [32,38,38,32] w5 from (by obtain⟨A5,c5,We,XO,VN⟩:=h5;exact⟨A5,c5,We,XO,VN⟩));obtain⟨A5,c5,We,XO,VN⟩:=h5;obtain⟨Ki,Qt⟩:=pR w5 XO;refine Qp Ki rfl ?_;refine Qm 2 (by show(1:Int)+1=2;decide) (by decide) ?_;refine call (ih b (by simp only[Qz];omega) k 2 A5 c5 _ w5 Qt We d9 hv.2 (by rw[Qy,Qy];simp only[Xk,Z8];omega) (by omega)) ?_;rintro v w9 h9
   replace h9:=Wr.trans XO VN h9;rw[<-ZL] at h9;refine eH (ig Qa rfl (.inr rfl) ?_);show Wr base g w A out (ZE nm least _) w9;rw[d8];exact Wr.pre h9 Xq
  | or a b=>
   obtain⟨j,k,hj,hk,hy,YI,d9⟩:=hr;have hy:=Option.some.inj (hx.symm.trans hy);subst hy;refine XP (by show(5:Int)≠_;decide) ?_;refine XP (by show(5:Int)≠_;decide) ?_;refine XP (by show(5:Int)≠_;decide) ?_;refine XP (by show(5:Int)≠_;decide) ?_;have ZL:Z4 nm (.or a b)=(ZE nm 0 a++ [32,124,124,32])++ZE nm 1 b:=rfl;rw[ZL,Qy,Qy] at Xu;simp only[Xk,Z8] at Xu;refine Qp Kh rfl ?_;refine call (ih a (by simp only[Qz];omega) j 0 _ _ _ w2 Q4 hb2 YI hv.1 (by omega) (by omega)) ?_;rintro v w7 ⟨A7,c7,gf,Jv,Ku⟩;refine qC Qa rfl rfl rfl rfl rfl rfl rfl rfl rfl rfl (λw8 Q9 Vs Xp=>?_);refine index (j:=0) (by decide) ?_;refine Qp Xp rfl ?_;have Ju:=Jv.trans (Mod.of_ext (BldS g A7) Q9) (BldS.moved Ku);refine call (ie base g _ [] _ _ _ _ w8 Y4 (gf.grow Q9) (by rw[Qy,show(⟨#[32,124,124,32]⟩:ByteArray).size=4 from rfl];omega)) ?_;rintro v w5 h5
   replace h5:=Wr.trans Ju Ku (show Wr base g w8 A7 _ [32,124,124,32] w5 from (by obtain⟨A5,c5,We,XO,VN⟩:=h5;exact⟨A5,c5,We,XO,VN⟩));obtain⟨A5,c5,We,XO,VN⟩:=h5;obtain⟨Ki,Qt⟩:=pR w5 XO;refine Qp Ki rfl ?_;refine Qm 1 (by show(0:Int)+1=1;decide) (by decide) ?_;refine call (ih b (by simp only[Qz];omega) k 1 A5 c5 _ w5 Qt We d9 hv.2 (by rw[Qy,Qy];simp only[Xk,Z8];omega) (by omega)) ?_;rintro v w9 h9
   replace h9:=Wr.trans XO VN h9;rw[<-ZL] at h9;refine eH (ig Qa rfl (.inr rfl) ?_);show Wr base g w A out (ZE nm least _) w9;rw[d8];exact Wr.pre h9 Xq
theorem dQF (base g:Nat)(w0:World)(NA:Option Addr)(nn nc:Nat)(nm:List (List Nat))(FA:Option Addr)(nf cf:Nat)(f:List Fz)(hN:Sl w0 1 NA nn nc (X4 nm))(Vw:Ke nm)(hF:SF w0 FA nf cf f)(FF:w0.heap.size<=g)(t:Fm):yx base g w0 NA nn nc nm FA nf cf f t:=by
 have key:∀(n:Nat) (t:Fm),Qz t<n->yx base g w0 NA nn nc nm FA nf cf f t:=by
  intro n;induction n with
  | zero=>intro t h;omega
  | succ n ih=>intro t _;exact dQE base g w0 NA nn nc nm FA nf cf f hN Vw hF FF t (λu hu=>ih u (by omega))
 exact key _ t (dh _)
end
section
theorem yy {o v a b o' v' a' b':Int}(h:(⟨o,v,a,b⟩:Fz)=⟨o',v',a',b'⟩):o=o'/\v=v'/\a=a'/\b=b':=by cases h;exact⟨rfl,rfl,rfl,rfl⟩
theorem mQl {f:List Fz}:∀{t t':Fm}{i:Nat},RepF f t i->RepF f t' i->t=t':=by
 intro t;induction t with
 | c b=>
  intro t' i h h';obtain⟨x,hx,ho⟩:=RepF.node h;obtain⟨x',Vi,Kd⟩:=RepF.node h';have e:=Option.some.inj (hx.symm.trans Vi);rw[<-e,ho] at Kd;cases t' with
  | c b'=>cases b<;>cases b'<;>first | rfl | (simp[VF] at Kd)
  | v n=>cases b<;>simp[VF] at Kd
  | not a=>cases b<;>simp[VF] at Kd
  | and a c=>cases b<;>simp[VF] at Kd
  | or a c=>cases b<;>simp[VF] at Kd
 | v n=>
  intro t' i h h';obtain⟨x',Vi,Kd⟩:=RepF.node h';have e:=Option.some.inj (Vi.symm.trans h);rw[e] at Kd;cases t' with
  | c b'=>cases b'<;>simp[VF] at Kd
  | v n'=>
   have:=yy (Option.some.inj (h.symm.trans h'));congr 1;omega
  | not a=>simp[VF] at Kd
  | and a c=>simp[VF] at Kd
  | or a c=>simp[VF] at Kd
 | not a iha=>
  intro t' i h h';obtain⟨j,hj,hx,ha⟩:=h;obtain⟨x',Vi,Kd⟩:=RepF.node h';have e:=Option.some.inj (Vi.symm.trans hx);rw[e] at Kd;cases t' with
  | c b'=>cases b'<;>simp[VF] at Kd
  | v n'=>simp[VF] at Kd
  | not a'=>
   obtain⟨j',fi,wG,wH⟩:=h';have:=yy (Option.some.inj (hx.symm.trans wG));have ej:j=j':=by omega
   subst ej;rw[iha ha wH]
  | and a c=>simp[VF] at Kd
  | or a c=>simp[VF] at Kd
 | and a b iha ihb=>
  intro t' i h h';obtain⟨j,k,hj,hk,hx,ha,hb⟩:=h;obtain⟨x',Vi,Kd⟩:=RepF.node h';have e:=Option.some.inj (Vi.symm.trans hx);rw[e] at Kd;cases t' with
  | c b'=>cases b'<;>simp[VF] at Kd
  | v n'=>simp[VF] at Kd
  | not a'=>simp[VF] at Kd
  | and a' b'=>
   obtain⟨j',k',fi,Yq,wG,wH,hb'⟩:=h';have:=yy (Option.some.inj (hx.symm.trans wG));have ej:j=j':=by omega
   have ek:k=k':=by omega
   subst ej;subst ek;rw[iha ha wH,ihb hb hb']
  | or a c=>simp[VF] at Kd
 | or a b iha ihb=>
  intro t' i h h';obtain⟨j,k,hj,hk,hx,ha,hb⟩:=h;obtain⟨x',Vi,Kd⟩:=RepF.node h';have e:=Option.some.inj (Vi.symm.trans hx);rw[e] at Kd;cases t' with
  | c b'=>cases b'<;>simp[VF] at Kd
  | v n'=>simp[VF] at Kd
  | not a'=>simp[VF] at Kd
  | and a c=>simp[VF] at Kd
  | or a' b'=>
   obtain⟨j',k',fi,Yq,wG,wH,hb'⟩:=h';have:=yy (Option.some.inj (hx.symm.trans wG));have ej:j=j':=by omega
   have ek:k=k':=by omega
   subst ej;subst ek;rw[iha ha wH,ihb hb hb']
open Classical in
def eJ (f:List Fz):Fm:=if h:∃t,RepF f t (f.length-1)then h.choose else .c false
theorem DE {f:List Fz}{t:Fm}(h:RepF f t (f.length-1)):eJ f=t:=by
 have fe:∃t,RepF f t (f.length-1):=⟨t,h⟩
 unfold eJ;rw[dif_pos fe];exact mQl fe.choose_spec h
theorem dQG {f:List Fz}(h:FV f):RepF f (eJ f) (f.length-1):=by
 obtain⟨t,ht⟩:=M2 h.2.2.1 (f.length-1) (by have:=h.2.1;omega);rw[DE ht];exact ht
def lv (n:Nat)(f:List Fz):Prop:=∀x∈f,x.o=2->x.v<n
theorem qU {n:Nat}{f:List Fz}(h:lv n f):∀{t:Fm}{i:Nat},RepF f t i->VarsIn n t
 | .c _,_,_=>trivial
 | .v k,_,hr=>by have:=h _ (Xe hr) rfl;simp only at this;show k<n;omega
 | .not a,_,⟨_,_,_,ha⟩=>show VarsIn n a from qU h ha
 | .and a b,_,⟨_,_,_,_,_,ha,hb⟩=>⟨show VarsIn n a from qU h ha,show VarsIn n b from qU h hb⟩
 | .or a b,_,⟨_,_,_,_,_,ha,hb⟩=>⟨show VarsIn n a from qU h ha,show VarsIn n b from qU h hb⟩
open Classical in
def jq (names:List (List Nat))(f:List Fz):List Nat×Int:=if ZJ names then if FV f/\lv names.length f then(ZE names 0 (eJ f),0)else([],30)else([],1)
theorem dQH {names:List (List Nat)}{f:List Fz}(h:ZJ names=false):jq names f=([],1):=by unfold jq;rw[h]<;>rfl
theorem M3 {names:List (List Nat)}{f:List Fz}(h:ZJ names=true)(hv:FV f)(ho:lv names.length f):jq names f=(ZE names 0 (eJ f),0):=by unfold jq;rw[Qe h,Qe ⟨hv,ho⟩]
theorem M4 {names:List (List Nat)}{f:List Fz}(h:ZJ names=true)(hv:¬(FV f/\lv names.length f)):jq names f=([],30):=by unfold jq;rw[Qe h,if_neg hv]
def M5 (w:World)(r:List Nat×Int)(v:Value)(w':World):Prop:=v= .tuple #[.string (Qf r.1),.int .i64 r.2]/\Ext w w'
theorem dQI {nm:List (List Nat)}(hn:Ke nm):∀(t:Fm),∀x∈Z4 nm t,x<256:=by
 have par:∀(b:Bool) (s:List Nat),(∀x∈s,x<256)->∀x∈VY b s,x<256:=by
  intro b s h x hx;unfold VY at hx;split at hx
  ·simp only[XB,QX,Z3,Z9,Yd] at hx;rcases hx with rfl | hx | rfl
   ·decide
   ·exact h x hx
   ·decide
  ·exact h x hx
 intro t;induction t with
 | c b=>
  cases b
  ·show∀x∈bm,x<256;decide
  ·show∀x∈YN,x<256;decide
 | v n=>
  intro x hx;unfold Z4 at hx;cases h:nm[n]? with
  | none=>rw[h] at hx;cases hx
  | some s=>rw[h] at hx;exact(hn s (Xe h)).1 x hx
 | not a ih=>
  intro x hx;unfold Z4 at hx;simp only[QX] at hx;rcases hx with rfl | hx
  ·decide
  ·exact par _ _ ih x hx
 | and a b iha ihb=>
  intro x hx;unfold Z4 at hx;simp only[XB,QX,Z3,Z9] at hx;rcases hx with(hx | hx) | hx
  ·exact par _ _ iha x hx
  ·omega
  ·exact par _ _ ihb x hx
 | or a b iha ihb=>
  intro x hx;unfold Z4 at hx;simp only[XB,QX,Z3,Z9] at hx;rcases hx with(hx | hx) | hx
  ·exact par _ _ iha x hx
  ·omega
  ·exact par _ _ ihb x hx
theorem dQJ (names:List (List Nat))(A FA:Option Addr)(n c nf cf:Nat)(f:List Fz)(w:World)(h:Sl w 1 A n c (X4 names))(hb:Ke names)(hF:SF w FA nf cf f)(hl:FV f->lv names.length f->(ZE names 0 (eJ f)).length<=140737488355328):
  Fn Tryz.prog 134 [.slice A n c,.slice FA nf cf] w (M5 w (jq names f)):=by
 have Kk:=hF.2;have Kn:names.length=n:=by have:=h.len;rw[aF] at this;omega
 refine QF (c:={bQT with cuts:=[6]}) Qa Tryz.func134 rfl rfl rfl ?_;refine call (Du names A n c w h hb) ?_;rintro v w1 ⟨v1,rfl,Qd,_⟩;cases Zl:ZJ names with
 | false=>
  refine Xc rfl ?_;exact⟨by rw[dQH Zl];rfl,Qd⟩
 | true=>
  refine Xt rfl ?_;refine call (M1 FA nf cf f w1 (hF.ext Qd)) ?_;rintro v w2 ⟨rfl,Qg⟩;have Q4:=Qd.trans Qg;refine aB (λh1=>?_) (λh1=>?_)
  ·exact⟨by rw[M4 Zl (λhh=>h1 (yv hh.1))];rfl,Q4⟩
  have hv:=dQo.1 h1;refine ia [] Qa [] (λ_:Unit=>[]) (λ_ w'=>Ext w w'/\lv names.length f) ?_ ?_
  ·refine loop Qa [23] (λs:Nat=>[.int .i64 s]) (λs w'=>Ext w w'/\s<=nf/\∀j x,j<s->f[j]? =some x->x.o=2->x.v<n) (λs _=>nf-s) 0 rfl ⟨Q4,XM _,λj x hj=>Xm hj (by omega)⟩ ?_;rintro s w3 ⟨Qj,hs,hall⟩;refine QB (λh3=>?_) (λh3=>?_)
   ·refine Zo yr (hF.ext Qj) rfl (by omega) (λp x hx hc=>?_);refine J4 (vs:=x.cells) rfl hc ?_;refine new (λw4 Qq Kz QZ=>?_);refine Qx QZ rfl (sc rfl) (λw5 Jk Kv QH=>?_);have JW:Ext w3 w5:=X0 Qq QZ Jk;have Qt:=Qj.trans JW;have next:(x.o=2->x.v<n)->∀j y,j<s+1->f[j]? =some y->y.o=2->y.v<n:=λhq j y hj hy ho=>by
     by_cases Ys:j<s
     ·exact hall j y Ys hy ho
     ·have:j=s:=by omega
      subst this;have e:=Option.some.inj (hy.symm.trans hx);subst e;exact hq ho
    refine Qv QH rfl ?_;refine Zn (λh4=>?_) (λh4=>?_)
    ·refine Qp QH rfl ?_;refine QB (λh5=>?_) (λh5=>?_)
     ·refine⟨?_,Qt⟩;rw[M4 Zl (λhh=>by have:=hh.2 x (Xe hx) h4;omega)];rfl
     ·refine Qm ((s+1:Nat):Int) (by omega) (by have:=hv.1;omega) ?_;exact⟨s+1,rfl,⟨Qt,by omega,next (λ_=>by omega)⟩,by show nf-(s+1)<nf-s;omega⟩
    ·refine Qm ((s+1:Nat):Int) (by omega) (by have:=hv.1;omega) ?_;exact⟨s+1,rfl,⟨Qt,by omega,next (λho=>Xm ho h4)⟩,by show nf-(s+1)<nf-s;omega⟩
   ·refine⟨(),rfl,Qj,λx hx ho=>?_⟩;obtain⟨j,hj,rfl⟩:=CJ.1 hx;rw[Kn];exact hall j _ (by omega) (Xs hj) ho
  rintro⟨⟩ w3 ⟨Qj,Ih⟩;have ht:=dQG hv;have fj:=hv.2.1;refine new (λw4 Qq Kz QZ=>?_);have hb4:Bld w4 w4.heap.size w3.heap.size 109 [] none 0 []:=⟨by omega,QE _,⟨_,.inl rfl,QZ⟩,Own.nil _ _ _ _⟩
  refine Qm ((nf-1:Nat):Int) (by omega) (by have:=hv.1;omega) ?_;have mZ:=hl hv Ih;rw[Kk] at ht;refine call (dQF w4.heap.size w3.heap.size w3 A n c names FA nf cf f (h.ext Qj) hb (hF.ext Qj) (QE _) (eJ f) (nf-1) 0 none 0 [] w4 Qq hb4 ht (by rw[<-Kn];exact qU Ih ht) (by rw[Z8];omega) (by omega)) ?_;rintro v w5 ⟨A5,c5,We,XO,VN⟩;rw[ep] at We;have Qt:Ext w w5:=XO.ext (Qj.trans Qq) (λi hi=>by
   rcases hi with rfl | ⟨_,e,_⟩
   ·exact Qj.size
   ·cases e)
  have h8:∀x∈ZE names 0 (eJ f),x<256:=by
   unfold ZE VY;rw[if_neg (by simp)];exact dQI hb _
  refine call (cQU w4.heap.size w3.heap.size _ [] A5 c5 _ w5 We h8 mZ) ?_;rintro v w6 ⟨rfl,V7⟩;refine⟨by rw[M3 Zl hv Ih],V7.ext Qt (λi hi=>?_)⟩;have:=(We.own.rows i hi).1;have:=Qj.size;omega
end
section
structure Br where
 v:Int
 l:Int
 h:Int
deriving DecidableEq
def Br.cells (x:Br):List Value:=[.int .i64 x.v,.int .i64 x.l,.int .i64 x.h]
theorem Y5 (x:Br):x.cells.length=3:=rfl
abbrev SB (w:World)(A:Option Addr)(n c:Nat)(d:List Br):Prop:=SlS Br.cells 3 w A n c d
def Xg (A:Option Addr)(n c:Nat)(r:Int):Value:=.agg #[.slice A n c,.int .i64 r]
def Qk (d:List Br)(n:Int):Int:=if n<2 then 64 else(d[(n-2).toNat]?.map (·.v)).getD 64
def X5 (nd:List Br):Nat->Int->List Br×List Nat->Int×(List Br×List Nat)
 | 0,n,st=>(n,st)
 | m+1,n,st=>if n<2 then(n,st)else
   if 0<st.2[(n-2).toNat]?.getD 0 then((st.2[(n-2).toNat]?.getD 0:Nat),st)else
    match nd[(n-2).toNat]? with
    | none=>(n,st)
    | some x=>
     let a:=X5 nd m x.l st
     let b:=X5 nd m x.h a.2
     (((b.2.1.length+2:Nat):Int),(b.2.1++ [⟨x.v,a.1,b.1⟩],b.2.2.set (n-2).toNat (b.2.1.length+2)))
def aG (nd:List Br)(r:Int):List Br×Int:=let a:=X5 nd (r.toNat+1) r ([],List.replicate nd.length 0);(a.2.1,a.1)
def WD (nd:List Br):Prop:=∀(j:Nat)(x:Br),nd[j]? =some x->0<=x.l/\x.l<j+2/\0<=x.h/\x.h<j+2
def fK (nd:List Br)(j:Nat)(b:Br):Prop:=0<=b.v/\b.v<=63/\0<=b.l/\b.l<j+2/\0<=b.h/\b.h<j+2/\b.l≠b.h/\b∉nd.take j/\b.v<Qk nd b.l/\b.v<Qk nd b.h
def VD (nd:List Br)(r:Int):Prop:=(∀(j:Nat)(b:Br),nd[j]? =some b->fK nd j b)/\0<=r/\r<nd.length+2/\aG nd r=(nd,r)
open Classical in
def XC (nd:List Br)(r:Int):Int:=if 4096<nd.length then 2 else if VD nd r then 0 else 20
theorem dQK {nd:List Br}{r:Int}(h:4096<nd.length):XC nd r=2:=Qe h
theorem DF {nd:List Br}{r:Int}(h:¬4096<nd.length)(k:VD nd r):XC nd r=0:=(if_neg h).trans (Qe k)
theorem yz {nd:List Br}{r:Int}(h:¬4096<nd.length)(k:¬VD nd r):XC nd r=20:=(if_neg h).trans (if_neg k)
theorem eK {nd:List Br}{r:Int}:XC nd r=0↔¬4096<nd.length/\VD nd r:=by
 constructor
 ·intro h;unfold XC at h;split at h
  ·cases h
  ·split at h
   ·exact⟨by assumption,by assumption⟩
   ·cases h
 ·exactλh=>DF h.1 h.2
theorem VD.wf {nd:List Br}{r:Int}(h:VD nd r):WD nd:=λj x hx=>by
 obtain⟨_,_,h1,h2,h3,h4,_⟩:=h.1 j x hx;exact⟨h1,h2,h3,h4⟩
theorem cr (A:Option Addr)(n c:Nat)(r m:Int)(nd:List Br)(w:World)(h:SB w A n c nd)(hm:m<n+2):
  Fn Tryz.prog 103 [Xg A n c r,.int .i64 m] w (λv w'=>v= .int .i64 (Qk nd m)/\Ext w w'):=by
 have Xb:=h.2;refine QF (c:={bQC with cuts:=[]}) Qa Tryz.func103 rfl rfl rfl ?_;refine new (λw1 Qd Q2 Qh=>?_);refine QB (λh1=>?_) (λh1=>?_)
 ·exact⟨by unfold Qk;rw[Qe h1],Qd⟩
 ·refine Qv Qh rfl ?_;refine Qm (((m-2).toNat:Nat):Int) (by omega) (by have:=h.1.le;have:=h.1.cap;simp only[maxLen] at this;omega) ?_;refine Zo Y5 (h.ext Qd) rfl (by omega) (λp x hx hc=>?_);refine load (hc 0 _ rfl) ?_;exact⟨by unfold Qk;rw[if_neg h1,hx];rfl,Qd⟩
theorem od (a b c a' b' c':Int):(a==a'&&(b==b'&&(c==c'&&true)))=decide (a=a'/\b=b'/\c=c'):=by
 rw[nA];simp only[JR,beq_iff_eq,Vl,and_true]
theorem oe {x y:Br}:x=y↔x.v=y.v/\x.l=y.l/\x.h=y.h:=by
 constructor
 ·rintro rfl;exact⟨rfl,rfl,rfl⟩
 ·obtain⟨a,b,c⟩:=x;obtain⟨d,e,f⟩:=y;rintro⟨rfl,rfl,rfl⟩;rfl
theorem dQL {α:Type}{l l':List α}{j:Nat}{x y:α}(hx:l[j]? =some x)(hy:l'[j]? =some y)(h:x≠y):l≠l':=λe=>by subst e;exact h (Option.some.inj (hx.symm.trans hy))
theorem dQM {α:Type}{l l':List α}{n:Nat}(h1:l.length=n)(h2:l'.length=n)(h:∀j,j<n->l[j]? =l'[j]?):l=l':=by
 apply CG;intro j;by_cases hj:j<n
 ·exact h j hj
 ·rw[kW (by omega),kW (by omega)]
theorem dQN (A B:Option Addr)(n c m e:Nat)(l l':List Br)(w:World)(h:SB w A n c l)(h':SB w B m e l'):
  Fn Tryz.prog 158 [.slice A n c,.slice B m e] w (λv w'=>v= .bool (decide (l=l'))/\Ext w w'):=by
 have hl:=h.2;have bR:=h'.2;refine QF (c:={cQd with cuts:=[]}) Qa Tryz.func158 rfl rfl rfl ?_;refine aB (λh1=>?_) (λh1=>?_)
 ·exact⟨by rw[Zf (λe=>by subst e;omega)],Ext.refl w⟩
 refine loop Qa [13] (λs:Nat=>[.int .i64 s]) (λs w'=>Ext w w'/\s<=n/\∀j,j<s->l[j]? =l'[j]?) (λs _=>n-s) 0 rfl ⟨Ext.refl w,XM _,λj hj=>Xm hj (by omega)⟩ ?_;rintro s w1 ⟨Qd,hs,hall⟩;refine QB (λh2=>?_) (λh2=>?_)
 ·refine XJ Qa (Ext w1) 9 [(true,0),(true,1),(true,2),(true,3),(true,4),(true,5),(true,6),(true,7),(true,8)] (by kernel_rfl) (Ext.drew w1) ?_;refine Zo Y5 (h.ext Qd) rfl (by omega) (λp x hx hc=>?_);refine Xl (vs:=x.cells) rfl (λw' Qb j v hj=>Qb.cell (hc j v hj)) ?_;refine Zo Y5 (h'.ext Qd) rfl (by omega) (λq y hy Kc=>?_);refine Xl (vs:=y.cells) rfl (λw' Qb j v hj=>Qb.cell (Kc j v hj)) ?_;have bS:=Qd.trans (Ext.drew w1);by_cases Xr:x=y
  ·refine Xt (by rw[od,XX (oe.1 Xr)];rfl) ?_;refine Qm ((s+1:Nat):Int) (by omega) (by have:=h.1.le;have:=h.1.cap;simp only[maxLen] at this;omega) ?_;refine⟨s+1,rfl,⟨bS,by omega,λj hj=>?_⟩,by show n-(s+1)<n-s;omega⟩;by_cases Ys:j<s
   ·exact hall j Ys
   ·have:j=s:=by omega
    subst this;rw[hx,hy,Xr]
  ·refine Xc (by rw[od,Zf (λe=>Xr (oe.2 e))];rfl) ?_;exact⟨by rw[Zf (dQL hx hy Xr)],bS⟩
 ·exact⟨by rw[XX (dQM hl (by omega) (λj hj=>hall j (by omega)))],Qd⟩
theorem dQO (A B:Option Addr)(n c m e:Nat)(l l':List Br)(r r':Int)(w:World)(h:SB w A n c l)(h':SB w B m e l'):
  Fn Tryz.prog 105 [Xg A n c r,Xg B m e r'] w (λv w'=>v= .bool (decide ((l,r)=(l',r')))/\Ext w w'):=by
 refine QF (c:={bQE with cuts:=[]}) Qa Tryz.func105 rfl rfl rfl ?_;refine new (λw1 Qd Q2 Qh=>?_);refine new (λw2 Qg X9 Qw=>?_);have KV:=Qh.ext Qg;have Q4:=Qd.trans Qg;refine Qp KV rfl ?_;refine Qp Qw rfl ?_;refine Zn (λh1=>?_) (λh1=>?_)
 ·refine Qv KV rfl ?_;refine Qv Qw rfl ?_;refine call (dQN A B n c m e l l' w2 (h.ext Q4) (h'.ext Q4)) ?_;rintro v w3 ⟨rfl,Qj⟩;refine⟨?_,Q4.trans Qj⟩;congr 1;exact qq.2 ⟨λe=>by rw[e,h1],λe=>by cases e;rfl⟩
 ·exact⟨by rw[Zf (λe=>h1 (by cases e;rfl))],Q4⟩
end
section
theorem M6 {α:Type} [DecidableEq α]{kv:α->Value}{c:Cx}{o:Oper}{S:Env}{w:World}{K:Env->World->Prop}{Q:Zd}{t ke e:Nat}{r rk:TyRow}{x y:Operand}{q:Nat}{m:List (α×Value)}{a:α}{v:Value}{z:Operand}(hg:c.g.Ok)
  (ho:o.op= .insert t x y z) (gF:o.dst=none) (hr:QR c.g.tys t=some r) (hd:r.d= .map ke e) (ap:QR c.g.tys ke=some rk) (hk:KeyV rk.d kv)
  (hx:S.ev x=some (.map (some q))) (hy:S.ev y=some (kv a)) (hz:S.ev z=some v) (hm:MapAt kv w q m)
  (k:∀w1,w.grownBy w1 (some q)->w1.heap.size=w.heap.size->MapAt kv w1 q (X8 a v m)->K S w1):X3 c o S w K Q:=by
 have h:X3 c {o with op:=.mapUpdate t x y z} S w K Q:=jo hg rfl gF hr hd ap hk hx hy hz hm k;unfold X3 at*;intro b hf;have h1:=h b hf;unfold Oper.wp at*;have e:(execOp b.eval o).run c.g.P w=(execOp b.eval {o with op:=.mapUpdate t x y z}).run c.g.P w:=by simp only[execOp,ho]
 rw[e];generalize (execOp b.eval {o with op:=.mapUpdate t x y z}).run c.g.P w=r at*;cases r with
 | ok n w'=>cases n<;>simp only[Oper.upon] at h1 ⊢ <;> exact h1
 | halt x w'=>cases x<;>simp only[Oper.upon] at h1 ⊢ <;> exact h1
theorem dQP {l:List Nat}{j v:Nat}(h:l[j]? =some 0)(hv:0<v):(l.set j v).count 0+1=l.count 0:=by
 induction l generalizing j with
 | nil=>simp at h
 | cons x l ih=>
  cases j with
  | zero=>
   simp at h;subst h;rw[List.set_cons_zero,List.count_cons_of_ne (by omega),List.count_cons_self]
  | succ j=>
   simp at h;have:=ih h;rw[List.set_cons_succ,xC,xC];omega
theorem jr {nd:List Br}{m:Nat}{n:Int}{st:List Br×List Nat}(h:n<2):X5 nd (m+1) n st=(n,st):=by rw[X5,Qe h]
theorem js {nd:List Br}{m:Nat}{n:Int}{st:List Br×List Nat}(h:¬n<2)(k:0<st.2[(n-2).toNat]?.getD 0):X5 nd (m+1) n st=(((st.2[(n-2).toNat]?.getD 0:Nat):Int),st):=by rw[X5,if_neg h,Qe k]
theorem lw {nd:List Br}{m:Nat}{n:Int}{st:List Br×List Nat}{x:Br}(h:¬n<2)(k:¬0<st.2[(n-2).toNat]?.getD 0)(hx:nd[(n-2).toNat]? =some x):
  X5 nd (m+1) n st=((((X5 nd m x.h (X5 nd m x.l st).2).2.1.length+2:Nat):Int),((X5 nd m x.h (X5 nd m x.l st).2).2.1++ [⟨x.v,(X5 nd m x.l st).1,(X5 nd m x.h (X5 nd m x.l st).2).1⟩],(X5 nd m x.h (X5 nd m x.l st).2).2.2.set (n-2).toNat ((X5 nd m x.h (X5 nd m x.l st).2).2.1.length+2))):=by
 rw[X5,if_neg h,if_neg k,hx]
structure VisF (nd:List Br) (n:Int) (st Wp:List Br×List Nat):Prop where
 len:Wp.2.length=nd.length
 keep:∀k:Nat,n<(k:Int)+2->Wp.2[k]? =st.2[k]?
 cnt:Wp.1.length+Wp.2.count 0<=st.1.length+st.2.count 0
 ge:st.1.length<=Wp.1.length
theorem jt {nd:List Br}(hw:WD nd):∀(m:Nat)(n:Int)(st:List Br×List Nat),0<=n->n<m->n<nd.length+2->st.2.length=nd.length->VisF nd n st (X5 nd m n st).2
 | 0,n,st,h0,hm,_,_=>by omega
 | m+1,n,st,h0,hm,hn,hl=>by
  by_cases h1:n<2
  ·rw[jr h1];exact⟨hl,λ_ _=>rfl,QE _,QE _⟩
  by_cases h2:0<st.2[(n-2).toNat]?.getD 0
  ·rw[js h1 h2];exact⟨hl,λ_ _=>rfl,QE _,QE _⟩
  have hj:(n-2).toNat<nd.length:=by omega
  have hx:=Xs hj;obtain⟨w1,w2,w3,w4⟩:=hw _ _ hx;rw[lw h1 h2 hx];have f1:=jt hw m nd[(n-2).toNat].l st w1 (by omega) (by omega) hl;have f2:=jt hw m nd[(n-2).toNat].h _ w3 (by omega) (by omega) f1.len;generalize (X5 nd m nd[(n-2).toNat].l st)=a at*;generalize (X5 nd m nd[(n-2).toNat].h a.2)=b at*;have hz:st.2[(n-2).toNat]? =some 0:=by
   have:st.2[(n-2).toNat]? =some st.2[(n-2).toNat]:=Xs (by omega);rw[this] at h2 ⊢;simp only[gT] at h2;congr 1;omega
  have X9:b.2.2[(n-2).toNat]? =some 0:=by rw[f2.keep _ (by omega),f1.keep _ (by omega),hz]
  have hc:=dQP (v:=b.2.1.length+2) X9 (by omega);have c1:=f1.cnt;have c2:=f2.cnt;have g1:=f1.ge;have g2:=f2.ge;refine⟨by rw[bZ];exact f2.len,λk hk=>?_,?_,?_⟩
  ·rw[ew (by omega),f2.keep k (by omega),f1.keep k (by omega)]
  ·rw[Qy];simp only[Xk,Z8];omega
  ·rw[Qy];omega
abbrev W9:Int->Value:=λn=>.int .i64 n
def MapOk (num:List Nat)(m:List (Int×Value)):Prop:=∀n:Int,0<=n->Xv n m=if n<2 then some (.int .i64 n)else if 0<num[(n-2).toNat]?.getD 0 then some (.int .i64 (num[(n-2).toNat]?.getD 0:Nat))else none
theorem MapOk.set {num:List Nat}{m:List (Int×Value)}(h:MapOk num m){n:Int}(h2:¬n<2)(hl:(n-2).toNat<num.length){v:Nat}(hv:0<v):MapOk (num.set (n-2).toNat v) (X8 n (.int .i64 (v:Nat)) m):=by
 intro k hk;rw[W7];by_cases e:k=n
 ·subst e;rw[Qe rfl,if_neg h2,gU hl];simp only[gT];rw[Qe hv]
 ·rw[if_neg e,h k hk];by_cases Vr:k<2
  ·rw[Qe Vr,Qe Vr]
  ·rw[if_neg Vr,if_neg Vr,ew (by omega)]
theorem dQQ (n:Nat):MapOk (List.replicate n 0) (X8 1 (.int .i64 1) (X8 0 (.int .i64 0) [])):=by
 intro k hk;rw[W7,W7];by_cases h1:k=1
 ·subst h1;rfl
 ·rw[if_neg h1];by_cases h0:k=0
  ·subst h0;rfl
  ·rw[if_neg h0,if_neg (by omega),if_neg]
   ·rfl
   ·cases h:(List.replicate n 0)[(k-2).toNat]? with
    | none=>simp
    | some x=>
     have:=CM (Xe h);rw[this];simp
end
section
def ju (l:List Br):List Value:=l.flatMap Br.cells
theorem yA (l:List Br)(x:Br):ju (l++ [x])=ju l++x.cells:=by simp[ju]
structure VP where
 mb:Nat
 q:Nat
 bb:Nat
 bp:Nat
 fb:Nat
 ob:Nat
def VP.ptr (i:Nat):Value:=.pointer (some ⟨i,0,none⟩)
def VP.clo (p:VP):Value:=.func (.func 157) #[] #[VP.ptr p.mb,VP.ptr p.bb,VP.ptr p.fb,VP.ptr p.ob]
structure VK (w:World) (base:Nat) (p:VP) (NA:Option Addr) (nn nc:Nat) (nd:List Br):Prop where
 mbx:Blk w p.mb 238 [.map (some p.q)]
 bbx:Blk w p.bb 174 [VP.ptr p.bp]
 bpx:∃kv,Blk w p.bp 177 [.slice NA nn nc,kv]
 fbx:Blk w p.fb 215 [p.clo]
 nds:SB w NA nn nc nd
 lt:p.q<base/\p.ob<base
 ne:p.q≠p.ob/\p.q≠p.mb/\p.q≠p.bb/\p.q≠p.bp/\p.q≠p.fb/\p.ob≠p.mb/\p.ob≠p.bb/\p.ob≠p.bp/\p.ob≠p.fb
 lt2:p.mb<base/\p.bb<base/\p.bp<base/\p.fb<base
 row:∀ad,NA=some ad->0<nn->ad.block<base/\ad.block≠p.q/\ad.block≠p.ob
def VS (p:VP)(A:Option Addr):Nat->Prop:=λk=>k=p.q∨k=p.ob∨Qi A k
theorem VS.moved {w:World}{p:VP}{A A':Option Addr}(h:Moved w A A'):∀k,VS p A' k->VS p A k∨w.heap.size<=k:=by
 rintro k (rfl | rfl | hk)
 ·exact .inl (.inl rfl)
 ·exact .inl (.inr (.inl rfl))
 ·rcases h.rows k hk with h | h
  ·exact .inl (.inr (.inr h))
  ·exact .inr h
theorem Mod.cell {S:Nat->Prop}{w w':World}(k:Mod S w w'){a:Addr}{v:Value}(h:w.cell? a=some v)(hn:¬S a.block):w'.cell? a=some v:=by
 have Xa:=World.block_lt_of_cell? w a h;have e:=k.block a.block Xa hn;unfold World.cell? at h ⊢;rw[e];exact h
theorem Sl.modS {S:Nat->Prop}{w w':World}{sz n c:Nat}{A:Option Addr}{cs:List Value}(h:Sl w sz A n c cs)(k:Mod S w w')(hn:0<n->∀i,Qi A i->¬S i):Sl w' sz A n c cs:=
 ⟨h.len,h.le,h.cap,λh0=>by
  obtain⟨ad,rfl,hc⟩:=h.at_ h0;exact⟨ad,rfl,λj u hu=>k.cell (hc j u hu) (hn h0 _ ⟨ad,rfl,(nV ad j).symm⟩)⟩⟩
theorem DG {α:Type} [DecidableEq α]{kv:α->Value}{c:Cx}{o:Oper}{S:Env}{w:World}{K:Env->World->Prop}{Q:Zd}{t ke e:Nat}{r rk re:TyRow}{x y:Operand}{q:Nat}{m:List (α×Value)}{a:α}{v:Value}(hg:c.g.Ok)
  (ho:o.op= .lookup t x y false) (hr:QR c.g.tys t=some r) (hd:r.d= .map ke e) (ap:QR c.g.tys ke=some rk) (X2:QR c.g.tys e=some re) (hk:KeyV rk.d kv)
  (hx:S.ev x=some (.map (some q))) (hy:S.ev y=some (kv a)) (hm:MapAt kv w q m) (hv:(Xv a m).getD re.z=v) (k:Xf c S o.dst (.v v) (λS=>K S w)):X3 c o S w K Q:=by
 subst hv;exact bQt hg ho hr hd ap X2 hk hx hy hm k
theorem VK.mod {w w':World}{base:Nat}{p:VP}{NA OA:Option Addr}{nn nc:Nat}{nd:List Br}(h:VK w base p NA nn nc nd)(hr:∀i,Qi OA i->base<=i)(hm:Mod (VS p OA) w w'):VK w' base p NA nn nc nd:=by
 obtain⟨n1,n2,n3,n4,n5,n6,n7,n8,n9⟩:=h.ne;obtain⟨l1,l2,l3,l4⟩:=h.lt2;have key:∀i,i<base->i≠p.q->i≠p.ob->¬VS p OA i:=λi hi hq ho e=>by
  rcases e with e | e | e
  ·exact hq e
  ·exact ho e
  ·have:=hr i e;omega
 obtain⟨kv,Ii⟩:=h.bpx;refine⟨h.mbx.mod hm (key _ l1 n2.symm n6.symm),h.bbx.mod hm (key _ l2 n3.symm n7.symm),⟨kv,Ii.mod hm (key _ l3 n4.symm n8.symm)⟩,h.fbx.mod hm (key _ l4 n5.symm n9.symm),⟨h.nds.1.modS hm ?_,h.nds.2⟩,h.lt,h.ne,h.lt2,h.row⟩;rintro h0 i ⟨ad,rfl,rfl⟩;obtain⟨r1,r2,r3⟩:=h.row ad rfl h0;exact key _ r1 r2 r3
structure VSt (w:World) (base:Nat) (p:VP) (r0:Int) (OA:Option Addr) (oc:Nat) (st:List Br×List Nat):Prop where
 own:Own w base 105 3 OA st.1.length oc (ju st.1)
 obx:Blk w p.ob 32 [.slice OA st.1.length oc,.int .i64 r0]
 mp:∃mm,MapAt W9 w p.q mm/\MapOk st.2 mm
 top:base<=w.heap.size
theorem VSt.ext {w w':World}{base:Nat}{p:VP}{r0:Int}{OA:Option Addr}{oc:Nat}{st:List Br×List Nat}(h:VSt w base p r0 OA oc st)(k:Ext w w'):VSt w' base p r0 OA oc st:=
 ⟨h.own.ext k,h.obx.ext k,let ⟨mm,h1,h2⟩:=h.mp;⟨mm,h1.ext k,h2⟩,Ze h.top k.size⟩
def VTo (w:World)(base:Nat)(p:VP)(r0:Int)(OA:Option Addr)(st:List Br×List Nat)(w':World):Prop:=∃OA' oc',VSt w' base p r0 OA' oc' st/\Mod (VS p OA) w w'/\Moved w OA OA'
theorem M7 (base:Nat)(p:VP)(r0:Int)(NA:Option Addr)(nn nc:Nat)(nd:List Br)(YX:WD nd)(d7:nn<=1000000000000):∀(m:Nat)(n:Int)(st:List Br×List Nat)(OA:Option Addr)(oc:Nat)(w:World),
  VK w base p NA nn nc nd->VSt w base p r0 OA oc st->0<=n->n<m->n<nn+2->st.2.length=nn->st.1.length+st.2.count 0<=1000000000000->
  Fn Tryz.prog 157 [.int .i64 n,VP.ptr p.mb,VP.ptr p.bb,VP.ptr p.fb,VP.ptr p.ob] w (λv w'=>v= .int .i64 (X5 nd m n st).1/\VTo w base p r0 OA (X5 nd m n st).2 w')
 | 0,n,st,OA,oc,w,_,_,h0,hm,_,_,_=>by omega
 | m+1,n,st,OA,oc,w,hK,hS,h0,hm,hn,hl,hc=>by
  have ih:=M7 base p r0 NA nn nc nd YX d7 m;have Kn:nd.length=nn:=hK.nds.2;obtain⟨mm,s6,hmo⟩:=hS.mp;have Vv:=hS.own.rows;have lQX:=s6.lt;have lQY:=hS.obx.lt;refine QF (c:={cQc with cuts:=[]}) Qa Tryz.func157 rfl rfl rfl ?_;refine Qv hK.mbx rfl ?_;have Wo:=hmo n h0;by_cases h1:n<2
  ·rw[Qe h1] at Wo;refine t7 (kv:=W9) (a:=n) (v:=.int .i64 n) (b:=true) Qa rfl rfl rfl rfl rfl (KeyV.int .i64) rfl rfl s6 (by rw[Wo];rfl) (by rw[Wo];rfl) ?_;refine Xc rfl ?_;refine⟨by rw[jr h1],OA,oc,?_,Mod.refl _ _,Moved.refl _ _⟩;rw[jr h1];exact hS
  rw[if_neg h1] at Wo;by_cases h2:0<st.2[(n-2).toNat]?.getD 0
  ·rw[Qe h2] at Wo;refine t7 (kv:=W9) (a:=n) (v:=.int .i64 (st.2[(n-2).toNat]?.getD 0:Nat)) (b:=true) Qa rfl rfl rfl rfl rfl (KeyV.int .i64) rfl rfl s6 (by rw[Wo];rfl) (by rw[Wo];rfl) ?_;refine Xc rfl ?_;refine⟨by rw[js h1 h2],OA,oc,?_,Mod.refl _ _,Moved.refl _ _⟩;rw[js h1 h2];exact hS
  rw[if_neg h2] at Wo;refine t7 (kv:=W9) (a:=n) (v:=.int .i64 0) (b:=false) Qa rfl rfl rfl rfl rfl (KeyV.int .i64) rfl rfl s6 (by rw[Wo];rfl) (by rw[Wo];rfl) ?_;refine Xt rfl ?_;have hj:(n-2).toNat<nd.length:=by omega
  have hx:=Xs hj;generalize nd[(n-2).toNat]=x at hx;obtain⟨x1,x2,x3,x4⟩:=YX _ _ hx;obtain⟨kv,Ii⟩:=hK.bpx;refine Qv hK.bbx rfl ?_;refine Qv Ii rfl ?_;refine Qm (((n-2).toNat:Nat):Int) (by omega) (by omega) ?_;refine Zo Y5 hK.nds rfl (by omega) (λad y hy iQ=>?_);have gG:y=x:=Option.some.inj (hy.symm.trans hx);subst gG;refine J4 (vs:=y.cells) rfl iQ ?_;refine new (λw1 Qd Q2 Qh=>?_);refine Qx Qh rfl (sc rfl) (λw2 ga X9 Kh=>?_);have Qg:Ext w w2:=X0 Qd Qh ga;have zU:Mod (VS p OA) w w2:=Mod.of_ext _ Qg;have FG:=hK.mod (λi hi=>(Vv i hi).1) zU;have FH:=hS.ext Qg;have gI:¬VS p OA w.heap.size:=λe=>by
   rcases e with e | e | e
   ·omega
   ·omega
   ·have:=(Vv _ e).2;omega
  refine Qv FG.fbx rfl ?_;refine Qp Kh rfl ?_;have f1:=jt YX m y.l st x1 (by omega) (by omega) (by omega);refine call (ih y.l st OA oc w2 FG FH x1 (by omega) (by omega) hl hc) ?_;rintro v w3 ⟨rfl,OA3,FI,rZ,ZP,j0⟩;have dK:=FG.mod (λi hi=>(Vv i hi).1) ZP;have KU:=Kh.mod ZP gI;have Fv:=rZ.own.rows;have rY:¬VS p OA3 w.heap.size:=λe=>(VS.moved j0 _ e).elim gI (λh=>by omega)
  refine Qv dK.fbx rfl ?_;refine Qp KU rfl ?_;have f2:=jt YX m y.h _ x3 (by omega) (by omega) f1.len;have c1:=f1.cnt;have c2:=f2.cnt;refine call (ih y.h _ OA3 FI w3 dK rZ x3 (by omega) (by omega) (by rw[f1.len];exact Kn) (by omega)) ?_;rintro v w4 ⟨rfl,OA4,Sc,Wf,Kt,oY⟩;have Ym:=KU.mod Kt rY;have oZ:=Wf.own.rows;have j5:=ZP.trans Kt (VS.moved j0);have FJ:=j0.trans oY ZP.size;have vg:Mod (VS p OA) w w4:=zU.trans j5 (λi hi=>.inl hi);have vh:=FJ.back Qg.size;have Vt:=dK.mod (λi hi=>(Fv i hi).1) Kt;have s9:=lw (m:=m) h1 h2 hx;rw[s9];generalize (X5 nd m y.l st)=a at*;generalize (X5 nd m y.h a.2)=b at*;have kQx:¬Qi OA4 p.ob:=λe=>by have:=(oZ _ e).1;have:=hK.lt.2;omega
  have hnq:¬Qi OA4 p.q:=λe=>by have:=(oZ _ e).1;have:=hK.lt.1;omega
  refine Qv Wf.obx rfl ?_;refine Qv Ym rfl ?_;refine XE Qa [(⟨y.v,a.1,b.1⟩:Br).cells] rfl rfl rfl rfl rfl ⟨rfl,rfl,⟨⟩⟩ rfl (λcs h=>by simp only[QJ] at h;subst h;rfl) rfl (by decide) (by decide) ?_;intro w5 Qt Kv QH;have gg:=Wf.ext Qt;have j6:Sl w5 3 (some ⟨w4.heap.size,0,none⟩) 1 1 (⟨y.v,a.1,b.1⟩:Br).cells:=Sl.own (sz:=3) (n:=1) QH (QE _) (by decide) (by simp[Br.cells]);refine JE Qa rfl rfl rfl rfl rfl (by decide) rfl rfl ⟨_,rfl⟩ rfl rfl gg.own j6 (by intro u hu;simp[Br.cells] at hu;rcases hu with rfl | rfl | rfl<;>rfl) (by unfold maxLen;omega) (by show _*24<=_;omega) gg.top ?_;intro OA6 zV w6 KI vi vj;refine Kq (gg.obx.mod KI kQx) (by simp) (λw7 Q8 QY=>?_);have r5:Mod (VS p OA4) w4 w7:=((Mod.of_ext (VS p OA4) Qt).trans KI (λi hi=>.inl (.inr (.inr hi)))).trans Q8 (λi hi=>.inl (.inr (.inl hi)));have Wg:=Vt.mod (λi hi=>(oZ i hi).1) r5;obtain⟨m4,iQE,iQF⟩:=Wf.mp;have iQG:MapAt W9 w7 p.q m4:=((iQE.ext Qt).mod KI hnq).mod Q8 hK.ne.1;have Xb:b.2.2.length=nd.length:=f2.len;refine Qv Wg.mbx rfl ?_;refine Qv QY rfl ?_;refine Qm ((b.2.1.length+2:Nat):Int) (by omega) (by omega) ?_;refine jo (kv:=W9) (a:=n) Qa rfl rfl rfl rfl rfl (KeyV.int .i64) rfl rfl rfl iQG (λw8 V8 _ Sd=>?_);have ZA:Mod (·=p.q) w7 w8:=mQj V8 rfl;have iQH:=iQF.set h1 (by omega) (v:=b.2.1.length+2) (by omega);have iQI:Xv n (X8 n (.int .i64 ((b.2.1.length+2:Nat):Int)) m4)=some (.int .i64 ((b.2.1.length+2:Nat):Int)):=by rw[W7,Qe rfl]
  have o0:Mod (VS p OA4) w4 w8:=r5.trans ZA (λi hi=>.inl (.inl hi));have hK8:=Vt.mod (λi hi=>(oZ i hi).1) o0;refine Qv hK8.mbx rfl ?_;refine DG (kv:=W9) (a:=n) (v:=.int .i64 ((b.2.1.length+2:Nat):Int)) Qa rfl rfl rfl rfl rfl (KeyV.int .i64) rfl rfl Sd (by rw[iQI];rfl) ?_;have vk:=vi.rows;have el:(b.2.1++ [(⟨y.v,a.1,b.1⟩:Br)]).length=b.2.1.length+1:=by simp
  refine⟨rfl,OA6,zV,⟨?_,?_,⟨_,Sd,iQH⟩,?_⟩,vg.trans o0 (VS.moved vh),?_⟩
  ·rw[el,yA];refine(vi.mod Q8 (λi hi e=>?_)).mod ZA (λi hi e=>?_)
   ·have:=(vk i hi).1;have:=hK.lt.2;omega
   ·have:=(vk i hi).1;have:=hK.lt.1;omega
  ·rw[el];exact QY.mod ZA (λe=>hK.ne.1 e.symm)
  ·have:=Wf.top;have:=o0.size;omega
  ·exact vh.trans (vj.back Qt.size) vg.size
end
section
def ue (w:World)(r:List Br×Int)(v:Value)(w':World):Prop:=∃A n c,v=Xg A n c r.2/\Ext w w'/\SB w' A n c r.1/\∀i,Qi A i->w.heap.size<=i
theorem DH (bp:Nat)(kv:Value)(NA:Option Addr)(nn nc:Nat)(nd:List Br)(root:Int)(w:World)(hb:Blk w bp 177 [.slice NA nn nc,kv])(hN:SB w NA nn nc nd)(YX:WD nd)(d7:nn<=1000000000000)(h0:0<=root)(hr:root<nn+2)
  (mW:∀ad,NA=some ad->0<nn->ad.block<w.heap.size):
  Fn Tryz.prog 104 [.pointer (some ⟨bp,0,none⟩),.int .i64 root] w (ue w (aG nd root)):=by
 have Kn:nd.length=nn:=hN.2;have ee:=hb.lt;refine QF (c:={bQD with cuts:=[]}) Qa Tryz.func104 rfl rfl rfl ?_;refine new (λw1 Qd Q2 Qh=>?_);refine new (λw2 Qg X9 Qw=>?_);refine new (λw3 Qj JV Qu=>?_);refine Qx Qu rfl (sc rfl) (λw4 bH Kz QZ=>?_);have Kt:Mod (·=w2.heap.size) w3 w4:=mQj bH rfl;refine tV Qa W9 rfl ?_;intro w5 Qt Kv XO;refine M6 (kv:=W9) (a:=0) Qa rfl rfl rfl rfl rfl (KeyV.int .i64) rfl rfl rfl XO (λw6 Wd cL V7=>?_);refine M6 (kv:=W9) (a:=1) Qa rfl rfl rfl rfl rfl (KeyV.int .i64) rfl rfl rfl V7 (λw7 Zr YS Jv=>?_);have iQJ:Mod (·=w4.heap.size) w5 w7:=(mQj (S:=(·=w4.heap.size)) Wd rfl).trans (mQj (S:=(·=w4.heap.size)) Zr rfl) (λi hi=>.inl hi);refine new (λw8 Q9 Vs Xp=>?_);refine Kq Xp (by simp[JB]) (λw9 Zc JM=>?_);refine new (λQG Zw vl J9=>?_);refine Kq J9 (by simp[JB]) (λQD ZQ ZU=>?_);have z9:=Zc.size;have zW:=ZQ.size;have q1:Ext w w4:=Kt.ext ((Qd.trans Qg).trans Qj) (λi hi=>by omega);have q2:Ext w4 w7:=iQJ.ext Qt (λi hi=>by omega);have q3:Ext w7 w9:=Zc.ext Q9 (λi hi=>by omega);have q4:Ext w9 QD:=ZQ.ext Zw (λi hi=>by omega);have zX:Ext w QD:=((q1.trans q2).trans q3).trans q4
 let p:VP:=⟨w7.heap.size,w4.heap.size,w.heap.size,bp,w9.heap.size,w2.heap.size⟩
 have Fq:Blk QD w.heap.size 174 [VP.ptr bp]:=(((Qh.ext (Qg.trans Qj)).mod Kt (by omega)).ext q2).ext (q3.trans q4);have iQK:Blk QD w1.heap.size 32 [.slice none 0 0,.int .i64 0]:=(((Qw.ext Qj).mod Kt (by omega)).ext q2).ext (q3.trans q4);have FK:Blk QD w2.heap.size 32 [.slice none 0 0,.int .i64 0]:=(QZ.ext q2).ext (q3.trans q4);have iQL:Blk QD w7.heap.size 238 [.map (some w4.heap.size)]:=JM.ext q4;have iQM:MapAt W9 QD w4.heap.size _:=((Jv.ext Q9).mod Zc (by omega)).ext q4;have hK:VK QD QD.heap.size p NA nn nc nd:=by
  refine⟨iQL,Fq,⟨kv,hb.ext zX⟩,ZU,hN.ext zX,⟨?_,?_⟩,⟨?_,?_,?_,?_,?_,?_,?_,?_,?_⟩,⟨?_,?_,?_,?_⟩,λad e hn=>?_⟩
  all_goals try (show(_:Nat)≠_;simp only[p];omega)
  all_goals try (show(_:Nat)<_;simp only[p];omega)
  have:=mW ad e hn;refine⟨by omega,?_,?_⟩<;>(simp only[p];omega)
 have hS:VSt QD QD.heap.size p 0 none 0 ([],List.replicate nd.length 0):=⟨Own.nil _ _ _ _,FK,⟨_,iQM,dQQ _⟩,QE _⟩
 refine Qv ZU rfl ?_;refine call (M7 QD.heap.size p 0 NA nn nc nd YX d7 (root.toNat+1) root ([],List.replicate nd.length 0) none 0 QD hK hS h0 (by omega) hr (by simp[Kn]) (by simp;omega)) ?_;rintro v Q5 ⟨rfl,OA,oc,ah,Va,r6⟩;have sY:∀i,i≠w4.heap.size->i≠w2.heap.size->¬VS p none i:=λi h1 h2 e=>by
  rcases e with e | e | ⟨_,e,_⟩
  ·exact h1 e
  ·exact h2 e
  ·cases e
 have FL:=iQK.mod Va (sY _ (by omega) (by omega));have Vv:=ah.own.rows;refine XK ah.obx (by simp) (λXR J1 KJ=>?_);have gh:=FL.mod J1 (by show¬w1.heap.size=w2.heap.size;omega);refine Qs KJ rfl ?_;refine Qx gh rfl (sc rfl) (λZa dL _ JN=>?_);have KA:Mod (·=w1.heap.size) XR Za:=mQj dL rfl;refine Qs JN rfl ?_;have Xq:Ext w Q5:=Va.ext zX (λi hi=>by
  rcases hi with e | e | ⟨_,e,_⟩
  ·simp only[p] at e;omega
  ·simp only[p] at e;omega
  ·cases e)
 have Jl:Ext w Za:=KA.ext (J1.ext Xq (λi hi=>by have gJ:i=w2.heap.size:=hi;omega)) (λi hi=>by omega);refine⟨OA,_,oc,rfl,Jl,⟨?_,rfl⟩,λi hi=>Ze zX.size (Vv i hi).1⟩;have:∀i,Qi OA i->QD.heap.size<=i:=λi hi=>(Vv i hi).1
 exact((ah.own.mod J1 (λi hi e=>by have:=this i hi;have e':i=w2.heap.size:=e;omega)).mod KA (λi hi e=>by have:=this i hi;omega)).sl
end
section
theorem dQR {P:Program}{t:TypeId}{fs:Array Field}{ks:List Nat}{xs ys:Array Value}{b:Bool}{w:World}(hu:P.underlying t=some (.struct fs))(hh:P.stoodInHeld t=false)(hf:nG P 0 fs.toList ks=true)(h:cg ks xs.toList ys.toList=some b)(n:Nat):
  (Op.equalIn (n+2) t (.agg xs) (.agg ys)).run P w= .ok b w:=by
 have ZG:P.fieldsOf t=fs:=by simp[Program.fieldsOf,hu]
 rw[run_equalIn_struct w (n+1) t xs ys (by rw[ZG];exact hu) hh,ZG];exact C6 fs.toList ks 0 _ _ b hf h (λj=>by simp) (λj=>by simp) n w
theorem k3:di (Tryz.prog.underlying 3)<3:=by rw[Tryz.underlying3];decide
abbrev bn:Br->Value:=λb=>.agg b.cells.toArray
theorem dQS (a b:Br)(n:Nat)(w:World):(Op.equalIn (n+2) 105 (bn a) (bn b)).run Tryz.prog w= .ok (decide (a=b)) w:=by
 refine dQR (ks:=[0,0,0]) Tryz.underlying105 (by kernel_rfl) (by kernel_rfl) ?_ n;rw[show cg [0,0,0] a.cells.toArray.toList b.cells.toArray.toList=some (a.v==b.v&&(a.l==b.l&&(a.h==b.h&&true))) from rfl,od];congr 1;exact qq.2 oe.symm
theorem dQT (b:Bool)(a:Br)(n:Nat)(w:World):(Instr.checkKey b (n+2) 105 (bn a)).run Tryz.prog w= .ok () w:=by
 simp[Instr.checkKey,ZI Tryz.underlying105,ZI Tryz.underlying3,bn,Br.cells,bf k3 (cs:= #[Value.int IntKind.i64 a.v,Value.int IntKind.i64 a.l,Value.int IntKind.i64 a.h]) (n:=0) rfl,bf k3 (cs:= #[Value.int IntKind.i64 a.v,Value.int IntKind.i64 a.l,Value.int IntKind.i64 a.h]) (n:=1) rfl,bf k3 (cs:= #[Value.int IntKind.i64 a.v,Value.int IntKind.i64 a.l,Value.int IntKind.i64 a.h]) (n:=2) rfl]
theorem yB:KeyQ Tryz.prog 105 bn:=
 mQx Tryz.underlying105 (λa b w=>dQS a b 9998 w) (λb a w=>dQT b a 9998 w) (λa=>by simp[Br.cells,Instr.sameBits])
theorem DI {α:Type} [DecidableEq α]{kv:α->Value}{c:Cx}{o:Oper}{S:Env}{w:World}{K:Env->World->Prop}{Q:Zd}{t ke e:Nat}{r re:TyRow}{x y:Operand}{q:Nat}{m:List (α×Value)}{a:α}(hg:c.g.Ok)(ho:o.op= .lookup t x y false)(hr:QR c.g.tys t=some r)(hd:r.d= .map ke e)(X2:QR c.g.tys e=some re)(hk:KeyQ c.g.P ke kv)
  (hx:S.ev x=some (.map (some q))) (hy:S.ev y=some (kv a)) (hm:MapQ kv w q m) {v:Value} (hv:(Xv a m).getD re.z=v)
  (k:Xf c S o.dst (.v v) (λS=>K S w)):X3 c o S w K Q:=by
 refine Jh (w':=w) (λb hf=>?_) k;have e1:=hf.ev hx;have e2:=hf.ev hy;have:=MD (w:=w) (a:=a) hg hr hd X2 hk hm false;simp only[hv] at this;simp only[execOp,ho,e1,e2];simp only[Sem.run_bind,this,Result.andThen_ok];simp
theorem SB.lt {w:World}{A:Option Addr}{n c:Nat}{d:List Br}(h:SB w A n c d):∀ad,A=some ad->0<n->ad.block<w.heap.size:=by
 intro ad e hn;obtain⟨ad',e',hc⟩:=h.1.at_ hn;cases e.symm.trans e';have hl:=h.1.len;cases X6:d.flatMap Br.cells with
 | nil=>rw[X6] at hl;simp at hl;omega
 | cons u us=>
  rw[X6] at hc;have:=World.block_lt_of_cell? w _ (hc 0 u rfl);rw[nV] at this;exact this
end
section
theorem yC (A:Option Addr)(n c:Nat)(nd:List Br)(root:Int)(w:World)(h:SB w A n c nd):
  Fn Tryz.prog 52 [Xg A n c root] w (λv w'=>v= .int .i64 (XC nd root)/\Ext w w'):=by
 have Xb:=h.2;refine QF (c:={c52 with cuts:=[4]}) Qa Tryz.func52 rfl rfl rfl ?_;refine new (λw1 Qd Q2 Qh=>?_);refine Qv Qh rfl ?_;refine QB (λh1=>?_) (λh1=>?_)
 ·exact⟨by rw[dQK (by omega)],Qd⟩
 have fk:¬4096<nd.length:=by omega
 refine qI Qa bn rfl ?_;intro w2 Qg X9 XL;have Q4:=Qd.trans Qg;have Qw:=Qh.ext Qg;refine ia [] Qa [] (λ_:Unit=>[]) (λ_ w'=>Mod (·=w1.heap.size) w2 w'/\∀(j:Nat) (b:Br),j<n->nd[j]? =some b->fK nd j b) ?_ ?_
 ·refine Qv Qw rfl ?_;refine loop Qa [15] (λs:Nat=>[.int .i64 s]) (λs w'=>Mod (·=w1.heap.size) w2 w'/\s<=n/\(∀(j:Nat) (b:Br),j<s->nd[j]? =some b->fK nd j b)/\∃m,MapQ bn w' w1.heap.size m/\∀b,(Xv b m).getD (.bool false)= .bool (decide (b∈nd.take s))) (λs _=>n-s) 0 rfl ⟨Mod.refl _ _,XM _,λj b hj=>Xm hj (by omega),[],XL,λb=>by simp[Xv]⟩ ?_;rintro s w3 ⟨ZP,hs,hall,m,Xo,Ko⟩;have Qj:Ext w w3:=ZP.ext Q4 (λi hi=>by have:=Qd.size;omega);have Qu:=Qw.mod ZP (by omega);refine QB (λh2=>?_) (λh2=>?_)
  ·refine Zo Y5 (h.ext Qj) rfl (by omega) (λp x hx hc=>?_);refine J4 (vs:=x.cells) rfl hc ?_;refine new (λw4 Qq Kz QZ=>?_);refine Qx QZ rfl (sc rfl) (λw5 Jk Kv Ki=>?_);have JW:Ext w3 w5:=X0 Qq QZ Jk;have Qt:=Qj.trans JW;have XO:=Xo.ext JW;have QH:=Qu.ext JW;have bad:¬fK nd s x->∀w',Ext w w'->(Value.int .i64 20= .int .i64 (XC nd root))/\Ext w w':=λXi w' hE=>⟨by rw[yz fk (λhv=>Xi (hv.1 s x hx))],hE⟩
   refine Qv Ki rfl ?_;refine QB (λc1=>?_) (λc1=>?_)
   ·exact bad (λhb=>by have:=hb.1;omega) _ Qt
   refine Qv Ki rfl ?_;refine QB (λc2=>?_) (λc2=>?_)
   ·exact bad (λhb=>by have:=hb.2.1;omega) _ Qt
   refine Qp Ki rfl ?_;refine QB (λc3=>?_) (λc3=>?_)
   ·exact bad (λhb=>by have:=hb.2.2.1;omega) _ Qt
   refine Qp Ki rfl ?_;refine QB (λc4=>?_) (λc4=>?_)
   ·exact bad (λhb=>by have:=hb.2.2.2.2.1;omega) _ Qt
   refine Qp Ki rfl ?_;refine Qm ((s:Int)+1) rfl (by omega) ?_;refine QB (λc5=>?_) (λc5=>?_)
   ·exact bad (λhb=>by have:=hb.2.2.2.1;omega) _ Qt
   refine Qp Ki rfl ?_;refine Qm ((s:Int)+1) rfl (by omega) ?_;refine QB (λc6=>?_) (λc6=>?_)
   ·exact bad (λhb=>by have:=hb.2.2.2.2.2.1;omega) _ Qt
   refine Qp Ki rfl ?_;refine Qp Ki rfl ?_;refine Zn (λc7=>?_) (λc7=>?_)
   ·exact bad (λhb=>hb.2.2.2.2.2.2.1 c7) _ Qt
   refine Qs Ki rfl ?_;refine DI (kv:=bn) (a:=x) Qa rfl rfl rfl rfl yB rfl rfl XO (Ko x) ?_;refine QB (λc8=>?_) (λc8=>?_)
   ·exact bad (λhb=>hb.2.2.2.2.2.2.2.1 c8) _ Qt
   refine XJ Qa (Ext w5) 16 [(true,0),(true,1),(true,2),(true,4),(true,5),(false,3),(true,6),(true,7),(true,8),(true,9),(true,10),(true,12),(true,13),(false,11),(true,14),(true,15)] (by kernel_rfl) (Ext.drew w5) ?_;have qB:∀w',Ext w5 w'->∀(j:Nat) (v:Value),[Value.slice A n c,.int .i64 root][j]? =some v->w'.cell? ((⟨w.heap.size,0,none⟩:Addr).add j)=some v:=λw' Qb j v hj=>by rw[(QH.ext Qb).cell];exact hj
   have qX:∀w',Ext w5 w'->∀(j:Nat) (v:Value),x.cells[j]? =some v->w'.cell? ((⟨w3.heap.size,0,none⟩:Addr).add j)=some v:=λw' Qb j v hj=>by rw[(Ki.ext Qb).cell];exact hj
   have vm:∀w',Ext w5 w'->w'.cell? (⟨w3.heap.size,0,none⟩:Addr)=some (.int .i64 x.v):=λw' Qb=>by have:=qX w' Qb 0 _ rfl;simpa [Addr.add] using this
   refine Xl (vs:=[.slice A n c,.int .i64 root]) rfl (λw' Qb j v hj=>by have:=qB w' Qb j v hj;simpa [Addr.add] using this) ?_;refine QL (v:=.int .i64 x.l) (λw' Qb=>qX w' Qb 1 _ rfl) ?_;refine QL (v:=.int .i64 x.v) (λw' Qb=>vm w' Qb) ?_;refine call (cr A n c root x.l nd _ (h.ext (Qt.trans (Ext.drew w5))) (by omega)) ?_;rintro v w6 ⟨rfl,Q6⟩;have Zv:=(Ext.drew w5).trans Q6;refine⟨Zv,?_⟩;refine QB (λc9=>?_) (λc9=>?_)
   ·exact bad (λhb=>by have:=hb.2.2.2.2.2.2.2.2.1;omega) _ (Qt.trans Zv)
   refine Xl (vs:=[.slice A n c,.int .i64 root]) rfl (λw' Qb j v hj=>by have:=qB w' Qb j v hj;simpa [Addr.add] using this) ?_;refine QL (v:=.int .i64 x.h) (λw' Qb=>qX w' Qb 2 _ rfl) ?_;refine QL (v:=.int .i64 x.v) (λw' Qb=>vm w' Qb) ?_;refine call (cr A n c root x.h nd _ (h.ext (Qt.trans Zv)) (by omega)) ?_;rintro v w7 ⟨rfl,Q1⟩;have Vb:=Zv.trans Q1;refine⟨Vb,?_⟩;refine QB (λqH=>?_) (λqH=>?_)
   ·exact bad (λhb=>by have:=hb.2.2.2.2.2.2.2.2.2;omega) _ (Qt.trans Vb)
   have Zl:fK nd s x:=⟨by omega,by omega,by omega,by omega,by omega,by omega,c7,c8,by omega,by omega⟩
   refine Qs (Ki.ext Vb) rfl ?_;refine qJ (kv:=bn) (a:=x) Qa rfl rfl rfl rfl yB rfl rfl rfl (XO.ext Vb) (λw8 ZA Vs Ju=>?_);refine Qm ((s+1:Nat):Int) (by omega) (by omega) ?_;refine⟨s+1,rfl,⟨(ZP.trans (Mod.of_ext (·=w1.heap.size) (JW.trans Vb)) (λi hi=>.inl hi)).trans ZA (λi hi=>.inl hi),by omega,λj b hj hb=>?_,_,Ju,λb=>?_⟩,by show n-(s+1)<n-s;omega⟩
   ·by_cases Ys:j<s
    ·exact hall j b Ys hb
    ·have:j=s:=by omega
     subst this;rw[Option.some.inj (hb.symm.trans hx)];exact Zl
   ·rw[W7,VX,hx];by_cases kK:b=x
    ·subst kK;simp
    ·rw[if_neg kK,Ko b];simp[kK]
  ·have:s=n:=by omega
   subst this;exact⟨(),rfl,ZP,hall⟩
 rintro⟨⟩ w3 ⟨ZP,hall⟩;have Qj:Ext w w3:=ZP.ext Q4 (λi hi=>by have:=Qd.size;omega);have Qu:=Qw.mod ZP (by omega);refine Qp Qu rfl ?_;refine QB (λc1=>?_) (λc1=>?_)
 ·exact⟨by rw[yz fk (λhv=>by have:=hv.2.1;omega)],Qj⟩
 refine Qp Qu rfl ?_;refine Qv Qu rfl ?_;refine Qm ((n:Int)+1) rfl (by omega) ?_;refine QB (λc2=>?_) (λc2=>?_)
 ·exact⟨by rw[yz fk (λhv=>by have:=hv.2.2.1;omega)],Qj⟩
 have YX:WD nd:=λj x hx=>by
  obtain⟨_,_,h1,h2,h3,h4,_⟩:=hall j x (by have:=(Zt.1 hx).1;omega) hx;exact⟨h1,h2,h3,h4⟩
 refine Qv Qu rfl ?_;refine new (λw4 Qq Kz QZ=>?_);have XF:=Qj.trans Qq;have iA:=Qu.ext Qq;refine Qp iA rfl ?_;refine call (DH w3.heap.size (.map none) A n c nd root w4 QZ (h.ext XF) YX (by omega) (by omega) (by omega) (SB.lt (h.ext XF))) ?_;rintro v w5 ⟨OA,m,oc,rfl,Qt,sf,_⟩;refine new (λw6 Q6 cL Xh=>?_);refine Qx Xh rfl (sc rfl) (λw7 Zr YS vf=>?_);have Vb:Ext w5 w7:=X0 Q6 Xh Zr;have Vc:=(XF.trans Qt).trans Vb;refine Qs vf rfl ?_;refine Qs ((iA.ext Qt).ext Vb) rfl ?_;refine call (dQO OA A m oc n c _ nd _ root w7 (sf.ext Vb) (h.ext Vc)) ?_;rintro v w8 ⟨rfl,Q9⟩;have V9:=Vc.trans Q9;refine lk (QB (λc3=>?_) (λc3=>?_))
 ·exact⟨by rw[DF fk ⟨λj b hb=>hall j b (by have:=(Zt.1 hb).1;omega) hb,by omega,by omega,c3⟩],V9⟩
 ·exact⟨by rw[yz fk (λhv=>c3 hv.2.2.2)],V9⟩
end
section
theorem Blk.cell0 {w:World}{g t:Nat}{cs:List Value}(h:Blk w g t cs):w.cell? ⟨g,0,none⟩=cs[0]? :=by have:=h.cell 0;simpa [Addr.add] using this
theorem uf (A:Option Addr)(n c:Nat)(r m:Int)(nd:List Br)(w:World)(h:SB w A n c nd)(hm:m<n+2):
  Fn Tryz.prog 161 [Xg A n c r,.int .i64 m] w (λv w'=>v= .int .i64 (Qk nd m)/\Ext w w'):=by
 have Xb:=h.2;refine QF (c:={cQf with cuts:=[]}) Qa Tryz.func161 rfl rfl rfl ?_;refine new (λw1 Qd Q2 Qh=>?_);refine QB (λh1=>?_) (λh1=>?_)
 ·exact⟨by unfold Qk;rw[Qe h1],Qd⟩
 ·refine Qv Qh rfl ?_;refine Qm (((m-2).toNat:Nat):Int) (by omega) (by have:=h.1.le;have:=h.1.cap;simp only[maxLen] at this;omega) ?_;refine Zo Y5 (h.ext Qd) rfl (by omega) (λp x hx hc=>?_);refine load (hc 0 _ rfl) ?_;exact⟨by unfold Qk;rw[if_neg h1,hx];rfl,Qd⟩
theorem kQ5 (A:Option Addr)(n c:Nat)(r:Int)(s:Nat)(nd:List Br)(x:Br)(w:World)(h:SB w A n c nd)(hx:nd[s]? =some x)(aZ:n<=1000000000000):
  Fn Tryz.prog 212 [Xg A n c r,.int .i64 s] w (λv w'=>∃b,v= .bool b/\(b=true↔fK nd s x)/\Ext w w'):=by
 have Xb:=h.2;have hs:s<nd.length:=(Zt.1 hx).1;refine QF (c:={cQH with cuts:=[]}) Qa Tryz.func212 rfl rfl rfl ?_;refine new (λw1 Qd Q2 Qh=>?_);refine Qv Qh rfl ?_;refine Zo Y5 (h.ext Qd) rfl (by omega) (λp y hy hc=>?_);have gG:y=x:=Option.some.inj (hy.symm.trans hx);subst gG;refine J4 (vs:=y.cells) rfl hc ?_;refine new (λw4 Qq Kz QZ=>?_);refine Qx QZ rfl (sc rfl) (λw5 Jk Kv Ki=>?_);have Ve:Ext w1 w5:=X0 Qq QZ Jk;have Qt:=Qd.trans Ve;have QH:=Qh.ext Ve;have bad:¬fK nd s y->∀w',Ext w w'->∃b,(Value.bool false:Value)= .bool b/\(b=true↔fK nd s y)/\Ext w w':=λXi w' hE=>⟨false,rfl,by simp[Xi],hE⟩
 refine Qv Ki rfl ?_;refine QB (λc1=>?_) (λc1=>?_)
 ·exact bad (λhb=>by have:=hb.1;omega) _ Qt
 refine Qv Ki rfl ?_;refine QB (λc2=>?_) (λc2=>?_)
 ·exact bad (λhb=>by have:=hb.2.1;omega) _ Qt
 refine Qp Ki rfl ?_;refine QB (λc3=>?_) (λc3=>?_)
 ·exact bad (λhb=>by have:=hb.2.2.1;omega) _ Qt
 refine Qp Ki rfl ?_;refine QB (λc4=>?_) (λc4=>?_)
 ·exact bad (λhb=>by have:=hb.2.2.2.2.1;omega) _ Qt
 refine Qp Ki rfl ?_;refine Qm ((s:Int)+2) rfl (by omega) ?_;refine QB (λc5=>?_) (λc5=>?_)
 ·exact bad (λhb=>by have:=hb.2.2.2.1;omega) _ Qt
 refine Qp Ki rfl ?_;refine Qm ((s:Int)+2) rfl (by omega) ?_;refine QB (λc6=>?_) (λc6=>?_)
 ·exact bad (λhb=>by have:=hb.2.2.2.2.2.1;omega) _ Qt
 refine Qp Ki rfl ?_;refine Qp Ki rfl ?_;refine Zn (λc7=>?_) (λc7=>?_)
 ·exact bad (λhb=>hb.2.2.2.2.2.2.1 c7) _ Qt
 have qB:∀w',Ext w5 w'->∀(j:Nat) (v:Value),[Value.slice A n c,.int .i64 r][j]? =some v->w'.cell? ((⟨w.heap.size,0,none⟩:Addr).add j)=some v:=λw' Qb j v hj=>by rw[(QH.ext Qb).cell];exact hj
 have qX:∀w',Ext w5 w'->∀(j:Nat) (v:Value),y.cells[j]? =some v->w'.cell? ((⟨w1.heap.size,0,none⟩:Addr).add j)=some v:=λw' Qb j v hj=>by rw[(Ki.ext Qb).cell];exact hj
 have vm:∀w',Ext w5 w'->w'.cell? (⟨w1.heap.size,0,none⟩:Addr)=some (.int .i64 y.v):=λw' Qb=>by rw[(Ki.ext Qb).cell0]<;>rfl
 refine XJ Qa (Ext w5) 16 [(true,0),(true,1),(true,2),(true,4),(true,5),(false,3),(true,6),(true,7),(true,8),(true,9),(true,10),(true,12),(true,13),(false,11),(true,14),(true,15)] (by kernel_rfl) (Ext.drew w5) ?_;refine Xl (vs:=[.slice A n c,.int .i64 r]) rfl (λw' Qb j v hj=>by have:=qB w' Qb j v hj;simpa [Addr.add] using this) ?_;refine QL (v:=.int .i64 y.l) (λw' Qb=>qX w' Qb 1 _ rfl) ?_;refine QL (v:=.int .i64 y.v) (λw' Qb=>vm w' Qb) ?_;refine call (uf A n c r y.l nd _ (h.ext (Qt.trans (Ext.drew w5))) (by omega)) ?_;rintro v w6 ⟨rfl,Q6⟩;have Zv:=(Ext.drew w5).trans Q6;refine⟨Zv,?_⟩;refine QB (λc9=>?_) (λc9=>?_)
 ·exact bad (λhb=>by have:=hb.2.2.2.2.2.2.2.2.1;omega) _ (Qt.trans Zv)
 refine Xl (vs:=[.slice A n c,.int .i64 r]) rfl (λw' Qb j v hj=>by have:=qB w' Qb j v hj;simpa [Addr.add] using this) ?_;refine QL (v:=.int .i64 y.h) (λw' Qb=>qX w' Qb 2 _ rfl) ?_;refine QL (v:=.int .i64 y.v) (λw' Qb=>vm w' Qb) ?_;refine call (uf A n c r y.h nd _ (h.ext (Qt.trans Zv)) (by omega)) ?_;rintro v w7 ⟨rfl,Q1⟩;have Vb:=Zv.trans Q1;refine⟨Vb,?_⟩;refine QB (λqH=>?_) (λqH=>?_)
 ·exact bad (λhb=>by have:=hb.2.2.2.2.2.2.2.2.2;omega) _ (Qt.trans Vb)
 have Vc:=Qt.trans Vb;refine loop Qa [6] (λt:Nat=>[.int .i64 t]) (λt w'=>Ext w7 w'/\t<=s/\y∉nd.take t) (λt _=>s-t) 0 rfl ⟨Ext.refl w7,XM _,by simp⟩ ?_;rintro t w8 ⟨Q9,ht,Xi⟩;have Xp:=(QH.ext Vb).ext Q9;have hX8:=(Ki.ext Vb).ext Q9;have V9:=Vc.trans Q9;refine QB (λh8=>?_) (λh8=>?_)
 ·refine XJ Qa (Ext w8) 7 [(true,0),(true,1),(true,2),(true,3),(true,4),(true,5),(true,6)] (by kernel_rfl) (Ext.drew w8) ?_;refine QL (v:=.slice A n c) (λw' Qb=>by rw[(Xp.ext Qb).cell];rfl) ?_;refine Zo Y5 (h.ext V9) rfl (by omega) (λp z hz hc=>?_);refine Xl (vs:=z.cells) rfl (λw' Qb j v hj=>Qb.cell (hc j v hj)) ?_;refine Xl (vs:=y.cells) rfl (λw' Qb j v hj=>by have:=(hX8.ext Qb).cell j;simp[Addr.add] at this;rw[<-hj];simpa [Addr.add] using this) ?_;have bS:=Q9.trans (Ext.drew w8);by_cases B0:z=y
  ·refine Xc (by rw[od,XX (oe.1 B0)]) ?_;refine bad (λhb=>hb.2.2.2.2.2.2.2.1 ?_) _ (Vc.trans bS);subst B0;exact Xe (i:=t) (by rw[tC (by omega)];exact hz)
  ·refine Xt (by rw[od,Zf (λe=>B0 (oe.2 e))]) ?_;refine Qm ((t+1:Nat):Int) (by omega) (by omega) ?_;refine⟨t+1,rfl,⟨bS,by omega,?_⟩,by show s-(t+1)<s-t;omega⟩;rw[VX,hz];simp only[Option.toList_some,XB,QJ,not_or];exact⟨Xi,λe=>B0 e.symm⟩
 ·have:t=s:=by omega
  subst this;exact⟨true,rfl,by simp only[true_iff];exact⟨by omega,by omega,by omega,by omega,by omega,by omega,c7,Xi,by omega,by omega⟩,V9⟩
end
section
def jv (l:List Nat):List Value:=l.map λ(x:Nat)=>.int .i64 (x:Int)
theorem M8 {l:List Nat}{j x:Nat}(h:l[j]? =some x):(jv l)[j]? =some (.int .i64 (x:Int)):=by simp[jv,h]
theorem dQU (l:List Nat):(jv l).length=l.length:=by simp[jv]
theorem dQV (l:List Nat)(i x:Nat):jv (l.set i x)=(jv l).set i (.int .i64 (x:Int)):=by simp[jv,List.map_set]
def WS (x pg:Nat)(A:Option Addr):Nat->Prop:=λk=>k=x∨k=pg∨Qi A k
theorem WS.moved {w:World}{x pg:Nat}{A A':Option Addr}(h:Moved w A A'):∀k,WS x pg A' k->WS x pg A k∨w.heap.size<=k:=by
 rintro k (rfl | rfl | hk)
 ·exact .inl (.inl rfl)
 ·exact .inl (.inr (.inl rfl))
 ·rcases h.rows k hk with h | h
  ·exact .inl (.inr (.inr h))
  ·exact .inr h
structure Wk (w:World) (base x pg:Nat) (NA:Option Addr) (nn nc:Nat) (nd:List Br) (OA:Option Addr) (oc:Nat) (st:List Br×List Nat):Prop where
 blk:Blk w x 249 [.slice NA nn nc,.slice (some ⟨pg,0,none⟩) nn nn,.slice OA st.1.length oc]
 num:Blk w pg 3 (jv st.2)
 own:Own w base 105 3 OA st.1.length oc (ju st.1)
 lt:x<base/\pg<base/\x≠pg
 top:base<=w.heap.size
 nds:SB w NA nn nc nd
 row:∀ad,NA=some ad->0<nn->ad.block<base/\ad.block≠x/\ad.block≠pg
 len:st.2.length=nn
theorem Wk.ext {w w':World}{base x pg:Nat}{NA:Option Addr}{nn nc:Nat}{nd:List Br}{OA:Option Addr}{oc:Nat}{st:List Br×List Nat}(h:Wk w base x pg NA nn nc nd OA oc st)(k:Ext w w'):Wk w' base x pg NA nn nc nd OA oc st:=
 ⟨h.blk.ext k,h.num.ext k,h.own.ext k,h.lt,Ze h.top k.size,h.nds.ext k,h.row,h.len⟩
theorem Wk.keep {w w':World}{base x pg:Nat}{NA:Option Addr}{nn nc:Nat}{nd:List Br}{OA:Option Addr}{oc:Nat}{st:List Br×List Nat}(h:Wk w base x pg NA nn nc nd OA oc st)(hm:Mod (WS x pg OA) w w'):SB w' NA nn nc nd:=by
 refine⟨h.nds.1.modS hm ?_,h.nds.2⟩;rintro h0 i ⟨ad,rfl,rfl⟩ hi;obtain⟨r1,r2,r3⟩:=h.row ad rfl h0;rcases hi with hi | hi | hi
 ·exact r2 hi
 ·exact r3 hi
 ·have:=(h.own.rows _ hi).1;omega
def WTo (w:World)(base x pg:Nat)(NA:Option Addr)(nn nc:Nat)(nd:List Br)(OA:Option Addr)(st:List Br×List Nat)(w':World):Prop:=∃OA' oc',Wk w' base x pg NA nn nc nd OA' oc' st/\Mod (WS x pg OA) w w'/\Moved w OA OA'
theorem M9 (base x pg:Nat)(NA:Option Addr)(nn nc:Nat)(nd:List Br)(YX:WD nd)(d7:nn<=1000000000000):∀(m:Nat)(n:Int)(st:List Br×List Nat)(OA:Option Addr)(oc:Nat)(w:World),
  Wk w base x pg NA nn nc nd OA oc st->0<=n->n<m->n<nn+2->st.1.length+st.2.count 0<=1000000000000->
  Fn Tryz.prog 164 [.pointer (some ⟨x,0,none⟩),.int .i64 n] w (λv w'=>v= .int .i64 (X5 nd m n st).1/\WTo w base x pg NA nn nc nd OA (X5 nd m n st).2 w')
 | 0,n,st,OA,oc,w,_,h0,hm,_,_=>by omega
 | m+1,n,st,OA,oc,w,hK,h0,hm,hn,hc=>by
  have ih:=M9 base x pg NA nn nc nd YX d7 m;have Kn:nd.length=nn:=hK.nds.2;have hl:=hK.len;have Vv:=hK.own.rows;have lQZ:=hK.blk.lt;have lQ0:=hK.num.lt;obtain⟨lx,lp,lxp⟩:=hK.lt;refine QF (c:={cQi with cuts:=[]}) Qa Tryz.func164 rfl rfl rfl ?_;by_cases h1:n<2
  ·refine X7 h1 ?_;rw[jr h1];exact⟨rfl,OA,oc,hK,Mod.refl _ _,Moved.refl _ _⟩
  refine Xy h1 ?_;have hj:(n-2).toNat<nn:=by omega
  have hz:st.2[(n-2).toNat]? =some st.2[(n-2).toNat]:=Xs (by omega);refine Qp hK.blk rfl ?_;refine Qm (((n-2).toNat:Nat):Int) (by omega) (by omega) ?_;refine index (by omega) ?_;refine Qp hK.num (M8 hz) ?_;have hd:st.2[(n-2).toNat]?.getD 0=st.2[(n-2).toNat]:=by rw[hz]<;>rfl
  by_cases h2:0<st.2[(n-2).toNat]?.getD 0
  ·rw[js h1 h2];rw[hd] at h2 ⊢;refine X7 (by omega) ?_;refine Qp hK.blk rfl ?_;refine Qm (((n-2).toNat:Nat):Int) (by omega) (by omega) ?_;refine index (by omega) ?_;refine Qp hK.num (M8 hz) ?_;exact⟨rfl,OA,oc,hK,Mod.refl _ _,Moved.refl _ _⟩
  refine Xy (by rw[hd] at h2;omega) ?_;have hx:=Xs (show(n-2).toNat<nd.length by omega);generalize nd[(n-2).toNat]=b at hx;obtain⟨x1,x2,x3,x4⟩:=YX _ _ hx;rw[lw h1 h2 hx];refine Qv hK.blk rfl ?_;refine Qm (((n-2).toNat:Nat):Int) (by omega) (by omega) ?_;refine Zo Y5 hK.nds rfl (by omega) (λad y hy iQ=>?_);have gG:y=b:=Option.some.inj (hy.symm.trans hx);subst gG;refine J4 (vs:=y.cells) rfl iQ ?_;refine new (λw1 Qd Q2 Qh=>?_);refine Qx Qh rfl (sc rfl) (λw2 ga X9 Kh=>?_);have Qg:Ext w w2:=X0 Qd Qh ga;have zU:Mod (WS x pg OA) w w2:=Mod.of_ext _ Qg;have gI:¬WS x pg OA w.heap.size:=λe=>by
   rcases e with e | e | e
   ·omega
   ·omega
   ·have:=(Vv _ e).2;omega
  refine Qp Kh rfl ?_;have f1:=jt YX m y.l st x1 (by omega) (by omega) (by omega);refine call (ih y.l st OA oc w2 (hK.ext Qg) x1 (by omega) (by omega) hc) ?_;rintro v w3 ⟨rfl,OA3,FI,dK,ZP,j0⟩;have KU:=Kh.mod ZP gI;have rY:¬WS x pg OA3 w.heap.size:=λe=>(WS.moved j0 _ e).elim gI (λh=>by omega)
  refine Qp KU rfl ?_;have f2:=jt YX m y.h _ x3 (by omega) (by omega) f1.len;have c1:=f1.cnt;have c2:=f2.cnt;refine call (ih y.h _ OA3 FI w3 dK x3 (by omega) (by omega) (by omega)) ?_;rintro v w4 ⟨rfl,OA4,Sc,Vt,Kt,oY⟩;have Ym:=KU.mod Kt rY;have iQN:¬WS x pg OA4 w.heap.size:=λe=>(WS.moved oY _ e).elim rY (λh=>by have:=ZP.size;omega)
  have j5:=ZP.trans Kt (WS.moved j0);have FJ:=j0.trans oY ZP.size;have vg:Mod (WS x pg OA) w w4:=zU.trans j5 (λi hi=>.inl hi);have vh:=FJ.back Qg.size;generalize (X5 nd m y.l st)=a at*;generalize (X5 nd m y.h a.2)=b at*;have oZ:=Vt.own.rows;have bQ:¬Qi OA4 x:=λe=>by have:=(oZ _ e).1;omega
  have Ij:¬Qi OA4 pg:=λe=>by have:=(oZ _ e).1;omega
  refine XJ Qa (Mod (Qi OA4) w4) 12 [(true,0),(true,1),(true,2),(true,3),(true,4),(true,5),(true,6),(true,7),(true,8),(true,9),(false,10),(false,11)] (by kernel_rfl) (Mod.of_ext _ (Ext.drew w4)) ?_;refine QL (v:=.slice OA4 b.2.1.length Sc) (λw' Qb=>by rw[(Vt.blk.mod Qb bQ).cell];rfl) ?_;refine QL (v:=.int .i64 y.v) (λw' Qb=>by rw[(Ym.mod Qb (λe=>iQN (.inr (.inr e)))).cell];rfl) ?_;refine XE Qa [(⟨y.v,a.1,b.1⟩:Br).cells] rfl rfl rfl rfl rfl ⟨rfl,rfl,⟨⟩⟩ rfl (λcs h=>by simp only[QJ] at h;subst h;rfl) rfl (by decide) (by decide) ?_;intro w5 Qt Kv QH;have WU:=(Ext.drew w4).trans Qt;have iB:=Vt.ext WU;refine⟨Mod.of_ext _ WU,?_⟩;have j6:Sl w5 3 (some ⟨w4.drew.heap.size,0,none⟩) 1 1 (⟨y.v,a.1,b.1⟩:Br).cells:=Sl.own (sz:=3) (n:=1) QH (QE _) (by decide) (by simp[Br.cells]);refine JE Qa rfl rfl rfl rfl rfl (by decide) rfl rfl ⟨_,rfl⟩ rfl rfl iB.own j6 (by intro u hu;simp[Br.cells] at hu;rcases hu with rfl | rfl | rfl<;>rfl) (by unfold maxLen;omega) (by show _*24<=_;omega) iB.top ?_;intro OA6 zV w6 KI vi vj;have mf:Mod (Qi OA4) w4 w6:=(Mod.of_ext (Qi OA4) WU).trans KI (λi hi=>.inl hi);refine⟨mf,?_⟩;refine XK (Vt.blk.mod mf bQ) (by simp) (λw7 Q8 QY=>?_);have hN7:=(Vt.num.mod mf Ij).mod Q8 (λe=>lxp e.symm);have Xb:b.2.2.length=nn:=Vt.len;refine XJ Qa (Ext w7) 13 [(true,0),(true,1),(true,2),(true,3),(true,4),(true,5),(true,6),(true,7),(true,8),(true,9),(true,10),(true,11),(true,12)] (by kernel_rfl) (Ext.drew w7) ?_;refine QL (v:=.slice (some ⟨pg,0,none⟩) nn nn) (λw' Qb=>by rw[(QY.ext Qb).cell];rfl) ?_;refine Qm (((n-2).toNat:Nat):Int) (by omega) (by omega) ?_;refine QL (v:=.slice OA6 (b.2.1.length+1) zV) (λw' Qb=>by rw[(QY.ext Qb).cell];rfl) ?_;refine Qm ((b.2.1.length+2:Nat):Int) (by omega) (by omega) ?_;refine index (by omega) ?_;refine XK (hN7.ext (Ext.drew w7)) (by rw[dQU];omega) (λw8 ZA Xp=>?_);rw[<-dQV] at Xp;have vn:=(QY.ext (Ext.drew w7)).mod ZA lxp;refine Qp vn rfl ?_;refine Qm ((b.2.1.length+2:Nat):Int) (by omega) (by omega) ?_;have o0:Mod (WS x pg OA4) w4 w8:=(((mf.mono (λi hi=>.inl (.inr (.inr hi)))).trans Q8 (λi hi=>.inl (.inl hi))).trans (Mod.of_ext (WS x pg OA4) (Ext.drew w7)) (λi hi=>.inl hi)).trans ZA (λi hi=>.inl (.inr (.inl hi)));have vk:=vi.rows;have el:(b.2.1++ [(⟨y.v,a.1,b.1⟩:Br)]).length=b.2.1.length+1:=by simp
  refine⟨rfl,OA6,zV,⟨?_,?_,?_,hK.lt,?_,Vt.keep o0,hK.row,?_⟩,vg.trans o0 (WS.moved vh),?_⟩
  ·rw[el];exact vn
  ·exact Xp
  ·rw[el,yA];refine((vi.mod Q8 (λi hi e=>?_)).ext (Ext.drew w7)).mod ZA (λi hi e=>?_)
   ·have:=(vk i hi).1;omega
   ·have:=(vk i hi).1;omega
  ·have:=Vt.top;have:=o0.size;omega
  ·rw[bZ];exact Xb
  ·exact vh.trans (vj.back WU.size) vg.size
theorem dQW (NA:Option Addr)(nn nc:Nat)(nd:List Br)(root:Int)(w:World)(hN:SB w NA nn nc nd)(YX:WD nd)(d7:nn<=1000000000000)(h0:0<=root)(hr:root<nn+2):
  Fn Tryz.prog 108 [.slice NA nn nc,.int .i64 root] w (ue w (aG nd root)):=by
 have Kn:nd.length=nn:=hN.2;have mW:=SB.lt hN;refine QF (c:={bQG with cuts:=[]}) Qa Tryz.func108 rfl rfl rfl ?_;refine new (λw1 Qd Q2 Qh=>?_);refine yh Qa rfl rfl rfl rfl rfl rfl rfl rfl (by show 8*nn<=_;omega) (by unfold maxLen;omega) (λw2 Qg X9 Qw=>?_);refine new (λw3 Qj JV Qu=>?_);have QQ:=(Qd.trans Qg).trans Qj;have hW:Wk w3 w3.heap.size w2.heap.size w1.heap.size NA nn nc nd none 0 ([],List.replicate nd.length 0):=by
  refine⟨Qu,?_,Own.nil _ _ _ _,⟨by omega,by omega,by omega⟩,QE _,hN.ext QQ,λad e hn=>?_,by simp[Kn]⟩
  ·have:=Qw.ext Qj;rw[Kn];simpa [jv] using this
  ·have:=mW ad e hn;exact⟨by omega,by omega,by omega⟩
 refine call (M9 w3.heap.size w2.heap.size w1.heap.size NA nn nc nd YX d7 (root.toNat+1) root _ none 0 w3 hW h0 (by omega) hr (by simp;omega)) ?_;rintro v w4 ⟨rfl,OA,oc,hK,Kt,oY⟩;refine Qp hK.blk rfl ?_;have aP:=((Qh.ext Qg).ext Qj).mod Kt (λe=>by
  rcases e with e | e | ⟨_,e,_⟩
  ·omega
  ·omega
  ·cases e)
 refine Qx aP rfl (sc rfl) (λw5 Jk _ QH=>?_);have ZW:Mod (·=w.heap.size) w4 w5:=mQj Jk rfl;refine Qs QH rfl ?_;have Qq:Ext w w4:=Kt.ext QQ (λi hi=>by
  rcases hi with e | e | ⟨_,e,_⟩
  ·omega
  ·omega
  ·cases e)
 exact⟨OA,_,oc,rfl,ZW.ext Qq (λi hi=>by omega),⟨(hK.own.mod ZW (λi hi e=>by have:=(hK.own.rows i hi).1;omega)).sl,rfl⟩,λi hi=>Ze QQ.size (hK.own.rows i hi).1⟩
end
section
def Kr (b:Br):List Br->Option Nat
 | []=>none
 | x::l=>if x=b then some 0 else(Kr b l).map (·+1)
theorem Na {b:Br}:∀{l:List Br}{s:Nat},(∀j,j<s->l[j]? ≠some b)->l[s]? =some b->Kr b l=some s
 | [],s,_,h=>by simp at h
 | x::l,0,_,h=>by simp at h;simp[Kr,h]
 | x::l,s+1,hn,h=>by
  have hx:x≠b:=λe=>hn 0 (by omega) (by simp[e])
  have:=Na (l:=l) (s:=s) (λj hj=>by have:=hn (j+1) (by omega);simpa using this) (by simpa using h);simp[Kr,hx,this]
theorem Nb {b:Br}:∀{l:List Br},(∀j,j<l.length->l[j]? ≠some b)->Kr b l=none
 | [],_=>rfl
 | x::l,hn=>by
  have hx:x≠b:=λe=>hn 0 (by simp) (by simp[e])
  have:=Nb (l:=l) (λj hj=>by have:=hn (j+1) (by simpa using hj);simpa using this);simp[Kr,hx,this]
def ZN (b:Br)(l:List Br):List Br×Int:=if b.l=b.h then(l,b.l)else match Kr b l with
 | some i=>(l,((i+2:Nat):Int))
 | none=>(l++ [b],((l.length+2:Nat):Int))
theorem ug (b:Br)(l:List Br):l.length<=(ZN b l).1.length:=by
 unfold ZN;split
 ·exact QE _
 ·split
  ·exact QE _
  ·simp
def ct (op x y:Int):Int:=if op=0 then x*y else if op=1 then max x y else if op=3 then 1-x else if op=4 then(1-x)*y else(x+y) % 2
def Ql (d:List Br)(n v:Int):Int×Int:=if Qk d n≠v then(n,n)else match d[(n-2).toNat]? with
 | some b=>(b.l,b.h)
 | none=>(n,n)
abbrev Tr3:=Int×Int×Int
def Xn (a b:List Br)(op:Int):Nat->Int->Int->List Br×List Tr3->Int×(List Br×List Tr3)
 | 0,_,_,st=>(0,st)
 | m+1,x,y,st=>if x<2/\y<2 then(ct op x y,st)else
   match st.2.find? (λt=>decide (t.1=x/\t.2.1=y))with
   | some t=>(t.2.2,st)
   | none=>
    let v:=min (Qk a x) (Qk b y)
    let r0:=Xn a b op m (Ql a x v).1 (Ql b y v).1 st
    let r1:=Xn a b op m (Ql a x v).2 (Ql b y v).2 r0.2
    let u:=ZN ⟨v,r0.1,r1.1⟩ r1.2.1
    (u.2,(u.1,r1.2.2++ [(x,y,u.2)]))
theorem jw {a b:List Br}{op:Int}{m:Nat}{x y:Int}{st:List Br×List Tr3}(h:x<2/\y<2):Xn a b op (m+1) x y st=(ct op x y,st):=by rw[Xn,Qe h]
theorem jx {a b:List Br}{op:Int}{m:Nat}{x y:Int}{st:List Br×List Tr3}{t:Tr3}(h:¬(x<2/\y<2))(k:st.2.find? (λt=>decide (t.1=x/\t.2.1=y))=some t):Xn a b op (m+1) x y st=(t.2.2,st):=by rw[Xn,if_neg h,k]
theorem jy {a b:List Br}{op:Int}{m:Nat}{x y:Int}{st:List Br×List Tr3}(h:¬(x<2/\y<2))(k:st.2.find? (λt=>decide (t.1=x/\t.2.1=y))=none)(v:Int)(hv:min (Qk a x) (Qk b y)=v):
  Xn a b op (m+1) x y st=((ZN ⟨v,(Xn a b op m (Ql a x v).1 (Ql b y v).1 st).1,(Xn a b op m (Ql a x v).2 (Ql b y v).2 (Xn a b op m (Ql a x v).1 (Ql b y v).1 st).2).1⟩ (Xn a b op m (Ql a x v).2 (Ql b y v).2 (Xn a b op m (Ql a x v).1 (Ql b y v).1 st).2).2.1).2,
   ((
    ZN ⟨v,(Xn a b op m (Ql a x v).1 (Ql b y v).1 st).1,(Xn a b op m (Ql a x v).2 (Ql b y v).2 (Xn a b op m (Ql a x v).1 (Ql b y v).1 st).2).1⟩ (Xn a b op m (Ql a x v).2 (Ql b y v).2 (Xn a b op m (Ql a x v).1 (Ql b y v).1 st).2).2.1).1,
    (Xn a b op m (Ql a x v).2 (Ql b y v).2 (Xn a b op m (Ql a x v).1 (Ql b y v).1 st).2).2.2++ [(x,y,(ZN ⟨v,(Xn a b op m (Ql a x v).1 (Ql b y v).1 st).1,(Xn a b op m (Ql a x v).2 (Ql b y v).2 (Xn a b op m (Ql a x v).1 (Ql b y v).1 st).2).1⟩ (Xn a b op m (Ql a x v).2 (Ql b y v).2 (Xn a b op m (Ql a x v).1 (Ql b y v).1 st).2).2.1).2)])):=by
 subst hv;rw[Xn,if_neg h,k]
theorem ly (a b:List Br)(op:Int):∀(m:Nat)(x y:Int)(st:List Br×List Tr3),st.1.length<=(Xn a b op m x y st).2.1.length/\st.2.length<=(Xn a b op m x y st).2.2.length
 | 0,x,y,st=>⟨QE _,QE _⟩
 | m+1,x,y,st=>by
  by_cases h:x<2/\y<2
  ·rw[jw h];exact⟨QE _,QE _⟩
  cases k:st.2.find? (λt=>decide (t.1=x/\t.2.1=y))with
  | some t=>rw[jx h k];exact⟨QE _,QE _⟩
  | none=>
   rw[jy h k _ rfl];have h1:=ly a b op m (Ql a x (min (Qk a x) (Qk b y))).1 (Ql b y (min (Qk a x) (Qk b y))).1 st;have h2:=ly a b op m (Ql a x (min (Qk a x) (Qk b y))).2 (Ql b y (min (Qk a x) (Qk b y))).2 (Xn a b op m (Ql a x (min (Qk a x) (Qk b y))).1 (Ql b y (min (Qk a x) (Qk b y))).1 st).2;refine⟨Ze (Ze h1.1 h2.1) (ug _ _),?_⟩;simp only[Qy];omega
def K6 (nd:List Br):Prop:=WD nd/\∀(j:Nat)(b:Br),nd[j]? =some b->0<=b.v/\b.v<=63
theorem VD.dok {nd:List Br}{r:Int}(h:VD nd r):K6 nd:=⟨h.wf,λj b hb=>⟨(h.1 j b hb).1,(h.1 j b hb).2.1⟩⟩
theorem YP {nd:List Br}(h:K6 nd){n v:Int}(h0:0<=n)(dM:v<64):0<=(Ql nd n v).1/\(Ql nd n v).1<=n/\0<=(Ql nd n v).2/\(Ql nd n v).2<=n/\(Qk nd n=v->(Ql nd n v).1<n/\(Ql nd n v).2<n):=by
 unfold Ql;split
 ·rename_i hv;exact⟨h0,kX _,h0,kX _,λe=>Xm e hv⟩
 ·rename_i hv;have hv:=Decidable.not_not.1 hv;have ta:¬n<2:=λh2=>by
   unfold Qk at hv;rw[Qe h2] at hv;omega
  cases hx:nd[(n-2).toNat]? with
  | none=>
   unfold Qk at hv;rw[if_neg ta,hx] at hv;simp at hv;omega
  | some b=>
   obtain⟨h1,h2,h3,h4⟩:=h.1 _ _ hx;exact⟨h1,by simp only;omega,h3,by simp only;omega,λ_=>⟨by simp only;omega,by simp only;omega⟩⟩
theorem WE {nd:List Br}(h:K6 nd){n:Int}(h2:¬n<2)(hn:n<nd.length+2):Qk nd n<64:=by
 unfold Qk;have hx:=Xs (show(n-2).toNat<nd.length by omega);rw[if_neg h2,hx];have:=(h.2 _ _ hx).2;simp only[xB,gT];omega
theorem dQX (base:Nat)(A:Option Addr)(n c:Nat)(l:List Br)(b:Br)(w:World)(h:Own w base 105 3 A n c (ju l))(hn:l.length=n)(hb:base<=w.heap.size)(hl:n+1<=1000000000000):
  Fn Tryz.prog 163 [.slice A n c,.agg b.cells.toArray] w (λv w'=>∃A' c',v= .tuple #[.slice A' (ZN b l).1.length c',.int .i64 (ZN b l).2]/\Own w' base 105 3 A' (ZN b l).1.length c' (ju (ZN b l).1)/\Mod (Qi A) w w'/\Moved w A A'):=by
 have hsb:SB w A n c l:=⟨h.sl,hn⟩
 refine QF (c:={cQh with cuts:=[]}) Qa Tryz.func163 rfl rfl rfl ?_;refine new (λw1 Qd Q2 Qh=>?_);have dH:Mod (Qi A) w w1:=Mod.of_ext _ Qd;refine Qp Qh rfl ?_;refine Qp Qh rfl ?_;refine Zn (λh1=>?_) (λh1=>?_)
 ·have e:ZN b l=(l,b.l):=by unfold ZN;rw[Qe h1]
  rw[e];refine XJ Qa (Ext w1) 5 [(true,0),(true,1),(true,2),(true,3),(true,4)] (by kernel_rfl) (Ext.drew w1) ?_;refine QL (v:=.int .i64 b.l) (λw' Qb=>by rw[(Qh.ext Qb).cell];rfl) ?_;have bS:=Qd.trans (Ext.drew w1);rw[hn];exact⟨A,c,rfl,h.ext bS,Mod.of_ext _ bS,Moved.refl _ _⟩
 have e0:ZN b l=match Kr b l with
  | some i=>(l,((i+2:Nat):Int))
  | none=>(l++ [b],((l.length+2:Nat):Int)):=by unfold ZN;rw[if_neg h1]
 refine loop Qa [6] (λs:Nat=>[.int .i64 s]) (λs w'=>Ext w1 w'/\s<=n/\∀j,j<s->l[j]? ≠some b) (λs _=>n-s) 0 rfl ⟨Ext.refl _,XM _,λj hj=>Xm hj (by omega)⟩ ?_;rintro s w2 ⟨Qg,hs,Xi⟩;have Q4:=Qd.trans Qg;have Qw:=Qh.ext Qg;refine QB (λh3=>?_) (λh3=>?_)
 ·refine XJ Qa (Ext w2) 6 [(true,0),(true,1),(true,2),(true,3),(true,4),(true,5)] (by kernel_rfl) (Ext.drew w2) ?_;refine Zo Y5 (hsb.ext Q4) rfl (by omega) (λp z hz hc=>?_);refine Xl (vs:=z.cells) rfl (λw' Qb j v hj=>Qb.cell (hc j v hj)) ?_;refine Xl (vs:=b.cells) rfl (λw' Qb j v hj=>by rw[(Qw.ext Qb).cell];exact hj) ?_;have bS:=Qg.trans (Ext.drew w2);by_cases m0:z=b
  ·refine Xc (by rw[od,XX (oe.1 m0)]) ?_;subst m0;rw[Na Xi hz] at e0;simp only at e0;rw[e0];refine Qm ((s+2:Nat):Int) (by omega) (by omega) ?_;rw[hn];exact⟨A,c,rfl,h.ext (Qd.trans bS),Mod.of_ext _ (Qd.trans bS),Moved.refl _ _⟩
  ·refine Xt (by rw[od,Zf (λe=>m0 (oe.2 e))]) ?_;refine Qm ((s+1:Nat):Int) (by omega) (by omega) ?_;refine⟨s+1,rfl,⟨bS,by omega,λj hj=>?_⟩,by show n-(s+1)<n-s;omega⟩;by_cases Ys:j<s
   ·exact Xi j Ys
   ·have:j=s:=by omega
    subst this;rw[hz];exactλe=>m0 (Option.some.inj e)
 ·have:s=n:=by omega
  subst this;rw[Nb (by rw[hn];exact Xi)] at e0;simp only at e0;rw[e0];refine Qs Qw rfl ?_;refine XE Qa [b.cells] rfl rfl rfl rfl rfl ⟨rfl,rfl,⟨⟩⟩ rfl (λcs h=>by simp only[QJ] at h;subst h;rfl) rfl (by decide) (by decide) ?_;intro w3 Qj JV Qu;have QQ:=Q4.trans Qj;have o6:Sl w3 3 (some ⟨w2.heap.size,0,none⟩) 1 1 b.cells:=Sl.own (sz:=3) (n:=1) Qu (QE _) (by decide) (by simp[Br.cells]);refine JE Qa rfl rfl rfl rfl rfl (by decide) rfl rfl ⟨_,rfl⟩ rfl rfl (h.ext QQ) o6 (by intro u hu;simp[Br.cells] at hu;rcases hu with rfl | rfl | rfl<;>rfl) (by unfold maxLen;omega) (by show _*24<=_;omega) (Ze hb QQ.size) ?_;intro A' c' w4 Kt FM oY;refine Qm ((s+2:Nat):Int) (by omega) (by omega) ?_;have el:(l++ [b]).length=s+1:=by rw[Qy,hn]<;>rfl
  rw[el,hn];refine⟨A',c',rfl,?_,(Mod.of_ext (Qi A) QQ).trans Kt (λi hi=>.inl hi),oY.back QQ.size⟩;rw[yA];exact FM
end
section
theorem dQY (pb:Nat)(cs:List Value)(op x y:Int)(w:World)(h:Blk w pb 183 cs)(hc:cs[4]? =some (.int .i64 op))(x0:0<=x)(x1:x<2)(y0:0<=y)(y1:y<2)(ho:op≠3/\op≠4):
  Fn Tryz.prog 160 [.pointer (some ⟨pb,0,none⟩),.int .i64 x,.int .i64 y] w (λv w'=>v= .int .i64 (ct op x y)/\w=w'):=by
 refine QF (c:={cQe with cuts:=[]}) Qa Tryz.func160 rfl rfl rfl ?_;refine Qp h hc ?_;refine Zn (λc0=>?_) (λc0=>?_)
 ·have:0<=x*y/\x*y<=1:=by
   rcases(by omega:x=0∨x=1)with rfl | rfl<;>rcases(by omega:y=0∨y=1)with rfl | rfl<;>decide
  refine Qm (x*y) rfl (by omega) ?_;exact⟨by unfold ct;rw[Qe c0],rfl⟩
 refine Zn (λc1=>?_) (λc1=>?_)
 ·refine norm (m:=max x y) (by rw[Int.max_def];split<;>split<;>omega) ?_;exact⟨by unfold ct;rw[if_neg c0,Qe c1],rfl⟩
 ·refine Qm (x+y) rfl (by omega) ?_;refine normIf (m:=(x+y) % 2) (by decide) (Int.tmod_eq_emod_of_nonneg (by omega)) ?_;exact⟨by unfold ct;rw[if_neg c0,if_neg c1,if_neg ho.1,if_neg ho.2],rfl⟩
theorem Nc (A:Option Addr)(n c:Nat)(r m v:Int)(nd:List Br)(w:World)(h:SB w A n c nd)(hm:m<n+2)(dM:v<64):
  Fn Tryz.prog 162 [Xg A n c r,.int .i64 m,.int .i64 v] w (λu w'=>u= .tuple #[.int .i64 (Ql nd m v).1,.int .i64 (Ql nd m v).2]/\Ext w w'):=by
 have Xb:=h.2;have aZ:n<=9223372036854775807:=by have:=h.1.le;have:=h.1.cap;simp only[maxLen] at this;omega
 refine QF (c:={cQg with cuts:=[]}) Qa Tryz.func162 rfl rfl rfl ?_;refine new (λw1 Qd Q2 Qh=>?_);refine Qs Qh rfl ?_;refine call (uf A n c r m nd w1 (h.ext Qd) hm) ?_;rintro u w2 ⟨rfl,Qg⟩;have Q4:=Qd.trans Qg;have Qw:=Qh.ext Qg;refine aB (λc1=>?_) (λc1=>?_)
 ·exact⟨by unfold Ql;rw[Qe c1],Q4⟩
 ·have ta:¬m<2:=λh2=>by
   unfold Qk at c1;rw[Qe h2] at c1;omega
  have hx:=Xs (show(m-2).toNat<nd.length by omega);generalize nd[(m-2).toNat]=b at hx;have e:Ql nd m v=(b.l,b.h):=by unfold Ql;rw[if_neg (by omega),hx]
  rw[e];refine XJ Qa (Ext w2) 16 [(true,0),(true,1),(true,2),(true,3),(true,4),(true,5),(true,6),(true,7),(true,8),(true,9),(true,10),(true,11),(true,12),(true,13),(true,14),(true,15)] (by kernel_rfl) (Ext.drew w2) ?_;refine QL (v:=.slice A n c) (λw' Qb=>by rw[(Qw.ext Qb).cell];rfl) ?_;refine Qm (((m-2).toNat:Nat):Int) (by omega) (by omega) ?_;refine Zo Y5 (h.ext Q4) rfl (by omega) (λp z hz hc=>?_);have m0:z=b:=Option.some.inj (hz.symm.trans hx);subst m0;refine QL (v:=.int .i64 z.l) (λw' Qb=>Qb.cell (hc 1 _ rfl)) ?_;refine QL (v:=.slice A n c) (λw' Qb=>by rw[(Qw.ext Qb).cell];rfl) ?_;refine Qm (((m-2).toNat:Nat):Int) (by omega) (by omega) ?_;refine Zo Y5 (h.ext Q4) rfl (by omega) (λp' z' Wl Kc=>?_);have Ik:z'=z:=Option.some.inj (Wl.symm.trans hx);subst Ik;refine QL (v:=.int .i64 z'.h) (λw' Qb=>Qb.cell (Kc 2 _ rfl)) ?_;exact⟨rfl,Q4.trans (Ext.drew w2)⟩
def Tr3.cells (t:Tr3):List Value:=[.int .i64 t.1,.int .i64 t.2.1,.int .i64 t.2.2]
theorem DJ (t:Tr3):(Tr3.cells t).length=3:=rfl
def ui (l:List Tr3):List Value:=l.flatMap Tr3.cells
theorem dQZ (l:List Tr3)(x:Tr3):ui (l++ [x])=ui l++Tr3.cells x:=by simp[ui]
def AS (pb:Nat)(NA SA:Option Addr):Nat->Prop:=λk=>k=pb∨Qi NA k∨Qi SA k
theorem AS.moved {w:World}{pb:Nat}{NA NA' SA SA':Option Addr}(h:Moved w NA NA')(h':Moved w SA SA'):∀k,AS pb NA' SA' k->AS pb NA SA k∨w.heap.size<=k:=by
 rintro k (rfl | hk | hk)
 ·exact .inl (.inl rfl)
 ·rcases h.rows k hk with h | h
  ·exact .inl (.inr (.inl h))
  ·exact .inr h
 ·rcases h'.rows k hk with h | h
  ·exact .inl (.inr (.inr h))
  ·exact .inr h
structure AD where
 A:Option Addr
 n:Nat
 c:Nat
 a:List Br
 ra:Int
 B:Option Addr
 m:Nat
 d:Nat
 b:List Br
 rb:Int
 op:Int
structure Ap (w0 w:World) (base pb:Nat) (D:AD) (NA:Option Addr) (nc:Nat) (SA:Option Addr) (sc:Nat) (st:List Br×List Tr3):Prop where
 e0:Ext w0 w
 as_:SB w0 D.A D.n D.c D.a
 bs:SB w0 D.B D.m D.d D.b
 p0:w0.heap.size<=pb
 blk:Blk w pb 183 [.slice D.A D.n D.c,.int .i64 D.ra,.slice D.B D.m D.d,.int .i64 D.rb,.int .i64 D.op,.slice NA st.1.length nc,.slice SA st.2.length sc]
 nown:Own w base 105 3 NA st.1.length nc (ju st.1)
 sown:Own w base 242 3 SA st.2.length sc (ui st.2)
 apart:∀i,Qi NA i->¬Qi SA i
 lt:pb<base
 top:base<=w.heap.size
def ATo (w0 w:World)(base pb:Nat)(D:AD)(NA SA:Option Addr)(st:List Br×List Tr3)(w':World):Prop:=∃NA' nc' SA' sc',Ap w0 w' base pb D NA' nc' SA' sc' st/\Mod (AS pb NA SA) w w'/\Moved w NA NA'/\Moved w SA SA'
theorem Ap.grow {w0 w w':World}{base pb:Nat}{D:AD}{NA:Option Addr}{nc:Nat}{SA:Option Addr}{sc:Nat}{st:List Br×List Tr3}(h:Ap w0 w base pb D NA nc SA sc st)(k:Ext w w'):Ap w0 w' base pb D NA nc SA sc st:=
 ⟨h.e0.trans k,h.as_,h.bs,h.p0,h.blk.ext k,h.nown.ext k,h.sown.ext k,h.apart,h.lt,Ze h.top k.size⟩
theorem Ap.kept {w0 w:World}{base pb:Nat}{D:AD}{NA:Option Addr}{nc:Nat}{SA:Option Addr}{sc:Nat}{st:List Br×List Tr3}(h:Ap w0 w base pb D NA nc SA sc st):∀i,AS pb NA SA i->w0.heap.size<=i:=by
 have:=h.p0;have:=h.lt;rintro i (rfl | hi | hi)
 ·omega
 ·have:=(h.nown.rows i hi).1;omega
 ·have:=(h.sown.rows i hi).1;omega
theorem dQ0 {l:List Tr3}{x y:Int}:∀{s:Nat}{t:Tr3},(∀j u,j<s->l[j]? =some u->¬(u.1=x/\u.2.1=y))->l[s]? =some t->t.1=x/\t.2.1=y->l.find? (λt=>decide (t.1=x/\t.2.1=y))=some t:=by
 induction l with
 | nil=>intro s t _ h;simp at h
 | cons u l ih=>
  intro s t hn h ht;cases s with
  | zero=>simp at h;subst h;rw[aQG (by simp[ht])]
  | succ s=>
   rw[CN (by have:=hn 0 u (by omega) rfl;simpa using this)];exact ih (s:=s) (λj v hj hv=>hn (j+1) v (by omega) (by simpa using hv)) (by simpa using h) ht
theorem dQ1 {l:List Tr3}{x y:Int}(h:∀j u,j<l.length->l[j]? =some u->¬(u.1=x/\u.2.1=y)):l.find? (λt=>decide (t.1=x/\t.2.1=y))=none:=by
 rw[tD];intro u hu;obtain⟨j,hj,rfl⟩:=CJ.1 hu;simpa using h j _ hj (Xs hj)
end
section
theorem Nd (w0:World)(base pb:Nat)(D:AD)(ha:K6 D.a)(hb:K6 D.b)(cX:D.n<=1000000000000/\D.m<=1000000000000)(ho:D.op≠3/\D.op≠4):∀(m:Nat)(x y:Int)(st:List Br×List Tr3)(NA SA:Option Addr)(nc sc:Nat)(w:World),
  Ap w0 w base pb D NA nc SA sc st->0<=x->0<=y->x+y<m->x<D.n+2->y<D.m+2->(Xn D.a D.b D.op m x y st).2.1.length<=100000000000->(Xn D.a D.b D.op m x y st).2.2.length<=100000000000->
  Fn Tryz.prog 107 [.pointer (some ⟨pb,0,none⟩),.int .i64 x,.int .i64 y] w (λv w'=>v= .int .i64 (Xn D.a D.b D.op m x y st).1/\ATo w0 w base pb D NA SA (Xn D.a D.b D.op m x y st).2 w')
 | 0,x,y,st,NA,SA,nc,sc,w,_,x0,y0,hm,_,_,_,_=>by omega
 | m+1,x,y,st,NA,SA,nc,sc,w,h,x0,y0,hm,hx,hy,Xu,JU=>by
  have ih:=Nd w0 base pb D ha hb cX ho m;have lQ1:=ly D.a D.b D.op (m+1) x y st;have KF:D.a.length=D.n:=h.as_.2;have ee:D.b.length=D.m:=h.bs.2;refine QF (c:={bQF with cuts:=[1]}) Qa Tryz.func107 rfl rfl rfl ?_;refine ia [] Qa [] (λ_:Unit=>[]) (λ_ w'=>w=w'/\¬(x<2/\y<2)) ?_ ?_
  ·refine QB (λc1=>?_) (λc1=>?_)
   ·refine QB (λc2=>?_) (λc2=>?_)
    ·rw[jw ⟨c1,c2⟩];refine call (dQY pb _ D.op x y w h.blk rfl x0 c1 y0 c2 ho) ?_;rintro v _ ⟨rfl,rfl⟩;exact⟨rfl,NA,nc,SA,sc,h,Mod.refl _ _,Moved.refl _ _,Moved.refl _ _⟩
    ·exact⟨(),rfl,rfl,λhh=>c2 hh.2⟩
   ·exact⟨(),rfl,rfl,λhh=>c1 hh.1⟩
  rintro⟨⟩ _ ⟨rfl,Xr⟩;have Il:SlS Tr3.cells 3 w SA st.2.length sc st.2:=⟨h.sown.sl,rfl⟩
  refine loop Qa [7] (λs:Nat=>[.int .i64 s]) (λs w'=>w=w'/\s<=st.2.length/\∀(j:Nat) (u:Tr3),j<s->st.2[j]? =some u->¬(u.1=x/\u.2.1=y)) (λs _=>st.2.length-s) 0 rfl ⟨rfl,XM _,λj u hj=>Xm hj (by omega)⟩ ?_;rintro s _ ⟨rfl,hs,Xi⟩;refine Qp h.blk rfl ?_;refine QB (λh3=>?_) (λh3=>?_)
  ·have again:∀t:Tr3,st.2[s]? =some t->¬(t.1=x/\t.2.1=y)->∀(j:Nat) (u:Tr3),j<s+1->st.2[j]? =some u->¬(u.1=x/\u.2.1=y):=λt ht hn j u hj hu=>by
    by_cases Ys:j<s
    ·exact Xi j u Ys hu
    ·have:j=s:=by omega
     subst this;rw[Option.some.inj (hu.symm.trans ht)];exact hn
   refine Qp h.blk rfl ?_;refine Zo DJ Il rfl (by omega) (λp t ht hc=>?_);refine index (j:=0) (by decide) ?_;refine load (hc 0 _ rfl) ?_;refine Zn (λe1=>?_) (λe1=>?_)
   ·refine Qp h.blk rfl ?_;refine Zo DJ Il rfl (by omega) (λp' t' ht' Kc=>?_);have wI:t'=t:=Option.some.inj (ht'.symm.trans ht);subst wI;refine index (j:=1) (by decide) ?_;refine load (Kc 1 _ rfl) ?_;refine Zn (λe2=>?_) (λe2=>?_)
    ·refine Qp h.blk rfl ?_;refine Zo DJ Il rfl (by omega) (λp2 t2 j7 Kw=>?_);have iQO:t2=t':=Option.some.inj (j7.symm.trans ht);subst iQO;refine index (j:=2) (by decide) ?_;refine load (Kw 2 _ rfl) ?_;rw[jx Xr (dQ0 Xi ht ⟨e1,e2⟩)];exact⟨rfl,NA,nc,SA,sc,h,Mod.refl _ _,Moved.refl _ _,Moved.refl _ _⟩
    ·refine Qm ((s+1:Nat):Int) (by omega) (by omega) ?_;exact⟨s+1,rfl,⟨rfl,by omega,again t' ht (λhh=>e2 hh.2)⟩,by show st.2.length-(s+1)<st.2.length-s;omega⟩
   ·refine Qm ((s+1:Nat):Int) (by omega) (by omega) ?_;exact⟨s+1,rfl,⟨rfl,by omega,again t ht (λhh=>e1 hh.1)⟩,by show st.2.length-(s+1)<st.2.length-s;omega⟩
  have pT:s=st.2.length:=by omega
  subst pT;have Im:=dQ1 Xi;have zY:=h.e0;refine XJ Qa (Ext w) 13 [(true,0),(true,1),(true,2),(true,3),(true,4),(true,6),(true,7),(true,8),(true,9),(true,10),(false,5),(false,11),(true,12)] (by kernel_rfl) (Ext.drew w) ?_;refine Xl (vs:=[.slice D.A D.n D.c,.int .i64 D.ra]) rfl (λw' Qb j v hj=>by
   rw[add_add,(h.blk.ext Qb).cell]
   match j,hj with
   | 0,hj=>exact hj
   | 1,hj=>exact hj) ?_
  refine Xl (vs:=[.slice D.B D.m D.d,.int .i64 D.rb]) rfl (λw' Qb j v hj=>by
   rw[add_add,(h.blk.ext Qb).cell]
   match j,hj with
   | 0,hj=>exact hj
   | 1,hj=>exact hj) ?_
  refine call (uf D.A D.n D.c D.ra x D.a _ (h.as_.ext (zY.trans (Ext.drew w))) hx) ?_;rintro v w1 ⟨rfl,Qd⟩;have FN:=(Ext.drew w).trans Qd;refine⟨FN,?_⟩;refine call (uf D.B D.m D.d D.rb y D.b w1 (h.bs.ext (zY.trans FN)) hy) ?_;rintro v w2 ⟨rfl,Qg⟩;have Q4:=FN.trans Qg;refine⟨Q4,?_⟩;refine norm (m:=min (Qk D.a x) (Qk D.b y)) (by rw[ZR];split<;>split<;>omega) ?_;have Zs:min (Qk D.a x) (Qk D.b y)<64:=by
   by_cases c:x<2
   ·have:=WE hb (n:=y) (λc2=>Xr ⟨c,c2⟩) (by omega);rw[ZR];split<;>omega
   ·have:=WE ha (n:=x) c (by omega);rw[ZR];split<;>omega
  have ei:Qk D.a x=min (Qk D.a x) (Qk D.b y)∨Qk D.b y=min (Qk D.a x) (Qk D.b y):=by rw[ZR];split<;>simp
  have s9:=jy (a:=D.a) (b:=D.b) (op:=D.op) (m:=m) Xr Im _ rfl;rw[s9] at Xu JU ⊢;generalize min (Qk D.a x) (Qk D.b y)=v at*;obtain⟨s1,s2,s3,s4,s5⟩:=YP ha (n:=x) x0 Zs;obtain⟨t1,t2,t3,t4,t5⟩:=YP hb (n:=y) y0 Zs;have dec:(Ql D.a x v).1+(Ql D.b y v).1<m/\(Ql D.a x v).2+(Ql D.b y v).2<m:=by
   rcases ei with e | e
   ·have:=s5 e;omega
   ·have:=t5 e;omega
  have h2:=h.grow Q4;refine J4 (vs:=[.slice D.A D.n D.c,.int .i64 D.ra]) rfl (λj v hj=>by
   rw[add_add,h2.blk.cell]
   match j,hj with
   | 0,hj=>exact hj
   | 1,hj=>exact hj) ?_
  refine call (Nc D.A D.n D.c D.ra x v D.a w2 (h2.as_.ext h2.e0) hx Zs) ?_;rintro _ w3 ⟨rfl,Qj⟩;have lV:=h2.grow Qj;refine J4 (vs:=[.slice D.B D.m D.d,.int .i64 D.rb]) rfl (λj v hj=>by
   rw[add_add,lV.blk.cell]
   match j,hj with
   | 0,hj=>exact hj
   | 1,hj=>exact hj) ?_
  refine call (Nc D.B D.m D.d D.rb y v D.b w3 (lV.bs.ext lV.e0) hy Zs) ?_;rintro _ w4 ⟨rfl,Qq⟩;have XF:=(Q4.trans Qj).trans Qq;have h4:=lV.grow Qq;have lQa:=ly D.a D.b D.op m (Ql D.a x v).1 (Ql D.b y v).1 st;have lQb:=ly D.a D.b D.op m (Ql D.a x v).2 (Ql D.b y v).2 (Xn D.a D.b D.op m (Ql D.a x v).1 (Ql D.b y v).1 st).2;simp only[Qy,Xk,Z8] at Xu JU;have ulen:=ug ⟨v,(Xn D.a D.b D.op m (Ql D.a x v).1 (Ql D.b y v).1 st).1,(Xn D.a D.b D.op m (Ql D.a x v).2 (Ql D.b y v).2 (Xn D.a D.b D.op m (Ql D.a x v).1 (Ql D.b y v).1 st).2).1⟩ (Xn D.a D.b D.op m (Ql D.a x v).2 (Ql D.b y v).2 (Xn D.a D.b D.op m (Ql D.a x v).1 (Ql D.b y v).1 st).2).2.1;refine call (ih _ _ st NA SA nc sc w4 h4 s1 t1 dec.1 (by omega) (by omega) (by omega) (by omega)) ?_;rintro _ w5 ⟨rfl,NA5,nc5,SA5,sc5,h5,ZW,FO,FP⟩;refine call (ih _ _ _ NA5 SA5 nc5 sc5 w5 h5 s3 t3 dec.2 (by omega) (by omega) (by omega) (by omega)) ?_;rintro _ w6 ⟨rfl,NA6,nc6,SA6,sc6,h6,KI,vj,FD⟩;have mf:=ZW.trans KI (AS.moved FO FP);have Sf:=FO.trans vj ZW.size;have Sh:=FP.trans FD ZW.size;generalize (Xn D.a D.b D.op m (Ql D.a x v).1 (Ql D.b y v).1 st)=r0 at*;generalize (Xn D.a D.b D.op m (Ql D.a x v).2 (Ql D.b y v).2 r0.2)=r1 at*;have iQP:=h6.nown.rows;have iQQ:=h6.sown.rows;have lQc:=h6.lt;have lQd:=h6.top;refine Qp h6.blk rfl ?_;refine call (dQX base NA6 _ nc6 r1.2.1 ⟨v,r0.1,r1.1⟩ w6 h6.nown rfl h6.top (by omega)) ?_;rintro _ w7 ⟨NA7,nc7,rfl,sh,Q8,Si⟩;have QY:=h6.blk.mod Q8 (λe=>by have:=(iQP _ e).1;omega);have KW:=h6.sown.mod Q8 (λi hi e=>h6.apart i e hi);generalize ZN ⟨v,r0.1,r1.1⟩ r1.2.1=u at*;refine XK QY (by simp) (λw8 ZA Xp=>?_);have iQR:=sh.mod ZA (λi hi e=>by have:=(sh.rows i hi).1;omega);have gi:=KW.mod ZA (λi hi e=>by have:=(KW.rows i hi).1;omega);refine Qp Xp rfl ?_;refine XE Qa [Tr3.cells (x,y,u.2)] rfl rfl rfl rfl rfl ⟨rfl,rfl,⟨⟩⟩ rfl (λcs h=>by simp only[QJ] at h;subst h;rfl) rfl (by decide) (by decide) ?_;intro w9 Xw dN JM;have FB:Sl w9 3 (some ⟨w8.heap.size,0,none⟩) 1 1 (Tr3.cells (x,y,u.2)):=Sl.own (sz:=3) (n:=1) JM (QE _) (by decide) (by simp[Tr3.cells]);have z7:=Q8.size;have z8:=ZA.size;have z9:=Xw.size;refine JE Qa rfl rfl rfl rfl rfl (by decide) rfl rfl ⟨_,rfl⟩ rfl rfl (gi.ext Xw) FB (by intro u hu;simp[Tr3.cells] at hu;rcases hu with rfl | rfl | rfl<;>rfl) (by unfold maxLen;omega) (by show _*24<=_;omega) (by omega) ?_;intro SA10 FQ QG Zk Sj Sk;have iQS:=gi.rows;refine XK ((Xp.ext Xw).mod Zk (λe=>by have:=(iQS _ e).1;omega)) (by simp) (λQD ZQ ZU=>?_);have Sm:∀i,Qi NA7 i->¬Qi SA6 i:=λi hi e=>by
   rcases Si.rows i hi with hh | hh
   ·exact h6.apart i hh e
   ·have:=(iQQ i e).2;omega
  have iQT:∀i,Qi NA7 i->¬Qi SA10 i:=λi hi e=>by
   rcases Sk.rows i e with hh | hh
   ·exact Sm i hi hh
   ·have:=(sh.rows i hi).2;omega
  have iQU:=((iQR.ext Xw).mod Zk (λi hi e=>Sm i hi e)).mod ZQ (λi hi e=>by have:=(sh.rows i hi).1;omega);have o7:=Sj.mod ZQ (λi hi e=>by have:=(Sj.rows i hi).1;omega);have So:Mod (AS pb NA6 SA6) w6 QD:=((((Q8.mono (λi hi=>.inl (.inr (.inl hi)))).trans ZA (λi hi=>.inl (.inl hi))).trans (Mod.of_ext (AS pb NA6 SA6) Xw) (λi hi=>.inl hi)).trans Zk (λi hi=>.inl (.inr (.inr hi)))).trans ZQ (λi hi=>.inl (.inl hi));have kQy:=mf.trans So (AS.moved Sf Sh);have el:(r1.2.2++ [((x,y,u.2):Tr3)]).length=r1.2.2.length+1:=by simp
  refine⟨rfl,NA7,nc7,SA10,FQ,⟨So.ext h6.e0 h6.kept,h.as_,h.bs,h.p0,?_,iQU,?_,iQT,h.lt,?_⟩,(Mod.of_ext (AS pb NA SA) XF).trans kQy (λi hi=>.inl hi),?_,?_⟩
  ·show Blk QD pb _ [_,_,_,_,_,_,.slice SA10 (r1.2.2++ [((x,y,u.2):Tr3)]).length FQ];rw[el];exact ZU
  ·show Own QD base _ 3 SA10 (r1.2.2++ [((x,y,u.2):Tr3)]).length FQ (ui (r1.2.2++ [((x,y,u.2):Tr3)]));rw[el,dQZ];exact o7
  ·have:=Zk.size;have:=ZQ.size;omega
  ·exact(Sf.back XF.size).trans Si (by have:=XF.size;have:=mf.size;omega)
  ·exact(Sh.back XF.size).trans (Sk.back (by omega)) (by have:=XF.size;have:=mf.size;omega)
end
section
def Nf (st:List Br×List Tr3):Prop:=WD st.1/\∀t∈st.2,0<=t.2.2/\t.2.2<st.1.length+2
theorem dQ2 {b:Br}{l:List Br}(hw:WD l)(h1:0<=b.l)(h2:b.l<l.length+2)(h3:0<=b.h)(h4:b.h<l.length+2):WD (ZN b l).1/\0<=(ZN b l).2/\(ZN b l).2<(ZN b l).1.length+2:=by
 have idx:∀{l:List Br} {i:Nat},Kr b l=some i->i<l.length:=by
  intro l;induction l with
  | nil=>intro i h;cases h
  | cons x l ih=>
   intro i h;unfold Kr at h;split at h
   ·cases h;simp
   ·cases hf:Kr b l with
    | none=>rw[hf] at h;cases h
    | some k=>rw[hf] at h;cases h;have:=ih hf;simp;omega
 unfold ZN;split
 ·exact⟨hw,h1,h2⟩
 ·split
  ·rename_i i hi;have:=idx hi;exact⟨hw,by omega,by simp only;omega⟩
  ·refine⟨λj x hx=>?_,by omega,by simp only[Qy,Xk,Z8];omega⟩;by_cases hj:j<l.length
   ·rw[bY hj] at hx;exact hw j x hx
   ·rw[Ws (by omega)] at hx;have lW:j-l.length=0:=by
     cases hk:j-l.length with
     | zero=>rfl
     | succ k=>rw[hk] at hx;simp at hx
    rw[lW] at hx;simp at hx;subst hx;omega
theorem DK {op x y:Int}(x0:0<=x)(x1:x<2)(y0:0<=y)(y1:y<2):0<=ct op x y/\ct op x y<2:=by
 unfold ct;rcases(by omega:x=0∨x=1)with rfl | rfl<;>rcases(by omega:y=0∨y=1)with rfl | rfl<;>(split<;>first | decide | (split<;>first | decide | (split<;>first | decide | (split<;>decide))))
theorem uj {a b:List Br}(ha:K6 a)(hb:K6 b)(op:Int):∀(m:Nat)(x y:Int)(st:List Br×List Tr3),Nf st->0<=x->0<=y->x<a.length+2->y<b.length+2->
  Nf (Xn a b op m x y st).2/\0<=(Xn a b op m x y st).1/\(Xn a b op m x y st).1<(Xn a b op m x y st).2.1.length+2
 | 0,x,y,st,h,_,_,_,_=>⟨h,kX _,by show(0:Int)<st.1.length+2;omega⟩
 | m+1,x,y,st,h,x0,y0,hx,hy=>by
  by_cases Xr:x<2/\y<2
  ·rw[jw Xr];have:=DK (op:=op) x0 Xr.1 y0 Xr.2;exact⟨h,this.1,by simp only;omega⟩
  cases k:st.2.find? (λt=>decide (t.1=x/\t.2.1=y))with
  | some t=>
   rw[jx Xr k];have:=h.2 t (aQH k);exact⟨h,this.1,this.2⟩
  | none=>
   have Zs:min (Qk a x) (Qk b y)<64:=by
    by_cases c:x<2
    ·have:=WE hb (n:=y) (λc2=>Xr ⟨c,c2⟩) (by omega);rw[ZR];split<;>omega
    ·have:=WE ha (n:=x) c (by omega);rw[ZR];split<;>omega
   rw[jy Xr k _ rfl];generalize min (Qk a x) (Qk b y)=v at*;obtain⟨s1,s2,s3,s4,s5⟩:=YP ha (n:=x) x0 Zs;obtain⟨t1,t2,t3,t4,t5⟩:=YP hb (n:=y) y0 Zs;have i1:=uj ha hb op m (Ql a x v).1 (Ql b y v).1 st h s1 t1 (by omega) (by omega);have m2:=ly a b op m (Ql a x v).2 (Ql b y v).2 (Xn a b op m (Ql a x v).1 (Ql b y v).1 st).2;generalize (Xn a b op m (Ql a x v).1 (Ql b y v).1 st)=r0 at*;have i2:=uj ha hb op m (Ql a x v).2 (Ql b y v).2 r0.2 i1.1 s3 t3 (by omega) (by omega);generalize (Xn a b op m (Ql a x v).2 (Ql b y v).2 r0.2)=r1 at*;have hu:=dQ2 (b:=⟨v,r0.1,r1.1⟩) (l:=r1.2.1) i2.1.1 i1.2.1 (by have:=i1.2.2;simp only;omega) i2.2.1 i2.2.2;have hul:=ug ⟨v,r0.1,r1.1⟩ r1.2.1;generalize ZN ⟨v,r0.1,r1.1⟩ r1.2.1=u at*;refine⟨⟨hu.1,λt ht=>?_⟩,hu.2.1,hu.2.2⟩;simp only[XB,QJ] at ht;rcases ht with ht | rfl
   ·have:=i2.1.2 t ht;exact⟨this.1,by simp only;omega⟩
   ·exact⟨hu.2.1,hu.2.2⟩
def jz (a:List Br)(ra:Int)(b:List Br)(rb op:Int):Int×(List Br×List Tr3):=Xn a b op (ra.toNat+rb.toNat+1) ra rb ([],[])
def Vo (a:List Br)(ra:Int)(b:List Br)(rb op:Int):List Br×Int:=aG (jz a ra b rb op).2.1 (jz a ra b rb op).1
def ii (d:List Br×Int):(List Br×Int)×Int:=if 4096<d.1.length then(([],0),2)else(d,0)
def dw (a:List Br)(ra:Int)(b:List Br)(rb op:Int):(List Br×Int)×Int:=if XC a ra≠0 then(([],0),XC a ra)else if XC b rb≠0 then(([],0),XC b rb)else ii (Vo a ra b rb op)
def og (w:World)(r:(List Br×Int)×Int)(v:Value)(w':World):Prop:=∃A n c,v= .tuple #[Xg A n c r.1.2,.int .i64 r.2]/\Ext w w'/\SB w' A n c r.1.1/\∀i,Qi A i->w.heap.size<=i
theorem dQ3 (A:Option Addr)(n c:Nat)(a:List Br)(ra:Int)(B:Option Addr)(m d:Nat)(b:List Br)(rb op:Int)(w:World)(h:SB w A n c a)(h':SB w B m d b)(ha:K6 a)(hb:K6 b)(r0:0<=ra)(r1:ra<n+2)(s0:0<=rb)(s1:rb<m+2)(hn:n<=1000000000000)(hm:m<=1000000000000)
  (Xu:(jz a ra b rb op).2.1.length<=100000000000) (JU:(jz a ra b rb op).2.2.length<=100000000000) (ho:op≠3/\op≠4):
  Fn Tryz.prog 58 [Xg A n c ra,Xg B m d rb,.int .i64 op] w (ue w (Vo a ra b rb op)):=by
 have KF:=h.2;have ee:=h'.2;refine QF (c:={c58 with cuts:=[]}) Qa Tryz.func58 rfl rfl rfl ?_;refine new (λw1 Qd Q2 Qh=>?_);refine new (λw2 Qg X9 Qw=>?_);refine new (λw3 Qj JV Qu=>?_);have QQ:=(Qd.trans Qg).trans Qj;have KJ:=(Qh.ext Qg).ext Qj;have mi:=Qw.ext Qj;refine Qs KJ rfl ?_;refine Qs mi rfl ?_;refine new (λw4 Qq Kz QZ=>?_);have XF:=QQ.trans Qq
 let D:AD:=⟨A,n,c,a,ra,B,m,d,b,rb,op⟩
 have hA:Ap w3 w4 w4.heap.size w3.heap.size D none 0 none 0 ([],[]):=⟨Qq,h.ext QQ,h'.ext QQ,QE _,QZ,Own.nil _ _ _ _,Own.nil _ _ _ _,(λi hi=>by obtain⟨_,e,_⟩:=hi;cases e),(by omega),QE _⟩
 refine Qp (KJ.ext Qq) rfl ?_;refine Qp (mi.ext Qq) rfl ?_;have inv:=uj ha hb op (ra.toNat+rb.toNat+1) ra rb ([],[]) ⟨λj x hx=>by simp at hx,λt ht=>by simp at ht⟩ r0 s0 (by omega) (by omega);refine call (Nd w3 w4.heap.size w3.heap.size D ha hb ⟨hn,hm⟩ ho (ra.toNat+rb.toNat+1) ra rb ([],[]) none none 0 0 w4 hA r0 s0 (by omega) r1 s1 Xu JU) ?_;rintro v w5 ⟨rfl,NA,nc,SA,sc1,FR,ZW,FO,FP⟩;have Qt:Ext w3 w5:=FR.e0;have Jm:=QQ.trans Qt;refine Qp FR.blk rfl ?_;refine call (dQW NA _ nc _ _ w5 ⟨FR.nown.sl,rfl⟩ inv.1.1 (by have:(jz a ra b rb op).2.1.length<=100000000000:=Xu;exact Ze this (by decide)) inv.2.1 inv.2.2) ?_;rintro v w6 ⟨OA,k,oc,rfl,Q6,eX,f9⟩;refine Qx ((Qu.ext Qt).ext Q6) rfl (sc rfl) (λw7 Zr _ QY=>?_);have Q8:Mod (·=w2.heap.size) w6 w7:=mQj Zr rfl;refine Qs QY rfl ?_;have z5:=Qt.size;have nr:∀i,Qi OA i->¬i=w2.heap.size:=λi hi e=>by have:=f9 i hi;omega
 refine⟨OA,k,oc,rfl,Q8.ext (Jm.trans Q6) (λi hi=>by have:=Qd.size;have:=Qg.size;omega),⟨eX.1.modS Q8 (λ_ i hi=>nr i hi),eX.2⟩,λi hi=>by have:=f9 i hi;have:=Jm.size;omega⟩
theorem dQ4 (k:Int)(w:World)(h0:0<=k)(h1:k<=63):Fn Tryz.prog 30 [.int .i64 k] w (og w (([⟨k,0,1⟩],2),0)):=by
 refine QF (c:={c30 with cuts:=[]}) Qa Tryz.func30 rfl rfl rfl ?_;refine new (λw1 Qd Q2 Qh=>?_);refine Xy (by omega) ?_;refine Xy (by omega) ?_;refine XE Qa [(⟨k,0,1⟩:Br).cells] rfl rfl rfl rfl rfl ⟨rfl,rfl,⟨⟩⟩ rfl (λcs h=>by simp only[QJ] at h;subst h;rfl) rfl (by decide) (by decide) ?_;intro w2 Qg X9 Qw;refine Qx (Qh.ext Qg) rfl (sc rfl) (λw3 ZT _ Qu=>?_);have ZP:Mod (·=w.heap.size) w2 w3:=mQj ZT rfl;refine Qs Qu rfl ?_;refine⟨some ⟨w1.heap.size,0,none⟩,1,1,rfl,ZP.ext (Qd.trans Qg) (λi hi=>by omega),⟨Sl.own (sz:=3) (n:=1) (Qw.mod ZP (by omega)) (QE _) (by decide) (by simp[Br.cells]),rfl⟩,λi ⟨ad,e,hi⟩=>by cases e;simp only at hi;omega⟩
end
section
structure DV where
 A:Option Addr
 n:Nat
 c:Nat
 nd:List Br
 r:Int
def DV.cells (x:DV):List Value:=[.slice x.A x.n x.c,.int .i64 x.r]
theorem cv (x:DV):x.cells.length=2:=rfl
def bq:List DV->Int
 | []=>0
 | x::l=>if XC x.nd x.r≠0 then XC x.nd x.r else bq l
theorem dQ5 {l:List DV}:∀{s:Nat}{x:DV},(∀j y,j<s->l[j]? =some y->XC y.nd y.r=0)->l[s]? =some x->XC x.nd x.r≠0->bq l=XC x.nd x.r:=by
 induction l with
 | nil=>intro s x _ h;simp at h
 | cons y l ih=>
  intro s x hn h hx;cases s with
  | zero=>simp at h;subst h;rw[bq,Qe hx]
  | succ s=>
   rw[bq,if_neg (λhh=>hh (hn 0 y (by omega) rfl))];exact ih (s:=s) (λj z hj hz=>hn (j+1) z (by omega) (by simpa using hz)) (by simpa using h) hx
theorem dQ6 {l:List DV}(h:∀j y,j<l.length->l[j]? =some y->XC y.nd y.r=0):bq l=0:=by
 induction l with
 | nil=>rfl
 | cons y l ih=>
  rw[bq,if_neg (λhh=>hh (h 0 y (by simp) rfl))];exact ih (λj z hj hz=>h (j+1) z (by simpa using hj) (by simpa using hz))
end
end
section
section
def cw (nd:List Br):Nat->Int->(Nat->Bool)->Bool
 | 0,n,_=>decide (n=1)
 | m+1,n,e=>if n<2 then decide (n=1)else match nd[(n-2).toNat]? with
  | none=>false
  | some b=>if e b.v.toNat then cw nd m b.h e else cw nd m b.l e
def ev (nd:List Br)(n:Int)(e:Nat->Bool):Bool:=cw nd n.toNat n e
theorem jA {nd:List Br}{m:Nat}{n:Int}{e:Nat->Bool}(h:n<2):cw nd m n e=decide (n=1):=by
 cases m with
 | zero=>rfl
 | succ m=>rw[cw,Qe h]
theorem yD {nd:List Br}(hw:WD nd):∀(m m':Nat)(n:Int)(e:Nat->Bool),n<=m->n<=m'->cw nd m n e=cw nd m' n e
 | 0,m',n,e,h,_=>by rw[jA (by omega),jA (by omega)]
 | m+1,0,n,e,_,h=>by rw[jA (by omega),jA (by omega)]
 | m+1,m'+1,n,e,h,h'=>by
  by_cases hn:n<2
  ·rw[jA hn,jA hn]
  ·rw[cw,cw,if_neg hn,if_neg hn];cases hb:nd[(n-2).toNat]? with
   | none=>rfl
   | some b=>
    obtain⟨h1,h2,h3,h4⟩:=hw _ _ hb;simp only;rw[yD hw m m' b.h e (by omega) (by omega),yD hw m m' b.l e (by omega) (by omega)]
theorem Jr {nd:List Br}{n:Int}{e:Nat->Bool}(h:n<2):ev nd n e=decide (n=1):=jA h
theorem br {nd:List Br}(hw:WD nd){n:Int}{e:Nat->Bool}{b:Br}(h:¬n<2)(hb:nd[(n-2).toNat]? =some b):ev nd n e=if e b.v.toNat then ev nd b.h e else ev nd b.l e:=by
 obtain⟨h1,h2,h3,h4⟩:=hw _ _ hb;unfold ev;obtain⟨k,hk⟩:∃k,n.toNat=k+1:=⟨n.toNat-1,by omega⟩
 rw[hk,cw,if_neg h,hb];simp only;rw[yD hw k b.h.toNat b.h e (by omega) (by omega),yD hw k b.l.toNat b.l e (by omega) (by omega)]
def Rd0 (nd:List Br):Prop:=∀(j:Nat)(b:Br),nd[j]? =some b->fK nd j b
theorem Rd0.wf {nd:List Br}(h:Rd0 nd):WD nd:=λj x hx=>by
 obtain⟨_,_,h1,h2,h3,h4,_⟩:=h j x hx;exact⟨h1,h2,h3,h4⟩
theorem VD.rd0 {nd:List Br}{r:Int}(h:VD nd r):Rd0 nd:=h.1
theorem cy {nd:List Br}{n:Int}{b:Br}(h:¬n<2)(hb:nd[(n-2).toNat]? =some b):Qk nd n=b.v:=by unfold Qk;rw[if_neg h,hb]<;>rfl
def VZ (e:Nat->Bool)(v:Nat)(x:Bool):Nat->Bool:=λk=>if k=v then x else e k
theorem YQ {nd:List Br}{n:Int}(h:¬n<2)(hn:n<nd.length+2):∃b,nd[(n-2).toNat]? =some b:=⟨_,Xs (by omega)⟩
theorem cz {nd:List Br}(h:Rd0 nd)(v:Nat)(x:Bool)(e:Nat->Bool):∀(m:Nat)(n:Int),n.toNat<m->n<nd.length+2->(v:Int)<Qk nd n->ev nd n (VZ e v x)=ev nd n e
 | 0,n,hm,_,_=>by omega
 | m+1,n,hm,hn,hv=>by
  by_cases h2:n<2
  ·rw[Jr h2,Jr h2]
  obtain⟨b,hb⟩:=YQ h2 hn;obtain⟨b1,b2,b3,b4,b5,b6,b7,b8,b9,aj⟩:=h _ _ hb;rw[cy h2 hb] at hv;rw[br h.wf h2 hb,br h.wf h2 hb,cz h v x e m b.h (by omega) (by omega) (by omega),cz h v x e m b.l (by omega) (by omega) (by omega)];have:VZ e v x b.v.toNat=e b.v.toNat:=by unfold VZ;rw[if_neg (by omega)]
  rw[this]
def Eqv (nd:List Br)(n:Int)(XT:List Br)(n':Int):Prop:=∀e,ev nd n e=ev XT n' e
theorem Eqv.symm {nd XT:List Br}{n n':Int}(h:Eqv nd n XT n'):Eqv XT n' nd n:=λe=>(h e).symm
theorem Eqv.trans {nd XT iC:List Br}{n n' n2:Int}(h:Eqv nd n XT n')(k:Eqv XT n' iC n2):Eqv nd n iC n2:=λe=>(h e).trans (k e)
def yE (nd:List Br)(m:Nat):Prop:=∀(n n':Int),0<=n->0<=n'->n<m->n'<m->n<nd.length+2->n'<nd.length+2->Eqv nd n nd n'->n=n'
theorem uk {nd:List Br}(h:Rd0 nd){n:Int}{b:Br}(h2:¬n<2)(hb:nd[(n-2).toNat]? =some b)(hn:n<nd.length+2)(e:Nat->Bool):ev nd n (VZ e b.v.toNat true)=ev nd b.h e/\ev nd n (VZ e b.v.toNat false)=ev nd b.l e:=by
 obtain⟨b1,b2,b3,b4,b5,b6,b7,b8,b9,aj⟩:=h _ _ hb;have e1:VZ e b.v.toNat true b.v.toNat=true:=by unfold VZ;rw[Qe rfl]
 have e2:VZ e b.v.toNat false b.v.toNat=false:=by unfold VZ;rw[Qe rfl]
 rw[br h.wf h2 hb,br h.wf h2 hb,e1,e2,Qe rfl,if_neg (by decide)];exact⟨cz h _ _ _ (b.h.toNat+1) _ (by omega) (by omega) (by omega),cz h _ _ _ (b.l.toNat+1) _ (by omega) (by omega) (by omega)⟩
theorem dep {nd:List Br}(h:Rd0 nd){n:Int}{m:Nat}{b:Br}(hi:yE nd m)(h2:¬n<2)(hb:nd[(n-2).toNat]? =some b)(hn:n<nd.length+2)(hm:n<=m):∃e,ev nd n (VZ e b.v.toNat true)≠ev nd n (VZ e b.v.toNat false):=by
 obtain⟨b1,b2,b3,b4,b5,b6,b7,b8,b9,aj⟩:=h _ _ hb;refine Classical.byContradiction (λQK=>b7 ?_);refine hi b.l b.h b3 b5 (by omega) (by omega) (by omega) (by omega) (λe=>?_);have:=uk h h2 hb hn e;rw[<-this.1,<-this.2];refine Classical.byContradiction (λhh=>QK ⟨e,λh3=>hh h3.symm⟩)
theorem qV {nd XT:List Br}(h:Rd0 nd){n n':Int}{m:Nat}(hi:yE nd m)(hm:n<=m)(hn:n<nd.length+2)(h2:n'<2)(k:Eqv nd n XT n'):n<2:=by
 refine Classical.byContradiction (λhh=>?_);obtain⟨b,hb⟩:=YQ hh hn;obtain⟨e,he⟩:=dep h hi hh hb hn hm;apply he;rw[k,k,Jr h2,Jr h2]
theorem qW {nd XT:List Br}(h:Rd0 nd)(h':Rd0 XT){n n':Int}{m:Nat}{b b':Br}(hi:yE nd m)(hm:n<=m)(hn:n<nd.length+2)(Kb:n'<XT.length+2)(h2:¬n<2)(Z6:¬n'<2)(hb:nd[(n-2).toNat]? =some b)(hb':XT[(n'-2).toNat]? =some b')(k:Eqv nd n XT n'):b'.v<=b.v:=by
 refine Classical.byContradiction (λhh=>?_);obtain⟨e,he⟩:=dep h hi h2 hb hn hm;apply he;obtain⟨b1,_⟩:=h _ _ hb;rw[k,k,cz h' _ _ _ (n'.toNat+1) _ (by omega) Kb (by rw[cy Z6 hb'];omega),cz h' _ _ _ (n'.toNat+1) _ (by omega) Kb (by rw[cy Z6 hb'];omega)]
theorem Ng {nd XT:List Br}(h:Rd0 nd)(h':Rd0 XT){n n':Int}{b b':Br}(hn:n<nd.length+2)(Kb:n'<XT.length+2)(h2:¬n<2)(Z6:¬n'<2)(hb:nd[(n-2).toNat]? =some b)(hb':XT[(n'-2).toNat]? =some b')(k:Eqv nd n XT n')(hv:b.v=b'.v):Eqv nd b.l XT b'.l/\Eqv nd b.h XT b'.h:=by
 refine⟨λe=>?_,λe=>?_⟩
 ·rw[<-(uk h h2 hb hn e).2,<-(uk h' Z6 hb' Kb e).2,k,hv]
 ·rw[<-(uk h h2 hb hn e).1,<-(uk h' Z6 hb' Kb e).1,k,hv]
theorem qY {nd:List Br}(h:Rd0 nd):∀m,yE nd m
 | 0=>λn n' h0 _ hm _ _ _ _=>by omega
 | m+1=>λn n' h0 si hm Ca hn Kb k=>by
  have ih:=qY h m;by_cases h2:n<2
  ·have Z6:n'<2:=qV h ih (by omega) Kb h2 k.symm;have:=k (λ_=>true);rw[Jr h2,Jr Z6,qq] at this;omega
  by_cases Z6:n'<2
  ·exact Xm (qV h ih (by omega) hn Z6 k) h2
  obtain⟨b,hb⟩:=YQ h2 hn;obtain⟨b',hb'⟩:=YQ Z6 Kb;have hv:b.v=b'.v:=Int.le_antisymm (qW h h ih (by omega) Kb hn Z6 h2 hb' hb k.symm) (qW h h ih (by omega) hn Kb h2 Z6 hb hb' k);obtain⟨k1,k2⟩:=Ng h h hn Kb h2 Z6 hb hb' k hv;obtain⟨b1,b2,b3,b4,b5,b6,b7,b8,b9,aj⟩:=h _ _ hb;obtain⟨c1,c2,c3,c4,c5,c6,c7,c8,c9,qH⟩:=h _ _ hb';have el:=ih b.l b'.l b3 c3 (by omega) (by omega) (by omega) (by omega) k1;have eh:=ih b.h b'.h b5 c5 (by omega) (by omega) (by omega) (by omega) k2;have ebb:b=b':=by cases b;cases b';simp_all
  subst ebb;rcases Int.lt_trichotomy n n' with Xa | heq | hgt
  ·exact Xm (Xe (i:=(n-2).toNat) (by rw[tC (by omega)];exact hb)) c8
  ·exact heq
  ·exact Xm (Xe (i:=(n'-2).toNat) (by rw[tC (by omega)];exact hb')) b8
theorem inj {nd:List Br}(h:Rd0 nd){n n':Int}(h0:0<=n)(si:0<=n')(hn:n<nd.length+2)(Kb:n'<nd.length+2)(k:Eqv nd n nd n'):n=n':=
 qY h (nd.length+2) n n' h0 si (by omega) (by omega) hn Kb k
structure Twin (nd XT:List Br) (st Wp:List Br×List Nat):Prop where
 out:st.1=Wp.1
 len:st.2.length=nd.length
 len':Wp.2.length=XT.length
 num:∀(n n':Int),¬n<2->¬n'<2->n<nd.length+2->n'<XT.length+2->Eqv nd n XT n'->st.2[(n-2).toNat]? =Wp.2[(n'-2).toNat]?
theorem DL {nd XT:List Br}(h:Rd0 nd)(h':Rd0 XT):∀(m m':Nat)(n n':Int)(st Wp:List Br×List Nat),0<=n->0<=n'->n<m->n'<m'->n<nd.length+2->n'<XT.length+2->Eqv nd n XT n'->Twin nd XT st Wp->
  (X5 nd m n st).1=(X5 XT m' n' Wp).1/\Twin nd XT (X5 nd m n st).2 (X5 XT m' n' Wp).2
 | 0,m',n,n',st,Wp,h0,_,hm,_,_,_,_,_=>by omega
 | m+1,0,n,n',st,Wp,_,h0,_,hm,_,_,_,_=>by omega
 | m+1,m'+1,n,n',st,Wp,h0,si,hm,Ca,hn,Kb,k,T=>by
  have I:=qY h (nd.length+2);have I':=qY h' (XT.length+2);by_cases h2:n<2
  ·have Z6:n'<2:=qV h' I' (by omega) Kb h2 k.symm;rw[jr h2,jr Z6];have:=k (λ_=>true);rw[Jr h2,Jr Z6,qq] at this;exact⟨by simp only;omega,T⟩
  have Z6:¬n'<2:=λhh=>h2 (qV h I (by omega) hn hh k)
  obtain⟨b,hb⟩:=YQ h2 hn;obtain⟨b',hb'⟩:=YQ Z6 Kb;have In:=T.num n n' h2 Z6 hn Kb k;by_cases h3:0<st.2[(n-2).toNat]?.getD 0
  ·rw[js h2 h3,js Z6 (by rw[<-In];exact h3)];exact⟨by simp only;rw[In],T⟩
  have lV:¬0<Wp.2[(n'-2).toNat]?.getD 0:=by rw[<-In];exact h3
  have hv:b.v=b'.v:=Int.le_antisymm (qW h' h I' (by omega) Kb hn Z6 h2 hb' hb k.symm) (qW h h' I (by omega) hn Kb h2 Z6 hb hb' k);obtain⟨k1,k2⟩:=Ng h h' hn Kb h2 Z6 hb hb' k hv;obtain⟨b1,b2,b3,b4,b5,b6,b7,b8,b9,aj⟩:=h _ _ hb;obtain⟨c1,c2,c3,c4,c5,c6,c7,c8,c9,qH⟩:=h' _ _ hb';rw[lw h2 h3 hb,lw Z6 lV hb'];obtain⟨e1,T1⟩:=DL h h' m m' b.l b'.l st Wp b3 c3 (by omega) (by omega) (by omega) (by omega) k1 T;generalize (X5 nd m b.l st)=p at*;generalize (X5 XT m' b'.l Wp)=p' at*;obtain⟨e2,T2⟩:=DL h h' m m' b.h b'.h p.2 p'.2 b5 c5 (by omega) (by omega) (by omega) (by omega) k2 T1;generalize (X5 nd m b.h p.2)=q at*;generalize (X5 XT m' b'.h p'.2)=q' at*;have pU:=T2.out;refine⟨by simp only;rw[pU],by simp only;rw[pU,hv,e1,e2],by rw[bZ];exact T2.len,by rw[bZ];exact T2.len',λi i' j2 j2' hi gJ kk=>?_⟩;have l1:=T2.len;have l2:=T2.len';by_cases Q7:i=n
  ·subst Q7;have:i'=n':=inj h' (by omega) si gJ Kb (kk.symm.trans k);subst this;simp only;rw[gU (by omega),gU (by omega),pU]
  ·have lQ2:i'≠n':=λe=>by
    subst e;exact Q7 (inj h (by omega) h0 hi hn (kk.trans k.symm))
   simp only;rw[ew (by omega),ew (by omega)];exact T2.num i i' j2 j2' hi gJ kk
theorem dQ7 (nd XT:List Br):Twin nd XT ([],List.replicate nd.length 0) ([],List.replicate XT.length 0):=
 ⟨rfl,by simp,by simp,λn n' h2 Z6 hn Kb _=>by simp only;rw[List.getElem?_replicate_of_lt (by omega),List.getElem?_replicate_of_lt (by omega)]⟩
theorem Ni {nd XT:List Br}(h:Rd0 nd)(h':Rd0 XT){n n':Int}(h0:0<=n)(si:0<=n')(hn:n<nd.length+2)(Kb:n'<XT.length+2)(k:Eqv nd n XT n'):aG nd n=aG XT n':=by
 obtain⟨e,T⟩:=DL h h' (n.toNat+1) (n'.toNat+1) n n' _ _ h0 si (by omega) (by omega) hn Kb k (dQ7 nd XT);unfold aG;simp only;rw[e,T.out]
theorem VD.eqv {nd XT:List Br}{r r':Int}(h:VD nd r)(h':VD XT r')(k:Eqv nd r XT r'):(nd,r)=(XT,r'):=by
 rw[<-h.2.2.2,<-h'.2.2.2];exact Ni h.1 h'.1 h.2.1 h'.2.1 h.2.2.1 h'.2.2.1 k
theorem DM {nd:List Br}(hw:WD nd)(l:List Br):∀(m:Nat)(n:Int)(e:Nat->Bool),n<nd.length+2->cw (nd++l) m n e=cw nd m n e
 | 0,n,e,_=>rfl
 | m+1,n,e,hn=>by
  by_cases h2:n<2
  ·rw[jA h2,jA h2]
  ·obtain⟨b,hb⟩:=YQ h2 hn;obtain⟨h1,Z6,h3,h4⟩:=hw _ _ hb;rw[cw,cw,if_neg h2,if_neg h2,bY (by omega),hb];simp only;rw[DM hw l m b.h e (by omega),DM hw l m b.l e (by omega)]
theorem lz {nd:List Br}(hw:WD nd)(l:List Br){n:Int}(hn:n<nd.length+2)(e:Nat->Bool):ev (nd++l) n e=ev nd n e:=DM hw l _ n e hn
theorem qZ {nd:List Br}(l:List Br){n:Int}(hn:n<nd.length+2):Qk (nd++l) n=Qk nd n:=by
 unfold Qk;by_cases h2:n<2
 ·rw[Qe h2,Qe h2]
 ·rw[if_neg h2,if_neg h2,bY (by omega)]
theorem fL {nd:List Br}{n:Int}(h:n<2):Qk nd n=64:=Qe h
theorem Nj {nd XT:List Br}(h:Rd0 nd)(h':Rd0 XT){n n':Int}(hn:n<nd.length+2)(Kb:n'<XT.length+2)(k:Eqv nd n XT n'):Qk nd n=Qk XT n':=by
 have I:=qY h (nd.length+2);have I':=qY h' (XT.length+2);by_cases h2:n<2
 ·rw[fL h2,fL (qV h' I' (by omega) Kb h2 k.symm)]
 have Z6:¬n'<2:=λhh=>h2 (qV h I (by omega) hn hh k)
 obtain⟨b,hb⟩:=YQ h2 hn;obtain⟨b',hb'⟩:=YQ Z6 Kb;rw[cy h2 hb,cy Z6 hb'];exact Int.le_antisymm (qW h' h I' (by omega) Kb hn Z6 h2 hb' hb k.symm) (qW h h' I (by omega) hn Kb h2 Z6 hb hb' k)
theorem Rd0.snoc {nd:List Br}(h:Rd0 nd){b:Br}(hb:fK (nd++ [b]) nd.length b):Rd0 (nd++ [b]):=by
 intro j x hx;by_cases hj:j<nd.length
 ·rw[bY hj] at hx;obtain⟨b1,b2,b3,b4,b5,b6,b7,b8,b9,aj⟩:=h _ _ hx;exact⟨b1,b2,b3,b4,b5,b6,b7,by rw[Lu (by omega)];exact b8,by rw[qZ _ (by omega)];exact b9,by rw[qZ _ (by omega)];exact aj⟩
 ·have hl:=(Zt.1 hx).1;simp at hl;have:j=nd.length:=by omega
  subst this;rw[Ws (QE _)] at hx;simp at hx;subst hx;exact hb
theorem Nk {nd:List Br}{b:Br}(b1:0<=b.v)(b2:b.v<=63)(b3:0<=b.l)(b4:b.l<nd.length+2)(b5:0<=b.h)(b6:b.h<nd.length+2)(b7:b.l≠b.h)(b8:b∉nd)(b9:b.v<Qk nd b.l)(aj:b.v<Qk nd b.h):fK (nd++ [b]) nd.length b:=
 ⟨b1,b2,b3,b4,b5,b6,b7,by rw[Lu (QE _),qm];exact b8,by rw[qZ _ b4];exact b9,by rw[qZ _ b6];exact aj⟩
structure Wi (nd:List Br) (st:List Br×List Nat):Prop where
 rd:Rd0 st.1
 len:st.2.length=nd.length
 num:∀k m:Nat,st.2[k]? =some m->0<m->2<=m/\m<st.1.length+2/\Eqv st.1 (m:Int) nd ((k:Int)+2)
 sur:∀j:Nat,j<st.1.length->∃k:Nat,st.2[k]? =some (j+2)
theorem Wi.start (nd:List Br):Wi nd ([],List.replicate nd.length 0):=
 ⟨λj b hb=>by simp at hb,by simp,λk m hk hm=>by
  have:=CM (Xe hk);omega,λj hj=>by simp at hj⟩
theorem DN {nd:List Br}(h:Rd0 nd):∀(m:Nat)(n:Int)(st:List Br×List Nat),0<=n->n<m->n<nd.length+2->Wi nd st->
  Wi nd (X5 nd m n st).2/\0<=(X5 nd m n st).1/\(X5 nd m n st).1<(X5 nd m n st).2.1.length+2/\Eqv (X5 nd m n st).2.1 (X5 nd m n st).1 nd n/\∃l,(X5 nd m n st).2.1=st.1++l
 | 0,n,st,h0,hm,_,_=>by omega
 | m+1,n,st,h0,hm,hn,W=>by
  by_cases h2:n<2
  ·rw[jr h2];exact⟨W,h0,by simp only;omega,λe=>by rw[Jr h2,Jr h2],[],by simp⟩
  have Xa:(n-2).toNat<st.2.length:=by have:=W.len;omega
  by_cases h3:0<st.2[(n-2).toNat]?.getD 0
  ·rw[js h2 h3];have hg:=Xs Xa;rw[hg] at h3 ⊢;simp only[gT] at h3 ⊢;obtain⟨q1,q2,q3⟩:=W.num _ _ hg h3;have en:(((n-2).toNat:Nat):Int)+2=n:=by omega
   rw[en] at q3;exact⟨W,by omega,by omega,q3,[],by simp⟩
  obtain⟨b,hb⟩:=YQ h2 hn;obtain⟨b1,b2,b3,b4,b5,b6,b7,b8,b9,aj⟩:=h _ _ hb;have f1:=jt h.wf m b.l st b3 (by omega) (by omega) W.len;rw[lw h2 h3 hb];obtain⟨W1,p1,p2,p3,l1,p4⟩:=DN h m b.l st b3 (by omega) (by omega) W;generalize (X5 nd m b.l st)=p at*;have f2:=jt h.wf m b.h p.2 b5 (by omega) (by omega) W1.len;obtain⟨W2,q1,q2,q3,l2,q4⟩:=DN h m b.h p.2 b5 (by omega) (by omega) W1;generalize (X5 nd m b.h p.2)=q at*;have hz:q.2.2[(n-2).toNat]? =some 0:=by
   rw[f2.keep _ (by omega),f1.keep _ (by omega)];have hg:=Xs Xa;rw[hg] at h3 ⊢;simp only[gT] at h3;congr 1;omega
  have hR:=W2.rd;have jZk:p.1<q.2.1.length+2:=by rw[q4,Qy];omega
  have FT:Eqv q.2.1 p.1 nd b.l:=λe=>by rw[q4,lz W1.rd.wf l2 p2];exact p3 e
  have QK:p.1≠q.1:=λe=>b7 (inj h b3 b5 (by omega) (by omega) (FT.symm.trans (by rw[e];exact q3)))
  have Xu:=Nj hR h jZk (by omega) FT;have JU:=Nj hR h q2 (by omega) q3;have mean:∀iC,Rd0 iC->∀(i:Int),¬i<2->iC[(i-2).toNat]? =some ⟨b.v,p.1,q.1⟩->(∀e,ev iC p.1 e=ev q.2.1 p.1 e)->(∀e,ev iC q.1 e=ev q.2.1 q.1 e)->Eqv iC i nd n:=λiC hR2 i hi hx u1 u2 e=>by
   rw[br hR2.wf hi hx,br h.wf h2 hb];simp only;rw[u1,u2,FT e,q3 e]
  have kG:(⟨b.v,p.1,q.1⟩:Br)∉q.2.1:=λQ7=>by
   obtain⟨j,hj,hjx⟩:=CJ.1 Q7;obtain⟨k,hk⟩:=W2.sur j hj;obtain⟨_,_,r3⟩:=W2.num k _ hk (by omega);have XL:=mean q.2.1 hR ((j+2:Nat):Int) (by omega) (by rw[show(((j+2:Nat):Int)-2).toNat=j by omega,Xs hj,hjx]) (λ_=>rfl) (λ_=>rfl);have Vr:=(Zt.1 hk).1;have zZ:=W2.len;have:=inj h (n:=(k:Int)+2) (n':=n) (by omega) h0 (by omega) hn (r3.symm.trans XL);have Xj:(n-2).toNat=k:=by omega
   rw[Xj,hk] at hz;cases hz
  have gj:Rd0 (q.2.1++ [⟨b.v,p.1,q.1⟩]):=hR.snoc (Nk b1 b2 p1 jZk q1 q2 QK kG (by rw[Xu];exact b9) (by rw[JU];exact aj));have s9:Eqv (q.2.1++ [⟨b.v,p.1,q.1⟩]) ((q.2.1.length+2:Nat):Int) nd n:=mean _ gj _ (by omega) (by
   rw[show(((q.2.1.length+2:Nat):Int)-2).toNat=q.2.1.length by omega,Ws (QE _)];simp) (λe=>lz hR.wf _ jZk e) (λe=>lz hR.wf _ q2 e)
  refine⟨⟨gj,by rw[bZ];exact W2.len,λk mm hk ZM=>?_,λj hj=>?_⟩,by omega,by simp only[Qy,Xk,Z8];omega,s9,l1++(l2++ [⟨b.v,p.1,q.1⟩]),by simp only;rw[q4,p4];simp⟩
  ·simp only at hk ⊢;by_cases Xj:(n-2).toNat=k
   ·subst Xj;rw[gU (by have:=W2.len;omega)] at hk;cases hk;refine⟨by omega,by simp,?_⟩;rw[show(((n-2).toNat:Nat):Int)+2=n by omega];exact s9
   ·rw[ew Xj] at hk;obtain⟨r1,r2,r3⟩:=W2.num k mm hk ZM;exact⟨r1,by simp;omega,λe=>by rw[lz hR.wf _ (by omega)];exact r3 e⟩
  ·simp only[Qy,Xk,Z8] at hj;by_cases kJ:j<q.2.1.length
   ·obtain⟨k,hk⟩:=W2.sur j kJ;refine⟨k,?_⟩;simp only;rw[ew (λe=>by rw[e,hk] at hz;cases hz)];exact hk
   ·have:j=q.2.1.length:=by omega
    subst this;exact⟨(n-2).toNat,by simp only;rw[gU (by have:=W2.len;omega)]⟩
theorem dQ8 {nd:List Br}(h:Rd0 nd){r:Int}(h0:0<=r)(hr:r<nd.length+2):VD (aG nd r).1 (aG nd r).2/\Eqv (aG nd r).1 (aG nd r).2 nd r/\(aG nd r).1.length<=nd.length:=by
 obtain⟨W,w1,w2,w3,_⟩:=DN h (r.toNat+1) r _ h0 (by omega) hr (Wi.start nd);have f:=(jt h.wf (r.toNat+1) r _ h0 (by omega) hr (Wi.start nd).len).cnt;have e1:(aG nd r).1=(X5 nd (r.toNat+1) r ([],List.replicate nd.length 0)).2.1:=rfl;have e2:(aG nd r).2=(X5 nd (r.toNat+1) r ([],List.replicate nd.length 0)).1:=rfl;rw[<-e1] at w3 w2 f;rw[<-e2] at w3 w2 w1;have hR:Rd0 (aG nd r).1:=W.rd;refine⟨⟨hR,w1,w2,?_⟩,w3,?_⟩
 ·rw[Ni hR h w1 h0 w2 hr w3]
 ·have:=List.count_le_length (a:=0) (l:=List.replicate nd.length 0);simp at this f;omega
end
section
theorem Nm {b:Br}:∀{l:List Br}{i:Nat},Kr b l=some i->l[i]? =some b
 | [],i,h=>by cases h
 | x::l,i,h=>by
  unfold Kr at h;split at h
  ·rename_i hx;cases h;simp[hx]
  ·cases hf:Kr b l with
   | none=>rw[hf] at h;cases h
   | some k=>rw[hf] at h;cases h;simpa using Nm hf
theorem Nn {b:Br}:∀{l:List Br},Kr b l=none->b∉l
 | [],_=>by simp
 | x::l,h=>by
  unfold Kr at h;split at h
  ·cases h
  ·rename_i hx;cases hf:Kr b l with
   | some k=>rw[hf] at h;cases h
   | none=>simp only[QX,not_or];exact⟨λe=>hx e.symm,Nn hf⟩
structure UniqOk (nd:List Br) (b:Br) (r:List Br×Int):Prop where
 rd:Rd0 r.1
 pos:0<=r.2
 lt:r.2<r.1.length+2
 mean:∀e,ev r.1 r.2 e=if e b.v.toNat then ev nd b.h e else ev nd b.l e
 lvl:b.v<=Qk r.1 r.2
 ext:∃l,r.1=nd++l
theorem dQ9 {nd:List Br}(h:Rd0 nd){b:Br}(b1:0<=b.v)(b2:b.v<=63)(b3:0<=b.l)(b4:b.l<nd.length+2)(b5:0<=b.h)(b6:b.h<nd.length+2)(b9:b.v<Qk nd b.l)(aj:b.v<Qk nd b.h):UniqOk nd b (ZN b nd):=by
 unfold ZN;split
 ·rename_i he;exact⟨h,b3,b4,λe=>by simp only;rw[<-he];split<;>rfl,by simp only;omega,[],by simp⟩
 ·rename_i QK;split
  ·rename_i i hi;have hx:=Nm hi;have Xa:=(Zt.1 hx).1;have Vi:nd[(((i+2:Nat):Int)-2).toNat]? =some b:=by rw[show(((i+2:Nat):Int)-2).toNat=i by omega];exact hx
   have h2:¬(((i+2:Nat):Int)<2):=by omega
   exact⟨h,by simp only;omega,by simp only;omega,λe=>br h.wf h2 Vi,by simp only;rw[cy h2 Vi];exact kX _,[],by simp⟩
  ·rename_i hn;have Zl:=Nk b1 b2 b3 b4 b5 b6 QK (Nn hn) b9 aj;have hR:=h.snoc Zl;have Vi:(nd++ [b])[(((nd.length+2:Nat):Int)-2).toNat]? =some b:=by
    rw[show(((nd.length+2:Nat):Int)-2).toNat=nd.length by omega,Ws (QE _)];simp
   have h2:¬(((nd.length+2:Nat):Int)<2):=by omega
   exact⟨hR,by simp only;omega,by simp only[Qy,Xk,Z8];omega,λe=>by simp only;rw[br hR.wf h2 Vi,lz h.wf _ b6,lz h.wf _ b4],by simp only;rw[cy h2 Vi];exact kX _,[b],rfl⟩
theorem Rd0.dok {nd:List Br}(h:Rd0 nd):K6 nd:=⟨h.wf,λj b hb=>⟨(h j b hb).1,(h j b hb).2.1⟩⟩
theorem q7 {nd:List Br}(h:Rd0 nd){n v:Int}(_:0<=n)(hn:n<nd.length+2)(hv:v<=Qk nd n)(dM:v<64):
  (∀e,ev nd n e=if e v.toNat then ev nd (Ql nd n v).2 e else ev nd (Ql nd n v).1 e)/\v<Qk nd (Ql nd n v).1/\v<Qk nd (Ql nd n v).2/\(Ql nd n v).1<nd.length+2/\(Ql nd n v).2<nd.length+2:=by
 unfold Ql;split
 ·rename_i QK;exact⟨λe=>by simp,by simp only;omega,by simp only;omega,hn,hn⟩
 ·rename_i he;have he:=Decidable.not_not.1 he;have h2:¬n<2:=λhh=>by rw[fL hh] at he;omega
  obtain⟨b,hb⟩:=YQ h2 hn;obtain⟨b1,b2,b3,b4,b5,b6,b7,b8,b9,aj⟩:=h _ _ hb;have KY:=cy h2 hb;simp only[hb];exact⟨λe=>by rw[br h.wf h2 hb,show v=b.v by omega],by omega,by omega,by omega,by omega⟩
def J5 (op:Int)(x y:Bool):Bool:=if op=0 then x&&y else if op=1 then x||y else if op=3 then !x else if op=4 then !x&&y else x !=y
theorem Np {op x y:Int}(x0:0<=x)(x1:x<2)(y0:0<=y)(y1:y<2):decide (ct op x y=1)=J5 op (decide (x=1)) (decide (y=1)):=by
 unfold ct J5;rcases(by omega:x=0∨x=1)with rfl | rfl<;>rcases(by omega:y=0∨y=1)with rfl | rfl<;>(split<;>first | rfl | (split<;>first | rfl | (split<;>first | rfl | (split<;>rfl))))
structure At2I (a b:List Br) (op:Int) (st:List Br×List Tr3):Prop where
 rd:Rd0 st.1
 seen:∀t∈st.2,0<=t.2.2/\t.2.2<st.1.length+2/\(∀e,ev st.1 t.2.2 e=J5 op (ev a t.1 e) (ev b t.2.1 e))/\min (Qk a t.1) (Qk b t.2.1)<=Qk st.1 t.2.2
structure At2R (a b:List Br) (op:Int) (x y:Int) (st:List Br×List Tr3) (r:Int×(List Br×List Tr3)):Prop where
 inv:At2I a b op r.2
 pos:0<=r.1
 lt:r.1<r.2.1.length+2
 mean:∀e,ev r.2.1 r.1 e=J5 op (ev a x e) (ev b y e)
 lvl:min (Qk a x) (Qk b y)<=Qk r.2.1 r.1
 ext:∃l,r.2.1=st.1++l
theorem At2I.ext {a b:List Br}{op:Int}{nd:List Br}{s:List Tr3}(h:At2I a b op (nd,s)){XT:List Br}(hr:Rd0 XT)(he:∃l,XT=nd++l):At2I a b op (XT,s):=by
 obtain⟨l,rfl⟩:=he;refine⟨hr,λt ht=>?_⟩;obtain⟨h1,h2,h3,h4⟩:=h.seen t ht;exact⟨h1,by simp only at h2 ⊢;rw[Qy];omega,λe=>by rw[lz h.rd.wf l h2];exact h3 e,by rw[qZ l h2];exact h4⟩
theorem DO {a b:List Br}(ha:Rd0 a)(hb:Rd0 b)(op:Int):∀(m:Nat)(x y:Int)(st:List Br×List Tr3),At2I a b op st->0<=x->0<=y->x+y<m->x<a.length+2->y<b.length+2->At2R a b op x y st (Xn a b op m x y st)
 | 0,x,y,st,_,_,_,hm,_,_=>by omega
 | m+1,x,y,st,h,x0,y0,hm,hx,hy=>by
  by_cases Xr:x<2/\y<2
  ·rw[jw Xr];have hc:=DK (op:=op) x0 Xr.1 y0 Xr.2;refine⟨h,hc.1,by simp only;omega,λe=>?_,?_,[],by simp⟩
   ·simp only;rw[Jr hc.2,Jr Xr.1,Jr Xr.2];exact Np x0 Xr.1 y0 Xr.2
   ·simp only;rw[fL hc.2,fL Xr.1];omega
  cases k:st.2.find? (λt=>decide (t.1=x/\t.2.1=y))with
  | some t=>
   rw[jx Xr k];have hk:=List.find?_some k;simp only[Vl] at hk;obtain⟨rfl,rfl⟩:=hk;obtain⟨h1,h2,h3,h4⟩:=h.seen t (aQH k);exact⟨h,h1,h2,h3,h4,[],by simp⟩
  | none=>
   have Zs:min (Qk a x) (Qk b y)<64:=by
    by_cases c:x<2
    ·have:=WE hb.dok (n:=y) (λc2=>Xr ⟨c,c2⟩) (by omega);rw[ZR];split<;>omega
    ·have:=WE ha.dok (n:=x) c (by omega);rw[ZR];split<;>omega
   have dO:0<=min (Qk a x) (Qk b y):=by
    have pos:∀{d:List Br},Rd0 d->∀{n:Int},n<d.length+2->0<=Qk d n:=λ{d} hd {n} hn=>by
     by_cases h2:n<2
     ·rw[fL h2];omega
     ·obtain⟨z,hz⟩:=YQ h2 hn;rw[cy h2 hz];exact(hd _ _ hz).1
    have p1:=pos ha hx;have p2:=pos hb hy;rw[ZR];split<;>omega
   rw[jy Xr k _ rfl];have ei:Qk a x=min (Qk a x) (Qk b y)∨Qk b y=min (Qk a x) (Qk b y):=by rw[ZR];split<;>simp
   have iQV:min (Qk a x) (Qk b y)<=Qk a x:=Int.min_le_left _ _;have Sp:min (Qk a x) (Qk b y)<=Qk b y:=Int.min_le_right _ _;have mQ:At2I a b op st->min (Qk a x) (Qk b y)<=min (Qk a x) (Qk b y):=λ_=>kX _
   generalize hv:min (Qk a x) (Qk b y)=v at*;obtain⟨s1,s2,s3,s4,s5⟩:=YP ha.dok (n:=x) x0 Zs;obtain⟨t1,t2,t3,t4,t5⟩:=YP hb.dok (n:=y) y0 Zs;obtain⟨u1,u2,u3,u4,u5⟩:=q7 ha x0 hx iQV Zs;obtain⟨z1,z2,z3,z4,z5⟩:=q7 hb y0 hy Sp Zs;have dec:(Ql a x v).1+(Ql b y v).1<m/\(Ql a x v).2+(Ql b y v).2<m:=by
    rcases ei with e | e
    ·have:=s5 e;omega
    ·have:=t5 e;omega
   have i1:=DO ha hb op m _ _ st h s1 t1 dec.1 u4 z4;generalize (Xn a b op m (Ql a x v).1 (Ql b y v).1 st)=r0 at*;have i2:=DO ha hb op m _ _ r0.2 i1.inv s3 t3 dec.2 u5 z5;generalize (Xn a b op m (Ql a x v).2 (Ql b y v).2 r0.2)=r1 at*;obtain⟨l1,Xu⟩:=i1.ext;obtain⟨l2,JU⟩:=i2.ext;have r0lt:r0.1<r1.2.1.length+2:=by rw[JU,Qy];have:=i1.lt;omega
   have r0m:∀e,ev r1.2.1 r0.1 e=ev r0.2.1 r0.1 e:=λe=>by rw[JU,lz i1.inv.rd.wf l2 i1.lt]
   have r0l:Qk r1.2.1 r0.1=Qk r0.2.1 r0.1:=by rw[JU,qZ l2 i1.lt]
   have g1:v<Qk r1.2.1 r0.1:=by rw[r0l];have:=i1.lvl;rw[ZR] at this;split at this<;>omega
   have g2:v<Qk r1.2.1 r1.1:=by have:=i2.lvl;rw[ZR] at this;split at this<;>omega
   have U:=dQ9 i2.inv.rd (b:=⟨v,r0.1,r1.1⟩) dO (by simp only;omega) i1.pos r0lt i2.pos i2.lt g1 g2;have hu3:=U.ext;have hI:=At2I.ext (s:=r1.2.2) i2.inv U.rd U.ext;generalize ZN ⟨v,r0.1,r1.1⟩ r1.2.1=u at*;have XL:∀e,ev u.1 u.2 e=J5 op (ev a x e) (ev b y e):=λe=>by
    rw[U.mean e,u1 e,z1 e];simp only;split
    ·exact i2.mean e
    ·rw[r0m e];exact i1.mean e
   refine⟨⟨U.rd,λt ht=>?_⟩,U.pos,U.lt,XL,by rw[hv];exact U.lvl,?_⟩
   ·simp only[XB,QJ] at ht;rcases ht with ht | rfl
    ·exact hI.seen t ht
    ·exact⟨U.pos,U.lt,XL,by rw[hv];exact U.lvl⟩
   ·obtain⟨l3,hl3⟩:=hu3;exact⟨l1++(l2++l3),by simp only;rw[hl3,JU,Xu];simp⟩
theorem Nq:∀(N:Nat)(l:List Nat),l.Nodup->(∀x∈l,x<N)->l.length<=N
 | 0,l,_,h=>by
  cases l with
  | nil=>simp
  | cons x l=>have:=h x (by simp);omega
 | N+1,l,hn,h=>by
  have h1:=Nq N (l.filter (λx=>decide (x≠N))) (hn.filter _) (λx hx=>by
   rw[KP,Vl] at hx;have:=h x hx.1;omega)
  have h2:l.length=(l.filter (λx=>decide (x≠N))).length+l.count N:=by
   clear h h1 hn;induction l with
   | nil=>rfl
   | cons x l ih=>
    by_cases e:x=N
    ·subst e;rw[List.filter_cons_of_neg (by simp),List.count_cons_self,Xk];omega
    ·rw[List.filter_cons_of_pos (by simpa using e),List.count_cons_of_ne e,Xk,Xk];omega
  have h3:=List.nodup_iff_count.1 hn N;omega
def DP (M:Nat)(t:Tr3):Nat:=t.1.toNat*M+t.2.1.toNat
structure At2B (n m:Nat) (st:List Br×List Tr3):Prop where
 rng:∀t∈st.2,0<=t.1/\t.1<n/\0<=t.2.1/\t.2.1<m
 nod:(st.2.map (DP m)).Nodup
 le:st.1.length<=st.2.length
theorem At2B.bound {n m:Nat}{st:List Br×List Tr3}(h:At2B n m st):st.2.length<=n*m/\st.1.length<=n*m:=by
 have:=Nq (n*m) _ h.nod (λx hx=>by
  simp only[ZY] at hx;obtain⟨t,ht,rfl⟩:=hx;obtain⟨h1,h2,h3,h4⟩:=h.rng t ht;unfold DP;have:(t.1.toNat+1)*m<=n*m:=Wq _ (by omega);rw[tz] at this;omega)
 rw[Jg] at this;exact⟨this,Ze h.le this⟩
theorem eQa {m:Nat}{x y x' y':Nat}(hy:y<m)(pV:y'<m)(h:x*m+y=x'*m+y'):x=x'/\y=y':=by
 have hx:x=x':=by
  have e1:(x*m+y)/m=x:=by rw[tE,Nat.mul_add_div (by omega),Nat.div_eq_of_lt hy]<;>rfl
  have e2:(x'*m+y')/m=x':=by rw[tE,Nat.mul_add_div (by omega),Nat.div_eq_of_lt pV]<;>rfl
  rw[<-e1,<-e2,h]
 subst hx;exact⟨rfl,by omega⟩
theorem DQ {a b:List Br}(ha:K6 a)(hb:K6 b)(op:Int):∀(f:Nat)(x y:Int)(st:List Br×List Tr3),At2B (a.length+2) (b.length+2) st->0<=x->0<=y->x+y<f->x<a.length+2->y<b.length+2->
  At2B (a.length+2) (b.length+2) (Xn a b op f x y st).2/\(∀t∈(Xn a b op f x y st).2.2,t∈st.2∨t.1+t.2.1<=x+y)
 | 0,x,y,st,_,_,_,hm,_,_=>by omega
 | f+1,x,y,st,h,x0,y0,hm,hx,hy=>by
  by_cases Xr:x<2/\y<2
  ·rw[jw Xr];exact⟨h,λt ht=>.inl ht⟩
  cases k:st.2.find? (λt=>decide (t.1=x/\t.2.1=y))with
  | some t=>rw[jx Xr k];exact⟨h,λt ht=>.inl ht⟩
  | none=>
   have Zs:min (Qk a x) (Qk b y)<64:=by
    by_cases c:x<2
    ·have:=WE hb (n:=y) (λc2=>Xr ⟨c,c2⟩) (by omega);rw[ZR];split<;>omega
    ·have:=WE ha (n:=x) c (by omega);rw[ZR];split<;>omega
   rw[jy Xr k _ rfl];have ei:Qk a x=min (Qk a x) (Qk b y)∨Qk b y=min (Qk a x) (Qk b y):=by rw[ZR];split<;>simp
   generalize min (Qk a x) (Qk b y)=v at*;obtain⟨s1,s2,s3,s4,s5⟩:=YP ha (n:=x) x0 Zs;obtain⟨t1,t2,t3,t4,t5⟩:=YP hb (n:=y) y0 Zs;have dec:(Ql a x v).1+(Ql b y v).1<x+y/\(Ql a x v).2+(Ql b y v).2<x+y:=by
    rcases ei with e | e
    ·have:=s5 e;omega
    ·have:=t5 e;omega
   obtain⟨i1,j1⟩:=DQ ha hb op f _ _ st h s1 t1 (by omega) (by omega) (by omega);generalize (Xn a b op f (Ql a x v).1 (Ql b y v).1 st)=r0 at*;obtain⟨i2,j2⟩:=DQ ha hb op f _ _ r0.2 i1 s3 t3 (by omega) (by omega) (by omega);generalize (Xn a b op f (Ql a x v).2 (Ql b y v).2 r0.2)=r1 at*;have ul:(ZN ⟨v,r0.1,r1.1⟩ r1.2.1).1.length<=r1.2.1.length+1:=by
    unfold ZN;split
    ·exact xD _
    ·split
     ·exact xD _
     ·simp
   have kG:∀t∈r1.2.2,¬(t.1=x/\t.2.1=y):=λt ht hh=>by
    rcases j2 t ht with h1 | h1
    ·rcases j1 t h1 with h2 | h2
     ·have:=tD.1 k t h2;simp at this;exact this hh.1 hh.2
     ·omega
    ·omega
   refine⟨⟨λt ht=>?_,?_,?_⟩,λt ht=>?_⟩
   ·simp only[XB,QJ] at ht;rcases ht with ht | rfl
    ·exact i2.rng t ht
    ·exact⟨x0,by simp only;omega,y0,by simp only;omega⟩
   ·simp only[et,YK,List.map_nil];rw[CH];refine⟨i2.nod,by simp,λp hp q hq e=>?_⟩;simp only[QJ] at hq;subst hq;subst e;simp only[ZY] at hp;obtain⟨t,ht,hk⟩:=hp;obtain⟨r1',r2',r3',r4'⟩:=i2.rng t ht;unfold DP at hk;have:=eQa (m:=b.length+2) (by omega) (by simp only;omega) hk;simp only at this;exact kG t ht ⟨by omega,by omega⟩
   ·simp only[Qy,Xk,Z8];have:=i2.le;omega
   ·simp only[XB,QJ] at ht;rcases ht with ht | rfl
    ·rcases j2 t ht with h1 | h1
     ·rcases j1 t h1 with h2 | h2
      ·exact .inl h2
      ·exact .inr (by omega)
     ·exact .inr (by omega)
    ·exact .inr (by simp only;omega)
theorem DR {a b:List Br}{ra rb:Int}(ha:VD a ra)(hb:VD b rb)(op:Int):(jz a ra b rb op).2.2.length<=(a.length+2)*(b.length+2)/\(jz a ra b rb op).2.1.length<=(a.length+2)*(b.length+2):=
 (DQ ha.dok hb.dok op (ra.toNat+rb.toNat+1) ra rb ([],[]) ⟨λt ht=>by simp at ht,by simp,QE _⟩ ha.2.1 hb.2.1 (by have:=ha.2.1;have:=hb.2.1;omega) ha.2.2.1 hb.2.2.1).1.bound
theorem eQb {a b:List Br}{ra rb:Int}(ha:VD a ra)(hb:VD b rb)(op:Int):VD (Vo a ra b rb op).1 (Vo a ra b rb op).2/\∀e,ev (Vo a ra b rb op).1 (Vo a ra b rb op).2 e=J5 op (ev a ra e) (ev b rb e):=by
 have R:=DO ha.rd0 hb.rd0 op (ra.toNat+rb.toNat+1) ra rb ([],[]) ⟨λj x hx=>by simp at hx,λt ht=>by simp at ht⟩ ha.2.1 hb.2.1 (by have:=ha.2.1;have:=hb.2.1;omega) ha.2.2.1 hb.2.2.1;obtain⟨n1,n2,n3⟩:=dQ8 R.inv.rd R.pos R.lt;exact⟨n1,λe=>(n2 e).trans (R.mean e)⟩
end
section
def VG:Nat->List Nat->List (List Nat)×Bool
 | 0,_=>([],true)
 | _+1,[]=>([],true)
 | n+1,b::l=>
  if b=32∨b=9 then VG n l
  else if b=40∨b=41∨b=33 then([b]::(VG n l).1,(VG n l).2)
  else if(b=38∨b=124)/\l.head? =some b then([b,b]::(VG n l.tail).1,(VG n l.tail).2)
  else if W8 b then((b::l).takeWhile X1::(VG n ((b::l).dropWhile X1)).1,(VG n ((b::l).dropWhile X1)).2)
  else([],false)
def XQ (l:List Nat):List (List Nat)×Bool:=VG l.length l
theorem q9 {b:Nat}(h:W8 b=true):X1 b=true:=by unfold X1;rw[h]<;>rfl
theorem yF {b:Nat}{l:List Nat}(h:W8 b=true):(b::l).dropWhile X1=l.dropWhile X1:=by rw[nE,Qe (q9 h)]
theorem yG (p:Nat->Bool)(l:List Nat):(l.dropWhile p).length<=l.length:=(List.dropWhile_suffix p).length_le
theorem um:∀(n m:Nat)(l:List Nat),l.length<=n->l.length<=m->VG n l=VG m l
 | n,m,[],_,_=>by cases n<;>cases m<;>rfl
 | 0,_,b::l,h,_=>by simp at h
 | _+1,0,b::l,_,h=>by simp at h
 | n+1,m+1,b::l,h,h'=>by
  simp only[Xk] at h h';have e1:=um n m l (by omega) (by omega);have e2:=um n m l.tail (by rw[xE];omega) (by rw[xE];omega);have hd:=yG X1 l;have e3:=um n m (l.dropWhile X1) (by omega) (by omega);simp only[VG];split
  ·exact e1
  ·split
   ·rw[e1]
   ·split
    ·rw[e2]
    ·split
     ·rename_i hl;rw[yF hl,e3]
     ·rfl
theorem uo:XQ []=([],true):=rfl
theorem up {b:Nat}{l:List Nat}(h:b=32∨b=9):XQ (b::l)=XQ l:=by
 show VG (l.length+1) (b::l)=_;rw[VG,Qe h]<;>rfl
theorem lA {b:Nat}{l:List Nat}(h:b=40∨b=41∨b=33):XQ (b::l)=([b]::(XQ l).1,(XQ l).2):=by
 show VG (l.length+1) (b::l)=_;rw[VG,if_neg (by omega),Qe h]<;>rfl
theorem om {b:Nat}{l:List Nat}(h:b=38∨b=124):XQ (b::b::l)=([b,b]::(XQ l).1,(XQ l).2):=by
 show VG ((b::l).length+1) (b::b::l)=_;rw[VG,if_neg (by omega),if_neg (by omega),Qe ⟨h,rfl⟩];have:=um (b::l).length l.length l (by simp) (QE _);rw[show(b::l).tail=l from rfl,this]<;>rfl
theorem uq {b:Nat}{l:List Nat}(h:W8 b=true):XQ (b::l)=((b::l).takeWhile X1::(XQ ((b::l).dropWhile X1)).1,(XQ ((b::l).dropWhile X1)).2):=by
 have hb:b=95∨(97<=b/\b<=122)∨(65<=b/\b<=90):=by unfold W8 at h;simp at h;omega
 show VG (l.length+1) (b::l)=_;rw[VG,if_neg (by omega),if_neg (by omega),if_neg (by omega),Qe h,yF h];have:=um l.length (l.dropWhile X1).length (l.dropWhile X1) (yG _ _) (QE _);rw[this]<;>rfl
theorem yH {b:Nat}{l:List Nat}(h1:¬(b=32∨b=9))(h2:¬(b=40∨b=41∨b=33))(h3:¬((b=38∨b=124)/\l.head? =some b))(h4:W8 b=false):XQ (b::l)=([],false):=by
 show VG (l.length+1) (b::l)=_;rw[VG,if_neg h1,if_neg h2,if_neg h3,if_neg (by rw[h4];decide)]
theorem oq (l:List Nat):XQ (Zu l)=XQ l:=by
 induction l with
 | nil=>rfl
 | cons b l ih=>
  unfold Zu at*;rw[nE];split
  ·rename_i h;rw[ih,up];simpa using h
  ·rfl
theorem ur {l:List Nat}{b:Nat}{r:List Nat}(h:Zu l=b::r):¬(b=32∨b=9):=by
 unfold Zu at h;induction l with
 | nil=>cases h
 | cons x l ih=>
  rw[nE] at h;split at h
  ·exact ih h
  ·rename_i hx;cases h;simpa using hx
theorem DS {b:Nat}(hb:b=40∨b=41∨b=33)(p:Ps):match JZ [b] p with
  | (true,p')=>XQ p.r=([b]::(XQ p'.r).1,(XQ p'.r).2)/\p'.f=p.f/\p'.u=p.u/\p'.r.length<p.r.length
  | (false,p')=>(XQ p.r).1.head? ≠some [b]/\p'={p with r:=Zu p.r}:=by
 have hl:=oq p.r;have Yr:=qK p.r;rw[t6];cases ht:Zu p.r with
 | nil=>
  rw[ht] at hl;simp only[List.isPrefixOf];refine⟨?_,by simp⟩;rw[<-hl];simp[uo]
 | cons x r=>
  have hx:=ur ht;rw[ht] at hl Yr;by_cases Z2:x=b
  ·subst Z2;simp only[List.isPrefixOf,beq_self_eq_true,df];refine⟨by rw[<-hl,lA hb];simp,trivial,trivial,by simp at Yr ⊢;omega⟩
  ·have: [b].isPrefixOf (x::r)=false:=by simp[List.isPrefixOf,Ne.symm Z2]
   rw[this];simp only;refine⟨λh=>?_,by simp⟩;rw[<-hl] at h;by_cases h2:x=40∨x=41∨x=33
   ·rw[lA h2] at h;simp at h;exact Z2 h
   ·by_cases h3:(x=38∨x=124)/\r.head? =some x
    ·cases r with
     | nil=>simp at h3
     | cons y r=>
      simp at h3;obtain⟨h3,rfl⟩:=h3;rw[om h3] at h;simp at h
    ·by_cases h4:W8 x=true
     ·rw[uq h4,Wt,Qe (q9 h4)] at h;simp at h;exact Z2 h.1
     ·rw[yH hx h2 h3 (by simpa using h4)] at h;simp at h
theorem yI {b:Nat}(hb:b=38∨b=124)(p:Ps):match JZ [b,b] p with
  | (true,p')=>XQ p.r=([b,b]::(XQ p'.r).1,(XQ p'.r).2)/\p'.f=p.f/\p'.u=p.u/\p'.r.length<p.r.length
  | (false,p')=>(XQ p.r).1.head? ≠some [b,b]/\p'={p with r:=Zu p.r}:=by
 have hl:=oq p.r;have Yr:=qK p.r;rw[t6];cases ht:Zu p.r with
 | nil=>
  rw[ht] at hl;simp only[List.isPrefixOf];refine⟨?_,by simp⟩;rw[<-hl];simp[uo]
 | cons x r=>
  have hx:=ur ht;rw[ht] at hl Yr;by_cases Z2:x=b/\r.head? =some b
  ·obtain⟨rfl,hr⟩:=Z2;cases r with
   | nil=>simp at hr
   | cons y r=>
    simp at hr;subst hr;simp only[List.isPrefixOf,beq_self_eq_true,df];refine⟨by rw[<-hl,om hb];simp,trivial,trivial,by simp at Yr ⊢;omega⟩
  ·have: [b,b].isPrefixOf (x::r)=false:=by
    rw[<-Bool.not_eq_true];intro h;cases r with
    | nil=>simp[List.isPrefixOf] at h
    | cons y r=>simp[List.isPrefixOf] at h;exact Z2 ⟨h.1.symm,by simp[h.2]⟩
   rw[this];simp only;refine⟨λh=>?_,by simp⟩;rw[<-hl] at h;by_cases h2:x=40∨x=41∨x=33
   ·rw[lA h2] at h;simp at h
   ·by_cases h3:(x=38∨x=124)/\r.head? =some x
    ·cases r with
     | nil=>simp at h3
     | cons y r=>
      simp at h3;obtain⟨h3,rfl⟩:=h3;rw[om h3] at h;simp at h;exact Z2 ⟨h,by simp[h]⟩
    ·by_cases h4:W8 x=true
     ·have iO:X1 b=false:=by rcases hb with rfl | rfl<;>decide
      rw[uq h4,Wt,Qe (q9 h4)] at h;simp at h;have hi:=q9 h4;rw[h.1,iO] at hi;cases hi
     ·rw[yH hx h2 h3 (by simpa using h4)] at h;simp at h
def V0 (op:List Nat)(mk:Fm->Fm->Fm)(opd:List (List Nat)->Option (Fm×Bool×List (List Nat))):Nat->Fm->Bool->List (List Nat)->Option (Fm×Bool×List (List Nat))
 | 0,_,_,_=>none
 | m+1,a,u,ts=>if ts.head? =some op then
   match opd ts.tail with
   | none=>none
   | some (b,v,ZX)=>V0 op mk opd m (mk a b) (u||v) ZX
  else some (a,u,ts)
def Yi (op:List Nat)(mk:Fm->Fm->Fm)(opd:List (List Nat)->Option (Fm×Bool×List (List Nat)))(ts:List (List Nat)):Option (Fm×Bool×List (List Nat)):=match opd ts with
 | none=>none
 | some (a,u,ZX)=>V0 op mk opd (ZX.length+1) a u ZX
def DT (t:List Nat):Bool:=match t with
 | []=>false
 | b::_=>W8 b
def jB (ix:List Nat->Option Nat)(t:List Nat):Fm×Bool:=if t=YN then(.c true,false)else if t=bm then(.c false,false)else(.v ((ix t).getD 0),(ix t).isNone)
def Ks (ix:List Nat->Option Nat):Nat->List (List Nat)->Option (Fm×Bool×List (List Nat))
 | 0,_=>none
 | _+1,[]=>none
 | n+1,t::ts=>if t=[33] then
   match Ks ix n ts with
   | none=>none
   | some (a,u,ZX)=>some (.not a,u,ZX)
  else if t=[40] then
   match Yi [124,124] .or (Yi [38,38] .and (Ks ix n)) ts with
   | none=>none
   | some (a,u,ZX)=>if ZX.head? =some [41] then some (a,u,ZX.tail)else none
  else if DT t then some ((jB ix t).1,(jB ix t).2,ts)else none
def rh (ix:List Nat->Option Nat)(n:Nat)(ts:List (List Nat)):Option (Fm×Bool×List (List Nat)):=Yi [124,124] .or (Yi [38,38] .and (Ks ix n)) ts
def XY:Fm->Nat->List Fz
 | .c b,_=>[⟨if b then 1 else 0,0,0,0⟩]
 | .v n,_=>[⟨2,(n:Nat),0,0⟩]
 | .not a,k=>XY a k++ [⟨3,0,((k+Qz a-1:Nat):Int),0⟩]
 | .and a b,k=>XY a k++XY b (k+Qz a)++ [⟨4,0,((k+Qz a-1:Nat):Int),((k+Qz a+Qz b-1:Nat):Int)⟩]
 | .or a b,k=>XY a k++XY b (k+Qz a)++ [⟨5,0,((k+Qz a-1:Nat):Int),((k+Qz a+Qz b-1:Nat):Int)⟩]
theorem JF:∀(t:Fm)(k:Nat),(XY t k).length=Qz t
 | .c _,_=>rfl
 | .v _,_=>rfl
 | .not a,k=>by simp[XY,Qz,JF a k]
 | .and a b,k=>by simp[XY,Qz,JF a k,JF b,nC]
 | .or a b,k=>by simp[XY,Qz,JF a k,JF b,nC]
theorem V3:∀t:Fm,0<Qz t
 | .c _=>Nat.one_pos
 | .v _=>Nat.one_pos
 | .not _=>Nat.succ_pos _
 | .and _ _=>Nat.succ_pos _
 | .or _ _=>Nat.succ_pos _
def ov (p:Ps)(r:Option (Nat×Ps))(rt:Option (Fm×Bool×List (List Nat))):Prop:=match rt with
 | none=>r=none
 | some (t,u,ts)=>∃p',r=some (p.f.length+Qz t-1,p')/\p'.f=p.f++XY t p.f.length/\p'.u=(p.u||u)/\XQ p'.r=(ts,(XQ p.r).2)/\p'.r.length<p.r.length
def ut (opd:Ps->Option (Nat×Ps))(opt:List (List Nat)->Option (Fm×Bool×List (List Nat))):Prop:=∀p,ov p (opd p) (opt (XQ p.r).1)
def jC (opt:List (List Nat)->Option (Fm×Bool×List (List Nat))):Prop:=∀ts t u ZX,opt ts=some (t,u,ZX)->ZX.length<ts.length
theorem Nr {op:List Nat}{o:Int}{mk:Fm->Fm->Fm}{opd:Ps->Option (Nat×Ps)}{opt:List (List Nat)->Option (Fm×Bool×List (List Nat))}
  (aY:∀p,match JZ op p with
   | (true,p')=>XQ p.r=(op::(XQ p'.r).1,(XQ p'.r).2)/\p'.f=p.f/\p'.u=p.u/\p'.r.length<p.r.length
   | (false,p')=>(XQ p.r).1.head? ≠some op/\p'={p with r:=Zu p.r})
  (Cb:∀a b k,XY (mk a b) k=XY a k++XY b (k+Qz a)++ [⟨o,0,((k+Qz a-1:Nat):Int),((k+Qz a+Qz b-1:Nat):Int)⟩]) (XW:∀a b,Qz (mk a b)=Qz a+Qz b+1) (H:ut opd opt) (hl:jC opt):
  ∀(m m':Nat) (a:Fm) (u:Bool) (p0 p:Ps),p.f=p0.f++XY a p0.f.length->p.u=(p0.u||u)->(XQ p.r).2=(XQ p0.r).2->p.r.length<p0.r.length->p.r.length<m->(XQ p.r).1.length<m'->
   ov p0 (eG op o opd m (p0.f.length+Qz a-1) p) (V0 op mk opt m' a u (XQ p.r).1)
 | 0,m',a,u,p0,p,_,_,_,_,h,_=>by omega
 | m+1,0,a,u,p0,p,_,_,_,_,_,h=>by omega
 | m+1,m'+1,a,u,p0,p,hf,hu,JU,hr,hm,Ca=>by
  have hs:=aY p;unfold eG V0;cases m3:JZ op p with
  | mk b p1=>
  rw[m3] at hs;cases b with
  | false=>
   obtain⟨h1,rfl⟩:=hs;rw[if_neg h1];refine⟨_,rfl,hf,hu,?_,?_⟩
   ·simp only;rw[oq,<-JU]
   ·have:=qK p.r;simp only;omega
  | true=>
   obtain⟨h1,h2,h3,h4⟩:=hs;have hh:=QN Prod.fst h1;have vo:=QN Prod.snd h1;simp only at hh vo;rw[hh,CO,Qe rfl,List.tail_cons];simp only;have hc:=H p1;cases ho:opt (XQ p1.r).1 with
   | none=>
    rw[ho] at hc;simp only[ov] at hc ⊢;rw[hc]
   | some q=>
    obtain⟨t,v,ts⟩:=q;rw[ho] at hc;obtain⟨p2,e1,e2,e3,e4,e5⟩:=hc;rw[e1];simp only;have Xa:=hl _ _ _ _ ho;have pa:=V3 a;have pt:=V3 t;rw[hf] at h2;have Kk:p1.f.length=p0.f.length+Qz a:=by rw[h2,Qy,JF]
    have ih:=Nr aY Cb XW H hl m m' (mk a t) (u||v) p0 {p2 with f:=p2.f++ [⟨o,0,((p0.f.length+Qz a-1:Nat):Int),((p1.f.length+Qz t-1:Nat):Int)⟩]}
     (by simp only;rw[e2,h2,Cb,Qy,JF];simp) (by simp only;rw[e3,h3,hu,CQ]) (by simp only;rw[e4,<-vo,JU]) (by simp only;omega) (by simp only;omega)
     (by simp only;rw[e4];simp only;rw[hh] at Ca;simp only[Xk] at Ca;omega)
    simp only[e4] at ih;have hx:p2.f.length=p0.f.length+Qz (mk a t)-1:=by rw[e2,Qy,JF,Kk,XW];omega
    rw[hx];exact ih
theorem yJ {op:List Nat}{o:Int}{mk:Fm->Fm->Fm}{opd:Ps->Option (Nat×Ps)}{opt:List (List Nat)->Option (Fm×Bool×List (List Nat))}
  (aY:∀p,match JZ op p with
   | (true,p')=>XQ p.r=(op::(XQ p'.r).1,(XQ p'.r).2)/\p'.f=p.f/\p'.u=p.u/\p'.r.length<p.r.length
   | (false,p')=>(XQ p.r).1.head? ≠some op/\p'={p with r:=Zu p.r})
  (Cb:∀a b k,XY (mk a b) k=XY a k++XY b (k+Qz a)++ [⟨o,0,((k+Qz a-1:Nat):Int),((k+Qz a+Qz b-1:Nat):Int)⟩]) (XW:∀a b,Qz (mk a b)=Qz a+Qz b+1) (H:ut opd opt) (hl:jC opt):ut (K5 op o opd) (Yi op mk opt):=λp=>by
 have hc:=H p;unfold K5 Yi;cases ho:opt (XQ p.r).1 with
 | none=>
  rw[ho] at hc;simp only[ov] at hc ⊢;rw[hc]
 | some q=>
  obtain⟨t,v,ts⟩:=q;rw[ho] at hc;obtain⟨p2,e1,e2,e3,e4,e5⟩:=hc;rw[e1];simp only;have:=Nr aY Cb XW H hl (p2.r.length+1) (ts.length+1) t v p p2 e2 e3 (by rw[e4]) e5 (by omega) (by rw[e4];exact dh _);rw[e4] at this;exact this
theorem Ns {op:List Nat}{mk:Fm->Fm->Fm}{opt:List (List Nat)->Option (Fm×Bool×List (List Nat))}(hl:jC opt):∀(m:Nat)(a:Fm)(u:Bool)(ts:List (List Nat))(t:Fm)(v:Bool)(ZX:List (List Nat)),V0 op mk opt m a u ts=some (t,v,ZX)->ZX.length<=ts.length
 | 0,a,u,ts,t,v,ZX,h=>by cases h
 | m+1,a,u,ts,t,v,ZX,h=>by
  unfold V0 at h;split at h
  ·cases ho:opt ts.tail with
   | none=>rw[ho] at h;cases h
   | some q=>
    obtain⟨b,v2,gk⟩:=q;rw[ho] at h;have h1:=Ns hl m _ _ _ _ _ _ h;have h2:=hl _ _ _ _ ho;rw[xE] at h2;omega
  ·cases h;exact QE _
theorem uu {op:List Nat}{mk:Fm->Fm->Fm}{opt:List (List Nat)->Option (Fm×Bool×List (List Nat))}(hl:jC opt):jC (Yi op mk opt):=λts t u ZX h=>by
 unfold Yi at h;cases ho:opt ts with
 | none=>rw[ho] at h;cases h
 | some q=>
  obtain⟨b,v2,gk⟩:=q;rw[ho] at h;have h1:=Ns hl _ _ _ _ _ _ _ h;have h2:=hl _ _ _ _ ho;omega
theorem ri (ix:List Nat->Option Nat):∀n,jC (Ks ix n)
 | 0=>λts t u ZX h=>by cases h
 | n+1=>λts t u ZX h=>by
  have ih:=ri ix n;cases ts with
  | nil=>cases h
  | cons x ts=>
   unfold Ks at h;split at h
   ·cases ho:Ks ix n ts with
    | none=>rw[ho] at h;cases h
    | some q=>
     obtain⟨b,v2,gk⟩:=q;rw[ho] at h;have:=ih _ _ _ _ ho;cases h;simp;omega
   ·split at h
    ·cases ho:Yi [124,124] .or (Yi [38,38] .and (Ks ix n)) ts with
     | none=>rw[ho] at h;cases h
     | some q=>
      obtain⟨b,v2,gk⟩:=q;rw[ho] at h;have:=uu (op:=[124,124]) (mk:=.or) (uu (op:=[38,38]) (mk:=.and) ih) _ _ _ _ ho;simp only at h;split at h
      ·cases h;simp[xE];omega
      ·cases h
    ·split at h
     ·cases h;simp
     ·cases h
theorem eQc (p:Nat->Bool)(l:List Nat):l.take (l.takeWhile p).length=l.takeWhile p:=by
 induction l with
 | nil=>rfl
 | cons x l ih=>
  rw[Wt];split
  ·rw[Xk,CR,ih]
  ·rfl
theorem eQd (p:Nat->Bool)(l:List Nat):l.drop (l.takeWhile p).length=l.dropWhile p:=by
 induction l with
 | nil=>rfl
 | cons x l ih=>
  rw[Wt,nE];split
  ·rw[Xk,Lv,ih]
  ·rfl
theorem eQe (l:List Nat):Zu (Zu l)=Zu l:=by
 cases h:Zu l with
 | nil=>rfl
 | cons b r=>
  have:=ur h;unfold Zu;rw[nE,if_neg (by simpa using this)]
theorem Nv {x:Nat}{r:List Nat}(h:K4 (x::r)≠0):W8 x=true/\K4 (x::r)=((x::r).takeWhile X1).length:=by
 have e:K4 (x::r)=if isDig x then 0 else((x::r).takeWhile X1).length:=rfl
 rw[e] at h ⊢;split at h
 ·exact Xm rfl h
 ·rename_i hd;rw[if_neg hd];refine⟨?_,rfl⟩;rw[Wt] at h;split at h
  ·rename_i hi;unfold X1 at hi;rw[Bool.or_eq_true] at hi;exact hi.resolve_right hd
  ·exact Xm rfl h
theorem eQf {x:Nat}{r:List Nat}(h:K4 (x::r)=0):W8 x=false:=by
 have e:K4 (x::r)=if isDig x then 0 else((x::r).takeWhile X1).length:=rfl
 rw[e] at h;rw[<-Bool.not_eq_true];intro hl;have hb:x=95∨(97<=x/\x<=122)∨(65<=x/\x<=90):=by unfold W8 at hl;simp at hl;omega
 rw[if_neg (by unfold isDig;simp;omega),Wt,Qe (q9 hl)] at h;simp at h
theorem eQg {x:Nat}{r:List Nat}(h:W8 x=true):DT ((x::r).takeWhile X1)=true:=by
 rw[Wt,Qe (q9 h)];exact h
theorem Nw (ix:List Nat->Option Nat):∀n,ut (bj ix n) (Ks ix n)
 | 0=>λp=>rfl
 | n+1=>λp=>by
  have ih:=Nw ix n;have cX:=ri ix n;have s1:=DS (b:=33) (by omega) p;cases hk:JZ [33] p with
  | mk b p1=>
  rw[hk] at s1;cases b with
  | true=>
   obtain⟨h1,h2,h3,h4⟩:=s1;rw[Dw ix n hk,h1];have hc:=ih p1;unfold Ks;rw[Qe rfl];cases ho:Ks ix n (XQ p1.r).1 with
   | none=>
    rw[ho] at hc;simp only[ov] at hc ⊢;rw[hc]
   | some q=>
    obtain⟨t,v,ts⟩:=q;rw[ho] at hc;obtain⟨p2,e1,e2,e3,e4,e5⟩:=hc;rw[e1];have pt:=V3 t;refine⟨(VC ⟨3,0,((p1.f.length+Qz t-1:Nat):Int),0⟩ p2).2,?_,?_,?_,?_,?_⟩
    ·simp only[VC];rw[e2,Qy,JF,h2]<;>rfl
    ·simp only[VC];rw[e2,h2];simp[XY]
    ·simp only[VC];rw[e3,h3]
    ·simp only[VC];rw[e4,h1]
    ·simp only[VC];omega
  | false=>
   obtain⟨h1,rfl⟩:=s1;have s2:=DS (b:=40) (by omega) {p with r:=Zu p.r};cases Vr:JZ [40] {p with r:=Zu p.r}with
   | mk b p2=>
   rw[Vr] at s2;have Yr:=qK p.r;cases b with
   | true=>
    obtain⟨h5,h6,h7,h8⟩:=s2;simp only[oq] at h5 h6 h7 h8;rw[Dx ix n hk Vr,h5];have hc:=yJ (op:=[124,124]) (o:=5) (mk:=.or) (λp=>yI (by omega) p) (λa b k=>rfl) (λa b=>rfl) (yJ (op:=[38,38]) (o:=4) (mk:=.and) (λp=>yI (by omega) p) (λa b k=>rfl) (λa b=>rfl) ih cX) (uu cX) p2;unfold Ks;rw[if_neg (by decide),Qe rfl];unfold fG;cases ho:Yi [124,124] Fm.or (Yi [38,38] Fm.and (Ks ix n)) (XQ p2.r).1 with
    | none=>
     rw[ho] at hc;simp only[ov] at hc ⊢;rw[hc]
    | some q=>
     obtain⟨t,v,ts⟩:=q;rw[ho] at hc;obtain⟨p3,e1,e2,e3,e4,e5⟩:=hc;rw[e1];simp only;have s3:=DS (b:=41) (by omega) p3;cases iy:JZ [41] p3 with
     | mk b p4=>
     rw[iy] at s3;cases b with
     | true=>
      obtain⟨g1,g2,g3,g4⟩:=s3;have ht:=QN Prod.fst (e4.symm.trans g1);have j7:=QN Prod.snd (e4.symm.trans g1);simp only at ht j7;rw[ht,CO,Qe rfl,List.tail_cons];refine⟨_,by rw[h6],by rw[g2,e2,h6],by rw[g3,e3,h7],?_,?_⟩
      ·rw[h5];simp only;rw[j7]
      ·omega
     | false=>
      obtain⟨g1,rfl⟩:=s3;rw[e4] at g1;simp only at g1;rw[if_neg g1]<;>rfl
   | false=>
    obtain⟨h5,rfl⟩:=s2;simp only[oq] at h5;rw[Dy ix n hk Vr];simp only[eQe];have hl:=oq p.r;cases ht:Zu p.r with
    | nil=>
     rw[ht,uo] at hl;rw[<-hl]<;>rfl
    | cons x r=>
     have hx:=ur ht;rw[ht] at hl Yr;rw[<-hl] at h1 h5 ⊢;by_cases iO:K4 (x::r)=0
     ·rw[Qe iO];have h4:=eQf iO;have:Ks ix (n+1) (XQ (x::r)).1=none:=by
       by_cases h2:x=40∨x=41∨x=33
       ·rw[lA h2] at h1 h5 ⊢;simp only[CO,ne_eq,Option.some.injEq,List.cons.injEq,and_true] at h1 h5;have:x=41:=by omega
        subst this;rfl
       ·by_cases h3:(x=38∨x=124)/\r.head? =some x
        ·cases r with
         | nil=>simp at h3
         | cons y r=>
          simp at h3;obtain⟨h3,rfl⟩:=h3;rw[om h3];rcases h3 with rfl | rfl<;>rfl
        ·rw[yH hx h2 h3 h4]<;>rfl
      rw[this]<;>rfl
     ·rw[if_neg iO];obtain⟨Xu,JU⟩:=Nv iO;rw[JU,eQc,eQd];have kQz:=uq (l:=r) Xu;rw[kQz] at h1 h5 hl ⊢;simp only[CO,ne_eq,Option.some.injEq] at h1 h5;unfold Ks;rw[if_neg h1,if_neg h5,Qe (eQg Xu)];have Xb:((x::r).dropWhile X1).length<p.r.length:=by
       rw[yF Xu];have:=yG X1 r;simp only[Xk] at Yr;omega
      unfold jB;by_cases mj:(x::r).takeWhile X1=YN
      ·rw[Qe mj,Qe mj];exact⟨_,rfl,rfl,by simp,by simp only;rw[<-hl],Xb⟩
      ·rw[if_neg mj,if_neg mj];by_cases j7:(x::r).takeWhile X1=bm
       ·rw[Qe j7,Qe j7];exact⟨_,rfl,rfl,by simp,by simp only;rw[<-hl],Xb⟩
       ·rw[if_neg j7,if_neg j7];exact⟨_,rfl,rfl,rfl,by simp only;rw[<-hl],Xb⟩
theorem eQh (ix:List Nat->Option Nat)(n:Nat):ut (fG ix n) (rh ix n):=
 yJ (op:=[124,124]) (o:=5) (mk:=.or) (λp=>yI (by omega) p) (λ_ _ _=>rfl) (λ_ _=>rfl) (yJ (op:=[38,38]) (o:=4) (mk:=.and) (λp=>yI (by omega) p) (λ_ _ _=>rfl) (λ_ _=>rfl) (Nw ix n) (ri ix n)) (uu (ri ix n))
theorem eQi (l:List Nat):Zu l=[]↔XQ l=([],true):=by
 rw[<-oq l];cases h:Zu l with
 | nil=>simp[uo]
 | cons x r=>
  have hx:=ur h;simp only[reduceCtorEq,false_iff];intro e;by_cases h2:x=40∨x=41∨x=33
  ·rw[lA h2] at e;simp at e
  ·by_cases h3:(x=38∨x=124)/\r.head? =some x
   ·cases r with
    | nil=>simp at h3
    | cons y r=>
     simp at h3;obtain⟨h3,rfl⟩:=h3;rw[om h3] at e;simp at e
   ·by_cases h4:W8 x=true
    ·rw[uq h4] at e;simp at e
    ·rw[yH hx h2 h3 (by simpa using h4)] at e;simp at e
def yK (names:List (List Nat))(s:List Nat):List Fz×Int:=if ZJ names then
  if(XQ s).2 then match rh (Ja names) (s.length+1) (XQ s).1 with
   | none=>([],31)
   | some (t,u,ts)=>if ts≠ [] then([],31)else if u then([],3)else if 512<Qz t then([],2)else(XY t 0,0)
  else([],31)
 else([],1)
theorem Nx (names:List (List Nat))(s:List Nat):cq names s=yK names s:=by
 unfold cq yK;by_cases hn:ZJ names=true
 ·rw[Qe hn,Qe hn];have hc:=eQh (Ja names) (s.length+1) ⟨s,[],false⟩;simp only at hc;cases ho:rh (Ja names) (s.length+1) (XQ s).1 with
  | none=>
   rw[ho] at hc;simp only[ov] at hc;rw[hc];simp
  | some q=>
   obtain⟨t,v,ts⟩:=q;rw[ho] at hc;obtain⟨p2,e1,e2,e3,e4,e5⟩:=hc;rw[e1];simp only at e2 e3 e4 ⊢;simp only[ep,Z8,Bool.false_or] at e2 e3;have he:=eQi p2.r;rw[e4] at he;by_cases hf:(XQ s).2=true
   ·rw[Qe hf];rw[hf] at he;simp only[Prod.mk.injEq,and_true] at he;rw[e3,e2,JF];by_cases fd:ts=[]
    ·rw[if_neg (λh=>h (he.2 fd)),if_neg (c:=ts≠ []) (λh=>h fd)]
    ·rw[Qe (λh=>fd (he.1 h)),Qe fd]
   ·rw[if_neg hf,Qe (λh=>hf (by have:=QN Prod.snd (he.1 h);simpa using this))]
 ·rw[if_neg hn,if_neg hn]
end
section
def Vp (b:Bool)(ts:List (List Nat)):List (List Nat):=if b then [40]::ts++ [[41]] else ts
def ZZ (nm:List (List Nat)):Fm->List (List Nat)
 | .c b=>[if b then YN else bm]
 | .v n=>[nm[n]?.getD []]
 | .not a=>[33]::Vp (decide (ZD a<2)) (ZZ nm a)
 | .and a b=>Vp (decide (ZD a<1)) (ZZ nm a)++ [38,38]::Vp (decide (ZD b<2)) (ZZ nm b)
 | .or a b=>ZZ nm a++ [124,124]::Vp (decide (ZD b<1)) (ZZ nm b)
theorem eQj (nm:List (List Nat)):∀t:Fm,0<(ZZ nm t).length
 | .c _=>Nat.one_pos
 | .v _=>Nat.one_pos
 | .not _=>Nat.succ_pos _
 | .and _ _=>by simp only[ZZ,Qy,Xk];omega
 | .or _ _=>by simp only[ZZ,Qy,Xk];omega
def Stop (l:List Nat):Prop:=∀b r,l=b::r->X1 b=false
theorem Stop.nil:Stop []:=λ_ _ h=>by cases h
theorem Stop.cons {b:Nat}{r:List Nat}(h:X1 b=false):Stop (b::r):=λ_ _ e=>by cases e;exact h
def lB (w:List Nat):Prop:=(∃b r,w=b::r/\W8 b=true)/\∀x∈w,X1 x=true
theorem eQk {w rest:List Nat}(h:∀x∈w,X1 x=true)(hs:Stop rest):(w++rest).takeWhile X1=w/\(w++rest).dropWhile X1=rest:=by
 induction w with
 | nil=>
  cases rest with
  | nil=>exact⟨rfl,rfl⟩
  | cons b r=>
   have:=hs b r rfl;rw[ep,Wt,nE,if_neg (by rw[this];decide),if_neg (by rw[this];decide)];exact⟨rfl,rfl⟩
 | cons x w ih=>
  obtain⟨h1,h2⟩:=ih (λy hy=>h y (by simp[hy]));have hx:=h x (by simp);rw[Yd,Wt,nE,Qe hx,Qe hx,h1,h2];exact⟨rfl,rfl⟩
theorem eQl {w rest:List Nat}(h:lB w)(hs:Stop rest):XQ (w++rest)=(w::(XQ rest).1,(XQ rest).2):=by
 obtain⟨⟨b,r,rfl,hb⟩,hall⟩:=h;obtain⟨h1,h2⟩:=eQk hall hs;rw[Yd] at h1 h2 ⊢;rw[uq hb,h1,h2]
theorem eQm {w:List Nat}(h:lB w):DT w=true:=by
 obtain⟨⟨b,r,rfl,hb⟩,_⟩:=h;exact hb
theorem DU {s:List Nat}(h:WB s=true):lB s/\s≠YN/\s≠bm:=by
 unfold WB at h;rw[Vl] at h;obtain⟨h1,h2,h3,h4⟩:=h;cases s with
 | nil=>exact Xm rfl h1
 | cons b r=>
  obtain⟨hl,he⟩:=Nv (x:=b) (r:=r) (by rw[h2];simp);rw[he] at h2;refine⟨⟨⟨b,r,rfl,hl⟩,λx hx=>?_⟩,h3,h4⟩;have:(b::r).takeWhile X1=b::r:=(List.takeWhile_prefix X1).eq_of_length h2;rw[<-this] at hx;exact(W5.1 (List.all_takeWhile (p:=X1) (l:=b::r))) x hx
theorem Ny:lB YN:=⟨⟨116,_,rfl,by decide⟩,by decide⟩
theorem Nz:lB bm:=⟨⟨102,_,rfl,by decide⟩,by decide⟩
structure NmOk (nm:List (List Nat)) (ix:List Nat->Option Nat):Prop where
 word:∀k,k<nm.length->WB (nm[k]?.getD [])=true
 ix:∀k,k<nm.length->ix (nm[k]?.getD [])=some k
def LexS (s:List Nat)(ts:List (List Nat)):Prop:=∀rest,Stop rest->XQ (s++rest)=(ts++(XQ rest).1,(XQ rest).2)
theorem LexS.par {s:List Nat}{ts:List (List Nat)}(h:LexS s ts)(b:Bool):LexS (VY b s) (Vp b ts):=by
 cases b with
 | false=>exact h
 | true=>
  intro rest hs;show XQ (40::s++ [41]++rest)=_;rw[Yd,Yd,lA (by omega),KO,List.singleton_append,h (41::rest) (Stop.cons (by decide)),lA (by omega)];simp[Vp]
theorem LexS.word {w:List Nat}(h:lB w):LexS w [w]:=λ_ hs=>eQl h hs
theorem rj {nm:List (List Nat)}{ix:List Nat->Option Nat}(hn:NmOk nm ix):∀(t:Fm),VarsIn nm.length t->LexS (Z4 nm t) (ZZ nm t)
 | .c b,_=>by
  cases b with
  | true=>exact LexS.word Ny
  | false=>exact LexS.word Nz
 | .v n,h=>LexS.word (DU (hn.word n h)).1
 | .not a,h=>by
  have ih:=(rj hn a h).par (decide (ZD a<2));intro rest hs;show XQ (33::VY _ _++rest)=_;rw[Yd,lA (by omega),ih rest hs]<;>rfl
 | .and a b,h=>by
  have iha:=(rj hn a h.1).par (decide (ZD a<1));have ihb:=(rj hn b h.2).par (decide (ZD b<2));intro rest hs;show XQ (VY _ _++ [32,38,38,32]++VY _ _++rest)=_;rw[KO,KO,show [32,38,38,32]++(VY (decide (ZD b<2)) (Z4 nm b)++rest)=32::38::38::32::(VY (decide (ZD b<2)) (Z4 nm b)++rest) from rfl];rw[iha _ (Stop.cons (b:=32) (by decide)),up (by omega),om (by omega),up (by omega),ihb rest hs];simp[ZZ]
 | .or a b,h=>by
  have iha:=rj hn a h.1;have ihb:=(rj hn b h.2).par (decide (ZD b<1));intro rest hs;show XQ (VY (decide (ZD a<0)) _++ [32,124,124,32]++VY _ _++rest)=_;rw[show decide (ZD a<0)=false from Zf (by omega)];show XQ (Z4 nm a++ [32,124,124,32]++VY _ _++rest)=_;rw[KO,KO,show [32,124,124,32]++(VY (decide (ZD b<1)) (Z4 nm b)++rest)=32::124::124::32::(VY (decide (ZD b<1)) (Z4 nm b)++rest) from rfl];rw[iha _ (Stop.cons (b:=32) (by decide)),up (by omega),om (by omega),up (by omega),ihb rest hs];simp[ZZ]
theorem eQn {nm:List (List Nat)}{ix:List Nat->Option Nat}(hn:NmOk nm ix)(t:Fm)(h:VarsIn nm.length t):XQ (ZE nm 0 t)=(ZZ nm t,true):=by
 have:=rj hn t h [] Stop.nil;unfold ZE;rw[show decide (ZD t<0)=false from Zf (by omega)];simp only[YL,uo] at this;exact this
theorem NB {op:List Nat}{mk:Fm->Fm->Fm}{opt:List (List Nat)->Option (Fm×Bool×List (List Nat))}(hl:jC opt):∀(m m':Nat)(a:Fm)(u:Bool)(ts:List (List Nat)),ts.length<m->ts.length<m'->V0 op mk opt m a u ts=V0 op mk opt m' a u ts
 | 0,_,_,_,_,h,_=>by omega
 | _+1,0,_,_,_,_,h=>by omega
 | m+1,m'+1,a,u,ts,h,h'=>by
  unfold V0;split
  ·cases ho:opt ts.tail with
   | none=>rfl
   | some q=>
    obtain⟨b,v,ZX⟩:=q;have:=hl _ _ _ _ ho;rw[xE] at this;exact NB hl m m' _ _ ZX (by omega) (by omega)
  ·rfl
theorem yL {op:List Nat}{mk:Fm->Fm->Fm}{opt:List (List Nat)->Option (Fm×Bool×List (List Nat))}{m:Nat}{a:Fm}{u:Bool}{ts:List (List Nat)}(h:ts.head? ≠some op):V0 op mk opt (m+1) a u ts=some (a,u,ts):=by
 unfold V0;rw[if_neg h]
theorem NC {op:List Nat}{mk:Fm->Fm->Fm}{opt:List (List Nat)->Option (Fm×Bool×List (List Nat))}(hl:jC opt){m:Nat}{a b:Fm}{u v:Bool}{ts ZX:List (List Nat)}(h:opt ts=some (b,v,ZX)):V0 op mk opt ((op::ts).length+m) a u (op::ts)=V0 op mk opt (ZX.length+1) (mk a b) (u||v) ZX:=by
 have:=hl _ _ _ _ h;have e:V0 op mk opt ((ts.length+m)+1) a u (op::ts)=V0 op mk opt (ts.length+m) (mk a b) (u||v) ZX:=by
  rw[V0,CO,Qe rfl,List.tail_cons,h]
 rw[Xk,show ts.length+1+m=(ts.length+m)+1 by omega,e];exact NB hl _ _ _ _ _ (by omega) (by omega)
theorem eQo (ix:List Nat->Option Nat)(b:Bool):jB ix (if b then YN else bm)=(.c b,false):=by cases b<;>rfl
theorem eQp {nm:List (List Nat)}{ix:List Nat->Option Nat}(hn:NmOk nm ix){n:Nat}(h:n<nm.length):jB ix (nm[n]?.getD [])=(.v n,false):=by
 obtain⟨_,h1,h2⟩:=DU (hn.word n h);unfold jB;rw[if_neg h1,if_neg h2,hn.ix n h]<;>rfl
theorem eQq {w:List Nat}(h:lB w):w≠ [33]/\w≠ [40]/\w≠ [41]/\w≠ [38,38]/\w≠ [124,124]:=by
 obtain⟨⟨b,r,rfl,hb⟩,_⟩:=h;refine⟨?_,?_,?_,?_,?_⟩<;>(intro e;cases e;exact Xm hb (by decide))
theorem ND {ix:List Nat->Option Nat}{n:Nat}{w:List Nat}{rest:List (List Nat)}(h:lB w):Ks ix (n+1) (w::rest)=some ((jB ix w).1,(jB ix w).2,rest):=by
 have:=eQq h;unfold Ks;rw[if_neg this.1,if_neg this.2.1,Qe (eQm h)]
abbrev rm (ix:List Nat->Option Nat)(n:Nat):=Yi [38,38] Fm.and (Ks ix n)
abbrev NE (ix:List Nat->Option Nat)(n:Nat):=Yi [124,124] Fm.or (rm ix n)
theorem eQr (ix:List Nat->Option Nat)(n:Nat):jC (rm ix n):=uu (ri ix n)
theorem NF {op:List Nat}{mk:Fm->Fm->Fm}{opt:List (List Nat)->Option (Fm×Bool×List (List Nat))}{ts ZX:List (List Nat)}{a:Fm}{u:Bool}(h:opt ts=some (a,u,ZX)):Yi op mk opt ts=V0 op mk opt (ZX.length+1) a u ZX:=by
 unfold Yi;rw[h]
def DW (nm:List (List Nat))(ix:List Nat->Option Nat)(n:Nat):Prop:=∀(t:Fm)(rest:List (List Nat)),VarsIn nm.length t->(Vp (decide (ZD t<2)) (ZZ nm t)).length<=n->Ks ix n (Vp (decide (ZD t<2)) (ZZ nm t)++rest)=some (t,false,rest)
theorem NG {nm:List (List Nat)}{ix:List Nat->Option Nat}{n:Nat}(F:DW nm ix n):∀(t:Fm)(rest:List (List Nat)),VarsIn nm.length t->(Vp (decide (ZD t<1)) (ZZ nm t)).length<=n->
  rm ix n (Vp (decide (ZD t<1)) (ZZ nm t)++rest)=V0 [38,38] .and (Ks ix n) (rest.length+1) t false rest:=by
 intro t;have base:∀t,decide (ZD t<1)=decide (ZD t<2)->∀rest,VarsIn nm.length t->(Vp (decide (ZD t<1)) (ZZ nm t)).length<=n->rm ix n (Vp (decide (ZD t<1)) (ZZ nm t)++rest)=V0 [38,38] .and (Ks ix n) (rest.length+1) t false rest:=by
  intro t e rest hv hl;rw[e] at hl ⊢;exact NF (F t rest hv hl)
 induction t with
 | c b=>exact base _ rfl
 | v k=>exact base _ rfl
 | not a _=>exact base _ rfl
 | or a b _ _=>exact base _ rfl
 | and a b iha _=>
  intro rest hv hl;have e:Vp (decide (ZD (.and a b)<1)) (ZZ nm (.and a b))=Vp (decide (ZD a<1)) (ZZ nm a)++ [38,38]::Vp (decide (ZD b<2)) (ZZ nm b):=rfl;rw[e,Qy,Xk] at hl;rw[e,KO,Yd,iha _ hv.1 (by omega)];have hf:=F b rest hv.2 (by omega);exact NC (ri ix n) (m:=1) hf
theorem NH {nm:List (List Nat)}{ix:List Nat->Option Nat}{n:Nat}(F:DW nm ix n):∀(t:Fm)(rest:List (List Nat)),VarsIn nm.length t->(ZZ nm t).length<=n->rest.head? ≠some [38,38]->
  NE ix n (ZZ nm t++rest)=V0 [124,124] .or (rm ix n) (rest.length+1) t false rest:=by
 intro t;have base:∀t,decide (ZD t<1)=false->∀rest,VarsIn nm.length t->(ZZ nm t).length<=n->rest.head? ≠some [38,38]->NE ix n (ZZ nm t++rest)=V0 [124,124] .or (rm ix n) (rest.length+1) t false rest:=by
  intro t e rest hv hl hs;have:=NG F t rest hv (by rw[e];exact hl);rw[e,yL hs] at this;exact NF this
 induction t with
 | c b=>exact base _ rfl
 | v k=>exact base _ rfl
 | not a _=>exact base _ rfl
 | and a b _ _=>exact base _ rfl
 | or a b iha _=>
  intro rest hv hl hs;have e:ZZ nm (.or a b)=ZZ nm a++ [124,124]::Vp (decide (ZD b<1)) (ZZ nm b):=rfl;rw[e,Qy,Xk] at hl;rw[e,KO,Yd,iha _ hv.1 (by omega) (by simp)];have hf:=NG F b rest hv.2 (by omega);rw[yL hs] at hf;exact NC (eQr ix n) (m:=1) hf
theorem NI {nm:List (List Nat)}{ix:List Nat->Option Nat}(hn:NmOk nm ix):∀n,DW nm ix n
 | 0=>λt rest hv hl=>by
  have:∀(b:Bool),0<(Vp b (ZZ nm t)).length:=by
   intro b;have:=eQj nm t;cases b with
   | true=>simp[Vp]
   | false=>exact this
  have:=this (decide (ZD t<2));omega
 | n+1=>λt rest hv hl=>by
  have F:=NI hn n;by_cases h2:ZD t<2
  ·rw[XX h2] at hl ⊢;have e:Vp true (ZZ nm t)++rest=[40]::(ZZ nm t++ [41]::rest):=by simp[Vp]
   have bR:(ZZ nm t).length<=n:=by simp[Vp] at hl;omega
   rw[e];have ho:=NH F t ([41]::rest) hv bR (by simp);rw[yL (by simp)] at ho;unfold Ks;have Kd:Yi [124,124] Fm.or (Yi [38,38] Fm.and (Ks ix n)) (ZZ nm t++ [41]::rest)=some (t,false,[41]::rest):=ho;rw[if_neg (by decide),Qe rfl,Kd];simp
  ·rw[Zf h2] at hl ⊢;cases t with
   | c b=>
    show Ks ix (n+1) ((if b then YN else bm)::rest)=_;rw[ND (by cases b;exact Nz;exact Ny),eQo]
   | v k=>
    show Ks ix (n+1) (nm[k]?.getD []::rest)=_;rw[ND (DU (hn.word k hv)).1,eQp hn hv]
   | not a=>
    have bR:(Vp (decide (ZD a<2)) (ZZ nm a)).length<=n:=by
     have:(Vp false (ZZ nm (.not a))).length=(Vp (decide (ZD a<2)) (ZZ nm a)).length+1:=rfl;omega
    show Ks ix (n+1) ([33]::(Vp (decide (ZD a<2)) (ZZ nm a)++rest))=_;unfold Ks;rw[Qe rfl,F a rest hv bR]
   | and a b=>exact Xm (show ZD (.and a b)<2 by simp[ZD]) h2
   | or a b=>exact Xm (show ZD (.or a b)<2 by simp[ZD]) h2
theorem eQs {nm:List (List Nat)}{ix:List Nat->Option Nat}(hn:NmOk nm ix)(t:Fm)(hv:VarsIn nm.length t){n:Nat}(hl:(ZZ nm t).length<=n):rh ix n (ZZ nm t)=some (t,false,[]):=by
 have:=NH (NI hn n) t [] hv hl (by simp);rw[YL,yL (by simp)] at this;exact this
theorem yM:∀(n:Nat)(l:List Nat),(VG n l).1.length<=l.length
 | 0,l=>XM _
 | n+1,[]=>XM _
 | n+1,b::l=>by
  have i1:=yM n l;have i2:=yM n l.tail;rw[xE] at i2;simp only[VG,Xk];split
  ·omega
  ·split
   ·simp only[Xk];omega
   ·split
    ·rename_i h;cases l with
     | nil=>simp at h
     | cons y l=>simp only[Xk] at i2 ⊢;omega
    ·split
     ·rename_i h;have i3:=yM n (l.dropWhile X1);have:=yG X1 l;rw[yF h];simp only[Xk];omega
     ·simp
theorem eQt {nm:List (List Nat)}(hn:ZJ nm=true)(hi:NmOk nm (Ja nm))(t:Fm)(hv:VarsIn nm.length t)(hs:Qz t<=512):cq nm (ZE nm 0 t)=(XY t 0,0):=by
 rw[Nx];unfold yK;have hl:=eQn hi t hv;have ZK:(ZZ nm t).length<=(ZE nm 0 t).length+1:=by
  have:=yM (ZE nm 0 t).length (ZE nm 0 t);have e:VG (ZE nm 0 t).length (ZE nm 0 t)=(ZZ nm t,true):=hl;rw[e] at this;exact Nat.le_succ_of_le this
 rw[Qe hn,hl];simp only;rw[Qe trivial,eQs hi t hv ZK];simp only;rw[if_neg (c:=([]:List (List Nat))≠ []) (λh=>h rfl),if_neg (by decide),if_neg (by omega)]
end
section
theorem NJ (a:ByteArray)(v:Value):∀m:List (ByteArray×Value),a∈m.map Prod.fst->(X8 a v m).map Prod.fst=m.map Prod.fst
 | [],h=>by simp at h
 | (b,u)::m,h=>by
  unfold X8;by_cases e:a=b
  ·subst e;rw[Qe rfl]<;>rfl
  ·rw[if_neg e,YK,NJ a v m (by simp only[YK,QX] at h;exact h.resolve_left e)];rfl
theorem DX (a:ByteArray)(v:Value):∀m:List (ByteArray×Value),a∉m.map Prod.fst->(X8 a v m).map Prod.fst=m.map Prod.fst++ [a]
 | [],_=>rfl
 | (b,u)::m,h=>by
  simp only[YK,QX,not_or] at h;unfold X8;rw[if_neg h.1,YK,DX a v m h.2]<;>rfl
theorem NK (a:ByteArray)(v:Value)(m:List (ByteArray×Value))(h:a∈m.map Prod.fst):(X8 a v m).length=m.length:=by
 have:=QN List.length (NJ a v m h);simpa using this
theorem NL (a:ByteArray)(v:Value)(m:List (ByteArray×Value))(h:a∉m.map Prod.fst):(X8 a v m).length=m.length+1:=by
 have:=QN List.length (DX a v m h);simpa using this
theorem NM:∀(l:List (List Nat))(i:Nat)(m:List (ByteArray×Value)),(Yg l i m).length<=m.length+l.length
 | [],_,m=>QE _
 | s::l,i,m=>by
  have:=NM l (i+1) (X8 (Qf s) (.int .i64 (i:Nat)) m);simp only[Yg,Xk];by_cases h:Qf s∈m.map Prod.fst
  ·have:=NK _ (.int .i64 (i:Nat)) m h;omega
  ·have:=NL _ (.int .i64 (i:Nat)) m h;omega
theorem NN:∀(l:List (List Nat))(i:Nat)(m:List (ByteArray×Value)),(∀s∈l,∀x∈s,x<256)->((Yg l i m).length=m.length+l.length↔l.Nodup/\∀s∈l,Qf s∉m.map Prod.fst)
 | [],_,m,_=>by simp[Yg]
 | s::l,i,m,hb=>by
  have hs:=hb s (by simp);have ih:=NN l (i+1) (X8 (Qf s) (.int .i64 (i:Nat)) m) (λt ht=>hb t (by simp[ht]));have ZK:=NM l (i+1) (X8 (Qf s) (.int .i64 (i:Nat)) m);simp only[Yg,Xk];by_cases h:Qf s∈m.map Prod.fst
  ·have hl:=NK _ (.int .i64 (i:Nat)) m h;constructor
   ·intro e;omega
   ·intro e;exact Xm h (e.2 s (by simp))
  ·have hl:=NL _ (.int .i64 (i:Nat)) m h;have hk:=DX _ (.int .i64 (i:Nat)) m h;rw[show m.length+(l.length+1)=(X8 (Qf s) (.int .i64 (i:Nat)) m).length+l.length by omega,ih,hk];simp only[xF,XB,not_or,QX];constructor
   ·rintro⟨h1,h2⟩;refine⟨⟨λhm=>(h2 s hm).2.1 rfl,h1⟩,λt ht=>?_⟩;rcases ht with rfl | ht
    ·exact h
    ·exact(h2 t ht).1
   ·rintro⟨⟨h1,h2⟩,h3⟩;refine⟨h2,λt ht=>⟨h3 t (.inr ht),λe=>?_,by simp⟩⟩;have:=JD (hb t (by simp[ht])) hs e;subst this;exact h1 ht
theorem NO {names:List (List Nat)}(hb:Ke names):ZJ names=true↔names.all WB=true/\names.Nodup/\names.length<=64:=by
 have:=NN names 0 [] (λs hs=>(hb s hs).1);simp only[Z8,a8,List.map_nil,Z3,not_false_eq_true,implies_true,and_true] at this;unfold ZJ;rw[Vl,this]
theorem NP (l:List Nat):∀(names:List (List Nat))(i:Nat)(QO:Option Nat),l∉names->fI l names i QO=QO
 | [],_,_,_=>rfl
 | s::names,i,QO,h=>by
  simp only[QX,not_or] at h;rw[fI,if_neg (λe=>h.1 e.symm),NP l names (i+1) QO h.2]
theorem NQ:∀(names:List (List Nat))(k i:Nat)(QO:Option Nat)(l:List Nat),names.Nodup->names[k]? =some l->fI l names i QO=some (i+k)
 | [],k,i,QO,l,_,h=>by simp at h
 | s::names,0,i,QO,l,hn,h=>by
  simp at h;subst h;rw[fI,Qe rfl,NP _ _ _ _ (xF.1 hn).1]<;>rfl
 | s::names,k+1,i,QO,l,hn,h=>by
  have h':names[k]? =some l:=by simpa using h
  rw[fI,NQ names k (i+1) _ l (xF.1 hn).2 h'];congr 1;omega
theorem eQu {names:List (List Nat)}(hb:Ke names)(h:ZJ names=true):NmOk names (Ja names):=by
 obtain⟨h1,h2,h3⟩:=(NO hb).1 h;refine⟨λk hk=>?_,λk hk=>?_⟩
 ·rw[Xs hk];exact W5.1 h1 _ (Lw hk)
 ·rw[Xs hk];have:=NQ names k 0 none names[k] h2 (Xs hk);rw[a8] at this;exact this
theorem ro:∀(t:Fm)(pre YY:List Fz),RepF (pre++XY t pre.length++YY) t (pre.length+Qz t-1)
 | .c b,pre,YY=>by
  show(pre++ [_]++YY)[pre.length+1-1]? =_;simp
 | .v n,pre,YY=>by
  show(pre++ [_]++YY)[pre.length+1-1]? =_;simp
 | .not a,pre,YY=>by
  have pa:=V3 a;refine⟨pre.length+Qz a-1,by simp only[Qz];omega,?_,?_⟩
  ·simp only[Qz,XY];rw[KO,Ws (by omega),KO,Ws (by rw[JF];omega),JF,show pre.length+(Qz a+1)-1-pre.length-Qz a=0 by omega];rfl
  ·have:=ro a pre ([⟨3,0,((pre.length+Qz a-1:Nat):Int),0⟩]++YY);simpa [XY] using this
 | .and a b,pre,YY=>by
  have pa:=V3 a;have pb:=V3 b;refine⟨pre.length+Qz a-1,pre.length+Qz a+Qz b-1,by simp only[Qz];omega,by simp only[Qz];omega,?_,?_,?_⟩
  ·simp only[Qz,XY];rw[KO,Ws (by omega),KO,Ws (by rw[Qy,JF,JF];omega),Qy,JF,JF,show pre.length+(Qz a+Qz b+1)-1-pre.length-(Qz a+Qz b)=0 by omega];rfl
  ·have:=ro a pre (XY b (pre.length+Qz a)++ [⟨4,0,((pre.length+Qz a-1:Nat):Int),((pre.length+Qz a+Qz b-1:Nat):Int)⟩]++YY);simpa [XY] using this
  ·have:=ro b (pre++XY a pre.length) ([⟨4,0,((pre.length+Qz a-1:Nat):Int),((pre.length+Qz a+Qz b-1:Nat):Int)⟩]++YY);rw[Qy,JF] at this;simpa [XY] using this
 | .or a b,pre,YY=>by
  have pa:=V3 a;have pb:=V3 b;refine⟨pre.length+Qz a-1,pre.length+Qz a+Qz b-1,by simp only[Qz];omega,by simp only[Qz];omega,?_,?_,?_⟩
  ·simp only[Qz,XY];rw[KO,Ws (by omega),KO,Ws (by rw[Qy,JF,JF];omega),Qy,JF,JF,show pre.length+(Qz a+Qz b+1)-1-pre.length-(Qz a+Qz b)=0 by omega];rfl
  ·have:=ro a pre (XY b (pre.length+Qz a)++ [⟨5,0,((pre.length+Qz a-1:Nat):Int),((pre.length+Qz a+Qz b-1:Nat):Int)⟩]++YY);simpa [XY] using this
  ·have:=ro b (pre++XY a pre.length) ([⟨5,0,((pre.length+Qz a-1:Nat):Int),((pre.length+Qz a+Qz b-1:Nat):Int)⟩]++YY);rw[Qy,JF] at this;simpa [XY] using this
theorem DY (t:Fm):eJ (XY t 0)=t:=by
 refine DE ?_;have:=ro t [] [];rw[JF];simpa using this
theorem oy {α:Type}{l m:List α}{i:Nat}{x:α}(h:(l++m)[i]? =some x):(i<l.length/\l[i]? =some x)∨(l.length<=i/\m[i-l.length]? =some x):=by
 by_cases hi:i<l.length
 ·rw[bY hi] at h;exact .inl ⟨hi,h⟩
 ·rw[Ws (by omega)] at h;exact .inr ⟨by omega,h⟩
theorem jD {α:Type}{y x:α}{i:Nat}(h: [y][i]? =some x):i=0/\x=y:=by
 cases i with
 | zero=>simp at h;exact⟨rfl,h.symm⟩
 | succ i=>simp at h
theorem eQv {j i:Nat}(h:j<i):KR ⟨3,0,(j:Nat),0⟩ i:=by
 refine⟨show 0<=Zg 3 by decide,rfl,?_,rfl⟩;show if 0<Zg 3 then _ else _
 rw[Qe (by decide)];simp only;omega
theorem eQw {j k i:Nat}(h:j<i)(h':k<i):KR ⟨4,0,(j:Nat),(k:Nat)⟩ i:=by
 refine⟨show 0<=Zg 4 by decide,rfl,?_,?_⟩
 ·show if 0<Zg 4 then _ else _
  rw[Qe (by decide)];simp only;omega
 ·show if 1<Zg 4 then _ else _
  rw[Qe (by decide)];simp only;omega
theorem eQx {j k i:Nat}(h:j<i)(h':k<i):KR ⟨5,0,(j:Nat),(k:Nat)⟩ i:=by
 refine⟨show 0<=Zg 5 by decide,rfl,?_,?_⟩
 ·show if 0<Zg 5 then _ else _
  rw[Qe (by decide)];simp only;omega
 ·show if 1<Zg 5 then _ else _
  rw[Qe (by decide)];simp only;omega
theorem rp:∀(t:Fm)(k i:Nat)(x:Fz),VarsIn 64 t->(XY t k)[i]? =some x->KR x (k+i)
 | .c b,k,i,x,_,h=>by
  obtain⟨rfl,rfl⟩:=jD h;cases b<;>exact⟨by decide,rfl,rfl,rfl⟩
 | .v n,k,i,x,hv,h=>by
  obtain⟨rfl,rfl⟩:=jD h;refine⟨show 0<=Zg 2 by decide,?_,rfl,rfl⟩;have:n<64:=hv;rw[Qe rfl];simp only;omega
 | .not a,k,i,x,hv,h=>by
  have pa:=V3 a;rcases oy h with⟨hi,h⟩ | ⟨hi,h⟩
  ·exact rp a k i x hv h
  ·rw[JF] at hi h;obtain⟨e,rfl⟩:=jD h;exact eQv (by omega)
 | .and a b,k,i,x,hv,h=>by
  have pa:=V3 a;have pb:=V3 b;rcases oy h with⟨hi,h⟩ | ⟨hi,h⟩
  ·rcases oy h with⟨hi,h⟩ | ⟨hi,h⟩
   ·exact rp a k i x hv.1 h
   ·rw[JF] at hi h;have:=rp b (k+Qz a) (i-Qz a) x hv.2 h
    rwa [show k+Qz a+(i-Qz a)=k+i by omega] at this
  ·rw[Qy,JF,JF] at hi h;obtain⟨e,rfl⟩:=jD h;exact eQw (by omega) (by omega)
 | .or a b,k,i,x,hv,h=>by
  have pa:=V3 a;have pb:=V3 b;rcases oy h with⟨hi,h⟩ | ⟨hi,h⟩
  ·rcases oy h with⟨hi,h⟩ | ⟨hi,h⟩
   ·exact rp a k i x hv.1 h
   ·rw[JF] at hi h;have:=rp b (k+Qz a) (i-Qz a) x hv.2 h
    rwa [show k+Qz a+(i-Qz a)=k+i by omega] at this
  ·rw[Qy,JF,JF] at hi h;obtain⟨e,rfl⟩:=jD h;exact eQx (by omega) (by omega)
theorem uv (l m:List Fz):Jq (l++m)=Jq l++Jq m:=by simp[Jq]
theorem eQy (j:Nat):Jq [⟨3,0,(j:Nat),0⟩]=[j]:=by
 show Yh _++ []=_;unfold Yh;rw[show Zg (Fz.o ⟨3,0,(j:Nat),0⟩)=1 from rfl];simp
theorem eQz (j k:Nat):Jq [⟨4,0,(j:Nat),(k:Nat)⟩]=[j,k]:=by
 show Yh _++ []=_;unfold Yh;rw[show Zg (Fz.o ⟨4,0,(j:Nat),(k:Nat)⟩)=2 from rfl];simp
theorem eQA (j k:Nat):Jq [⟨5,0,(j:Nat),(k:Nat)⟩]=[j,k]:=by
 show Yh _++ []=_;unfold Yh;rw[show Zg (Fz.o ⟨5,0,(j:Nat),(k:Nat)⟩)=2 from rfl];simp
theorem rq:∀(t:Fm)(k j:Nat),(Jq (XY t k)).count j=if k<=j/\j+1<k+Qz t then 1 else 0
 | .c b,k,j=>by
  rw[if_neg (by simp only[Qz];omega)];cases b<;>rfl
 | .v n,k,j=>by
  rw[if_neg (by simp only[Qz];omega)];rfl
 | .not a,k,j=>by
  have pa:=V3 a;show _=if k<=j/\j+1<k+(Qz a+1)then 1 else 0
  simp only[XY];rw[uv,CT,eQy,rq a k j,List.count_singleton];simp only[beq_iff_eq];by_cases h1:k<=j/\j+1<k+Qz a
  ·rw[Qe h1,if_neg (by omega),Qe (by omega)]
  ·rw[if_neg h1];by_cases h2:k+Qz a-1=j
   ·rw[Qe h2,Qe (by omega)]
   ·rw[if_neg h2,if_neg (by omega)]
 | .and a b,k,j=>by
  have pa:=V3 a;have pb:=V3 b;show _=if k<=j/\j+1<k+(Qz a+Qz b+1)then 1 else 0
  simp only[XY];rw[uv,uv,CT,CT,eQz,rq a k j,rq b _ j,xC,List.count_singleton];simp only[beq_iff_eq];by_cases h1:k<=j/\j+1<k+Qz a
  ·rw[Qe h1,if_neg (by omega),if_neg (by omega),if_neg (by omega),Qe (by omega)]
  ·rw[if_neg h1];by_cases h2:k+Qz a<=j/\j+1<k+Qz a+Qz b
   ·rw[Qe h2,if_neg (by omega),if_neg (by omega),Qe (by omega)]
   ·rw[if_neg h2];by_cases h3:k+Qz a-1=j
    ·rw[if_neg (by omega),Qe h3,Qe (by omega)]
    ·rw[if_neg h3];by_cases h4:k+Qz a+Qz b-1=j
     ·rw[Qe h4,Qe (by omega)]
     ·rw[if_neg h4,if_neg (by omega)]
 | .or a b,k,j=>by
  have pa:=V3 a;have pb:=V3 b;show _=if k<=j/\j+1<k+(Qz a+Qz b+1)then 1 else 0
  simp only[XY];rw[uv,uv,CT,CT,eQA,rq a k j,rq b _ j,xC,List.count_singleton];simp only[beq_iff_eq];by_cases h1:k<=j/\j+1<k+Qz a
  ·rw[Qe h1,if_neg (by omega),if_neg (by omega),if_neg (by omega),Qe (by omega)]
  ·rw[if_neg h1];by_cases h2:k+Qz a<=j/\j+1<k+Qz a+Qz b
   ·rw[Qe h2,if_neg (by omega),if_neg (by omega),Qe (by omega)]
   ·rw[if_neg h2];by_cases h3:k+Qz a-1=j
    ·rw[if_neg (by omega),Qe h3,Qe (by omega)]
    ·rw[if_neg h3];by_cases h4:k+Qz a+Qz b-1=j
     ·rw[Qe h4,Qe (by omega)]
     ·rw[if_neg h4,if_neg (by omega)]
theorem NR {t:Fm}(hv:VarsIn 64 t)(hs:Qz t<=512):FV (XY t 0):=by
 refine⟨by rw[JF];exact hs,by rw[JF];exact V3 t,λi x hx=>by have:=rp t 0 i x hv hx;rwa [a8] at this,λi hi=>?_⟩;rw[rq,Qe];rw[JF] at hi;omega
instance decVars (n:Nat):∀t:Fm,Decidable (VarsIn n t)
 | .c _=>isTrue trivial
 | .v k=>inferInstanceAs (Decidable (k<n))
 | .not a=>decVars n a
 | .and a b=> @instDecidableAnd _ _ (decVars n a) (decVars n b)
 | .or a b=> @instDecidableAnd _ _ (decVars n a) (decVars n b)
theorem VarsIn.mono {n m:Nat}(h:n<=m):∀{t:Fm},VarsIn n t->VarsIn m t
 | .c _,_=>trivial
 | .v _,hv=>Vy hv h
 | .not a,hv=>VarsIn.mono (t:=a) h hv
 | .and _ _,hv=>⟨VarsIn.mono h hv.1,VarsIn.mono h hv.2⟩
 | .or _ _,hv=>⟨VarsIn.mono h hv.1,VarsIn.mono h hv.2⟩
theorem ru:∀(t:Fm)(n k:Nat),VarsIn n t->lv n (XY t k)
 | .c b,n,k,_=>λx hx ho=>by
  simp only[XY,QJ] at hx;subst hx;cases b<;>simp at ho
 | .v j,n,k,hv=>λx hx ho=>by
  simp only[XY,QJ] at hx;subst hx;have:j<n:=hv;simp only;omega
 | .not a,n,k,hv=>λx hx ho=>by
  simp only[XY,XB,QJ] at hx;rcases hx with hx | rfl
  ·exact ru a n k hv x hx ho
  ·simp at ho
 | .and a b,n,k,hv=>λx hx ho=>by
  simp only[XY,XB,QJ] at hx;rcases hx with(hx | hx) | rfl
  ·exact ru a n k hv.1 x hx ho
  ·exact ru b n _ hv.2 x hx ho
  ·simp at ho
 | .or a b,n,k,hv=>λx hx ho=>by
  simp only[XY,XB,QJ] at hx;rcases hx with(hx | hx) | rfl
  ·exact ru a n k hv.1 x hx ho
  ·exact ru b n _ hv.2 x hx ho
  ·simp at ho
end
end
noncomputable section
section
def ZS (x:Fz)(f:List Fz):Nat×List Fz:=if f.length<=512 then(f.length,f++ [x])else(f.length-1,f)
def J6 (bld:Int->List Fz->Nat×List Fz)(op v:Int)(pos:Bool)(num:Int)(f:List Fz):Nat×List Fz:=
 let p:=ZS ⟨2,v,0,0⟩ f
 let a:=if pos then p else ZS ⟨3,0,(p.1:Nat),0⟩ p.2
 if op=4/\num=1 then a else
  let c:=bld num a.2
  ZS ⟨op,0,(a.1:Nat),(c.1:Nat)⟩ c.2
def Zh (
     nd:List Br):Nat->Int->List Fz->Nat×List Fz
 | 0,_,f=>(0,f)
 | m+1,n,f=>if n<2∨512<f.length then ZS ⟨min n 1,0,0,0⟩ f else
   match nd[(n-2).toNat]? with
   | none=>(0,f)
   | some b=>
    if b.l=0 then J6 (Zh nd m) 4 b.v true b.h f else
    if b.h=0 then J6 (Zh nd m) 4 b.v false b.l f else
    if b.h=1 then J6 (Zh nd m) 5 b.v true b.l f else
    if b.l=1 then J6 (Zh nd m) 5 b.v false b.h f else
     let hi:=J6 (Zh nd m) 4 b.v true b.h f
     let lo:=J6 (Zh nd m) 4 b.v false b.l hi.2
     ZS ⟨5,0,(hi.1:Nat),(lo.1:Nat)⟩ lo.2
structure Cn (w:World) (base x:Nat) (NA:Option Addr) (nn nc:Nat) (nd:List Br) (root:Int) (A:Option Addr) (c:Nat) (f:List Fz):Prop where
 blk:Blk w x 277 [.slice NA nn nc,.int .i64 root,.slice A f.length c]
 own:Own w base 280 4 A f.length c (lq f)
 lt:x<base
 top:base<=w.heap.size
 nds:SB w NA nn nc nd
 row:∀ad,NA=some ad->0<nn->ad.block<base/\ad.block≠x
 lim:f.length<=513
def CnTo (w:World)(base x:Nat)(NA:Option Addr)(nn nc:Nat)(nd:List Br)(root:Int)(A:Option Addr)(f:List Fz)(w':World):Prop:=∃A' c',Cn w' base x NA nn nc nd root A' c' f/\Mod (RdS x A) w w'/\Moved w A A'
section
variable {base x:Nat} {NA:Option Addr} {nn nc:Nat} {nd:List Br} {root:Int}
theorem Cn.ext {w w':World}{A:Option Addr}{c:Nat}{f:List Fz}(h:Cn w base x NA nn nc nd root A c f)(k:Ext w w'):Cn w' base x NA nn nc nd root A c f:=
 ⟨h.blk.ext k,h.own.ext k,h.lt,Ze h.top k.size,h.nds.ext k,h.row,h.lim⟩
theorem CnTo.step {w w1 w2:World}{A A1:Option Addr}{f:List Fz}(h:CnTo w1 base x NA nn nc nd root A1 f w2)(hm:Mod (RdS x A) w w1)(hv:Moved w A A1):CnTo w base x NA nn nc nd root A f w2:=by
 obtain⟨A2,c2,h2,XL,JT⟩:=h;exact⟨A2,c2,h2,RdS.trans hm hv XL,hv.trans JT hm.size⟩
theorem Cn.keep {w w':World}{A:Option Addr}{c:Nat}{f:List Fz}(h:Cn w base x NA nn nc nd root A c f)(hm:Mod (RdS x A) w w'):SB w' NA nn nc nd:=by
 refine⟨h.nds.1.modS hm ?_,h.nds.2⟩;rintro h0 i ⟨ad,rfl,rfl⟩ hi;obtain⟨r1,r2⟩:=h.row ad rfl h0;rcases hi with hi | hi
 ·exact r2 hi
 ·have:=(h.own.rows _ hi).1;omega
theorem oz (A:Option Addr)(c:Nat)(f:List Fz)(z:Fz)(w:World)(h:Cn w base x NA nn nc nd root A c f):
  Fn Tryz.prog 221 [.pointer (some ⟨x,0,none⟩),.agg z.cells.toArray] w (λv w'=>v= .int .i64 ((ZS z f).1:Nat)/\CnTo w base x NA nn nc nd root A (ZS z f).2 w'):=by
 refine QF (c:={cQK with cuts:=[]}) Qa Tryz.func221 rfl rfl rfl ?_;refine new (λw1 Qd Q2 Qh=>?_);have h1:=h.ext Qd;have cX:=h.lim;have Vv:=h.own.rows;have Xa:=h.lt;have kI:=h.top;have bQ:¬Qi A x:=λhr=>by have:=(Vv x hr).1;omega
 refine Qp h1.blk rfl ?_;refine QB (λhl=>?_) (λhl=>?_)
 ·have ZK:f.length<=512:=by omega
  have e:ZS z f=(f.length,f++ [z]):=by unfold ZS;rw[Qe ZK]
  rw[e];refine XJ Qa (Mod (Qi A) w1) 8 [(true,0),(true,1),(true,2),(true,3),(true,4),(true,5),(false,6),(false,7)] (by kernel_rfl) (Mod.of_ext _ (Ext.drew w1)) ?_;refine QL (v:=.slice A f.length c) (λw' Qb=>by rw[(h1.blk.mod Qb bQ).cell];rfl) ?_;have Fu:¬Qi A w.heap.size:=λhr=>by have:=(Vv _ hr).2;omega
  refine Xl (vs:=z.cells) rfl (λw' Qb j v hj=>by rw[(Qh.mod Qb Fu).cell];exact hj) ?_;refine XE Qa [z.cells] rfl rfl rfl rfl rfl ⟨rfl,rfl,⟨⟩⟩ rfl (λcs h=>by simp only[QJ] at h;subst h;rfl) rfl (by decide) (by decide) ?_;intro w2 Qg X9 Qw;have Xq:=(Ext.drew w1).trans Qg;have h2:=h1.ext Xq;refine⟨Mod.of_ext _ Xq,?_⟩;have jW:Sl w2 4 (some ⟨w1.drew.heap.size,0,none⟩) 1 1 z.cells:=Sl.own (sz:=4) (n:=1) Qw (QE _) (by decide) (by simp[Fz.cells]);refine JE Qa rfl rfl rfl rfl rfl (by decide) rfl rfl ⟨_,rfl⟩ rfl rfl h2.own jW (by intro u hu;simp[Fz.cells] at hu;rcases hu with rfl | rfl | rfl | rfl<;>rfl) (by unfold maxLen;omega) (by show _*32<=_;omega) h2.top ?_;intro A' c' w3 Xo lY zN;have J1:Mod (Qi A) w1 w3:=(Mod.of_ext (Qi A) Xq).trans Xo (λi hi=>.inl hi);refine⟨J1,?_⟩;refine XK (h1.blk.mod J1 bQ) (by simp) (λw4 Zb QZ=>?_);refine Qp QZ rfl ?_;have hz:=Xq.size;have Kt:Mod (RdS x A) w w4:=((Mod.of_ext (RdS x A) Qd).trans J1 (λi hi=>.inl (.inr hi))).trans Zb (λi hi=>.inl (.inl hi));refine Qm ((f.length:Nat):Int) (by omega) (by omega) ?_;refine⟨rfl,A',c',⟨?_,?_,Xa,Ze kI Kt.size,h.keep Kt,h.row,?_⟩,Kt,zN.back (Ze Qd.size hz)⟩
  ·show Blk w4 x _ [_,_,.slice A' (f++ [z]).length c'];rw[Qy];exact QZ
  ·show Own w4 base _ 4 A' (f++ [z]).length c' (lq (f++ [z]));rw[Qy,ML];exact lY.mod Zb (λk hk e=>by have:=(lY.rows k hk).1;omega)
  ·show(f++ [z]).length<=513;rw[Qy];simp only[Xk,Z8];omega
 ·have ZK:¬f.length<=512:=by omega
  have e:ZS z f=(f.length-1,f):=by unfold ZS;rw[if_neg ZK]
  rw[e];refine Qp h1.blk rfl ?_;refine Qm ((f.length-1:Nat):Int) (by omega) (by omega) ?_;exact⟨rfl,A,c,h1,Mod.of_ext _ Qd,Moved.refl _ _⟩
def NS (base x:Nat)(NA:Option Addr)(nn nc:Nat)(nd:List Br)(root:Int)(m:Nat):Prop:=∀(n:Int)(f:List Fz)(A:Option Addr)(c:Nat)(w:World),Cn w base x NA nn nc nd root A c f->0<=n->n<m->n<nn+2->
 Fn Tryz.prog 192 [.pointer (some ⟨x,0,none⟩),.int .i64 n] w (λv w'=>v= .int .i64 ((Zh nd m n f).1:Nat)/\CnTo w base x NA nn nc nd root A (Zh nd m n f).2 w')
theorem rv (m:Nat)(H:NS base x NA nn nc nd root m)(op v:Int)(pos:Bool)(n:Int)(f:List Fz)(A:Option Addr)(c:Nat)(w:World)(h:Cn w base x NA nn nc nd root A c f)(h0:0<=n)(hm:n<m)(hn:n<nn+2):
  Fn Tryz.prog 222 [.pointer (some ⟨x,0,none⟩),.int .i64 op,.int .i64 v,.bool pos,.int .i64 n] w (λu w'=>u= .int .i64 ((J6 (Zh nd m) op v pos n f).1:Nat)/\CnTo w base x NA nn nc nd root A (J6 (Zh nd m) op v pos n f).2 w'):=by
 refine QF (c:={cQL with cuts:=[2]}) Qa Tryz.func222 rfl rfl rfl ?_;refine call (oz A c f ⟨2,v,0,0⟩ w h) ?_;rintro _ w1 ⟨rfl,A1,c1,h1,Zj,jZ⟩;refine ia [] Qa [11] (λa:Nat=>[.int .i64 a]) (λa w'=>a=(if pos then ZS ⟨2,v,0,0⟩ f else ZS ⟨3,0,((ZS ⟨2,v,0,0⟩ f).1:Nat),0⟩ (ZS ⟨2,v,0,0⟩ f).2).1/\CnTo w base x NA nn nc nd root A (if pos then ZS ⟨2,v,0,0⟩ f else ZS ⟨3,0,((ZS ⟨2,v,0,0⟩ f).1:Nat),0⟩ (ZS ⟨2,v,0,0⟩ f).2).2 w') ?_ ?_
 ·refine lk (Y3 (λhp=>?_) (λhp=>?_))
  ·subst hp;exact⟨_,rfl,rfl,A1,c1,h1,Zj,jZ⟩
  ·subst hp;refine call (oz A1 c1 _ ⟨3,0,((ZS ⟨2,v,0,0⟩ f).1:Nat),0⟩ w1 h1) ?_;rintro _ w2 ⟨rfl,h2⟩;exact⟨_,rfl,rfl,h2.step Zj jZ⟩
 rintro a w2 ⟨ha,A2,c2,h2,XL,JT⟩;unfold J6;generalize hq:(if pos then ZS ⟨2,v,0,0⟩ f else ZS ⟨3,0,((ZS ⟨2,v,0,0⟩ f).1:Nat),0⟩ (ZS ⟨2,v,0,0⟩ f).2)=q at*;subst ha;simp only[hq];by_cases wJ:op=4/\n=1
 ·rw[Qe wJ];refine Jp wJ.1 ?_;refine Jp wJ.2 ?_;exact⟨rfl,A2,c2,h2,XL,JT⟩
 ·rw[if_neg wJ];by_cases h4:op=4
  ·refine Jp h4 ?_;refine XP (λh1=>wJ ⟨h4,h1⟩) ?_;refine call (H n q.2 A2 c2 w2 h2 h0 hm hn) ?_;rintro _ w3 ⟨rfl,A3,c3,h3,Xo,WT⟩;refine call (oz A3 c3 _ ⟨op,0,(q.1:Nat),((Zh nd m n q.2).1:Nat)⟩ w3 h3) ?_;rintro _ w4 ⟨rfl,h4⟩;exact⟨rfl,(h4.step Xo WT).step XL JT⟩
  ·refine XP h4 ?_;refine call (H n q.2 A2 c2 w2 h2 h0 hm hn) ?_;rintro _ w3 ⟨rfl,A3,c3,h3,Xo,WT⟩;refine call (oz A3 c3 _ ⟨op,0,(q.1:Nat),((Zh nd m n q.2).1:Nat)⟩ w3 h3) ?_;rintro _ w4 ⟨rfl,h4⟩;exact⟨rfl,(h4.step Xo WT).step XL JT⟩
theorem NT (YX:WD nd):∀m,NS base x NA nn nc nd root m
 | 0=>λn f A c w _ h0 hm _=>by omega
 | m+1=>λn f A c w h h0 hm hn=>by
  have ih:=NT YX m;have cX:=h.lim;have Kn:nd.length=nn:=h.nds.2;refine QF (c:={cQt with cuts:=[]}) Qa Tryz.func192 rfl rfl rfl ?_;by_cases h1:n<2
  ·have e:Zh nd (m+1) n f=ZS ⟨min n 1,0,0,0⟩ f:=by rw[Zh,Qe (.inl h1)]
   rw[e];refine X7 h1 ?_;refine norm (m:=min n 1) (by rw[ZR];split<;>split<;>omega) ?_;refine call (oz A c f ⟨min n 1,0,0,0⟩ w h) ?_;rintro _ w1 ⟨rfl,h1⟩;exact⟨rfl,h1⟩
  refine Xy h1 ?_;refine Qp h.blk rfl ?_;by_cases h2:512<f.length
  ·have e:Zh nd (m+1) n f=ZS ⟨min n 1,0,0,0⟩ f:=by rw[Zh,Qe (.inr h2)]
   rw[e];refine X7 (by omega) ?_;refine norm (m:=min n 1) (by rw[ZR];split<;>split<;>omega) ?_;refine call (oz A c f ⟨min n 1,0,0,0⟩ w h) ?_;rintro _ w1 ⟨rfl,h1⟩;exact⟨rfl,h1⟩
  refine Xy (by omega) ?_;have hj:(n-2).toNat<nd.length:=by omega
  have hx:=Xs hj;generalize nd[(n-2).toNat]=y at hx;obtain⟨x1,x2,x3,x4⟩:=YX _ _ hx;have e:Zh nd (m+1) n f=(if y.l=0 then J6 (Zh nd m) 4 y.v true y.h f else
    if y.h=0 then J6 (Zh nd m) 4 y.v false y.l f else
    if y.h=1 then J6 (Zh nd m) 5 y.v true y.l f else
    if y.l=1 then J6 (Zh nd m) 5 y.v false y.h f else
     ZS ⟨5,0,((J6 (Zh nd m) 4 y.v true y.h f).1:Nat),((J6 (Zh nd m) 4 y.v false y.l (J6 (Zh nd m) 4 y.v true y.h f).2).1:Nat)⟩ (J6 (Zh nd m) 4 y.v false y.l (J6 (Zh nd m) 4 y.v true y.h f).2).2):=by
   rw[Zh,if_neg (by omega),hx]
  rw[e];refine Qv h.blk rfl ?_;refine Qm (((n-2).toNat:Nat):Int) (by omega) (by have:=h.nds.1.le;have:=h.nds.1.cap;simp only[maxLen] at this;omega) ?_;refine Zo Y5 h.nds rfl (by omega) (λad z hy iQ=>?_);have gG:z=y:=Option.some.inj (hy.symm.trans hx);subst gG;refine J4 (vs:=z.cells) rfl iQ ?_;refine new (λw1 Qd Q2 Qh=>?_);refine Qx Qh rfl (sc rfl) (λw2 ga X9 Kh=>?_);have Qg:Ext w w2:=X0 Qd Qh ga;have mo:Mod (RdS x A) w w2:=Mod.of_ext _ Qg;have Z6:=h.ext Qg;have gI:¬RdS x A w.heap.size:=λe=>by
   have:=h.blk.lt;rcases e with e | e
   ·omega
   ·have:=(h.own.rows _ e).2;omega
  refine Qp Kh rfl ?_;refine Zn (λc1=>?_) (λc1=>?_)
  ·rw[Qe c1];refine Qv Kh rfl ?_;refine Qp Kh rfl ?_;refine call (rv m ih 4 z.v true z.h f A c w2 Z6 x3 (by omega) (by omega)) ?_;rintro _ w3 ⟨rfl,h3⟩;exact⟨rfl,h3.step mo (Moved.refl _ _)⟩
  rw[if_neg c1];refine Qp Kh rfl ?_;refine Zn (λc2=>?_) (λc2=>?_)
  ·rw[Qe c2];refine Qv Kh rfl ?_;refine Qp Kh rfl ?_;refine call (rv m ih 4 z.v false z.l f A c w2 Z6 x1 (by omega) (by omega)) ?_;rintro _ w3 ⟨rfl,h3⟩;exact⟨rfl,h3.step mo (Moved.refl _ _)⟩
  rw[if_neg c2];refine Qp Kh rfl ?_;refine Zn (λc3=>?_) (λc3=>?_)
  ·rw[Qe c3];refine Qv Kh rfl ?_;refine Qp Kh rfl ?_;refine call (rv m ih 5 z.v true z.l f A c w2 Z6 x1 (by omega) (by omega)) ?_;rintro _ w3 ⟨rfl,h3⟩;exact⟨rfl,h3.step mo (Moved.refl _ _)⟩
  rw[if_neg c3];refine Qp Kh rfl ?_;refine Zn (λc4=>?_) (λc4=>?_)
  ·rw[Qe c4];refine Qv Kh rfl ?_;refine Qp Kh rfl ?_;refine call (rv m ih 5 z.v false z.h f A c w2 Z6 x3 (by omega) (by omega)) ?_;rintro _ w3 ⟨rfl,h3⟩;exact⟨rfl,h3.step mo (Moved.refl _ _)⟩
  rw[if_neg c4];refine Qv Kh rfl ?_;refine Qp Kh rfl ?_;refine call (rv m ih 4 z.v true z.h f A c w2 Z6 x3 (by omega) (by omega)) ?_;rintro _ w3 ⟨rfl,A3,c3,h3,Xo,WT⟩;have KU:=Kh.mod Xo gI;refine Qv KU rfl ?_;refine Qp KU rfl ?_;refine call (rv m ih 4 z.v false z.l _ A3 c3 w3 h3 x1 (by omega) (by omega)) ?_;rintro _ w4 ⟨rfl,A4,c4,h4,Zb,l6⟩;refine call (oz A4 c4 _ ⟨5,0,((J6 (Zh nd m) 4 z.v true z.h f).1:Nat),((J6 (Zh nd m) 4 z.v false z.l (J6 (Zh nd m) 4 z.v true z.h f).2).1:Nat)⟩ w4 h4) ?_;rintro _ w5 ⟨rfl,h5⟩;exact⟨rfl,(((h5.step Zb l6).step Xo WT)).step mo (Moved.refl _ _)⟩
end
end
section
def WF (nd:List Br)(root:Int):List Fz×Int:=if XC nd root=0 then(if 512<(Zh nd (root.toNat+1) root []).2.length then([],2)else((Zh nd (root.toNat+1) root []).2,0))else([],XC nd root)
def rx (names:List (List Nat))(nd:List Br)(root:Int):List Nat×Int:=if ZJ names then(if(WF nd root).2=0 then jq names (WF nd root).1 else([],(WF nd root).2))else([],1)
theorem of_fn (A:Option Addr)(n c:Nat)(nd:List Br)(root:Int)(w:World)(h:SB w A n c nd):
  Fn Tryz.prog 133 [Xg A n c root] w (DD w (WF nd root)):=by
 have Xb:=h.2;refine QF (c:={bQS with cuts:=[]}) Qa Tryz.func133 rfl rfl rfl ?_;refine new (λw1 Qd Q2 Qh=>?_);refine Qs Qh rfl ?_;refine call (yC A n c nd root w1 (h.ext Qd)) ?_;rintro v w2 ⟨rfl,Qg⟩;have Q4:=Qd.trans Qg;have Qw:=Qh.ext Qg;refine aB (λc1=>?_) (λc1=>?_)
 ·refine⟨none,0,0,?_,Q4,?_⟩
  ·unfold WF;rw[if_neg c1]
  ·unfold WF;rw[if_neg c1];exact SlS.nil _
 obtain⟨fk,hv⟩:=eK.1 c1;have YX:=hv.wf;refine Qs Qw rfl ?_;refine new (λw3 Qj JV Qu=>?_);have QQ:=Q4.trans Qj;have iQW:=Qg.size;have hC:Cn w3 w3.heap.size w2.heap.size A n c nd root none 0 []:=⟨Qu,Own.nil _ _ _ _,by omega,QE _,h.ext QQ,λad e hn=>by
  have h1:=SB.lt (h.ext Q4) ad e hn;exact⟨by omega,by omega⟩,by simp⟩
 refine Qp (Qw.ext Qj) rfl ?_;have r0:=hv.2.1;have r1:=hv.2.2.1;refine call (NT YX (root.toNat+1) root [] none 0 w3 hC r0 (by omega) (by omega)) ?_;rintro v w4 ⟨rfl,A4,c4,FU,Zb,l6⟩;have Qq:Ext w w4:=Zb.ext QQ (λi hi=>by
  rcases hi with rfl | ⟨_,e,_⟩
  ·have:=Q4.size;omega
  ·cases e)
 refine Qp FU.blk rfl ?_;refine QB (λc2=>?_) (λc2=>?_)
 ·have e:WF nd root=([],2):=by unfold WF;rw[Qe c1,Qe (by omega)]
  rw[e];exact⟨none,0,0,rfl,Qq,SlS.nil _⟩
 ·have e:WF nd root=((Zh nd (root.toNat+1) root []).2,0):=by unfold WF;rw[Qe c1,if_neg (by omega)]
  rw[e];refine Qp FU.blk rfl ?_;exact⟨A4,_,c4,rfl,Qq,FU.own.sl,rfl⟩
theorem eQB (names:List (List Nat))(A NA:Option Addr)(n c nn nc:Nat)(nd:List Br)(root:Int)(w:World)(h:Sl w 1 A n c (X4 names))(hb:Ke names)(hN:SB w NA nn nc nd)
  (hl:(ZE names 0 (eJ (WF nd root).1)).length<=140737488355328):
  Fn Tryz.prog 86 [.slice A n c,Xg NA nn nc root] w (M5 w (rx names nd root)):=by
 refine QF (c:={c86 with cuts:=[]}) Qa Tryz.func86 rfl rfl rfl ?_;refine new (λw1 Qd Q2 Qh=>?_);refine call (Du names A n c w1 (h.ext Qd) hb) ?_;rintro v w2 ⟨v1,rfl,Qg,_⟩;have Q4:=Qd.trans Qg;cases Zl:ZJ names with
 | false=>
  refine Xc rfl ?_;exact⟨by unfold rx;rw[Zl];rfl,Q4⟩
 | true=>
  refine Xt rfl ?_;refine Qs (Qh.ext Qg) rfl ?_;refine call (of_fn NA nn nc nd root w2 (hN.ext Q4)) ?_;rintro v w3 ⟨F,m,cF,rfl,Qj,hF⟩;have QQ:=Q4.trans Qj;have e:rx names nd root=if(WF nd root).2=0 then jq names (WF nd root).1 else([],(WF nd root).2):=by unfold rx;rw[Qe Zl]
  refine aB (λc1=>?_) (λc1=>?_)
  ·exact⟨by rw[e,if_neg c1];rfl,QQ⟩
  ·refine call (dQJ names A F n c m cF _ w3 (h.ext QQ) hb hF (λ_ _=>hl)) ?_;rintro v w4 ⟨rfl,Qq⟩;exact⟨by rw[e,Qe c1],QQ.trans Qq⟩
end
end
section
section
theorem DZ {w1 w2 w:World}{g:Nat}{r:(List Br×Int)×Int}{A:Option Addr}{n c:Nat}(hE:Ext w w1)(hM:Mod (·=g) w1 w2)(hg:w.heap.size<=g)(hs:SB w1 A n c r.1.1)(hr:∀i,Qi A i->g<i):
  Ext w w2/\SB w2 A n c r.1.1/\∀i,Qi A i->w.heap.size<=i:=
 ⟨hM.ext hE (λi hi=>by omega),⟨hs.1.modS hM (λ_ i hi e=>by have:=hr i hi;omega),hs.2⟩,λi hi=>by have:=hr i hi;omega⟩
end
section
theorem eQC {names:List (List Nat)}(h:names.all (λs=>s.all (λx=>decide (x<256))&&decide (s.length<=100))=true):Ke names:=λs hs=>by
 have:=W5.1 h s hs;rw[JR,Vl] at this;exact⟨λx hx=>by have:=W5.1 this.1 x hx;simpa using this,by omega⟩
theorem eQD {k:Int}(h0:0<=k)(h1:k<=63):Rd0 [⟨k,0,1⟩]:=λj b hb=>by
 obtain⟨rfl,rfl⟩:=jD hb;refine⟨h0,h1,kX 0,?_,(by decide:(0:Int)<=1),?_,(by decide:(0:Int)≠1),by simp,?_,?_⟩
 ·simp only;omega
 ·simp only;omega
 ·rw[fL (by simp only;omega)];simp only;omega
 ·rw[fL (by simp only;omega)];simp only;omega
theorem yN {k:Int}(h0:0<=k)(h1:k<=63):VD [⟨k,0,1⟩] 2:=⟨eQD h0 h1,by decide,by simp,rfl⟩
end
section
end
def bt:List (List Nat):=[[65],[66],[67],[68],[108,111,110,103,95,110,97,109,101],[95],[120,49],[84,82,85,69],[116],[102],[116,114,117],[102,97,108,115,101,101]]
theorem eQE (k:Nat)(w:World)(hk:k<=12):
  Fn Tryz.prog 51 [.int .i64 k] w (λv w'=>∃A c,v= .slice A k c/\Ext w w'/\Sl w' 1 A k c (X4 (bt.take k))):=by
 refine QF (c:={c51 with cuts:=[]}) Qa Tryz.func51 rfl rfl rfl ?_;refine XE Qa (bt.map (λs=>[.string (Qf s)])) rfl rfl rfl rfl rfl ⟨rfl,rfl,rfl,rfl,rfl,rfl,rfl,rfl,rfl,rfl,rfl,rfl,rfl,rfl,rfl,rfl,rfl,rfl,rfl,rfl,rfl,rfl,rfl,rfl,⟨⟩⟩ rfl (λcs h=>by simp only[ZY] at h;obtain⟨s,_,rfl⟩:=h;rfl) rfl (by decide) (by decide) ?_;intro w1 Qd Q2 Qh;refine ji Qa rfl rfl rfl rfl rfl rfl hk ?_;have hS:Sl w1 1 (some ⟨w.heap.size,0,none⟩) 12 12 (X4 bt):=Sl.own' (n:=12) Qh rfl (by decide);have:=hS.take (m:=k) hk;rw[gR] at this;exact⟨_,12,rfl,Qd,by rw[show X4 (bt.take k)=(X4 bt).take k by simp[X4]];exact this⟩
theorem eQF (k:Nat)(hk:k<=12):Ke (bt.take k)/\ZJ (bt.take k)=true/\(bt.take k).length=k:=by
 have hb:Ke bt:=eQC (by decide);have hb':Ke (bt.take k):=λs hs=>hb s (eu hs)
 have hl:(bt.take k).length=k:=by rw[Ye];show min k 12=k;omega
 refine⟨hb',(NO hb').2 ⟨?_,List.Nodup.sublist (List.take_sublist k bt) (by decide),by omega⟩,hl⟩;have:bt.all WB=true:=by decide
 exact W5.2 (λs hs=>W5.1 this s (eu hs))
def YR (v:Nat)(pos:Bool):Fm:=if pos then .v v else .not (.v v)
def V4 (nd:List Br):Nat->Int->Fm
 | 0,_=>.c false
 | m+1,n=>if n<2 then .c (decide (n=1))else match nd[(n-2).toNat]? with
  | none=>.c false
  | some b=>if b.h<2/\b.l<2 then YR b.v.toNat (decide (b.h=1))
   else if b.l=0 then .and (YR b.v.toNat true) (V4 nd m b.h)
   else if b.h=0 then .and (YR b.v.toNat false) (V4 nd m b.l)
   else if b.h=1 then .or (YR b.v.toNat true) (V4 nd m b.l)
   else if b.l=1 then .or (YR b.v.toNat false) (V4 nd m b.h)
   else .or (.and (YR b.v.toNat true) (V4 nd m b.h)) (.and (YR b.v.toNat false) (V4 nd m b.l))
def cf (nd:List Br)(n:Int):Fm:=V4 nd (n.toNat+1) n
theorem NU {nd:List Br}{m:Nat}{n:Int}(h:n<2):V4 nd (m+1) n= .c (decide (n=1)):=by rw[V4,Qe h]
theorem NV {nd:List Br}{m:Nat}{n:Int}{b:Br}(h:¬n<2)(hb:nd[(n-2).toNat]? =some b):V4 nd (m+1) n=if b.h<2/\b.l<2 then YR b.v.toNat (decide (b.h=1))
   else if b.l=0 then .and (YR b.v.toNat true) (V4 nd m b.h)
   else if b.h=0 then .and (YR b.v.toNat false) (V4 nd m b.l)
   else if b.h=1 then .or (YR b.v.toNat true) (V4 nd m b.l)
   else if b.l=1 then .or (YR b.v.toNat false) (V4 nd m b.h)
   else .or (.and (YR b.v.toNat true) (V4 nd m b.h)) (.and (YR b.v.toNat false) (V4 nd m b.l)):=by rw[V4,if_neg h,hb]
def evF:Fm->(Nat->Bool)->Bool
 | .c b,_=>b
 | .v n,e=>e n
 | .not a,e=> !evF a e
 | .and a b,e=>evF a e&&evF b e
 | .or a b,e=>evF a e||evF b e
theorem oA (v:Nat)(pos:Bool)(e:Nat->Bool):evF (YR v pos) e=(e v==pos):=by
 cases pos<;>cases h:e v<;>simp[YR,evF,h]
theorem NW {nd:List Br}(h:Rd0 nd)(e:Nat->Bool):∀(m:Nat)(n:Int),0<=n->n<m->n<nd.length+2->evF (V4 nd m n) e=ev nd n e
 | 0,n,h0,hm,_=>by omega
 | m+1,n,h0,hm,hn=>by
  by_cases h2:n<2
  ·rw[NU h2,Jr h2]<;>rfl
  obtain⟨b,hb⟩:=YQ h2 hn;obtain⟨b1,b2,b3,b4,b5,b6,b7,b8,b9,aj⟩:=h _ _ hb;have ihl:=NW h e m b.l b3 (by omega) (by omega);have ihh:=NW h e m b.h b5 (by omega) (by omega);rw[NV h2 hb,br h.wf h2 hb];split
  ·rename_i hc;rw[oA,Jr hc.1,Jr hc.2];have:b.l=1↔¬b.h=1:=by omega
   by_cases hh:b.h=1
   ·rw[XX hh,Zf (λhl=>(this.1 hl) hh)];cases e b.v.toNat<;>rfl
   ·rw[Zf hh,XX (this.2 hh)];cases e b.v.toNat<;>rfl
  ·split
   ·rename_i hl;simp only[evF];rw[oA,ihh,Jr (n:=b.l) (by omega),hl];cases e b.v.toNat<;>simp
   ·split
    ·rename_i hh;simp only[evF];rw[oA,ihl,Jr (n:=b.h) (by omega),hh];cases e b.v.toNat<;>simp
    ·split
     ·rename_i hh;simp only[evF];rw[oA,ihl,Jr (n:=b.h) (by omega),hh];cases e b.v.toNat<;>simp
     ·split
      ·rename_i hl;simp only[evF];rw[oA,ihh,Jr (n:=b.l) (by omega),hl];cases e b.v.toNat<;>simp
      ·simp only[evF];rw[oA,oA,ihh,ihl];cases e b.v.toNat<;>simp
theorem oC (x:Fz){f:List Fz}(h:f.length<=513):(ZS x f).2.length=min 513 (f.length+1):=by
 unfold ZS;split
 ·simp;omega
 ·simp only;omega
theorem uw (x:Fz){f:List Fz}(h:f.length+1<=513):ZS x f=(f.length,f++ [x]):=by unfold ZS;rw[Qe (by omega)]
structure BldOk (bld:List Fz->Nat×List Fz) (t:Fm):Prop where
 len:∀f,f.length<=513->(bld f).2.length=min 513 (f.length+Qz t)
 eq:∀f,f.length+Qz t<=513->bld f=(f.length+Qz t-1,f++XY t f.length)
def ux (v:Int)(pos:Bool)(f:List Fz):Nat×List Fz:=let p:=ZS ⟨2,v,0,0⟩ f;if pos then p else ZS ⟨3,0,(p.1:Nat),0⟩ p.2
theorem eQG {v:Int}(hv:0<=v)(pos:Bool):BldOk (ux v pos) (YR v.toNat pos):=by
 have e:(⟨2,v,0,0⟩:Fz)=⟨2,(v.toNat:Nat),0,0⟩:=by rw[CL hv]
 cases pos with
 | true=>exact⟨λf hf=>by show(ZS _ f).2.length=_;rw[oC _ hf];rfl,λf hf=>by show ZS _ f=_;rw[uw _ hf,e];rfl⟩
 | false=>
  refine⟨λf hf=>?_,λf hf=>?_⟩
  ·show(ZS _ (ZS _ f).2).2.length=min 513 (f.length+2);rw[oC _ (by rw[oC _ hf];omega),oC _ hf];omega
  ·have QW:f.length+2<=513:=hf;show ZS _ (ZS _ f).2=_;rw[uw _ (f:=f) (by omega)];simp only;rw[uw _ (by simp;omega),e];simp[YR,Qz,XY]
theorem D0 {b1 b2:List Fz->Nat×List Fz}{t1 t2:Fm}(h1:BldOk b1 t1)(h2:BldOk b2 t2)(op:Int)(mk:Fm->Fm->Fm)(hs:∀a b,Qz (mk a b)=Qz a+Qz b+1)
  (hp:∀a b k,XY (mk a b) k=XY a k++XY b (k+Qz a)++ [⟨op,0,((k+Qz a-1:Nat):Int),((k+Qz a+Qz b-1:Nat):Int)⟩]):
  BldOk (λf=>let a:=b1 f;let c:=b2 a.2;ZS ⟨op,0,(a.1:Nat),(c.1:Nat)⟩ c.2) (mk t1 t2):=by
 refine⟨λf hf=>?_,λf hf=>?_⟩
 ·have e1:=h1.len f hf;have e2:=h2.len (b1 f).2 (by omega);simp only;rw[oC _ (by omega),e2,e1,hs];omega
 ·rw[hs] at hf;have p1:=V3 t1;have p2:=V3 t2;simp only;rw[h1.eq f (by omega)];simp only;have l1:(f++XY t1 f.length).length=f.length+Qz t1:=by rw[Qy,JF]
  rw[h2.eq _ (by rw[l1];omega)];simp only;have l2:(f++XY t1 f.length++XY t2 (f++XY t1 f.length).length).length=f.length+Qz t1+Qz t2:=by rw[Qy,l1,JF]
  rw[uw _ (by rw[l2];omega),l2,hs,hp,l1];simp;omega
theorem NY (bld:Int->List Fz->Nat×List Fz)(op v:Int)(pos:Bool)(num:Int)(f:List Fz):J6 bld op v pos num f=if op=4/\num=1 then ux v pos f else let a:=ux v pos f;let c:=bld num a.2;ZS ⟨op,0,(a.1:Nat),(c.1:Nat)⟩ c.2:=rfl
theorem D3 {nd:List Br}(h:Rd0 nd):∀(m:Nat)(n:Int),0<=n->n<m->n<nd.length+2->BldOk (Zh nd m n) (V4 nd m n)
 | 0,n,h0,hm,_=>by omega
 | m+1,n,h0,hm,hn=>by
  by_cases h2:n<2
  ·have e:(⟨min n 1,0,0,0⟩:Fz)=⟨if decide (n=1)then 1 else 0,0,0,0⟩:=by
    rcases(by omega:n=0∨n=1)with rfl | rfl<;>rfl
   rw[NU h2];refine⟨λf hf=>?_,λf hf=>?_⟩
   ·rw[Zh,Qe (.inl h2),oC _ hf]<;>rfl
   ·rw[Zh,Qe (.inl h2),uw _ hf,e]<;>rfl
  obtain⟨b,hb⟩:=YQ h2 hn;obtain⟨b1,b2,b3,b4,b5,b6,b7,b8,b9,aj⟩:=h _ _ hb;have ihl:=D3 h m b.l b3 (by omega) (by omega);have ihh:=D3 h m b.h b5 (by omega) (by omega);have lit:=λp=>eQG (v:=b.v) b1 p
  have sd:∀(op:Int) (pos:Bool) (num:Int) (t:Fm),¬(op=4/\num=1)->BldOk (Zh nd m num) t->(op=4->BldOk (J6 (Zh nd m) op b.v pos num) (.and (YR b.v.toNat pos) t))/\(op=5->BldOk (J6 (Zh nd m) op b.v pos num) (.or (YR b.v.toNat pos) t)):=λop pos num t Xi ht=>by
   have e:J6 (Zh nd m) op b.v pos num=λf=>let a:=ux b.v pos f;let c:=Zh nd m num a.2;ZS ⟨op,0,(a.1:Nat),(c.1:Nat)⟩ c.2:=by
    funext f;rw[NY,if_neg Xi]
   rw[e];refine⟨λh4=>?_,λh5=>?_⟩
   ·subst h4;exact D0 (lit pos) ht 4 .and (λ_ _=>rfl) (λ_ _ _=>rfl)
   ·subst h5;exact D0 (lit pos) ht 5 .or (λ_ _=>rfl) (λ_ _ _=>rfl)
  have short:∀(pos:Bool),J6 (Zh nd m) 4 b.v pos 1=ux b.v pos:=λpos=>by funext f;rw[NY,Qe ⟨rfl,rfl⟩]
  have main:∃B,BldOk B (V4 nd (m+1) n)/\∀f,¬512<f.length->Zh nd (m+1) n f=B f:=by
   rw[NV h2 hb];have unf:∀f,¬512<f.length->Zh nd (m+1) n f=if b.l=0 then J6 (Zh nd m) 4 b.v true b.h f else
     if b.h=0 then J6 (Zh nd m) 4 b.v false b.l f else
     if b.h=1 then J6 (Zh nd m) 5 b.v true b.l f else
     if b.l=1 then J6 (Zh nd m) 5 b.v false b.h f else
      let hi:=J6 (Zh nd m) 4 b.v true b.h f
      let lo:=J6 (Zh nd m) 4 b.v false b.l hi.2
      ZS ⟨5,0,(hi.1:Nat),(lo.1:Nat)⟩ lo.2:=λf hf=>by
    rw[Zh,if_neg (λhh=>hh.elim h2 hf),hb]
   split
   ·rename_i hc;by_cases hl:b.l=0
    ·have hh:b.h=1:=by omega
     rw[XX hh];exact⟨_,lit true,λf hf=>by rw[unf f hf,Qe hl,hh,short]⟩
    ·have hh:b.h=0:=by omega
     have Xu:b.l=1:=by omega
     rw[Zf (by omega)];exact⟨_,lit false,λf hf=>by rw[unf f hf,if_neg hl,Qe hh,Xu,short]⟩
   ·rename_i hc;split
    ·rename_i hl;exact⟨_,(sd 4 true b.h _ (by omega) ihh).1 rfl,λf hf=>by rw[unf f hf,Qe hl]⟩
    ·rename_i hl;split
     ·rename_i hh;exact⟨_,(sd 4 false b.l _ (by omega) ihl).1 rfl,λf hf=>by rw[unf f hf,if_neg hl,Qe hh]⟩
     ·rename_i hh;split
      ·rename_i Ac;exact⟨_,(sd 5 true b.l _ (by omega) ihl).2 rfl,λf hf=>by rw[unf f hf,if_neg hl,if_neg hh,Qe Ac]⟩
      ·rename_i Ac;split
       ·rename_i Xu;exact⟨_,(sd 5 false b.h _ (by omega) ihh).2 rfl,λf hf=>by rw[unf f hf,if_neg hl,if_neg hh,if_neg Ac,Qe Xu]⟩
       ·rename_i Xu;exact⟨_,D0 ((sd 4 true b.h _ (by omega) ihh).1 rfl) ((sd 4 false b.l _ (by omega) ihl).1 rfl) 5 .or (λ_ _=>rfl) (λ_ _ _=>rfl),λf hf=>by rw[unf f hf,if_neg hl,if_neg hh,if_neg Ac,if_neg Xu]⟩
  obtain⟨B,hB,d6⟩:=main;refine⟨λf hf=>?_,λf hf=>?_⟩
  ·by_cases h5:512<f.length
   ·rw[Zh,Qe (.inr h5),oC _ hf];have:=V3 (V4 nd (m+1) n);omega
   ·rw[d6 f h5,hB.len f hf]
  ·have:=V3 (V4 nd (m+1) n);rw[d6 f (by omega),hB.eq f hf]
theorem NZ {nd:List Br}{root:Int}(hv:XC nd root=0):WF nd root=if 512<Qz (cf nd root)then([],2)else(XY (cf nd root) 0,0):=by
 obtain⟨_,vd⟩:=eK.1 hv;have B:=D3 vd.rd0 (root.toNat+1) root vd.2.1 (by have:=vd.2.1;omega) vd.2.2.1;have e1:=B.len [] (by simp);unfold WF;rw[Qe hv];simp only[Z8,a8] at e1;have:V4 nd (root.toNat+1) root=cf nd root:=rfl;rw[this] at e1;by_cases h:512<Qz (cf nd root)
 ·rw[Qe h,Qe (by rw[e1];omega)]
 ·rw[if_neg h,if_neg (by rw[e1];omega)];have e2:=B.eq [] (by simp only[Z8];rw[this];omega);rw[e2,this]<;>rfl
def VIn (k:Nat)(nd:List Br):Prop:=∀b∈nd,b.v<k
theorem VIn.nil (k:Nat):VIn k []:=λb hb=>by simp at hb
theorem VIn.lvl {k:Nat}{nd:List Br}(h:VIn k nd){n:Int}(h2:¬n<2)(hn:n<nd.length+2):Qk nd n<k:=by
 obtain⟨b,hb⟩:=YQ h2 hn;rw[cy h2 hb];exact h b (Xe hb)
theorem Rd0.lvl0 {nd:List Br}(h:Rd0 nd){n:Int}(hn:n<nd.length+2):0<=Qk nd n:=by
 by_cases h2:n<2
 ·rw[fL h2];omega
 ·obtain⟨z,hz⟩:=YQ h2 hn;rw[cy h2 hz];exact(h _ _ hz).1
theorem eQH {a b c:Nat}(ha:a<c)(hb:b<c):2^a+2^b<=2^c:=by
 obtain⟨d,rfl⟩:∃d,c=d+1:=⟨c-1,by omega⟩
 have h1:2^a<=2^d:=Wu (by decide) (by omega);have h2:2^b<=2^d:=Wu (by decide) (by omega);rw[kY];omega
theorem eQI (a:Nat):1<=2^a:=Nat.one_le_two_pow
theorem D4 {nd:List Br}(h:Rd0 nd){k:Nat}(hk:VIn k nd):∀(m:Nat)(n:Int)(st:List Br×List Nat),0<=n->n<m->n<nd.length+2->(X5 nd m n st).2.1.length+1<=st.1.length+2^((k:Int)-Qk nd n).toNat
 | 0,n,st,h0,hm,_=>by omega
 | m+1,n,st,h0,hm,hn=>by
  have p:=eQI ((k:Int)-Qk nd n).toNat;by_cases h2:n<2
  ·rw[jr h2];simp only;omega
  by_cases h3:0<st.2[(n-2).toNat]?.getD 0
  ·rw[js h2 h3];simp only;omega
  obtain⟨b,hb⟩:=YQ h2 hn;obtain⟨b1,b2,b3,b4,b5,b6,b7,b8,b9,aj⟩:=h _ _ hb;have iN:=hk b (Xe hb);have hlv:=cy h2 hb;rw[lw h2 h3 hb];have i1:=D4 h hk m b.l st b3 (by omega) (by omega);generalize (X5 nd m b.l st)=p1 at*;have i2:=D4 h hk m b.h p1.2 b5 (by omega) (by omega);generalize (X5 nd m b.h p1.2)=p2 at*;have:=eQH (a:=((k:Int)-Qk nd b.l).toNat) (b:=((k:Int)-Qk nd b.h).toNat) (c:=((k:Int)-Qk nd n).toNat) (by omega) (by omega);simp only[Qy,Xk,Z8];omega
theorem D5 {nd:List Br}{k:Nat}(hk:VIn k nd):∀(m:Nat)(n:Int)(st:List Br×List Nat),VIn k st.1->VIn k (X5 nd m n st).2.1
 | 0,n,st,h=>h
 | m+1,n,st,h=>by
  by_cases h2:n<2
  ·rw[jr h2];exact h
  by_cases h3:0<st.2[(n-2).toNat]?.getD 0
  ·rw[js h2 h3];exact h
  cases hb:nd[(n-2).toNat]? with
  | none=>rw[X5,if_neg h2,if_neg h3,hb];exact h
  | some b=>
   rw[lw h2 h3 hb];have i1:=D5 hk m b.l st h;generalize (X5 nd m b.l st)=p1 at*;have i2:=D5 hk m b.h p1.2 i1;generalize (X5 nd m b.h p1.2)=p2 at*;intro x hx;simp only[XB,QJ] at hx;rcases hx with hx | rfl
   ·exact i2 x hx
   ·exact hk b (Xe hb)
theorem eQJ {nd:List Br}{k:Nat}(hk:VIn k nd)(r:Int):VIn k (aG nd r).1:=D5 hk _ _ _ (VIn.nil k)
theorem VD.len {nd:List Br}{r:Int}(h:VD nd r){k:Nat}(hk:VIn k nd):nd.length+1<=2^k:=by
 have i:=D4 h.rd0 hk (r.toNat+1) r ([],List.replicate nd.length 0) h.2.1 (by have:=h.2.1;omega) h.2.2.1;have e:(X5 nd (r.toNat+1) r ([],List.replicate nd.length 0)).2.1=nd:=QN Prod.fst h.2.2.2;rw[e] at i;have:=h.rd0.lvl0 h.2.2.1;have p:2^((k:Int)-Qk nd r).toNat<=2^k:=Wu (by decide) (by omega);simp only[Z8] at i;omega
theorem eQK {k:Nat}{l:List Br}(h:VIn k l){b:Br}(hb:b.v<k):VIn k (ZN b l).1:=by
 unfold ZN;split
 ·exact h
 ·split
  ·exact h
  ·intro x hx;simp only[XB,QJ] at hx;rcases hx with hx | rfl
   ·exact h x hx
   ·exact hb
theorem D6 {a b:List Br}(ha:K6 a)(hb:K6 b){k:Nat}(ka:VIn k a)(kb:VIn k b)(op:Int):∀(m:Nat)(x y:Int)(st:List Br×List Tr3),0<=x->0<=y->x<a.length+2->y<b.length+2->VIn k st.1->VIn k (Xn a b op m x y st).2.1
 | 0,_,_,st,_,_,_,_,h=>h
 | m+1,x,y,st,x0,y0,hx,hy,h=>by
  by_cases Xr:x<2/\y<2
  ·rw[jw Xr];exact h
  cases k3:st.2.find? (λt=>decide (t.1=x/\t.2.1=y))with
  | some t=>rw[jx Xr k3];exact h
  | none=>
   have Cc:min (Qk a x) (Qk b y)<k:=by
    by_cases c:x<2
    ·have:=kb.lvl (n:=y) (λc2=>Xr ⟨c,c2⟩) hy;rw[ZR];split<;>omega
    ·have:=ka.lvl (n:=x) c hx;rw[ZR];split<;>omega
   have Zs:min (Qk a x) (Qk b y)<64:=by
    by_cases c:x<2
    ·have:=WE hb (n:=y) (λc2=>Xr ⟨c,c2⟩) (by omega);rw[ZR];split<;>omega
    ·have:=WE ha (n:=x) c (by omega);rw[ZR];split<;>omega
   rw[jy Xr k3 _ rfl];generalize min (Qk a x) (Qk b y)=v at*;obtain⟨s1,s2,s3,s4,s5⟩:=YP ha (n:=x) x0 Zs;obtain⟨t1,t2,t3,t4,t5⟩:=YP hb (n:=y) y0 Zs;have i1:=D6 ha hb ka kb op m (Ql a x v).1 (Ql b y v).1 st s1 t1 (by omega) (by omega) h;generalize (Xn a b op m (Ql a x v).1 (Ql b y v).1 st)=r0 at*;have i2:=D6 ha hb ka kb op m (Ql a x v).2 (Ql b y v).2 r0.2 s3 t3 (by omega) (by omega) i1;exact eQK i2 Cc
structure Set1 (k:Nat) (nd:List Br) (r:Int) (o:(Nat->Bool)->Bool):Prop where
 vd:VD nd r
 vin:VIn k nd
 mean:∀e,ev nd r e=o e
theorem Set1.len {k:Nat}{nd:List Br}{r:Int}{o:(Nat->Bool)->Bool}(h:Set1 k nd r o)(hk:k<=12):nd.length<=4095:=by
 have:=h.vd.len h.vin;have p:2^k<=2^12:=Wu (by decide) hk;omega
theorem Set1.chk {k:Nat}{nd:List Br}{r:Int}{o:(Nat->Bool)->Bool}(h:Set1 k nd r o)(hk:k<=12):XC nd r=0:=DF (by have:=h.len hk;omega) h.vd
theorem Set1.unique {k k':Nat}{nd XT:List Br}{r r':Int}{o o':(Nat->Bool)->Bool}(h:Set1 k nd r o)(h':Set1 k' XT r' o')(e:∀x,o x=o' x):(nd,r)=(XT,r'):=
 h.vd.eqv h'.vd (λx=>by rw[h.mean,h'.mean,e])
theorem Set1.congr {k:Nat}{nd:List Br}{r:Int}{o o':(Nat->Bool)->Bool}(h:Set1 k nd r o)(e:∀x,o x=o' x):Set1 k nd r o':=⟨h.vd,h.vin,λx=>(h.mean x).trans (e x)⟩
theorem dx {k:Nat}{a b:List Br}{ra rb:Int}{o o':(Nat->Bool)->Bool}(h:Set1 k a ra o)(h':Set1 k b rb o')(op:Int):Set1 k (Vo a ra b rb op).1 (Vo a ra b rb op).2 (λe=>J5 op (o e) (o' e)):=by
 obtain⟨v,m⟩:=eQb h.vd h'.vd op;refine⟨v,eQJ (D6 h.vd.dok h'.vd.dok h.vin h'.vin op _ _ _ _ h.vd.2.1 h'.vd.2.1 h.vd.2.2.1 h'.vd.2.2.1 (VIn.nil k)) _,λe=>?_⟩;rw[m e,h.mean,h'.mean]
theorem fM {k:Nat}(hk:k<=12){a b:List Br}{ra rb:Int}{o o':(Nat->Bool)->Bool}(h:Set1 k a ra o)(h':Set1 k b rb o')(op:Int):dw a ra b rb op=(Vo a ra b rb op,0):=by
 have l:=(dx h h' op).len hk;unfold dw;rw[if_neg (λhh=>hh (h.chk hk)),if_neg (λhh=>hh (h'.chk hk))];unfold ii;rw[if_neg (by omega)]
theorem aH (k:Nat)(b:Bool):Set1 k [] (if b then 1 else 0) (λ_=>b):=by
 refine⟨⟨λj x hx=>by simp at hx,by cases b<;>decide,by cases b<;>decide,by cases b<;>rfl⟩,VIn.nil k,λe=>?_⟩;rw[Jr (by cases b<;>decide)];cases b<;>rfl
def jE (nm:List (List Nat))(s:List Nat):Except Int Fm:=if ZJ nm then
  if(XQ s).2 then match rh (Ja nm) (s.length+1) (XQ s).1 with
   | none=>.error 31
   | some (t,u,ts)=>if ts≠ [] then .error 31 else if u then .error 3 else if 512<Qz t then .error 2 else .ok t
  else .error 31
 else .error 1
theorem eQL (nm:List (List Nat))(s:List Nat):cq nm s=match jE nm s with
  | .ok t=>(XY t 0,0)
  | .error e=>([],e):=by
 rw[Nx];unfold yK jE;cases ZJ nm with
 | false=>rfl
 | true=>
  cases (XQ s).2 with
  | false=>rfl
  | true=>
   simp only[if_true];cases rh (Ja nm) (s.length+1) (XQ s).1 with
   | none=>rfl
   | some q=>
    obtain⟨t,u,ts⟩:=q;simp only;by_cases h1:ts≠ []
    ·rw[Qe h1,Qe h1]
    ·rw[if_neg h1,if_neg h1];by_cases h2:u=true
     ·rw[Qe h2,Qe h2]
     ·rw[if_neg h2,if_neg h2];by_cases h3:512<Qz t
      ·rw[Qe h3,Qe h3]
      ·rw[if_neg h3,if_neg h3]
def yO (N:Nat)(opd:List (List Nat)->Option (Fm×Bool×List (List Nat))):Prop:=∀ts t ZX,opd ts=some (t,false,ZX)->VarsIn N t
theorem N0 {N:Nat}{op:List Nat}{mk:Fm->Fm->Fm}{opd:List (List Nat)->Option (Fm×Bool×List (List Nat))}(hm:∀a b,VarsIn N a->VarsIn N b->VarsIn N (mk a b))(h:yO N opd):
  ∀(m:Nat) (a:Fm) (u:Bool) (ts:List (List Nat)) (t:Fm) (ZX:List (List Nat)),(u=false->VarsIn N a)->V0 op mk opd m a u ts=some (t,false,ZX)->VarsIn N t
 | 0,a,u,ts,t,ZX,_,hh=>by cases hh
 | m+1,a,u,ts,t,ZX,ha,hh=>by
  unfold V0 at hh;split at hh
  ·cases ho:opd ts.tail with
   | none=>rw[ho] at hh;cases hh
   | some q=>
    obtain⟨b,v,gk⟩:=q;rw[ho] at hh;refine N0 hm h m _ _ _ t ZX (λhuv=>?_) hh;cases u<;>cases v<;>simp at huv
    exact hm _ _ (ha rfl) (h _ _ _ ho)
  ·cases hh;exact ha rfl
theorem yP {N:Nat}{op:List Nat}{mk:Fm->Fm->Fm}{opd:List (List Nat)->Option (Fm×Bool×List (List Nat))}(hm:∀a b,VarsIn N a->VarsIn N b->VarsIn N (mk a b))(h:yO N opd):yO N (Yi op mk opd):=λts t ZX hh=>by
 unfold Yi at hh;cases ho:opd ts with
 | none=>rw[ho] at hh;cases hh
 | some q=>
  obtain⟨a,u,gk⟩:=q;rw[ho] at hh;exact N0 hm h _ _ _ _ t ZX (λhu=>by subst hu;exact h _ _ _ ho) hh
theorem N4 {N:Nat}{ix:List Nat->Option Nat}(hx:∀l n,ix l=some n->n<N):∀n,yO N (Ks ix n)
 | 0=>λts t ZX h=>by cases h
 | n+1=>λts t ZX h=>by
  have ih:=N4 hx n;cases ts with
  | nil=>cases h
  | cons w ts=>
   unfold Ks at h;split at h
   ·cases ho:Ks ix n ts with
    | none=>rw[ho] at h;cases h
    | some q=>
     obtain⟨a,u,gk⟩:=q;rw[ho] at h;cases h;exact show VarsIn N a from ih _ _ _ ho
   split at h
   ·cases ho:Yi [124,124] Fm.or (Yi [38,38] Fm.and (Ks ix n)) ts with
    | none=>rw[ho] at h;cases h
    | some q=>
     obtain⟨a,u,gk⟩:=q;rw[ho] at h;simp only at h;split at h
     ·cases h;exact yP (mk:=Fm.or) (λ_ _ h h'=>⟨h,h'⟩) (yP (mk:=Fm.and) (λ_ _ h h'=>⟨h,h'⟩) ih) _ _ _ ho
     ·cases h
   split at h
   ·simp only[Option.some.injEq,Prod.mk.injEq] at h;obtain⟨rfl,h2,_⟩:=h;unfold jB at h2 ⊢;split
    ·trivial
    ·split
     ·trivial
     ·rename_i h3 h4;rw[if_neg h3,if_neg h4] at h2;simp only at h2;cases hi:ix w with
      | none=>rw[hi] at h2;cases h2
      | some k=>exact hx _ _ hi
   ·cases h
theorem N5 (l:List Nat)(N:Nat):∀(names:List (List Nat))(i:Nat)(QO:Option Nat),(∀n,QO=some n->n<N)->i+names.length<=N->∀n,fI l names i QO=some n->n<N
 | [],i,QO,ha,_,n,h=>ha n h
 | s::names,i,QO,ha,hl,n,h=>by
  unfold fI at h;refine N5 l N names (i+1) _ (λm hm=>?_) (by simp at hl;omega) n h;split at hm
  ·cases hm;simp at hl;omega
  ·exact ha m hm
theorem jF {names:List (List Nat)}{l:List Nat}{n:Nat}(h:Ja names l=some n):n<names.length:=N5 l _ names 0 none (λ_ h=>by cases h) (by omega) n h
theorem eQM {nm:List (List Nat)}{s:List Nat}{t:Fm}(h:jE nm s= .ok t):ZJ nm=true/\VarsIn nm.length t/\Qz t<=512:=by
 unfold jE at h;split at h
 ·rename_i hn;split at h
  ·split at h
   ·cases h
   ·rename_i t' u ts hw;split at h
    ·cases h
    split at h
    ·cases h
    split at h
    ·cases h
    ·rename_i hu hs;cases h;have hu:u=false:=by simpa using hu
     subst hu;exact⟨hn,yP (mk:=Fm.or) (λ_ _ h h'=>⟨h,h'⟩) (yP (mk:=Fm.and) (λ_ _ h h'=>⟨h,h'⟩) (N4 (λl n h=>jF h) _)) _ _ _ hw,by omega⟩
  ·cases h
 ·cases h
theorem eQN {nm:List (List Nat)}{s:List Nat}{e:Int}(h:jE nm s= .error e):e=1∨e=2∨e=3∨e=31:=by
 unfold jE at h
 repeat' split at h
 all_goals first | cases h | skip
 all_goals simp
abbrev BF:=(Nat->Bool)->Bool
def Yj (nm:List (List Nat))(s:List Nat):Except Int BF:=match jE nm s with
 | .ok t=>.ok (evF t)
 | .error e=>.error (if e=2 then 2 else 71)
inductive Dir where
 | txt
 | ifd (s:List Nat)
 | elif (s:List Nat)
 | els
 | en
 | inc (s:List Nat)
def JG:List Nat:=[35,105,102,32]
def pElif:List Nat:=[35,101,108,105,102,32]
def pInc:List Nat:=[35,105,110,99,108,117,100,101,32]
def Y6:List Nat:=[35,101,108,115,101]
def J0:List Nat:=[35,101,110,100]
def Jb (s:List Nat):Dir:=if JG.isPrefixOf s then .ifd (s.drop 4)else if pInc.isPrefixOf s then .inc (s.drop 9)else if pElif.isPrefixOf s then .elif (s.drop 6)else if s=Y6 then .els else if s=J0 then .en else .txt
def QU:List Nat->List (List Nat)
 | []=>[]
 | b::l=>if b=10 then []::QU l else match QU l with
  | []=>[[b]]
  | s::ls=>(b::s)::ls
def Qo (ls:List (List Nat)):List Nat:=ls.flatMap (λs=>s++ [10])
theorem Y7 (s:List Nat)(ls:List (List Nat)):Qo (s::ls)=s++10::Qo ls:=by simp[Qo]
theorem uy (ls:List (List Nat)):ls.length<=(Qo ls).length:=by
 induction ls with
 | nil=>exact QE _
 | cons s ls ih=>rw[Y7];simp only[Xk,Qy];omega
def eL (ls:List (List Nat)):Prop:=∀s∈ls,10∉s
theorem eQO (s l:List Nat)(h:10∉s):QU (s++10::l)=s::QU l:=by
 induction s with
 | nil=>simp[QU]
 | cons b s ih=>
  simp only[QX,not_or] at h;rw[Yd,QU,if_neg (λe=>h.1 e.symm),ih h.2]
theorem ry {ls:List (List Nat)}(h:eL ls):QU (Qo ls)=ls:=by
 induction ls with
 | nil=>rfl
 | cons s ls ih=>rw[Y7,eQO _ _ (h s (by simp)),ih (λt ht=>h t (by simp[ht]))]
def bu (l:List Nat):Prop:=l=[]∨l.getLast? =some 10
theorem lD:∀(l:List Nat),eL (QU l)
 | []=>λs hs=>by simp[QU] at hs
 | b::l=>by
  have ih:=lD l;intro s hs;unfold QU at hs;split at hs
  ·simp only[QX] at hs;rcases hs with rfl | hs
   ·simp
   ·exact ih s hs
  ·rename_i hb;cases hl:QU l with
   | nil=>
    rw[hl] at hs;simp only[QJ] at hs;subst hs;simpa using λe=>hb e.symm
   | cons t ls=>
    rw[hl] at hs ih;simp only[QX] at hs;rcases hs with rfl | hs
    ·have:=ih t (by simp);simp only[QX,not_or];exact⟨λe=>hb e.symm,this⟩
    ·exact ih s (by simp[hs])
theorem WG:∀{l:List Nat},bu l->Qo (QU l)=l
 | [],_=>rfl
 | b::l,h=>by
  have hl:bu l:=by
   cases l with
   | nil=>exact .inl rfl
   | cons c l=>right;rcases h with h | h;cases h;simpa using h
  have ih:=WG hl;unfold QU;split
  ·rename_i hb;subst hb;rw[Y7,ih]<;>rfl
  ·rename_i hb;cases KG:QU l with
   | nil=>
    rw[KG] at ih;have:l=[]:=ih.symm;subst this;rcases h with h | h
    ·cases h
    ·simp at h;exact Xm h hb
   | cons t ls=>
    rw[KG] at ih;simp only[Y7] at ih ⊢;rw[Yd,ih]
theorem N6 (ls:List (List Nat)):bu (Qo ls):=by
 induction ls with
 | nil=>exact .inl rfl
 | cons s ls ih=>
  right
  rw[Y7];rcases ih with h | h
  ·rw[h];simp
  ·rw[List.getLast?_append,List.getLast?_cons,h];simp
structure Sg where
 f:Nat
 t:Nat
 fl:Nat
 at_:Nat
 o:BF
structure Gs where
 tx:List Nat
 sg:List Sg
 fr:Bool
structure Se where
 ou:BF
 re:BF
 ot:Bool
 ln:Nat
structure Pl where
 e:Int
 f:Int
 l:Int
def lF (n:Nat):List Sg->List Sg
 | []=>[]
 | [x]=>[{x with t:=n}]
 | x::y::l=>x::lF n (y::l)
theorem jG (n:Nat)(l:List Sg)(x:Sg):lF n (l++ [x])=l++ [{x with t:=n}]:=by
 induction l with
 | nil=>rfl
 | cons y l ih=>
  cases l with
  | nil=>rfl
  | cons z l=>rw[Yd,Yd] at*;rw[lF,ih]<;>rfl
def VH (s:List Nat)(fl at_:Nat)(k:BF)(g:Gs):Option Gs:=
 if 1048576<g.tx.length+s.length∨(g.fr=true/\g.sg.length=65536)then none
 else some ⟨g.tx++s,lF (g.tx.length+s.length) (if g.fr then g.sg++ [⟨g.tx.length,0,fl,at_,k⟩] else g.sg),false⟩
def cA (ix:List Nat->Option Nat)(rd:List Nat)(s:List Nat):Except Int Nat:=
 if s.length<2∨s.head? ≠some 34∨s.getLast? ≠some 34∨s.count 34≠2 then .error 71
 else match ix ((s.drop 1).take (s.length-2))with
  | none=>.error 73
  | some n=>if n∈rd then .error 73 else .ok n
abbrev Js (a b:BF):BF:=λe=>a e&&b e
abbrev V5 (a b:BF):BF:=λe=>a e && !b e
def ZO (nm:List (List Nat))(fl d0:Nat)(inc:List Nat->Nat->Nat->BF->Gs->Except Pl Gs):List (List Nat)->Nat->Nat->BF->List Se->Gs->Except Pl Gs
 | [],_,_,_,op,g=>match op with
  | []=>.ok {g with fr:=true}
  | x::_=>.error ⟨72,fl,x.ln⟩
 | s::ls,ln,at_,k,op,g=>match Jb s with
  | .ifd r=>match Yj nm r with
   | .error e=>.error ⟨e,fl,ln+1⟩
   | .ok d=>if d0+op.length=64 then .error ⟨2,fl,ln+1⟩else ZO nm fl d0 inc ls (ln+1) (at_+s.length+1) (Js k d) (⟨k,V5 k d,false,ln+1⟩::op) {g with fr:=true}
  | .inc r=>match inc r (ln+1) (d0+op.length) k g with
   | .error p=>.error p
   | .ok g'=>ZO nm fl d0 inc ls (ln+1) (at_+s.length+1) k op {g' with fr:=true}
  | .elif r=>match op with
   | []=>.error ⟨72,fl,ln+1⟩
   | x::aq=>if x.ot then .error ⟨71,fl,ln+1⟩else match Yj nm r with
    | .error e=>.error ⟨e,fl,ln+1⟩
    | .ok d=>ZO nm fl d0 inc ls (ln+1) (at_+s.length+1) (Js x.re d) ({x with re:=V5 x.re d}::aq) {g with fr:=true}
  | .els=>match op with
   | []=>.error ⟨72,fl,ln+1⟩
   | x::aq=>if x.ot then .error ⟨71,fl,ln+1⟩else ZO nm fl d0 inc ls (ln+1) (at_+s.length+1) x.re ({x with ot:=true}::aq) {g with fr:=true}
  | .en=>match op with
   | []=>.error ⟨72,fl,ln+1⟩
   | x::aq=>ZO nm fl d0 inc ls (ln+1) (at_+s.length+1) x.ou aq {g with fr:=true}
  | .txt=>match VH (s++ [10]) fl at_ k g with
   | none=>.error ⟨2,fl,ln+1⟩
   | some g'=>ZO nm fl d0 inc ls (ln+1) (at_+s.length+1) k op g'
def aa (nm:List (List Nat))(fs:List (List Nat×List Nat)):Nat->List Nat->Nat->Nat->BF->Gs->Except Pl Gs
 | 0,_,_,_,_,_=>.error ⟨0,0,0⟩
 | f+1,rd,d,n,k,g=>ZO nm n d (λr ln d k g=>match cA (Ja (fs.map (·.1))) (n::rd) r with
   | .error e=>.error ⟨e,n,ln⟩
   | .ok m=>if d=64 then .error ⟨2,n,ln⟩else aa nm fs f (n::rd) (d+1) m k g) (QU ((fs[n]?.map (·.2)).getD [])) 0 0 k [] {g with fr:=true}
def oE (s:List Nat):Bool:=decide (s≠ [])&&s.all (λb=>decide (32<=b)&&b !=34&&b !=127)
def ac (l:List Nat):Bool:=decide (l=[])||l.getLast? ==some 10
def dy:List (List Nat×List Nat)->List (List Nat)->Nat->Option Pl
 | [],_,_=>none
 | x::l,seen,i=>if¬(oE x.1=true/\x.1∉seen/\ac x.2=true)then some ⟨70,i,0⟩else if 1048576<x.2.length then some ⟨2,i,0⟩else dy l (seen++ [x.1]) (i+1)
def Y8 (fs:List (List Nat×List Nat)):Option Pl:=if 256<fs.length then some ⟨2, -1,0⟩else dy fs [] 0
def Y9 (nm:List (List Nat))(fs:List (List Nat×List Nat))(root:List Nat):Except Pl Gs:=
 if ZJ nm=false then .error ⟨30, -1,0⟩else match Y8 fs with
  | some p=>.error p
  | none=>match Ja (fs.map (·.1)) root with
   | none=>.error ⟨73, -1,0⟩
   | some n=>aa nm fs 65 [] 0 n (λ_=>true) ⟨[],[],false⟩
theorem ij (A:Option Addr)(n c:Nat)(r m v:Int)(nd:List Br)(w:World)(h:SB w A n c nd)(hm:m<n+2)(dM:v<64):
  Fn Tryz.prog 167 [Xg A n c r,.int .i64 m,.int .i64 v] w (λu w'=>u= .tuple #[.int .i64 (Ql nd m v).1,.int .i64 (Ql nd m v).2]/\Ext w w'):=by
 have Xb:=h.2;have aZ:n<=9223372036854775807:=by have:=h.1.le;have:=h.1.cap;simp only[maxLen] at this;omega
 refine QF (c:={cQk with cuts:=[]}) Qa Tryz.func167 rfl rfl rfl ?_;refine new (λw1 Qd Q2 Qh=>?_);refine Qs Qh rfl ?_;refine call (cr A n c r m nd w1 (h.ext Qd) hm) ?_;rintro u w2 ⟨rfl,Qg⟩;have Q4:=Qd.trans Qg;have Qw:=Qh.ext Qg;refine aB (λc1=>?_) (λc1=>?_)
 ·exact⟨by unfold Ql;rw[Qe c1],Q4⟩
 ·have ta:¬m<2:=λh2=>by
   unfold Qk at c1;rw[Qe h2] at c1;omega
  have hx:=Xs (show(m-2).toNat<nd.length by omega);generalize nd[(m-2).toNat]=b at hx;have e:Ql nd m v=(b.l,b.h):=by unfold Ql;rw[if_neg (by omega),hx]
  rw[e];refine XJ Qa (Ext w2) 16 [(true,0),(true,1),(true,2),(true,3),(true,4),(true,5),(true,6),(true,7),(true,8),(true,9),(true,10),(true,11),(true,12),(true,13),(true,14),(true,15)] (by kernel_rfl) (Ext.drew w2) ?_;refine QL (v:=.slice A n c) (λw' Qb=>by rw[(Qw.ext Qb).cell];rfl) ?_;refine Qm (((m-2).toNat:Nat):Int) (by omega) (by omega) ?_;refine Zo Y5 (h.ext Q4) rfl (by omega) (λp z hz hc=>?_);have m0:z=b:=Option.some.inj (hz.symm.trans hx);subst m0;refine QL (v:=.int .i64 z.l) (λw' Qb=>Qb.cell (hc 1 _ rfl)) ?_;refine QL (v:=.slice A n c) (λw' Qb=>by rw[(Qw.ext Qb).cell];rfl) ?_;refine Qm (((m-2).toNat:Nat):Int) (by omega) (by omega) ?_;refine Zo Y5 (h.ext Q4) rfl (by omega) (λp' z' Wl Kc=>?_);have Ik:z'=z:=Option.some.inj (Wl.symm.trans hx);subst Ik;refine QL (v:=.int .i64 z'.h) (λw' Qb=>Qb.cell (Kc 2 _ rfl)) ?_;exact⟨rfl,Q4.trans (Ext.drew w2)⟩
def uz (nd:List Br)(b:Br):Option Value:=(Kr b nd).map λi=>.int .i64 ((i+2:Nat):Int)
structure Bd (w:World) (base pb km:Nat) (NA:Option Addr) (nc:Nat) (nd:List Br):Prop where
 blk:Blk w pb 177 [.slice NA nd.length nc,.map (some km)]
 own:Own w base 105 3 NA nd.length nc (ju nd)
 known:∃m,MapQ bn w km m/\∀b,Xv b m=uz nd b
 lt:pb<base/\km<base/\pb≠km
 top:base<=w.heap.size
theorem Bd.ext {w w':World}{base pb km:Nat}{NA:Option Addr}{nc:Nat}{nd:List Br}(h:Bd w base pb km NA nc nd)(k:Ext w w'):Bd w' base pb km NA nc nd:=
 ⟨h.blk.ext k,h.own.ext k,let ⟨m,h1,h2⟩:=h.known;⟨m,h1.ext k,h2⟩,h.lt,Ze h.top k.size⟩
def BS (pb km:Nat)(NA:Option Addr):Nat->Prop:=λk=>k=pb∨k=km∨Qi NA k
theorem BS.moved {w:World}{pb km:Nat}{A A':Option Addr}(h:Moved w A A'):∀k,BS pb km A' k->BS pb km A k∨w.heap.size<=k:=by
 rintro k (rfl | rfl | hk)
 ·exact .inl (.inl rfl)
 ·exact .inl (.inr (.inl rfl))
 ·rcases h.rows k hk with h | h
  ·exact .inl (.inr (.inr h))
  ·exact .inr h
def eQP (w:World)(base pb km:Nat)(NA:Option Addr)(nd:List Br)(w':World):Prop:=∃NA' nc',Bd w' base pb km NA' nc' nd/\Mod (BS pb km NA) w w'/\Moved w NA NA'
theorem N7 (b x:Br):∀l:List Br,Kr x l=none->Kr b (l++ [x])=if b=x then some l.length else Kr b l
 | [],_=>by
  show(if x=b then some 0 else(none:Option Nat).map (·+1))=_;by_cases h:x=b
  ·rw[Qe h,Qe h.symm]<;>rfl
  ·rw[if_neg h,if_neg (λe=>h e.symm)]<;>rfl
 | y::l,hx=>by
  have hy:y≠x:=λe=>by rw[Kr,Qe e] at hx;cases hx
  have hl:Kr x l=none:=by
   rw[Kr,if_neg hy] at hx;cases hh:Kr x l with
   | none=>rfl
   | some k=>rw[hh] at hx;cases hx
  have ih:=N7 b x l hl;show(if y=b then some 0 else(Kr b (l++ [x])).map (·+1))=if b=x then some (l.length+1)else if y=b then some 0 else(Kr b l).map (·+1)
  rw[ih];by_cases h1:b=x
  ·rw[Qe h1,Qe h1,if_neg (λe=>hy (e.trans h1))]<;>rfl
  ·rw[if_neg h1,if_neg h1]
theorem eQQ {b:Br}{nd:List Br}{i:Nat}(h:b.l≠b.h)(k:Kr b nd=some i):ZN b nd=(nd,((i+2:Nat):Int)):=by unfold ZN;rw[if_neg h,k]
theorem eQR {b:Br}{nd:List Br}(h:b.l≠b.h)(k:Kr b nd=none):ZN b nd=(nd++ [b],((nd.length+2:Nat):Int)):=by unfold ZN;rw[if_neg h,k]
theorem N8 (base pb km:Nat)(NA:Option Addr)(nc:Nat)(nd:List Br)(b:Br)(w:World)(h:Bd w base pb km NA nc nd)(hl:nd.length+1<=1000000000000):
  Fn Tryz.prog 189 [.pointer (some ⟨pb,0,none⟩),.int .i64 b.v,.int .i64 b.l,.int .i64 b.h] w (λu w'=>u= .int .i64 (ZN b nd).2/\eQP w base pb km NA (ZN b nd).1 w'):=by
 obtain⟨p1,p2,p3⟩:=h.lt;have kI:=h.top;have Vv:=h.own.rows;refine QF (c:={cQr with cuts:=[]}) Qa Tryz.func189 rfl rfl rfl ?_;refine Zn (λc1=>?_) (λc1=>?_)
 ·have e:ZN b nd=(nd,b.l):=by unfold ZN;rw[Qe c1]
  rw[e];exact⟨rfl,NA,nc,h,Mod.refl _ _,Moved.refl _ _⟩
 refine new (λw1 Qd Q2 Qh=>?_);refine Qx Qh rfl (sc rfl) (λw2 ga X9 Qw=>?_);have Qg:Ext w w2:=X0 Qd Qh ga
 replace Qw:Blk w2 w.heap.size 105 b.cells:=Qw;have h2:=h.ext Qg;obtain⟨m,hm,Ko⟩:=h2.known;refine XJ Qa (Ext w2) 11 [(true,0),(true,1),(true,2),(true,3),(true,4),(false,5),(true,6),(true,7),(true,8),(true,9),(true,10)] (by kernel_rfl) (Ext.drew w2) ?_;refine QL (v:=.map (some km)) (λw' Qb=>by rw[(h2.blk.ext Qb).cell];rfl) ?_;refine Xl (vs:=b.cells) rfl (λw' Qb j v hj=>by rw[(Qw.ext Qb).cell];exact hj) ?_;refine Ds (kv:=bn) (a:=b) Qa rfl rfl rfl rfl yB rfl rfl (hm.ext (Ext.drew w2)) ?_;refine⟨Ext.drew w2,?_⟩;have Q4:=Qg.trans (Ext.drew w2);have Qu:=Qw.ext (Ext.drew w2);have h3:=h2.ext (Ext.drew w2);have Xo:=hm.ext (Ext.drew w2);have JV:w2.heap.size<=w2.drew.heap.size:=(Ext.drew w2).size;generalize w2.drew=w3 at*;cases hf:Kr b nd with
 | some i=>
  have ha:Xv b m=some (.int .i64 ((i+2:Nat):Int)):=by rw[Ko,uz,hf]<;>rfl
  have eY:=eQQ c1 hf;refine lk (Xc (by rw[ha];rfl) ?_);rw[eY];exact⟨by rw[ha];rfl,NA,nc,h3,Mod.of_ext _ Q4,Moved.refl _ _⟩
 | none=>
  have ha:Xv b m=none:=by rw[Ko,uz,hf]<;>rfl
  have eY:=eQR c1 hf;refine lk (Xt (by rw[ha];rfl) ?_);rw[eY];have n3:w1.heap.size=w.heap.size+1:=Q2;have Cd:¬Qi NA pb:=λhr=>by have:=(Vv _ hr).1;omega
  have Ce:¬Qi NA w.heap.size:=λhr=>by have:=(Vv _ hr).2;omega
  refine XJ Qa (Mod (Qi NA) w3) 8 [(true,0),(true,1),(true,2),(true,3),(true,4),(true,5),(false,6),(false,7)] (by kernel_rfl) (Mod.of_ext _ (Ext.drew w3)) ?_;refine QL (v:=.slice NA nd.length nc) (λw' Qb=>by rw[(h3.blk.mod Qb Cd).cell];rfl) ?_;refine Xl (vs:=b.cells) rfl (λw' Qb j v hj=>by rw[(Qu.mod Qb Ce).cell];exact hj) ?_;refine XE Qa [b.cells] rfl rfl rfl rfl rfl ⟨rfl,rfl,⟨⟩⟩ rfl (λcs h=>by simp only[QJ] at h;subst h;rfl) rfl (by decide) (by decide) ?_;intro w4 Qq Kz QZ;have KB:=(Ext.drew w3).trans Qq;have h4:=h3.ext KB;refine⟨Mod.of_ext _ KB,?_⟩;have R7:Sl w4 3 (some ⟨w3.drew.heap.size,0,none⟩) 1 1 b.cells:=Sl.own (sz:=3) (n:=1) QZ (QE _) (by decide) (by simp[Br.cells]);refine JE (n:=nd.length) Qa rfl rfl rfl rfl rfl (by decide) rfl rfl ⟨_,rfl⟩ rfl rfl h4.own R7 (by intro u hu;simp[Br.cells] at hu;rcases hu with rfl | rfl | rfl<;>rfl) (by unfold maxLen;omega) (by show _*24<=_;omega) h4.top ?_;intro A' c' w5 XO Sq iQX;have sj:Mod (Qi NA) w3 w5:=(Mod.of_ext (Qi NA) KB).trans XO (λi hi=>.inl hi);refine⟨sj,?_⟩;have Kv:=sj.size;have lQe:=KB.size;have iQY:=Q4.size;refine XK (h3.blk.mod sj Cd) (by simp) (λw6 V7 Xh=>?_);have cL:=V7.size;have ar:∀i,Qi A' i->base<=i:=λi hi=>(Sq.rows i hi).1
  have FW:Blk w6 pb 177 [.slice A' (nd.length+1) c',.map (some km)]:=Xh;refine Qv FW rfl ?_;refine Qm ((nd.length+2:Nat):Int) (by show((nd.length+1:Nat):Int)+1=_;omega) (by omega) ?_;have hx6:=(Qu.mod sj Ce).mod V7 (by show¬w.heap.size=pb;omega);have hq6:MapQ bn w6 km m:=(Xo.mod sj (λhr=>by have:=(Vv _ hr).1;omega)).mod V7 (by show¬km=pb;omega);refine XJ Qa (Ext w6) 6 [(true,0),(true,1),(true,2),(true,3),(true,4),(true,5)] (by kernel_rfl) (Ext.drew w6) ?_;refine QL (v:=.map (some km)) (λw' Qb=>by rw[(FW.ext Qb).cell];rfl) ?_;refine Xl (vs:=b.cells) rfl (λw' Qb j v hj=>by rw[(hx6.ext Qb).cell];exact hj) ?_;refine qJ (kv:=bn) (a:=b) Qa rfl rfl rfl rfl yB rfl rfl rfl (hq6.ext (Ext.drew w6)) (λw8 Ju Vs hq8=>?_);have FX:Mod (·=km) w6 w8:=(Mod.of_ext (·=km) (Ext.drew w6)).trans Ju (λi hi=>.inl hi);have ZP:Mod (BS pb km NA) w w3:=Mod.of_ext _ Q4;have ZW:Mod (BS pb km NA) w w5:=ZP.trans sj (λi hi=>.inl (.inr (.inr hi)));have KI:Mod (BS pb km NA) w w6:=ZW.trans V7 (λi hi=>.inl (.inl hi));have ZA:Mod (BS pb km NA) w w8:=KI.trans FX (λi hi=>.inl (.inr (.inl hi)));have el:(nd++ [b]).length=nd.length+1:=by simp
  refine⟨rfl,A',c',⟨?_,?_,⟨_,hq8,λx=>?_⟩,h.lt,Ze kI ZA.size⟩,ZA,iQX.back (by omega)⟩
  ·rw[el];exact FW.mod FX (by show¬pb=km;omega)
  ·rw[el,yA];exact(Sq.mod V7 (λi hi e=>by have:=ar i hi;have e':i=pb:=e;omega)).mod FX (λi hi e=>by have:=ar i hi;have e':i=km:=e;omega)
  ·rw[W7,Ko,uz,uz,N7 x b nd hf];by_cases Z2:x=b
   ·rw[Qe Z2,Qe Z2]<;>rfl
   ·rw[if_neg Z2,if_neg Z2]
theorem yQ (F:Option Addr)(m cf:Nat)(L:List DV)(w:World)(h:SlS DV.cells 2 w F m cf L)(hL:∀x∈L,SB w x.A x.n x.c x.nd):
  Fn Tryz.prog 111 [.slice F m cf] w (λv w'=>v= .int .i64 (bq L)/\Ext w w'):=by
 have Xb:=h.2;have aZ:m<=9223372036854775807:=by have:=h.1.le;have:=h.1.cap;simp only[maxLen] at this;omega
 refine QF (c:={bQJ with cuts:=[]}) Qa Tryz.func111 rfl rfl rfl ?_;refine loop Qa [8] (λs:Nat=>[.int .i64 s]) (λs w'=>Ext w w'/\s<=m/\∀(j:Nat) (y:DV),j<s->L[j]? =some y->XC y.nd y.r=0) (λs _=>m-s) 0 rfl ⟨Ext.refl w,XM _,λj y hj=>Xm hj (by omega)⟩ ?_;rintro s w1 ⟨Qd,hs,hall⟩;refine QB (λh2=>?_) (λh2=>?_)
 ·refine Zo cv (h.ext Qd) rfl (by omega) (λp x hx hc=>?_);refine J4 (vs:=x.cells) rfl hc ?_;refine new (λw2 Qg X9 Qw=>?_);refine Qx Qw rfl (sc rfl) (λw3 ZT JV Qu=>?_);have Qj:Ext w w3:=Qd.trans (X0 Qg Qw ZT);refine Qs Qu rfl ?_;refine call (yC x.A x.n x.c x.nd x.r w3 ((hL x (Xe hx)).ext Qj)) ?_;rintro v w4 ⟨rfl,Qq⟩;refine aB (λc1=>?_) (λc1=>?_)
  ·exact⟨by rw[dQ5 hall hx c1],Qj.trans Qq⟩
  ·refine Qm ((s+1:Nat):Int) (by omega) (by omega) ?_;refine⟨s+1,rfl,⟨Qj.trans Qq,by omega,λj y hj hy=>?_⟩,by show m-(s+1)<m-s;omega⟩;by_cases Ys:j<s
   ·exact hall j y Ys hy
   ·have:j=s:=by omega
    subst this;rw[Option.some.inj (hy.symm.trans hx)];exact c1
 ·exact⟨by rw[dQ6 (λj y hj hy=>hall j y (by omega) hy)],Qd⟩
theorem N9 (A:Option Addr)(n c:Nat)(a:List Br)(ra:Int)(w0 w:World)(h:SB w A n c a)(hr:∀i,Qi A i->w0.heap.size<=i)(hE:Ext w0 w):
  Fn Tryz.prog 127 [Xg A n c ra] w (og w0 (ii (a,ra))):=by
 have KF:=h.2;refine QF (c:={bQQ with cuts:=[]}) Qa Tryz.func127 rfl rfl rfl ?_;refine new (λw1 Qd Q2 Qh=>?_);refine new (λw2 Qg X9 Qw=>?_);have Q4:=Qd.trans Qg;refine Qv (Qh.ext Qg) rfl ?_;refine QB (λc1=>?_) (λc1=>?_)
 ·have e:ii (a,ra)=(([],0),2):=by unfold ii;rw[Qe (show 4096<(a,ra).1.length by simp only;omega)]
  rw[e];refine Qx Qw rfl (sc rfl) (λw3 ZT _ Qu=>?_);have ZP:Mod (·=w1.heap.size) w2 w3:=mQj ZT rfl;refine Qs Qu rfl ?_;exact⟨none,0,0,rfl,hE.trans (ZP.ext Q4 (λi hi=>by have:=Qd.size;omega)),SlS.nil _,λi ⟨_,e,_⟩=>by cases e⟩
 ·have e:ii (a,ra)=((a,ra),0):=by unfold ii;rw[if_neg (show¬4096<(a,ra).1.length by simp only;omega)]
  rw[e];refine Qs (Qh.ext Qg) rfl ?_;refine Qx Qw rfl (sc rfl) (λw3 ZT _ Qu=>?_);have ZP:Mod (·=w1.heap.size) w2 w3:=mQj ZT rfl;refine Qs Qu rfl ?_;refine⟨A,n,c,rfl,hE.trans (ZP.ext Q4 (λi hi=>by have:=Qd.size;omega)),⟨(h.ext Q4).1.modS ZP (λh0 i hi e=>by obtain⟨ad,rfl,rfl⟩:=hi;have:=SB.lt h ad rfl h0;omega),KF⟩,hr⟩
theorem D7 (k:Int)(w:World)(h0:0<=k)(h1:k<=63):Fn Tryz.prog 34 [.int .i64 k] w (og w (([⟨k,0,1⟩],2),0)):=by
 refine QF (c:={c34 with cuts:=[]}) Qa Tryz.func34 rfl rfl rfl ?_;refine new (λw1 Qd Q2 Qh=>?_);refine Xy (by omega) ?_;refine Xy (by omega) ?_;refine XE Qa [(⟨k,0,1⟩:Br).cells] rfl rfl rfl rfl rfl ⟨rfl,rfl,⟨⟩⟩ rfl (λcs h=>by simp only[QJ] at h;subst h;rfl) rfl (by decide) (by decide) ?_;intro w2 Qg X9 Qw;refine Qx (Qh.ext Qg) rfl (sc rfl) (λw3 ZT _ Qu=>?_);have ZP:Mod (·=w.heap.size) w2 w3:=mQj ZT rfl;refine Qs Qu rfl ?_;refine⟨some ⟨w1.heap.size,0,none⟩,1,1,rfl,ZP.ext (Qd.trans Qg) (λi hi=>by omega),⟨Sl.own (sz:=3) (n:=1) (Qw.mod ZP (by omega)) (QE _) (by decide) (by simp[Br.cells]),rfl⟩,λi ⟨ad,e,hi⟩=>by cases e;simp only at hi;omega⟩
theorem bw (b:Bool)(w:World):Fn Tryz.prog 37 [.bool b] w (λv w'=>v=Xg none 0 0 (if b then 1 else 0)/\Ext w w'):=by
 refine QF (c:={c37 with cuts:=[]}) Qa Tryz.func37 rfl rfl rfl ?_;refine new (λw1 Qd Q2 Qh=>?_);cases b with
 | true=>
  refine Xc rfl ?_;refine Qx Qh rfl (sc rfl) (λw3 ZT _ Qu=>?_);refine Qs Qu rfl ?_;exact⟨rfl,X0 Qd Qh ZT⟩
 | false=>
  refine Xt rfl ?_;refine Qx Qh rfl (sc rfl) (λw3 ZT _ Qu=>?_);refine Qs Qu rfl ?_;exact⟨rfl,X0 Qd Qh ZT⟩
def uA (F:Nat)(op:Int):Prop:=(F=84/\op=0)∨(F=155/\op=1)∨(F=83/\op=3)
theorem D8 {F:Nat}{op:Int}(h:uA F op)(x y:Bool)(w:World):Fn Tryz.prog F [.bool x,.bool y] w (λv w'=>v= .bool (J5 op x y)/\w=w'):=by
 rcases h with⟨rfl,rfl⟩ | ⟨rfl,rfl⟩ | ⟨rfl,rfl⟩
 ·refine QF (c:={c84 with cuts:=[]}) Qa Tryz.func84 rfl rfl rfl ?_;cases x with
  | true=>
   refine Xc rfl ?_;exact⟨rfl,rfl⟩
  | false=>
   refine Xt rfl ?_;exact⟨rfl,rfl⟩
 ·refine QF (c:={cQb with cuts:=[]}) Qa Tryz.func155 rfl rfl rfl ?_;cases x with
  | true=>
   refine Xc rfl ?_;exact⟨rfl,rfl⟩
  | false=>
   refine Xt rfl ?_;exact⟨rfl,rfl⟩
 ·refine QF (c:={c83 with cuts:=[]}) Qa Tryz.func83 rfl rfl rfl ?_;exact⟨rfl,rfl⟩
theorem eQS {F:Nat}{op:Int}(h:uA F op)(ob:Nat)(x y z:Bool)(w:World)(hB:Blk w ob 139 [.func (.func F) #[] #[]]):
  Fn Tryz.prog 129 [.bool x,.bool y,.bool z,.pointer (some ⟨ob,0,none⟩)] w (λv w'=>v= .bool (J5 op x y)/\w=w'):=by
 rcases h with⟨rfl,rfl⟩ | ⟨rfl,rfl⟩ | ⟨rfl,rfl⟩
 ·refine QF (c:={Dl with cuts:=[]}) Qa Tryz.func129 rfl rfl rfl ?_;refine Qv hB rfl ?_;refine call (D8 (op:=0) (.inl ⟨rfl,rfl⟩) x y w) ?_;rintro _ _ ⟨rfl,rfl⟩;exact⟨rfl,rfl⟩
 ·refine QF (c:={Dl with cuts:=[]}) Qa Tryz.func129 rfl rfl rfl ?_;refine Qv hB rfl ?_;refine call (D8 (op:=1) (.inr (.inl ⟨rfl,rfl⟩)) x y w) ?_;rintro _ _ ⟨rfl,rfl⟩;exact⟨rfl,rfl⟩
 ·refine QF (c:={Dl with cuts:=[]}) Qa Tryz.func129 rfl rfl rfl ?_;refine Qv hB rfl ?_;refine call (D8 (op:=3) (.inr (.inr ⟨rfl,rfl⟩)) x y w) ?_;rintro _ _ ⟨rfl,rfl⟩;exact⟨rfl,rfl⟩
theorem mQn {α:Type} [DecidableEq α]{P:Program}{ke:Nat}{kv:α->Value}{len elem:Nat}(hu:P.underlying ke=some (.array len elem))
  (heq:∀(a b:α) (w:World),(Op.equal ke (kv a) (kv b)).run P w= .ok (decide (a=b)) w) (hc:∀b a w,(Instr.checkKey b 10000 ke (kv a)).run P w= .ok () w) (hb:∀a,Instr.sameBits 10000 (kv a) (kv a)=true):KeyQ P ke kv:=by
 refine⟨λa m bs w hl=>?_,hc,hb⟩;have key:=Dr (P:=P) (ke:=ke) (kv:=kv) a w (λb=>heq a b w) m bs 0 hl;obtain⟨r,h1,h2,h3,h4⟩:=key;refine⟨r,?_,h2,λj v hj v'=>by simpa using (h3 j v hj).2 v',h4⟩;unfold Instr.findKey;simp only[Sem.run_bind,ZI hu,Result.andThen_ok];cases m with
 | nil=>
  simp only[XN,List.zip_nil_left,List.map_nil,Instr.findNow,Sem.run_pure];simp[XN,Instr.findAsking] at h1;rw[h1]
 | cons p m=>
  cases bs with
  | nil=>simp at hl
  | cons s bs=>
   have e:XN kv (p::m) (s::bs)={key:=kv p.1,val:=p.2,born:=s}::XN kv m bs:=rfl;rw[e] at h1 ⊢;have hn:Instr.findNow (.array len elem) (kv a) ({key:=kv p.1,val:=p.2,born:=s}::XN kv m bs) 0=none:=by
    simp[Instr.findNow,Instr.sameNow]
   rw[hn];exact h1
abbrev I3:=Int×Int×Int
abbrev cB (t:I3):List Value:=[.int .i64 t.1,.int .i64 t.2.1,.int .i64 t.2.2]
abbrev aI:I3->Value:=λt=>.agg #[.int .i64 t.1,.int .i64 t.2.1,.int .i64 t.2.2]
theorem yR:Tryz.prog.cellsOf 3=1:=by kernel_rfl
theorem uB (a b:Int)(n:Nat)(w:World):(Op.equalIn (n+1) 3 (.int .i64 a) (.int .i64 b)).run Tryz.prog w= .ok (a==b) w:=by
 simp[Op.equalIn,ZI Tryz.underlying3]
theorem eQT (a b:I3)(n:Nat)(w:World):(Op.equalIn (n+2) 242 (aI a) (aI b)).run Tryz.prog w= .ok (decide (a=b)) w:=by
 obtain⟨i,hi⟩:=Ly.1 (show(Tryz.prog.info? 3).isSome=true by kernel_rfl);obtain⟨a0,a1,a2⟩:=a;obtain⟨b0,b1,b2⟩:=b;have e:=run_equalIn_array (w:=w) (n+1) #[.int .i64 a0,.int .i64 a1,.int .i64 a2] #[.int .i64 b0,.int .i64 b1,.int .i64 b2] Tryz.underlying242 hi;rw[yR,show List.range 3=[0,1,2] from rfl] at e;refine e.trans ?_;have p0:∀x y z:Int,(part 3 #[Value.int .i64 x,.int .i64 y,.int .i64 z] (0*1)).run Tryz.prog w= .ok (.int .i64 x) w:=λx y z=>bf k3 rfl w
 have p1:∀x y z:Int,(part 3 #[Value.int .i64 x,.int .i64 y,.int .i64 z] (1*1)).run Tryz.prog w= .ok (.int .i64 y) w:=λx y z=>bf k3 rfl w
 have p2:∀x y z:Int,(part 3 #[Value.int .i64 x,.int .i64 y,.int .i64 z] (2*1)).run Tryz.prog w= .ok (.int .i64 z) w:=λx y z=>bf k3 rfl w
 have dd:decide ((a0,a1,a2)=(b0,b1,b2))=(a0==b0&&(a1==b1&&a2==b2)):=by
  by_cases h0:a0=b0<;>by_cases h1:a1=b1<;>by_cases h2:a2=b2<;>simp[h0,h1,h2]
 rw[dd];simp only[Op.eqItems,Sem.run_bind,p0,Result.andThen_ok,uB];cases h0:a0==b0 with
 | false=>simp
 | true=>
  simp only[Bool.not_true,Lq,if_false,Sem.run_bind,p1,Result.andThen_ok,uB,df];cases h1:a1==b1 with
  | false=>simp
  | true=>
   simp only[Bool.not_true,Lq,if_false,Sem.run_bind,p2,Result.andThen_ok,uB,df];cases h2:a2==b2<;>simp
theorem eQU (b:Bool)(a:I3)(n:Nat)(w:World):(Instr.checkKey b (n+2) 242 (aI a)).run Tryz.prog w= .ok () w:=by
 obtain⟨i,hi⟩:=Ly.1 (show(Tryz.prog.info? 3).isSome=true by kernel_rfl);have p0:∀x y z:Int,(part 3 #[Value.int .i64 x,.int .i64 y,.int .i64 z] 0).run Tryz.prog w= .ok (.int .i64 x) w:=λx y z=>bf k3 rfl w
 have p1:∀x y z:Int,(part 3 #[Value.int .i64 x,.int .i64 y,.int .i64 z] 1).run Tryz.prog w= .ok (.int .i64 y) w:=λx y z=>bf k3 rfl w
 have p2:∀x y z:Int,(part 3 #[Value.int .i64 x,.int .i64 y,.int .i64 z] 2).run Tryz.prog w= .ok (.int .i64 z) w:=λx y z=>bf k3 rfl w
 have hz:(sizeOf 3).run Tryz.prog w= .ok 1 w:=by rw[<-yR];exact Go.run_sizeOf w hi
 simp[Instr.checkKey,ZI Tryz.underlying242,ZI Tryz.underlying3,hz,p0,p1,p2,Std.Legacy.Range.forIn_eq_forIn_range',Std.Legacy.Range.size,List.range'_succ]
theorem yS:KeyQ Tryz.prog 242 aI:=
 mQn Tryz.underlying242 (λa b w=>eQT a b 9998 w) (λb a w=>eQU b a 9998 w) (λa=>by simp[Instr.sameBits])
structure CP where
 ox:Nat
 ob:Nat
 mx:Nat
 lx:Nat
 ax:Nat
 bx:Nat
 pb:Nat
 km:Nat
 mm:Nat
 F:Nat
 D:AD
def CP.caps (p:CP):List Value:=[VP.ptr p.ox,VP.ptr p.mx,VP.ptr p.lx,VP.ptr p.ax,VP.ptr p.bx]
def CP.clo (p:CP):Value:=.func (.func 188) #[] #[VP.ptr p.ox,VP.ptr p.mx,VP.ptr p.lx,VP.ptr p.ax,VP.ptr p.bx]
def CP.lC (p:CP):List Value:=[.slice p.D.A p.D.n p.D.c,.int .i64 p.D.ra,.slice p.D.B p.D.m p.D.d,.int .i64 p.D.rb,.slice none 0 0,.int .i64 0]
structure CK (w:World) (base:Nat) (p:CP):Prop where
 hF:uA p.F p.D.op
 oxb:Blk w p.ox 205 [.func (.func 129) #[] #[VP.ptr p.ob]]
 obb:Blk w p.ob 139 [.func (.func p.F) #[] #[]]
 mxb:Blk w p.mx 272 [.map (some p.mm)]
 lxb:Blk w p.lx 204 p.lC
 axb:Blk w p.ax 273 [p.clo]
 bxb:Blk w p.bx 174 [VP.ptr p.pb]
 as_:SB w p.D.A p.D.n p.D.c p.D.a
 bs:SB w p.D.B p.D.m p.D.d p.D.b
 off:∀k,k=p.ox∨k=p.ob∨k=p.mx∨k=p.lx∨k=p.ax∨k=p.bx->k<base/\k≠p.pb/\k≠p.km/\k≠p.mm
 rowA:∀ad,p.D.A=some ad->0<p.D.n->ad.block<base/\ad.block≠p.pb/\ad.block≠p.km/\ad.block≠p.mm
 rowB:∀ad,p.D.B=some ad->0<p.D.m->ad.block<base/\ad.block≠p.pb/\ad.block≠p.km/\ad.block≠p.mm
def CS (p:CP)(NA:Option Addr):Nat->Prop:=λk=>k=p.mm∨BS p.pb p.km NA k
theorem CS.moved {w:World}{p:CP}{A A':Option Addr}(h:Moved w A A'):∀k,CS p A' k->CS p A k∨w.heap.size<=k:=by
 rintro k (rfl | hk)
 ·exact .inl (.inl rfl)
 ·rcases BS.moved h k hk with h | h
  ·exact .inl (.inr h)
  ·exact .inr h
theorem CS.trans {w w1 w2:World}{p:CP}{A A1:Option Addr}(hm:Mod (CS p A) w w1)(hv:Moved w A A1)(h:Mod (CS p A1) w1 w2):Mod (CS p A) w w2:=hm.trans h (CS.moved hv)
theorem CS.no {p:CP}{base:Nat}{NA:Option Addr}(hr:∀i,Qi NA i->base<=i){k:Nat}(h:k<base/\k≠p.pb/\k≠p.km/\k≠p.mm):¬CS p NA k:=λe=>by
 obtain⟨h1,h2,h3,h4⟩:=h;rcases e with e | e | e | e
 ·exact h4 e
 ·exact h2 e
 ·exact h3 e
 ·have:=hr k e;omega
theorem CK.mod {w w':World}{base:Nat}{p:CP}{NA:Option Addr}(h:CK w base p)(hr:∀i,Qi NA i->base<=i)(hm:Mod (CS p NA) w w'):CK w' base p:=by
 have k:=λk hk=>CS.no (p:=p) hr (h.off k hk)
 refine⟨h.hF,h.oxb.mod hm (k _ (by simp)),h.obb.mod hm (k _ (by simp)),h.mxb.mod hm (k _ (by simp)),h.lxb.mod hm (k _ (by simp)),h.axb.mod hm (k _ (by simp)),h.bxb.mod hm (k _ (by simp)),⟨h.as_.1.modS hm ?_,h.as_.2⟩,⟨h.bs.1.modS hm ?_,h.bs.2⟩,h.off,h.rowA,h.rowB⟩
 ·rintro h0 i ⟨ad,e,rfl⟩;exact CS.no hr (h.rowA ad e h0)
 ·rintro h0 i ⟨ad,e,rfl⟩;exact CS.no hr (h.rowB ad e h0)
theorem CK.ext {w w':World}{base:Nat}{p:CP}(h:CK w base p)(k:Ext w w'):CK w' base p:=
 h.mod (NA:=none) (λi hi=>by obtain⟨_,e,_⟩:=hi;cases e) (Mod.of_ext _ k)
def ik (l:List Tr3)(x y:Int):Option Value:=(l.find? (λt=>decide (t.1=x/\t.2.1=y))).map λt=>.int .i64 t.2.2
structure CSt (w:World) (base:Nat) (p:CP) (NA:Option Addr) (nc:Nat) (st:List Br×List Tr3):Prop where
 bd:Bd w base p.pb p.km NA nc st.1
 memo:∃m,MapQ aI w p.mm m/\∀x y:Int,Xv ((x,y,0):I3) m=ik st.2 x y
 lt:p.mm<base/\p.mm≠p.pb/\p.mm≠p.km
theorem CSt.ext {w w':World}{base:Nat}{p:CP}{NA:Option Addr}{nc:Nat}{st:List Br×List Tr3}(h:CSt w base p NA nc st)(k:Ext w w'):CSt w' base p NA nc st:=
 ⟨h.bd.ext k,let ⟨m,h1,h2⟩:=h.memo;⟨m,h1.ext k,h2⟩,h.lt⟩
def CTo (w:World)(base:Nat)(p:CP)(NA:Option Addr)(st:List Br×List Tr3)(w':World):Prop:=∃NA' nc',CSt w' base p NA' nc' st/\Mod (CS p NA) w w'/\Moved w NA NA'
theorem Og {op x y:Int}(x0:0<=x)(x1:x<2)(y0:0<=y)(y1:y<2):ct op x y=if J5 op (decide (x=1)) (decide (y=1))then 1 else 0:=by
 have h1:=Np (op:=op) x0 x1 y0 y1;have h2:=DK (op:=op) x0 x1 y0 y1;rw[<-h1];by_cases h:ct op x y=1
 ·rw[XX h];exact h
 ·rw[Zf h];show ct op x y=0;omega
theorem rz {a b:List Br}(ha:K6 a)(hb:K6 b)(op:Int):∀(f:Nat)(x y:Int)(st:List Br×List Tr3),0<=x->0<=y->x<a.length+2->y<b.length+2->
  ∀t∈(Xn a b op f x y st).2.2,t∈st.2∨t.1+t.2.1<=x+y
 | 0,x,y,st,_,_,_,_=>λt ht=>.inl ht
 | f+1,x,y,st,x0,y0,hx,hy=>by
  by_cases Xr:x<2/\y<2
  ·rw[jw Xr];exactλt ht=>.inl ht
  cases k:st.2.find? (λt=>decide (t.1=x/\t.2.1=y))with
  | some t=>rw[jx Xr k];exactλt ht=>.inl ht
  | none=>
   have Zs:min (Qk a x) (Qk b y)<64:=by
    by_cases c:x<2
    ·have:=WE hb (n:=y) (λc2=>Xr ⟨c,c2⟩) (by omega);rw[ZR];split<;>omega
    ·have:=WE ha (n:=x) c (by omega);rw[ZR];split<;>omega
   rw[jy Xr k _ rfl];generalize min (Qk a x) (Qk b y)=v at*;obtain⟨s1,s2,s3,s4,s5⟩:=YP ha (n:=x) x0 Zs;obtain⟨t1,t2,t3,t4,t5⟩:=YP hb (n:=y) y0 Zs;have j1:=rz ha hb op f _ _ st s1 t1 (by omega) (by omega);generalize (Xn a b op f (Ql a x v).1 (Ql b y v).1 st)=r0 at*;have j2:=rz ha hb op f _ _ r0.2 s3 t3 (by omega) (by omega);generalize (Xn a b op f (Ql a x v).2 (Ql b y v).2 r0.2)=r1 at*;intro t ht;simp only[XB,QJ] at ht;rcases ht with ht | rfl
   ·rcases j2 t ht with h1 | h1
    ·rcases j1 t h1 with h2 | h2
     ·exact .inl h2
     ·exact .inr (by omega)
    ·exact .inr (by omega)
   ·exact .inr (by simp only;omega)
theorem Oh (base:Nat)(p:CP)(ha:K6 p.D.a)(hb:K6 p.D.b)(cX:p.D.n<=1000000000000/\p.D.m<=1000000000000):∀(m:Nat)(x y:Int)(st:List Br×List Tr3)(NA:Option Addr)(nc:Nat)(w:World),
  CK w base p->CSt w base p NA nc st->0<=x->0<=y->x+y<m->x<p.D.n+2->y<p.D.m+2->(Xn p.D.a p.D.b p.D.op m x y st).2.1.length<=100000000000->
  Fn Tryz.prog 188 (aI (x,y,0)::p.caps) w (λv w'=>v= .int .i64 (Xn p.D.a p.D.b p.D.op m x y st).1/\CTo w base p NA (Xn p.D.a p.D.b p.D.op m x y st).2 w')
 | 0,x,y,st,NA,nc,w,_,_,x0,y0,hm,_,_,_=>by omega
 | m+1,x,y,st,NA,nc,w,hK,hS,x0,y0,hm,hx,hy,Xu=>by
  have ih:=Oh base p ha hb cX m;have KF:p.D.a.length=p.D.n:=hK.as_.2;have ee:p.D.b.length=p.D.m:=hK.bs.2;have kI:=hS.bd.top;have Io:∀i,Qi NA i->base<=i:=λi hi=>(hS.bd.own.rows i hi).1
  refine QF (c:={Mr with cuts:=[1]}) Qa Tryz.func188 rfl rfl rfl ?_;refine new (λw1 Qd Q2 Qh=>?_)
  replace Qh:Blk w1 w.heap.size 242 (cB (x,y,0)):=Qh;have JX:=hK.ext Qd;have KC:=hS.ext Qd;have oB:w.heap.size<w1.heap.size:=by omega
  refine ia [] Qa [] (λ_:Unit=>[]) (λ_ w'=>w1=w'/\¬(x<2/\y<2)) ?_ ?_
  ·refine index (j:=0) (by decide) ?_;refine Qp Qh rfl ?_;refine QB (λc1=>?_) (λc1=>?_)
   ·refine index (j:=1) (by decide) ?_;refine Qp Qh rfl ?_;refine QB (λc2=>?_) (λc2=>?_)
    ·refine index (j:=2) (by decide) ?_;refine Qp Qh rfl ?_;refine X7 (show(0:Int)<2 by decide) ?_;refine Qv JX.oxb rfl ?_;refine index (j:=0) (by decide) ?_;refine Qp Qh rfl ?_;refine index (j:=1) (by decide) ?_;refine Qp Qh rfl ?_;refine index (j:=2) (by decide) ?_;refine Qp Qh rfl ?_;rw[jw ⟨c1,c2⟩,Og x0 c1 y0 c2];refine call (eQS hK.hF p.ob (decide (x=1)) (decide (y=1)) (decide ((0:Int)=1)) w1 JX.obb) ?_;rintro v _ ⟨rfl,rfl⟩;cases J5 p.D.op (decide (x=1)) (decide (y=1))with
     | true=>
      refine Xc rfl ?_;exact⟨rfl,NA,nc,KC,Mod.of_ext _ Qd,Moved.refl _ _⟩
     | false=>
      refine Xt rfl ?_;exact⟨rfl,NA,nc,KC,Mod.of_ext _ Qd,Moved.refl _ _⟩
    ·exact⟨(),rfl,rfl,λhh=>c2 hh.2⟩
   ·exact⟨(),rfl,rfl,λhh=>c1 hh.1⟩
  rintro⟨⟩ _ ⟨rfl,Xr⟩;obtain⟨mq,cW,Ko⟩:=KC.memo;refine Qv JX.mxb rfl ?_;refine Qs Qh rfl ?_;refine Ds (kv:=aI) (a:=((x,y,0):I3)) Qa rfl rfl rfl rfl yS rfl rfl cW ?_;cases k:st.2.find? (λt=>decide (t.1=x/\t.2.1=y))with
  | some t=>
   have cY:Xv ((x,y,0):I3) mq=some (.int .i64 t.2.2):=by rw[Ko,ik,k]<;>rfl
   refine Xc (by rw[cY];rfl) ?_;rw[jx Xr k];exact⟨by rw[cY];rfl,NA,nc,KC,Mod.of_ext _ Qd,Moved.refl _ _⟩
  | none=>
  have cY:Xv ((x,y,0):I3) mq=none:=by rw[Ko,ik,k]<;>rfl
  refine Xt (by rw[cY];rfl) ?_;have Zs:min (Qk p.D.a x) (Qk p.D.b y)<64:=by
   by_cases c:x<2
   ·have:=WE hb (n:=y) (λc2=>Xr ⟨c,c2⟩) (by omega);rw[ZR];split<;>omega
   ·have:=WE ha (n:=x) c (by omega);rw[ZR];split<;>omega
  have Ip:SB w1 none 0 0 []:=SlS.nil _;have qL:∀w',Ext w1 w'->∀(j:Nat) (v:Value),p.lC[j]? =some v->w'.cell? ((⟨p.lx,0,none⟩:Addr).add j)=some v:=λw' Qb j v hj=>by rw[(JX.lxb.ext Qb).cell];exact hj
  have qN:∀w',Ext w1 w'->∀(j:Nat) (v:Value),(cB (x,y,0))[j]? =some v->w'.cell? ((⟨w.heap.size,0,none⟩:Addr).add j)=some v:=λw' Qb j v hj=>by rw[(Qh.ext Qb).cell];exact hj
  refine XJ Qa (Ext w1) 17 [(true,0),(true,1),(true,2),(true,3),(true,5),(true,6),(true,7),(true,8),(true,10),(true,11),(true,12),(true,13),(false,4),(false,9),(false,14),(true,15),(true,16)] (by kernel_rfl) (Ext.drew w1) ?_;refine JC (j:=0) (by decide) ?_;refine Xl (vs:=[.slice p.D.A p.D.n p.D.c,.int .i64 p.D.ra]) rfl (λw' Qb j v hj=>by
   rw[add_add,(JX.lxb.ext Qb).cell]
   match j,hj with
   | 0,hj=>exact hj
   | 1,hj=>exact hj) ?_
  refine index (j:=0) (by decide) ?_;refine QL (v:=.int .i64 x) (λw' Qb=>qN w' Qb 0 _ rfl) ?_;refine JC (j:=1) (by decide) ?_;refine Xl (vs:=[.slice p.D.B p.D.m p.D.d,.int .i64 p.D.rb]) rfl (λw' Qb j v hj=>by
   rw[add_add,(JX.lxb.ext Qb).cell]
   match j,hj with
   | 0,hj=>exact hj
   | 1,hj=>exact hj) ?_
  refine index (j:=1) (by decide) ?_;refine QL (v:=.int .i64 y) (λw' Qb=>qN w' Qb 1 _ rfl) ?_;refine JC (j:=2) (by decide) ?_;refine Xl (vs:=[.slice none 0 0,.int .i64 0]) rfl (λw' Qb j v hj=>by
   rw[add_add,(JX.lxb.ext Qb).cell]
   match j,hj with
   | 0,hj=>exact hj
   | 1,hj=>exact hj) ?_
  refine index (j:=2) (by decide) ?_;refine QL (v:=.int .i64 0) (λw' Qb=>qN w' Qb 2 _ rfl) ?_;refine call (cr p.D.A p.D.n p.D.c p.D.ra x p.D.a _ (JX.as_.ext (Ext.drew w1)) (by omega)) ?_;rintro u w2 ⟨rfl,Qg⟩;have Xq:=(Ext.drew w1).trans Qg;refine⟨Xq,?_⟩;refine call (cr p.D.B p.D.m p.D.d p.D.rb y p.D.b _ (JX.bs.ext Xq) (by omega)) ?_;rintro u w3 ⟨rfl,Qj⟩;have XD:=Xq.trans Qj;refine⟨XD,?_⟩;refine call (cr none 0 0 0 0 [] _ (Ip.ext XD) (by simp)) ?_;rintro u w4 ⟨rfl,Qq⟩;have Jl:=XD.trans Qq;refine⟨Jl,?_⟩;have vp:Qk [] 0=64:=rfl;rw[vp];have Iq: -9223372036854775808<=min (Qk p.D.a x) (Qk p.D.b y):=by
   have pos:∀{d:List Br},K6 d->∀{n:Int},n<d.length+2->0<=Qk d n:=λ{d} hd {n} hn=>by
    by_cases h2:n<2
    ·rw[fL h2];omega
    ·obtain⟨z,hz⟩:=YQ h2 hn;rw[cy h2 hz];exact(hd.2 _ _ hz).1
   have p1:=pos ha (n:=x) (by omega);have p2:=pos hb (n:=y) (by omega);rw[ZR];split<;>omega
  have FY:(if(64:Int)<(if Qk p.D.b y<Qk p.D.a x then Qk p.D.b y else Qk p.D.a x)then 64 else(if Qk p.D.b y<Qk p.D.a x then Qk p.D.b y else Qk p.D.a x))=min (Qk p.D.a x) (Qk p.D.b y):=by
   rw[ZR] at Zs ⊢;split at Zs<;>split<;>split<;>omega
  refine norm (m:=min (Qk p.D.a x) (Qk p.D.b y)) FY ?_;rw[jy Xr k _ rfl] at Xu ⊢;generalize wK:min (Qk p.D.a x) (Qk p.D.b y)=v at*;have QZ:=Qh.ext Jl;have Vt:=JX.ext Jl;have Wf:=KC.ext Jl;have XF:=Qd.trans Jl;have FZ:=Jl.size;refine new (λw5 Qt Kv F0=>?_);refine new (λw6 Q6 cL F3=>?_);have Xx:=Qt.trans Q6;have F4:=F0.ext Q6;have Xh:=QZ.ext Xx;have aQ:=Vt.ext Xx;have iD:=Wf.ext Xx;have XG:=XF.trans Xx;obtain⟨s1,s2,s3,s4,s5⟩:=YP ha (n:=x) x0 Zs;obtain⟨t1,t2,t3,t4,t5⟩:=YP hb (n:=y) y0 Zs;refine loop Qa [64] (λs:Nat=>[.int .i64 s]) (λs w'=>Mod (λi=>i=w4.heap.size∨i=w5.heap.size) w6 w'/\s<=3/\Blk w' w4.heap.size 242 (cB (if 0<s then(Ql p.D.a x v).1 else 0,if 1<s then(Ql p.D.b y v).1 else 0,0))/\Blk w' w5.heap.size 242 (cB (if 0<s then(Ql p.D.a x v).2 else 0,if 1<s then(Ql p.D.b y v).2 else 0,0))) (λs _=>3-s) 0 rfl ⟨Mod.refl _ _,XM _,F4,F3⟩ ?_;rintro s w7 ⟨Q8,o6,dP,bI⟩;have hbz:base<=w4.heap.size:=by have:=Qd.size;omega
  have Sr:w5.heap.size=w4.heap.size+1:=Kv;have wL:w.heap.size<w4.heap.size:=by omega
  have wM:∀k,k<w4.heap.size->¬(k=w4.heap.size∨k=w5.heap.size):=λk hk e=>by omega
  have hlx:=hK.off p.lx (by simp);have Q1:Ext w w7:=Q8.ext XG (λi hi=>by omega);have sk:Ext w1 w7:=Q8.ext (Jl.trans Xx) (λi hi=>by omega);have VO:Ext w4 w7:=Q8.ext Xx (λi hi=>by omega);have QY:=QZ.ext VO;have Wg:=Vt.ext VO;have KW:=Wf.ext VO;have YS:=Q8.size;have nLX:=wM p.lx (by omega);have nB:=wM w.heap.size wL;have h0:Ql [] 0 v=(0,0):=by unfold Ql;rw[Qe (show Qk [] 0≠v by rw[vp];omega)]
  by_cases hs:s<3
  ·rcases(show s=0∨s=1∨s=2 by omega)with rfl | rfl | rfl
   ·refine X7 (show((0:Nat):Int)<3 by decide) ?_;refine XJ Qa (Mod (λi=>i=w4.heap.size∨i=w5.heap.size) w7) 17 [(true,0),(true,1),(true,2),(true,3),(true,4),(true,5),(true,6),(true,7),(true,8),(false,9),(true,10),(true,11),(true,12),(true,13),(false,14),(true,15),(false,16)] (by kernel_rfl) (Mod.of_ext _ (Ext.drew w7)) ?_;refine JC (j:=0) (by decide) ?_;refine Xl (vs:=[.slice p.D.A p.D.n p.D.c,.int .i64 p.D.ra]) rfl (λw' Qb j v hj=>by
     rw[add_add,(Wg.lxb.mod Qb nLX).cell]
     match j,hj with
     | 0,hj=>exact hj
     | 1,hj=>exact hj) ?_
    refine index (j:=0) (by decide) ?_;refine QL (v:=.int .i64 x) (λw' Qb=>by rw[(QY.mod Qb nB).cell];rfl) ?_;refine call (ij p.D.A p.D.n p.D.c p.D.ra x v p.D.a _ (Wg.as_.ext (Ext.drew w7)) (by omega) Zs) ?_;rintro u w8 ⟨rfl,Q9⟩;have J2:=(Ext.drew w7).trans Q9;refine⟨Mod.of_ext _ J2,?_⟩;refine index (j:=0) (by decide) ?_;refine XK (dP.ext J2) (by simp) (λw9 Zc gl=>?_);have KK:Mod (λi=>i=w4.heap.size∨i=w5.heap.size) w7 w9:=(Mod.of_ext _ J2).trans Zc (λi hi=>.inl (.inl hi));refine⟨KK,?_⟩;have dN:=KK.size;refine index (j:=0) (by decide) ?_;refine XK (((bI.ext J2).mod Zc (by show¬w5.heap.size=w4.heap.size;omega))) (by simp) (λQG Zk dQ=>?_);have Wh:Mod (λi=>i=w4.heap.size∨i=w5.heap.size) w7 QG:=KK.trans Zk (λi hi=>.inl (.inr hi));refine⟨Wh,?_⟩;have dR:=gl.mod Zk (by show¬w4.heap.size=w5.heap.size;omega);refine Qm ((1:Nat):Int) (by decide) (by decide) ?_;exact⟨1,rfl,⟨Q8.trans Wh (λi hi=>.inl hi),by decide,dR,dQ⟩,by show 3-1<3-0;decide⟩
   ·refine X7 (show((1:Nat):Int)<3 by decide) ?_;refine XJ Qa (Mod (λi=>i=w4.heap.size∨i=w5.heap.size) w7) 17 [(true,0),(true,1),(true,2),(true,3),(true,4),(true,5),(true,6),(true,7),(true,8),(false,9),(true,10),(true,11),(true,12),(true,13),(false,14),(true,15),(false,16)] (by kernel_rfl) (Mod.of_ext _ (Ext.drew w7)) ?_;refine JC (j:=1) (by decide) ?_;refine Xl (vs:=[.slice p.D.B p.D.m p.D.d,.int .i64 p.D.rb]) rfl (λw' Qb j v hj=>by
     rw[add_add,(Wg.lxb.mod Qb nLX).cell]
     match j,hj with
     | 0,hj=>exact hj
     | 1,hj=>exact hj) ?_
    refine index (j:=1) (by decide) ?_;refine QL (v:=.int .i64 y) (λw' Qb=>by rw[(QY.mod Qb nB).cell];rfl) ?_;refine call (ij p.D.B p.D.m p.D.d p.D.rb y v p.D.b _ (Wg.bs.ext (Ext.drew w7)) (by omega) Zs) ?_;rintro u w8 ⟨rfl,Q9⟩;have J2:=(Ext.drew w7).trans Q9;refine⟨Mod.of_ext _ J2,?_⟩;refine index (j:=1) (by decide) ?_;refine XK (dP.ext J2) (by simp) (λw9 Zc gl=>?_);have KK:Mod (λi=>i=w4.heap.size∨i=w5.heap.size) w7 w9:=(Mod.of_ext _ J2).trans Zc (λi hi=>.inl (.inl hi));refine⟨KK,?_⟩;have dN:=KK.size;refine index (j:=1) (by decide) ?_;refine XK (((bI.ext J2).mod Zc (by show¬w5.heap.size=w4.heap.size;omega))) (by simp) (λQG Zk dQ=>?_);have Wh:Mod (λi=>i=w4.heap.size∨i=w5.heap.size) w7 QG:=KK.trans Zk (λi hi=>.inl (.inr hi));refine⟨Wh,?_⟩;have dR:=gl.mod Zk (by show¬w4.heap.size=w5.heap.size;omega);refine Qm ((2:Nat):Int) (by decide) (by decide) ?_;exact⟨2,rfl,⟨Q8.trans Wh (λi hi=>.inl hi),by decide,dR,dQ⟩,by show 3-2<3-1;decide⟩
   ·refine X7 (show((2:Nat):Int)<3 by decide) ?_;refine XJ Qa (Mod (λi=>i=w4.heap.size∨i=w5.heap.size) w7) 17 [(true,0),(true,1),(true,2),(true,3),(true,4),(true,5),(true,6),(true,7),(true,8),(false,9),(true,10),(true,11),(true,12),(true,13),(false,14),(true,15),(false,16)] (by kernel_rfl) (Mod.of_ext _ (Ext.drew w7)) ?_;refine JC (j:=2) (by decide) ?_;refine Xl (vs:=[.slice none 0 0,.int .i64 0]) rfl (λw' Qb j v hj=>by
     rw[add_add,(Wg.lxb.mod Qb nLX).cell]
     match j,hj with
     | 0,hj=>exact hj
     | 1,hj=>exact hj) ?_
    refine index (j:=2) (by decide) ?_;refine QL (v:=.int .i64 0) (λw' Qb=>by rw[(QY.mod Qb nB).cell];rfl) ?_;refine call (ij none 0 0 0 0 v [] _ (SlS.nil _) (by decide) Zs) ?_;rintro u w8 ⟨rfl,Q9⟩;have J2:=(Ext.drew w7).trans Q9;refine⟨Mod.of_ext _ J2,?_⟩;refine index (j:=2) (by decide) ?_;refine XK (dP.ext J2) (by simp) (λw9 Zc gl=>?_);have KK:Mod (λi=>i=w4.heap.size∨i=w5.heap.size) w7 w9:=(Mod.of_ext _ J2).trans Zc (λi hi=>.inl (.inl hi));refine⟨KK,?_⟩;have dN:=KK.size;refine index (j:=2) (by decide) ?_;refine XK (((bI.ext J2).mod Zc (by show¬w5.heap.size=w4.heap.size;omega))) (by simp) (λQG Zk dQ=>?_);have Wh:Mod (λi=>i=w4.heap.size∨i=w5.heap.size) w7 QG:=KK.trans Zk (λi hi=>.inl (.inr hi));refine⟨Wh,?_⟩;have dR:=gl.mod Zk (by show¬w4.heap.size=w5.heap.size;omega);refine Qm ((3:Nat):Int) (by decide) (by decide) ?_;rw[h0] at dR dQ;exact⟨3,rfl,⟨Q8.trans Wh (λi hi=>.inl hi),by decide,dR,dQ⟩,by show 3-3<3-2;decide⟩
  ·have:s=3:=by omega
   subst this;refine Xy (show¬((3:Nat):Int)<3 by decide) ?_
   replace dP:Blk w7 w4.heap.size 242 (cB ((Ql p.D.a x v).1,(Ql p.D.b y v).1,0)):=dP
   replace bI:Blk w7 w5.heap.size 242 (cB ((Ql p.D.a x v).2,(Ql p.D.b y v).2,0)):=bI;have ei:Qk p.D.a x=v∨Qk p.D.b y=v:=by rw[<-wK,ZR];split<;>simp
   have dec:(Ql p.D.a x v).1+(Ql p.D.b y v).1<x+y/\(Ql p.D.a x v).2+(Ql p.D.b y v).2<x+y:=by
    rcases ei with e | e
    ·have:=s5 e;omega
    ·have:=t5 e;omega
   have F5:=rz ha hb p.D.op m (Ql p.D.a x v).1 (Ql p.D.b y v).1 st s1 t1 (by omega) (by omega);have F6:=rz ha hb p.D.op m (Ql p.D.a x v).2 (Ql p.D.b y v).2 (Xn p.D.a p.D.b p.D.op m (Ql p.D.a x v).1 (Ql p.D.b y v).1 st).2 s3 t3 (by omega) (by omega);have mo2:=ly p.D.a p.D.b p.D.op m (Ql p.D.a x v).2 (Ql p.D.b y v).2 (Xn p.D.a p.D.b p.D.op m (Ql p.D.a x v).1 (Ql p.D.b y v).1 st).2;have c1:=ih (Ql p.D.a x v).1 (Ql p.D.b y v).1 st NA nc w7 Wg KW s1 t1 (by omega) (by omega) (by omega);have c2:=λN1 n1 w' h1 h2=>ih (Ql p.D.a x v).2 (Ql p.D.b y v).2 (Xn p.D.a p.D.b p.D.op m (Ql p.D.a x v).1 (Ql p.D.b y v).1 st).2 N1 n1 w' h1 h2 s3 t3 (by omega) (by omega) (by omega)
   generalize (Xn p.D.a p.D.b p.D.op m (Ql p.D.a x v).1 (Ql p.D.b y v).1 st)=r0 at*;generalize (Xn p.D.a p.D.b p.D.op m (Ql p.D.a x v).2 (Ql p.D.b y v).2 r0.2)=r1 at*;have ul:=ug ⟨v,r0.1,r1.1⟩ r1.2.1;have ul2:(ZN ⟨v,r0.1,r1.1⟩ r1.2.1).1.length<=r1.2.1.length+1:=by
    unfold ZN;split
    ·exact xD _
    ·split
     ·exact xD _
     ·simp
   simp only at Xu;refine Qv Wg.axb rfl ?_;refine Qs dP rfl ?_;refine call (c1 (by omega)) ?_;rintro _ QD ⟨rfl,N1,n1,o7,ZQ,vq⟩;have F7:=bI.lt;have iE:=hS.bd.own.rows;obtain⟨l1,l2,l3⟩:=hS.lt;obtain⟨b1,b2,b3⟩:=hS.bd.lt;have new:∀k,w.heap.size<=k->¬CS p NA k:=λk hk e=>by
    rcases e with e | e | e | e
    ·omega
    ·omega
    ·omega
    ·have:=(iE k e).2;omega
   have dS:=Wg.mod Io ZQ;have F8:=bI.mod ZQ (new _ (by omega));have ZU:=QY.mod ZQ (new _ (QE _));have aN:∀i,Qi N1 i->base<=i:=λi hi=>(o7.bd.own.rows i hi).1
   have vr:∀k,w.heap.size<=k->k<w7.heap.size->¬CS p N1 k:=λk hk h7 e=>by
    rcases CS.moved vq k e with e | e
    ·exact new k hk e
    ·omega
   have sm:=ZQ.size;have Ir:=QY.lt;refine XJ Qa (Mod (CS p N1) QD) 8 [(true,0),(true,1),(true,2),(true,3),(true,4),(false,5),(false,6),(true,7)] (by kernel_rfl) (Mod.of_ext _ (Ext.drew QD)) ?_;have nof:=λk hk=>CS.no (p:=p) aN (dS.off k hk)
   refine QL (v:=VP.ptr p.pb) (λw' Qb=>by rw[(dS.bxb.mod Qb (nof _ (by simp))).cell0];rfl) ?_;refine QL (v:=p.clo) (λw' Qb=>by rw[(dS.axb.mod Qb (nof _ (by simp))).cell0];rfl) ?_;refine Xl (vs:=cB ((Ql p.D.a x v).2,(Ql p.D.b y v).2,0)) rfl (λw' Qb j v hj=>by rw[(F8.mod Qb (vr _ (by omega) F7)).cell];exact hj) ?_;refine call (c2 N1 n1 _ (dS.ext (Ext.drew QD)) (o7.ext (Ext.drew QD)) (by omega)) ?_;rintro _ Q5 ⟨rfl,N2,n2,ah,Va,r6⟩;have j8:Mod (CS p N1) QD Q5:=(Mod.of_ext _ (Ext.drew QD)).trans Va (λi hi=>.inl hi);have vt:Moved QD N1 N2:=r6.back (Ext.drew QD).size;refine⟨j8,?_⟩;have WR:∀i,Qi N2 i->base<=i:=λi hi=>(ah.bd.own.rows i hi).1
   refine call (N8 base p.pb p.km N2 n2 r1.2.1 ⟨v,r0.1,r1.1⟩ Q5 ah.bd (by omega)) ?_;rintro _ XR ⟨rfl,N3,n3,bJ,J1,F9⟩;have Ga:Mod (CS p N2) Q5 XR:=J1.mono (λi hi=>.inl (.inr hi));have j9:Mod (CS p N1) QD XR:=CS.trans j8 vt Ga;refine⟨j9,?_⟩;have iQZ:=dS.mod aN j8;have Gb:=dS.mod aN j9;have KJ:=ZU.mod j9 (vr _ (QE _) Ir);obtain⟨Gc,uX,Gd⟩:=ah.memo;have Ge:MapQ aI XR p.mm Gc:=uX.mod J1 (λe=>by
    rcases e with e | e | e
    ·exact l2 e
    ·exact l3 e
    ·have:=WR _ e;omega)
   refine Qv Gb.mxb rfl ?_;refine Qs KJ rfl ?_;refine qJ (kv:=aI) (a:=((x,y,0):I3)) Qa rfl rfl rfl rfl yS rfl rfl rfl Ge (λZa KA iQ0 Gf=>?_);have ZM:∀k,k≠p.mm->¬(k=p.mm):=λk h=>h
   obtain⟨d1,d2,d3⟩:=bJ.lt;have Gg:∀i,Qi N3 i->base<=i:=λi hi=>(bJ.own.rows i hi).1
   obtain⟨kq,Is,wN⟩:=bJ.known;have Gh:Bd Za base p.pb p.km N3 n3 (ZN ⟨v,r0.1,r1.1⟩ r1.2.1).1:=⟨bJ.blk.mod KA (λe=>l2 e.symm),bJ.own.mod KA (λi hi e=>by have:=Gg i hi;have e':i=p.mm:=e;omega),⟨kq,Is.mod KA (λe=>l3 e.symm),wN⟩,bJ.lt,Ze bJ.top KA.size⟩
   have Gi:Mod (CS p NA) w w7:=Mod.of_ext _ Q1;have iQ1:Moved w NA NA:=Moved.refl _ _;have vu:Mod (CS p NA) w QD:=Gi.trans ZQ (λi hi=>.inl hi);have vv:Moved w NA N1:=vq.back Q1.size;have Gj:Mod (CS p NA) w XR:=CS.trans vu vv j9;have mr:Mod (CS p NA) w Za:=Gj.trans KA (λi hi=>.inl (.inl hi));have Gk:Moved w NA N3:=vv.trans (vt.trans F9 j8.size) vu.size;refine⟨rfl,N3,n3,⟨Gh,⟨_,Gf,λx' y'=>?_⟩,hS.lt⟩,mr,Gk⟩;have Xi:r1.2.2.find? (λt=>decide (t.1=x/\t.2.1=y))=none:=by
    rw[tD];intro t ht hh;simp only[Vl] at hh;rcases F6 t ht with h1 | h1
    ·rcases F5 t h1 with h2 | h2
     ·have:=tD.1 k t h2;simp only[Vl] at this;exact this hh
     ·omega
    ·omega
   rw[W7,Gd,ik,ik,List.find?_append];by_cases VV:(x',y')=(x,y)
   ·cases VV;rw[Qe rfl,Xi];simp
   ·rw[if_neg (λe=>VV (by cases e;rfl))];have: [(x,y,(ZN ⟨v,r0.1,r1.1⟩ r1.2.1).2)].find? (λt:Tr3=>decide (t.1=x'/\t.2.1=y'))=none:=by
     rw[CN]
     ·rfl
     ·simp only[Vl];exactλe=>VV (by rw[e.1,e.2])
    rw[this];simp
theorem Oi (w:World):Fn Tryz.prog 187 [] w (λv w'=>v=VP.ptr (w.heap.size+1)/\Ext w w'/\w'.heap.size=w.heap.size+2/\Blk w' (w.heap.size+1) 177 [.slice none 0 0,.map (some w.heap.size)]/\MapQ bn w' w.heap.size []):=by
 refine QF (c:={cQq with cuts:=[]}) Qa Tryz.func187 rfl rfl rfl ?_;refine qI Qa bn rfl ?_;intro w1 Qd Q2 Zj;refine new (λw2 Qg X9 Qw=>?_);rw[Q2] at Qw;exact⟨by rw[Q2];rfl,Qd.trans Qg,by omega,Qw,Zj.ext Qg⟩
theorem eQV (A:Option Addr)(n c:Nat)(a:List Br)(ra:Int)(B:Option Addr)(m d:Nat)(b:List Br)(rb op:Int)(F ob:Nat)(w:World)(hF:uA F op)(h:SB w A n c a)(h':SB w B m d b)(Cf:Blk w ob 139 [.func (.func F) #[] #[]])(ha:K6 a)(hb:K6 b)(r0:0<=ra)(r1:ra<n+2)(s0:0<=rb)(s1:rb<m+2)(hn:n<=1000000000000)(hm:m<=1000000000000)
  (Xu:(jz a ra b rb op).2.1.length<=100000000000):
  Fn Tryz.prog 128 [.agg #[.slice A n c,.int .i64 ra,.slice B m d,.int .i64 rb,.slice none 0 0,.int .i64 0],.func (.func 129) #[] #[VP.ptr ob]] w (ue w (Vo a ra b rb op)):=by
 have KF:=h.2;have ee:=h'.2;have lQ3:=Cf.lt;refine QF (c:={Mp with cuts:=[]}) Qa Tryz.func128 rfl rfl rfl ?_;refine new (λw1 Qd Q2 Qh=>?_);refine new (λw2 Qg X9 Qw=>?_);refine new (λw3 Qj JV Qu=>?_);refine call (Oi w3) ?_;rintro _ w4 ⟨rfl,Qq,Kz,QZ,kc⟩;refine new (λw5 Qt Kv QH=>?_);refine XK (j:=0) QH (by decide) (λw6 KI Xh=>?_);have Xx:Ext w4 w6:=KI.ext Qt (λi hi=>by omega);refine qI Qa aI rfl ?_;intro w7 Q1 YS Gl;refine new (λw8 Q9 Vs Xp=>?_);refine XK (j:=0) Xp (by decide) (λw9 Zc JM=>?_);have Ya:Ext w7 w9:=Zc.ext Q9 (λi hi=>by omega);refine new (λQG Zw vl J9=>?_);refine XK (j:=0) J9 (by decide) (λQD ZQ ZU=>?_);have z6:=KI.size;have z9:=Zc.size;have zW:=ZQ.size;have eZ:Ext w9 QD:=ZQ.ext Zw (λi hi=>by omega);have kf:Ext w6 QD:=(Q1.trans Ya).trans eZ;have bK:Ext w4 QD:=Xx.trans kf;have KB:=Qq;have kg:Ext w3 QD:=Qq.trans bK;have YB:Ext w QD:=((Qd.trans Qg).trans Qj).trans kg
 let D:AD:=⟨A,n,c,a,ra,B,m,d,b,rb,op⟩
 let p:CP:=⟨w1.heap.size,ob,w7.heap.size,w.heap.size,w9.heap.size,w4.heap.size,w3.heap.size+1,w3.heap.size,w6.heap.size,F,D⟩
 have vw:=ZU.lt;have hK:CK QD QD.heap.size p:=by
  refine⟨hF,Qw.ext (Qj.trans kg),Cf.ext YB,JM.ext eZ,Qh.ext ((Qg.trans Qj).trans kg),ZU,Xh.ext kf,h.ext YB,h'.ext YB,λk hk=>?_,λad e h0=>?_,λad e h0=>?_⟩
  ·simp only[p] at hk ⊢;rcases hk with rfl | rfl | rfl | rfl | rfl | rfl<;>omega
  ·have:=SB.lt h ad e h0;simp only[p];omega
  ·have:=SB.lt h' ad e h0;simp only[p];omega
 have hS:CSt QD QD.heap.size p none 0 ([],[]):=by
  refine⟨⟨QZ.ext bK,Own.nil _ _ _ _,⟨[],kc.ext bK,λ_=>rfl⟩,?_,QE _⟩,⟨[],Gl.ext (Ya.trans eZ),λ_ _=>rfl⟩,?_⟩
  ·simp only[p];omega
  ·simp only[p];omega
 have Xi:∀i,Qi none i->QD.heap.size<=i:=λi hi=>by obtain⟨_,e,_⟩:=hi;cases e
 have nof:=λk hk=>CS.no (p:=p) Xi (hK.off k hk)
 refine XJ Qa (Mod (CS p none) QD) 14 [(true,0),(true,1),(true,2),(true,3),(true,4),(true,5),(true,6),(true,7),(true,8),(true,9),(true,10),(true,11),(false,12),(false,13)] (by kernel_rfl) (Mod.of_ext _ (Ext.drew QD)) ?_;refine QL (v:=VP.ptr p.pb) (λw' Qb=>by rw[(hK.bxb.mod Qb (nof _ (by simp))).cell0];rfl) ?_;refine QL (v:=p.clo) (λw' Qb=>by rw[(hK.axb.mod Qb (nof _ (by simp))).cell0];rfl) ?_;refine JC (j:=0) (by decide) ?_;refine QL (v:=.int .i64 ra) (λw' Qb=>by rw[add_add,(hK.lxb.mod Qb (nof _ (by simp))).cell];rfl) ?_;refine JC (j:=1) (by decide) ?_;refine QL (v:=.int .i64 rb) (λw' Qb=>by rw[add_add,(hK.lxb.mod Qb (nof _ (by simp))).cell];rfl) ?_;refine JC (j:=2) (by decide) ?_;refine QL (v:=.int .i64 0) (λw' Qb=>by rw[add_add,(hK.lxb.mod Qb (nof _ (by simp))).cell];rfl) ?_;have inv:=uj ha hb op (ra.toNat+rb.toNat+1) ra rb ([],[]) ⟨λj x hx=>by simp at hx,λt ht=>by simp at ht⟩ r0 s0 (by omega) (by omega);refine call (Oh QD.heap.size p ha hb ⟨hn,hm⟩ (ra.toNat+rb.toNat+1) ra rb ([],[]) none 0 _ (hK.ext (Ext.drew QD)) (hS.ext (Ext.drew QD)) r0 s0 (by omega) r1 s1 Xu) ?_;rintro _ Q5 ⟨rfl,NA,nc,ah,Gm,r6⟩;have Va:Mod (CS p none) QD Q5:=(Mod.of_ext _ (Ext.drew QD)).trans Gm (λi hi=>.inl hi);refine⟨Va,?_⟩;have iQ2:(Xn a b op (ra.toNat+rb.toNat+1) ra rb ([],[])).2.1.length<=100000000000:=Xu;have vx:SB Q5 NA _ nc _:=⟨ah.bd.own.sl,rfl⟩
 refine call (DH p.pb (.map (some p.km)) NA _ nc _ _ Q5 ah.bd.blk vx inv.1.1 (by show(Xn a b op (ra.toNat+rb.toNat+1) ra rb ([],[])).2.1.length<=_;omega) inv.2.1 inv.2.2 (SB.lt vx)) ?_;rintro _ XR ⟨OA,k,oc,rfl,XD,vy,gh⟩;have J1:Mod (CS p none) QD XR:=Va.trans (Mod.of_ext (CS p none) XD) (λi hi=>.inl hi);refine⟨J1,?_⟩;have nres:¬CS p none w2.heap.size:=CS.no (p:=p) Xi (by simp only[p];omega);have KJ:=(Qu.ext kg).mod J1 nres;refine Qx KJ rfl (sc rfl) (λZa dL _ JN=>?_);have KA:Mod (·=w2.heap.size) XR Za:=mQj dL rfl;refine Qs JN rfl ?_;have o8:Ext w XR:=J1.ext YB (λi hi=>by
  rcases hi with e | e | e | ⟨_,e,_⟩
  ·simp only[p] at e;omega
  ·simp only[p] at e;omega
  ·simp only[p] at e;omega
  ·cases e)
 have Ss:=Va.size;have nr:∀i,Qi OA i->¬i=w2.heap.size:=λi hi e=>by have:=gh i hi;omega
 refine⟨OA,k,oc,rfl,KA.ext o8 (λi hi=>by omega),⟨vy.1.modS KA (λ_ i hi=>nr i hi),vy.2⟩,λi hi=>by have:=gh i hi;have:=YB.size;omega⟩
theorem D9 (A:Option Addr)(n c:Nat)(a:List Br)(ra:Int)(B:Option Addr)(m d:Nat)(b:List Br)(rb op:Int)(F:Nat)(w:World)(hF:uA F op)(h:SB w A n c a)(h':SB w B m d b):
  Fn Tryz.prog 82 [Xg A n c ra,Xg B m d rb,.func (.func F) #[] #[]] w (og w (dw a ra b rb op)):=by
 have KF:=h.2;have ee:=h'.2;refine QF (c:={c82 with cuts:=[]}) Qa Tryz.func82 rfl rfl rfl ?_;refine new (λw1 Qd Q2 Qh=>?_);refine new (λw2 Qg X9 Qw=>?_);refine new (λw3 Qj JV Qu=>?_);refine new (λw4 Qq Kz QZ=>?_);have JL:=Qj.trans Qq;have XF:=(Qd.trans Qg).trans JL;have JN:=(Qh.ext Qg).ext JL;have kh:=Qw.ext JL;have iA:=Qu.ext Qq;refine Qs JN rfl ?_;refine Qs kh rfl ?_;refine XE Qa [(⟨A,n,c,a,ra⟩:DV).cells,(⟨B,m,d,b,rb⟩:DV).cells] rfl rfl rfl rfl rfl ⟨rfl,rfl,rfl,rfl,⟨⟩⟩ rfl (λcs h=>by simp only[QX,Z3,Z9] at h;rcases h with rfl | rfl<;>rfl) rfl (by decide) (by decide) ?_;intro w5 Qt Kv QH;have Jm:=XF.trans Qt;have hL:SlS DV.cells 2 w5 (some ⟨w4.heap.size,0,none⟩) 2 2 [⟨A,n,c,a,ra⟩,⟨B,m,d,b,rb⟩]:=⟨Sl.own (sz:=2) (n:=2) QH (QE _) (by decide) (by simp[DV.cells]),rfl⟩
 refine call (yQ _ 2 2 _ w5 hL (λx hx=>by
  simp only[QX,Z3,Z9] at hx;rcases hx with rfl | rfl
  ·exact h.ext Jm
  ·exact h'.ext Jm)) ?_
 rintro v w6 ⟨rfl,Q6⟩;have Xx:=Qt.trans Q6;have XG:=XF.trans Xx;have iQ3:=QZ.ext Xx;have lQf:=Xx.size;have ef:bq [(⟨A,n,c,a,ra⟩:DV),⟨B,m,d,b,rb⟩]=if XC a ra≠0 then XC a ra else if XC b rb≠0 then XC b rb else 0:=rfl
 refine aB (λc1=>?_) (λc1=>?_)
 ·have e:dw a ra b rb op=(([],0),bq [(⟨A,n,c,a,ra⟩:DV),⟨B,m,d,b,rb⟩]):=by
   rw[ef] at c1 ⊢;unfold dw;split
   ·rfl
   ·rename_i hh;rw[if_neg hh] at c1;split
    ·rfl
    ·rename_i vo;rw[if_neg vo] at c1;exact Xm rfl c1
  rw[e];refine Qx iQ3 rfl (sc rfl) (λw7 Zr _ QY=>?_);have Q8:Mod (·=w3.heap.size) w6 w7:=mQj Zr rfl;refine Qs QY rfl ?_;exact⟨none,0,0,rfl,Q8.ext XG (λi hi=>by omega),SlS.nil _,λi ⟨_,e,_⟩=>by cases e⟩
 ·rw[ef] at c1;have ca:XC a ra=0:=by
   by_cases hh:XC a ra=0
   ·exact hh
   ·rw[Qe hh] at c1;exact c1
  have cb:XC b rb=0:=by
   rw[if_neg (λhh=>hh ca)] at c1;by_cases hh:XC b rb=0
   ·exact hh
   ·rw[Qe hh] at c1;exact c1
  obtain⟨sa,va⟩:=eK.1 ca;obtain⟨sb,vb⟩:=eK.1 cb;have e:dw a ra b rb op=ii (Vo a ra b rb op):=by unfold dw;rw[if_neg (λhh=>hh ca),if_neg (λhh=>hh cb)]
  rw[e];have hb2:=DR va vb op;have Cg:(a.length+2)*(b.length+2)<=4098*4098:=Nat.mul_le_mul (by omega) (by omega);refine Qs (JN.ext Xx) rfl ?_;refine Qs (kh.ext Xx) rfl ?_;have Cf:Blk w6 w2.heap.size 139 [.func (.func F) #[] #[]]:=iA.ext Xx;refine call (eQV A n c a ra B m d b rb op F w2.heap.size w6 hF (h.ext XG) (h'.ext XG) Cf va.dok vb.dok va.2.1 (by have:=va.2.2.1;omega) vb.2.1 (by have:=vb.2.2.1;omega) (by omega) (by omega) (by omega)) ?_;rintro v w7 ⟨OA,k,oc,rfl,Q1,vz,Kg⟩;have VO:=Xx.trans Q1;have Vc:=XF.trans VO;have St:=XG.size;refine call (N9 OA k oc _ _ w4 w7 vz (λi hi=>by have:=Kg i hi;omega) VO) ?_;rintro v w8 ⟨PA,q,pc,rfl,Q9,vC,mt⟩;refine Qx (QZ.ext Q9) rfl (sc rfl) (λw9 dT _ JM=>?_);have Zc:Mod (·=w3.heap.size) w8 w9:=mQj dT rfl;refine Qs JM rfl ?_;refine⟨PA,q,pc,rfl,Zc.ext (XF.trans Q9) (λi hi=>by omega),⟨vC.1.modS Zc (λ_ i hi e=>by have:=mt i hi;omega),vC.2⟩,λi hi=>by have:=mt i hi;omega⟩
theorem uC (A:Option Addr)(n c:Nat)(a:List Br)(ra:Int)(B:Option Addr)(m d:Nat)(b:List Br)(rb:Int)(w:World)(h:SB w A n c a)(h':SB w B m d b):
  Fn Tryz.prog 36 [Xg A n c ra,Xg B m d rb] w (og w (dw a ra b rb 0)):=by
 refine QF (c:={c36 with cuts:=[]}) Qa Tryz.func36 rfl rfl rfl ?_;refine new (λw1 Qd Q2 Qh=>?_);refine new (λw2 Qg X9 Qw=>?_);refine new (λw3 Qj JV Qu=>?_);have QQ:=(Qd.trans Qg).trans Qj;refine Qs ((Qh.ext Qg).ext Qj) rfl ?_;refine Qs (Qw.ext Qj) rfl ?_;refine call (D9 A n c a ra B m d b rb 0 84 w3 (.inl ⟨rfl,rfl⟩) (h.ext QQ) (h'.ext QQ)) ?_;rintro v w4 ⟨PA,q,pc,rfl,Qq,dI,aP⟩;refine Qx (Qu.ext Qq) rfl (sc rfl) (λw5 Jk _ QH=>?_);have ZW:Mod (·=w2.heap.size) w4 w5:=mQj Jk rfl;refine Qs QH rfl ?_;obtain⟨g1,g2,g3⟩:=DZ (r:=dw a ra b rb 0) (QQ.trans Qq) ZW (by omega) dI (λi hi=>by have:=aP i hi;omega);exact⟨PA,q,pc,rfl,g1,g2,g3⟩
theorem Oj (A:Option Addr)(n c:Nat)(a:List Br)(ra:Int)(B:Option Addr)(m d:Nat)(b:List Br)(rb:Int)(w:World)(h:SB w A n c a)(h':SB w B m d b):
  Fn Tryz.prog 101 [Xg A n c ra,Xg B m d rb] w (og w (dw a ra b rb 1)):=by
 refine QF (c:={bQA with cuts:=[]}) Qa Tryz.func101 rfl rfl rfl ?_;refine new (λw1 Qd Q2 Qh=>?_);refine new (λw2 Qg X9 Qw=>?_);refine new (λw3 Qj JV Qu=>?_);have QQ:=(Qd.trans Qg).trans Qj;refine Qs ((Qh.ext Qg).ext Qj) rfl ?_;refine Qs (Qw.ext Qj) rfl ?_;refine call (D9 A n c a ra B m d b rb 1 155 w3 (.inr (.inl ⟨rfl,rfl⟩)) (h.ext QQ) (h'.ext QQ)) ?_;rintro v w4 ⟨PA,q,pc,rfl,Qq,dI,aP⟩;refine Qx (Qu.ext Qq) rfl (sc rfl) (λw5 Jk _ QH=>?_);have ZW:Mod (·=w2.heap.size) w4 w5:=mQj Jk rfl;refine Qs QH rfl ?_;obtain⟨g1,g2,g3⟩:=DZ (r:=dw a ra b rb 1) (QQ.trans Qq) ZW (by omega) dI (λi hi=>by have:=aP i hi;omega);exact⟨PA,q,pc,rfl,g1,g2,g3⟩
theorem Ea (A:Option Addr)(n c:Nat)(a:List Br)(ra:Int)(w:World)(h:SB w A n c a):
  Fn Tryz.prog 35 [Xg A n c ra] w (og w (dw a ra [] 0 3)):=by
 refine QF (c:={c35 with cuts:=[]}) Qa Tryz.func35 rfl rfl rfl ?_;refine new (λw1 Qd Q2 Qh=>?_);refine new (λw2 Qg X9 Qw=>?_);have Q4:=Qd.trans Qg;refine Qs (Qh.ext Qg) rfl ?_;refine call (D9 A n c a ra none 0 0 [] 0 3 83 w2 (.inr (.inr ⟨rfl,rfl⟩)) (h.ext Q4) (SlS.nil _)) ?_;rintro v w4 ⟨PA,q,pc,rfl,Qq,dI,aP⟩;refine Qx (Qw.ext Qq) rfl (sc rfl) (λw5 Jk _ QH=>?_);have ZW:Mod (·=w1.heap.size) w4 w5:=mQj Jk rfl;refine Qs QH rfl ?_;obtain⟨g1,g2,g3⟩:=DZ (r:=dw a ra [] 0 3) (Q4.trans Qq) ZW (by omega) dI (λi hi=>by have:=aP i hi;omega);exact⟨PA,q,pc,rfl,g1,g2,g3⟩
end
section
section
variable {α:Type} {f:α->List Value} {sz:Nat}
theorem Ol (hf:∀x,(f x).length=sz):∀(l:List α)(j:Nat),(l.flatMap f).take (j*sz)=(l.take j).flatMap f
 | [],j=>by simp
 | x::l,0=>by simp
 | x::l,j+1=>by
  rw[bX,CR,bX,<-Ol hf l j,Lm];rw[Jz (by rw[hf,i5];omega),hf,show(j+1)*sz-sz=j*sz by rw[i5];omega]
theorem Om (hf:∀x,(f x).length=sz):∀(l:List α)(j:Nat),(l.flatMap f).drop (j*sz)=(l.drop j).flatMap f
 | [],j=>by simp
 | x::l,0=>by simp
 | x::l,j+1=>by
  rw[bX,Lv,<-Om hf l j,List.drop_append];rw[qk (by rw[hf,i5];omega),hf,show(j+1)*sz-sz=j*sz by rw[i5];omega];rfl
theorem yT (hf:∀x,(f x).length=sz)(l:List α){j:Nat}(x:α)(hj:j<l.length):KH (j*sz) (f x) (l.flatMap f)=(l.set j x).flatMap f:=by
 have ZK:(j+1)*sz<=l.length*sz:=Wq _ hj;rw[i5] at ZK;rw[ic _ _ _ (by rw[hf,co hf];exact ZK),hf,Ol hf,<-i5,Om hf,List.set_eq_take_append_cons_drop,Qe hj];simp
theorem eQW (hf:∀x,(f x).length=sz)(h0:0<sz){z:α}{zc:Array Value}(hz:zc.toList=f z)(n:Nat):(madeCells zc (n*sz)).toList=(List.replicate n z).flatMap f:=by
 have BX:zc.size=sz:=by rw[<-Array.length_toList,hz,hf]
 apply CG;intro i;by_cases hi:i<n*sz
 ·have hd:i/sz<n:=Nat.div_lt_of_lt_mul (by rw[tE];exact hi);have hr:i % sz<sz:=fA _ h0;have Ch:i/sz*sz+i % sz=i:=by rw[tE];exact Nat.div_add_mod i sz
  have g1:(List.replicate n z)[i/sz]? =some z:=by rw[List.getElem?_replicate,Qe hd]
  have g2:=Xs (l:=f z) (i:=i % sz) (by rw[hf];exact hr);have g3:=eF hf _ _ _ _ _ g1 g2;rw[Ch] at g3;rw[g3];have e:zc[i % zc.size]! =(f z)[i % sz]'(by rw[hf];exact hr):=by
   have h1:zc[i % sz]? =some ((f z)[i % sz]'(by rw[hf];exact hr)):=by rw[<-Array.getElem?_toList,hz];exact g2
   rw[BX,Array.getElem!_eq_getD,Array.getD_eq_getD_getElem?,h1]<;>rfl
  simp[madeCells,hi,e]
 ·rw[kW (by simp[madeCells];omega),kW (by rw[co hf];simp;omega)]
theorem eQX (hf:∀x,(f x).length=sz)(h0:0<sz)(z:α){c:Cx}(hg:c.g.Ok){o:Oper}{S:Env}{w:World}{K:Env->World->Prop}{Q:Zd}{t e:Nat}{x y:Operand}{n:Nat}{r re:TyRow}(ho:o.op= .makeSlice t x y)(hr:QR c.g.tys t=some r)(hd:r.d= .slice e)(X2:QR c.g.tys e=some re)(hz:re.z.cells.toList=f z)
  (hs:re.sz=sz) (hx:S.ev x=some (.int .i64 n)) (hy:S.ev y=some (.int .i64 n)) (hb:re.by_*n<=281474976710656) (hn:n<=maxLen)
  (k:∀w1,Ext w w1->w1.heap.size=w.heap.size+1->Blk w1 w.heap.size e ((List.replicate n z).flatMap f)->Xf c S o.dst (.v (.slice (some ⟨w.heap.size,0,none⟩) n n)) (λS=>K S w1)):X3 c o S w K Q:=by
 obtain⟨_,i,hi,XW,aW,aX⟩:=hg.row X2;have Q0:=(hg.row hr).1;rw[hd] at Q0;have aN:=run_make (P:=c.g.P) w t e i re.z Q0 hi aX .i64 .i64 n n (by omega) (by omega) (by rw[aW];omega) (by unfold maxLen at hn;omega);have hm:=eQW hf h0 hz n;rw[XW,hs] at aN;simp only[fy] at aN;refine Jh (w':=w.alloc (.cells (madeCells re.z.cells (n*sz)) e)) (v:=.slice (some ⟨w.heap.size,0,none⟩) n n) (λa hf=>?_) (k _ (Ext.alloc w _) (by simp) ?_)
 ·have e1:=hf.ev hx;have e2:=hf.ev hy;simp only[execOp,ho,e1,e2];simp at aN ⊢;rw[aN]<;>rfl
 ·rw[<-hm];simpa using Blk.new w e (madeCells re.z.cells (n*sz)).toList
end
end
end Go.Proofs.YtjabbbcdgmlojaaGreatDoor
