/-
  What PPatchShares rests on, part 2 (wip/shake.py).
  Conditions: none.
-/
import Derived.Test.YtjabbbcdgmlojaaGreatDoorQPPatchSharesa
set_option linter.all false
set_option linter.deprecated false
set_option maxHeartbeats 12800000
namespace Go.Proofs.YtjabbbcdgmlojaaGreatDoor
open Go Go.RowKit
noncomputable section
section
def Zj (o:Int):Int:=if o=0∨o=1∨o=2 then 0 else if o=3 then 1 else if o=4∨o=5 then 2 else -1
theorem rY (o:Int):((o=0∨o=1∨o=2)/\Zj o=0)∨(o=3/\Zj o=1)∨((o=4∨o=5)/\Zj o=2)∨(Zj o= -1/\o≠0/\o≠1/\o≠2/\o≠3/\o≠4/\o≠5):=by
 unfold Zj;split
 ·left;omega
 ·split
  ·right;left;omega
  ·split
   ·right;right;left;omega
   ·right;right;right;omega
def Va (x:Fz)(i:Nat):Prop:=0<=Zj x.o/\(if x.o=2 then 0<=x.v/\x.v<64 else x.v=0)/\(if 0<Zj x.o then 0<=x.a/\x.a<i else x.a=0)/\(if 1<Zj x.o then 0<=x.b/\x.b<i else x.b=0)
instance (x:Fz) (i:Nat):Decidable (Va x i):=by unfold Va;infer_instance
def YM (x:Fz):Fz:=⟨x.o,if x.o=2 then x.v else 0,if 0<Zj x.o then x.a else 0,if 1<Zj x.o then x.b else 0⟩
theorem N5 (a b c d a' b' c' d':Int):(a==a'&&(b==b'&&(c==c'&&(d==d'&&true))))=decide (a=a'/\b=b'/\c=c'/\d=d'):=by
 rw[oE];simp only[JL,beq_iff_eq,Vl,and_true]
theorem N6 (x:Fz):(x.o=(YM x).o/\x.v=(YM x).v/\x.a=(YM x).a/\x.b=(YM x).b)↔((x.o≠2->x.v=0)/\(Zj x.o<=0->x.a=0)/\(Zj x.o<=1->x.b=0)):=by
 unfold YM;simp only;constructor
 ·rintro⟨_,h1,h2,h3⟩;split at h1<;>split at h2<;>split at h3<;>omega
 ·rintro⟨h1,h2,h3⟩;refine⟨trivial,?_,?_,?_⟩<;>split<;>omega
theorem dQH (x:Fz)(i:Nat)(w:World):Fn Tryz.prog 223 [.agg x.cells.toArray,.int .i64 i] w (λv w'=>v= .int .i64 (if Va x i then Zj x.o else -1)/\Ext w w'):=by
 refine QD (c:={cQ8 with cuts:=[3]}) Qa Tryz.func223 rfl rfl rfl ?_;refine new (λw1 Qd Q3 Qh=>?_);refine Qx Qh rfl ?_;refine new (λw2 Qg Zb Qw=>?_);refine Qz Qw rfl (sc rfl) (λw3 ZY _ Qt=>?_);have XD:Mod (·=w1.heap.size) w2 w3:=mQW ZY rfl
 replace Qt:Blk w3 w1.heap.size 280 [.int .i64 x.o,.int .i64 0,.int .i64 0,.int .i64 0]:=Qt;have Vf:=(Qh.ext Qg).mod XD (by omega);have Qk:Ext w w3:=XD.ext (Qd.trans Qg) (λi hi=>by omega);refine iD [] Qa [6] (λk:Int=>[.int .i64 k]) (λk w'=>Ext w w'/\Blk w' w.heap.size 280 x.cells/\Blk w' w1.heap.size 280 (YM x).cells/\k=Zj x.o/\0<=Zj x.o/\(x.o=2->0<=x.v/\x.v<64)) ?_ ?_
 ·refine Qx Vf rfl ?_;refine Zh (λh=>?_) (λh=>?_)
  ·refine⟨_,rfl,Qk,Vf,?_,?_,?_,?_⟩
   ·rw[show(YM x).cells=[.int .i64 x.o,.int .i64 0,.int .i64 0,.int .i64 0] from by simp[YM,Fz.cells,h,Zj]];exact Qt
   ·rw[h]<;>rfl
   ·rw[h];decide
   ·intro h2;omega
  refine Zh (λh1=>?_) (λh1=>?_)
  ·refine⟨_,rfl,Qk,Vf,?_,?_,?_,?_⟩
   ·rw[show(YM x).cells=[.int .i64 x.o,.int .i64 0,.int .i64 0,.int .i64 0] from by simp[YM,Fz.cells,h1,Zj]];exact Qt
   ·rw[h1]<;>rfl
   ·rw[h1];decide
   ·intro h2;omega
  refine Zh (λh2=>?_) (λh2=>?_)
  ·refine Qp Vf rfl ?_;refine XP Qt (by simp) (λw4 X1 Q4=>?_);have Yx:=Vf.mod X1 (by omega);have Qq:=X1.ext Qk (λi hi=>by omega);refine Qp Yx rfl ?_;refine Qy (λh3=>?_) (λh3=>?_)
   ·exact⟨by rw[if_neg (λhf=>by have:=hf.2.1;rw[Qf h2] at this;omega)],Qq⟩
   refine Qp Yx rfl ?_;refine Qy (λh4=>?_) (λh4=>?_)
   ·exact⟨by rw[if_neg (λhf=>by have:=hf.2.1;rw[Qf h2] at this;omega)],Qq⟩
   refine⟨_,rfl,Qq,Yx,?_,?_,?_,?_⟩
   ·rw[show(YM x).cells=[.int .i64 x.o,.int .i64 x.v,.int .i64 0,.int .i64 0] from by simp[YM,Fz.cells,h2,Zj]];exact Q4
   ·rw[h2]<;>rfl
   ·rw[h2];decide
   ·intro _;omega
  refine Zh (λh3=>?_) (λh3=>?_)
  ·refine Qp Vf rfl ?_;refine XP Qt (by simp) (λw4 X1 Q4=>?_);have Yx:=Vf.mod X1 (by omega);have Qq:=X1.ext Qk (λi hi=>by omega);refine⟨_,rfl,Qq,Yx,?_,?_,?_,?_⟩
   ·rw[show(YM x).cells=[.int .i64 x.o,.int .i64 0,.int .i64 x.a,.int .i64 0] from by simp[YM,Fz.cells,h3,Zj]];exact Q4
   ·rw[h3]<;>rfl
   ·rw[h3];decide
   ·intro _;omega
  have two:(x.o=4∨x.o=5)->∀w4,Mod (·=w1.heap.size) w3 w4->Blk w4 w1.heap.size 280 [.int .i64 x.o,.int .i64 0,.int .i64 x.a,.int .i64 x.b]->Ext w w4/\Blk w4 w.heap.size 280 x.cells/\Blk w4 w1.heap.size 280 (YM x).cells/\(2:Int)=Zj x.o/\0<=Zj x.o/\(x.o=2->0<=x.v/\x.v<64):=λho w4 X1 Q4=>by
   have e:Zj x.o=2:=by rcases ho with h | h<;>rw[h]<;>rfl
   refine⟨X1.ext Qk (λi hi=>by omega),Vf.mod X1 (by omega),?_,e.symm,by omega,by omega⟩;rw[show(YM x).cells=[.int .i64 x.o,.int .i64 0,.int .i64 x.a,.int .i64 x.b] from by simp[YM,Fz.cells,h2,e]];exact Q4
  refine Zh (λh4=>?_) (λh4=>?_)
  ·refine Qp Vf rfl ?_;refine XP Qt (by simp) (λw4 X1 Q4=>?_);have Yx:=Vf.mod X1 (by omega);refine Qp Yx rfl ?_;refine XP Q4 (by simp) (λw5 XS QK=>?_);exact⟨_,rfl,two (.inl h4) w5 (X1.trans XS (λi hi=>.inl hi)) QK⟩
  refine Zh (λh5=>?_) (λh5=>?_)
  ·refine Qp Vf rfl ?_;refine XP Qt (by simp) (λw4 X1 Q4=>?_);have Yx:=Vf.mod X1 (by omega);refine Qp Yx rfl ?_;refine XP Q4 (by simp) (λw5 XS QK=>?_);exact⟨_,rfl,two (.inr h5) w5 (X1.trans XS (λi hi=>.inl hi)) QK⟩
  ·have Zo:Zj x.o= -1:=by rcases rY x.o with h | h | h | h<;>omega
   exact⟨by rw[if_neg (λhf=>by have:=hf.1;omega)],Qk⟩
 rintro k w4 ⟨Qq,Yx,d9,rfl,h0,hv⟩;have no:¬Va x i->∀w',Ext w w'->(Value.int .i64 (-1))= .int .i64 (if Va x i then Zj x.o else -1)/\Ext w w':=λh w' hE=>⟨by rw[if_neg h],hE⟩
 have yes:Va x i->∀w',Ext w w'->(Value.int .i64 (Zj x.o))= .int .i64 (if Va x i then Zj x.o else -1)/\Ext w w':=λh w' hE=>⟨by rw[Qf h],hE⟩
 have Zc:=rY x.o;refine Qs Yx rfl ?_;refine Qs d9 rfl ?_;by_cases hp:x.o=(YM x).o/\x.v=(YM x).v/\x.a=(YM x).a/\x.b=(YM x).b
 rotate_left
 ·refine Xa (by rw[N5,X4 hp];rfl) ?_;refine no (λhf=>hp ((N6 x).2 ?_)) _ Qq;obtain⟨f1,f2,f3,f4⟩:=hf;split at f2<;>split at f3<;>split at f4<;>omega
 refine Q5 (by rw[N5,XR hp];rfl) ?_;have hq:=(N6 x).1 hp;have bad:(x.a<0∨x.b<0∨(0<Zj x.o/\(i<=x.a∨i<=x.b)))->¬Va x i:=λhb hf=>by
  obtain⟨f1,f2,f3,f4⟩:=hf;split at f3<;>split at f4<;>omega
 refine Qp Yx rfl ?_;refine Qy (λh1=>?_) (λh1=>?_)
 ·exact no (bad (.inl h1)) _ Qq
 refine Qp Yx rfl ?_;refine Qy (λh2=>?_) (λh2=>?_)
 ·exact no (bad (.inr (.inl h2))) _ Qq
 refine Qy (λh3=>?_) (λh3=>?_)
 ·refine Qp Yx rfl ?_;refine Qp Yx rfl ?_;refine norm (m:=max x.a x.b) (by rw[Int.max_def];split<;>split<;>omega) ?_;refine Qy (λh4=>?_) (λh4=>?_)
  ·refine no (bad (.inr (.inr ⟨h3,?_⟩))) _ Qq;rw[Int.max_def] at h4;split at h4<;>omega
  ·rw[Int.max_def] at h4;refine yes ⟨h0,?_,?_,?_⟩ _ Qq
   ·split
    ·rename_i h;exact hv h
    ·rename_i h;exact hq.1 h
   ·rw[Qf h3];split at h4<;>omega
   ·split
    ·split at h4<;>omega
    ·exact hq.2.2 (by omega)
 ·refine yes ⟨h0,?_,?_,?_⟩ _ Qq
  ·split
   ·rename_i h;exact hv h
   ·rename_i h;exact hq.1 h
  ·rw[if_neg h3];exact hq.2.1 (by omega)
  ·rw[if_neg (by omega)];exact hq.2.2 (by omega)
end
section
def gj (l:List Bool):List Value:=l.map .bool
theorem N7 {l:List Bool}{j:Nat}{b:Bool}(h:l[j]? =some b):(gj l)[j]? =some (.bool b):=by simp[gj,h]
theorem dQI (l:List Bool):(gj l).length=l.length:=by simp[gj]
theorem dQJ (l:List Bool)(i:Nat)(b:Bool):gj (l.set i b)=(gj l).set i (.bool b):=by simp[gj,List.map_set]
def Ys (x:Fz):List Nat:=if Zj x.o=2 then [x.a.toNat,x.b.toNat] else if Zj x.o=1 then [x.a.toNat] else []
def JC (f:List Fz):List Nat:=f.flatMap Ys
def FV (f:List Fz):Prop:=f.length<=512/\0<f.length/\(∀i x,f[i]? =some x->Va x i)/\∀i,i+1<f.length->(JC f).count i=1
open Classical in
def rZ (f:List Fz):Int:=if FV f then 0 else 30
theorem zB {f:List Fz}(h:FV f):rZ f=0:=Qf h
theorem zC {f:List Fz}(h:¬FV f):rZ f=30:=if_neg h
theorem dQK {f:List Fz}:rZ f=0↔FV f:=by
 constructor
 ·intro h;unfold rZ at h;split at h
  ·assumption
  ·cases h
 ·exact zB
theorem dQL (d:List Fz){i:Nat}{x:Fz}(h:d[i]? =some x):JC (d.take (i+1))=JC (d.take i)++Ys x:=by
 simp[JC,VT,h]
theorem dQM {x:Fz}{i:Nat}(h:Va x i):∀j∈Ys x,j<i:=by
 intro j hj;obtain⟨_,_,h3,h4⟩:=h;unfold Ys at hj;split at hj
 ·rename_i h2;rw[Qf (by omega)] at h3 h4;simp at hj;omega
 ·split at hj
  ·rename_i h2;rw[Qf (by omega)] at h3;simp at hj;omega
  ·simp at hj
theorem dQN {d:List Fz}{i:Nat}(h:∀j x,j<i->d[j]? =some x->Va x j):∀j∈JC (d.take i),j+1<i:=by
 intro j hj;simp only[JC,ga] at hj;obtain⟨x,hx,hk⟩:=hj;obtain⟨m,hm,KA⟩:=DF.1 hx;have Xd:m<i:=by simp at hm;omega
 have GF:d[m]? =some x:=by
  rw[List.getElem_take] at KA;rw[<-KA];exact Xn _
 have:=dQM (h m x Xd GF) j hk;omega
def dQ (l:List Nat)(n:Nat):List Bool:=(List.range n).map λj=>decide (j∈l)
theorem N8 (l:List Nat)(n j:Nat)(hj:j<n):(dQ l n)[j]? =some (decide (j∈l)):=by simp[dQ,hj]
theorem dQO (l:List Nat)(n:Nat):(dQ l n).length=n:=by simp[dQ]
theorem dQP (l:List Nat)(n k:Nat):(dQ l n).set k true=dQ (l++ [k]) n:=by
 unfold dQ;apply List.ext_getElem
 ·simp
 ·intro i h1 h2;simp at h1;simp only[List.getElem_set,List.getElem_map,List.getElem_range,Xw,QL];split
  ·rename_i h;subst h;simp
  ·rename_i h;have:¬i=k:=λe=>h e.symm
   simp[this]
theorem dQQ (n:Nat):dQ [] n=List.replicate n false:=by
 apply List.ext_getElem
 ·simp[dQ]
 ·intro i h1 h2;simp[dQ]
theorem dQR {d:List Fz}{s:Nat}{x:Fz}(hx:d[s]? =some x)(h:¬Va x s):¬FV d:=λhv=>h (hv.2.2.1 s x hx)
theorem dQS {d:List Fz}{s:Nat}(hnd:∀j x,j<s->d[j]? =some x->Va x j)(hs:s<=d.length)(h:¬(JC (d.take s)).Nodup):¬FV d:=λhv=>by
 apply h;rw[List.nodup_iff_count];intro a;by_cases ha:a∈JC (d.take s)
 ·have h1:=dQN hnd a ha;have h2:=hv.2.2.2 a (by omega);rw[<-h2];have qQ:(JC (d.take s)).Sublist (JC d):=by
   have:JC d=JC (d.take s)++JC (d.drop s):=by
    unfold JC;rw[<-dJ,eZ]
   rw[this];exact List.sublist_append_left _ _
  exact qQ.count_le a
 ·rw[List.count_eq_zero.2 ha];omega
theorem dQT {d:List Fz}(h1:d.length<=512)(h2:0<d.length)(hnd:∀j x,j<d.length->d[j]? =some x->Va x j)(hn:(JC d).Nodup)(hu:∀j,j+1<d.length->j∈JC d):FV d:=
 ⟨h1,h2,λi x hx=>hnd i x (Z0.1 hx).1 hx,λi hi=>by
  have h3:=List.nodup_iff_count.1 hn i;have h4:=List.count_pos_iff.2 (hu i hi);omega⟩
theorem dQU {w:World}{t:TypeId}{cs cs':List Value}{K:Addr->World->Prop}(h:cs=cs')(k:∀w1,Ext w w1->w1.heap.size=w.heap.size+1->Blk w1 w.heap.size t cs'->K ⟨w.heap.size,0,none⟩ w1):oP w t cs K:=by
 subst h;exact new k
abbrev SF (w:World)(A:Option Addr)(n c:Nat)(f:List Fz):Prop:=SlS Fz.cells 4 w A n c f
def jO (x:Fz):List Int:=[x.a,x.b].take (Zj x.o).toNat
theorem dQV {x:Fz}{i:Nat}(h:Va x i):(jO x).length=(Zj x.o).toNat/\∀j:Nat,∀a:Int,(jO x)[j]? =some a->0<=a/\a<i/\(Ys x)[j]? =some a.toNat:=by
 obtain⟨h1,_,h3,h4⟩:=h;unfold jO Ys;rcases rY x.o with⟨_,e⟩ | ⟨_,e⟩ | ⟨_,e⟩ | ⟨e,_⟩
 ·rw[e];simp
 ·rw[e] at h3 ⊢;simp at h3;simp;intro j a ha;cases j with
  | zero=>simp at ha;subst ha;simp;omega
  | succ j=>simp at ha
 ·rw[e] at h3 h4 ⊢;simp at h3 h4;simp;intro j a ha
  match j,ha with
  | 0,ha=>simp at ha;subst ha;simp;omega
  | 1,ha=>simp at ha;subst ha;simp;omega
  | j+2,ha=>simp at ha
 ·rw[e] at h1;omega
theorem dQW (x:Fz)(_:0<=Zj x.o):(Ys x).length=(Zj x.o).toNat:=by
 unfold Ys;rcases rY x.o with⟨_,e⟩ | ⟨_,e⟩ | ⟨_,e⟩ | ⟨e,_⟩<;>rw[e]<;>first | rfl | omega
end
section
theorem N9 (A:Option Addr)(n c:Nat)(f:List Fz)(w:World)(h:SF w A n c f):
  Fn Tryz.prog 193 [.slice A n c] w (λv w'=>v= .int .i64 (rZ f)/\Ext w w'):=by
 have Xd:=h.2;refine QD (c:={cQQ with cuts:=[4]}) Qa Tryz.func193 rfl rfl rfl ?_;refine Zh (λh1=>?_) (λh1=>?_)
 ·exact⟨by rw[zC (λhv=>by have:=hv.2.1;omega)],Ext.refl w⟩
 refine Qy (λh2=>?_) (λh2=>?_)
 ·exact⟨by rw[zC (λhv=>by have:=hv.1;omega)],Ext.refl w⟩
 refine dQU (cs':=gj (List.replicate 512 false)) (by kernel_rfl) (λw1 Qd Q3 Qh=>?_);rw[<-dQQ] at Qh;refine iD [] Qa [] (λ_:Unit=>[]) (λ_ w'=>Ext w w'/\Blk w' w.heap.size 297 (gj (dQ (JC f) 512))/\(∀j x,j<n->f[j]? =some x->Va x j)/\(JC f).Nodup) ?_ ?_
 ·refine loop Qa [20] (λs:Nat=>[.int .i64 s]) (λs w'=>Ext w w'/\Blk w' w.heap.size 297 (gj (dQ (JC (f.take s)) 512))/\s<=n/\(∀j x,j<s->f[j]? =some x->Va x j)/\(JC (f.take s)).Nodup) (λs _=>n-s) 0 rfl ⟨Qd,Qh,XJ _,λj x hj=>Q8 hj (by omega),by simp[JC]⟩ ?_;rintro s w2 ⟨Qg,mW,hs,hnd,eQ⟩;refine Qy (λh3=>?_) (λh3=>?_)
  ·refine Zw zz (h.ext Qg) rfl (by omega) (λp x hx hc=>?_);refine Kr (vs:=x.cells) rfl hc ?_;refine new (λw3 Qk JI Qt=>?_);refine Qz Qt rfl (sc rfl) (λw4 cq KY Q4=>?_);have Jj:Ext w2 w4:=X9 Qk Qt cq;have Qq:=Qg.trans Jj;have hU4:=mW.ext Jj;refine Qs Q4 rfl ?_;refine call (dQH x s w4) ?_;rintro v w5 ⟨rfl,Qv⟩;have QK:=Q4.ext Qv;have bad:¬(Va x s/\(JC (f.take (s+1))).Nodup)->rZ f=30:=λXf=>by
    refine zC ?_;by_cases ei:Va x s
    ·refine dQS (s:=s+1) (λj y hj hy=>?_) (by omega) (λh=>Xf ⟨ei,h⟩);by_cases YF:j<s
     ·exact hnd j y YF hy
     ·have:j=s:=by omega
      subst this;rw[Option.some.inj (hy.symm.trans hx)];exact ei
    ·exact dQR hx ei
   by_cases nW:¬Va x s
   ·refine XH (by rw[if_neg nW];decide) ?_;exact⟨by rw[bad (λhh=>nW hh.1)],Qq.trans Qv⟩
   replace nW:=Decidable.not_not.1 nW;have h0:=nW.1;have e5:(if Va x s then Zj x.o else -1)=((Zj x.o).toNat:Int):=by rw[Qf nW];omega
   rw[e5];refine Q9 (by omega) ?_;refine Qp QK rfl ?_;refine Qp QK rfl ?_;refine rM Qa rfl rfl rfl rfl rfl rfl rfl rfl rfl rfl (λw6 Xh em Xo=>?_);have xN:(Zj x.o).toNat<=2:=by rcases rY x.o with h | h | h | h<;>omega
   refine jI Qa rfl rfl rfl rfl rfl rfl xN ?_;have Zy:=Qv.trans Xh;have GG:=hU4.ext Zy;have XM:=Qq.trans Zy;obtain⟨ol,ok⟩:=dQV nW;have Ka:=dQW x h0;have C6:Sl w6 1 (some ⟨w5.heap.size,0,none⟩) (Zj x.o).toNat 2 ((jO x).map (Value.int .i64)):=by
    have:=Sl.own (sz:=1) (n:=(Zj x.o).toNat) (c:=2) Xo xN (by decide) (by simpa using xN);rw[ir] at this;simpa [jO,List.map_take] using this
   have hkz:JC (f.take (s+1))=JC (f.take s)++Ys x:=dQL f hx;refine loop Qa [38] (λt:Nat=>[.int .i64 t]) (λt w'=>Mod (·=w.heap.size) w6 w'/\Blk w' w.heap.size 297 (gj (dQ (JC (f.take s)++(Ys x).take t) 512))/\t<=(Zj x.o).toNat/\(JC (f.take s)++(Ys x).take t).Nodup) (λt _=>(Zj x.o).toNat-t) 0 rfl ⟨Mod.refl _ _,by simpa using GG,XJ _,by simpa using eQ⟩ ?_;rintro t w7 ⟨J5,Bh,ht,GH⟩;have Q2:Ext w w7:=J5.ext XM (λi hi=>by omega);refine Qy (λh7=>?_) (λh7=>?_)
   ·have YE:t<(jO x).length:=by omega
    have nX:(jO x)[t]? =some (jO x)[t]:=Xn YE;generalize (jO x)[t]=a at nX;obtain⟨a0,ai,ak⟩:=ok t a nX;refine X5 C6 (by omega) (λad u hA hu QE=>?_);simp only[VR,nX,yJ] at hu;cases hu;have jQg:w7.cell? (ad.add t)=some (.int .i64 a):=World.grownBy.cell (J5.grown (row:=some w.heap.size) (λi hi=>by rw[hi])) QE (by
     rw[o6];cases hA;intro e;have:=(Option.some.inj e)
     have:=Qq.size;have:=Qv.size;have:=Qd.size;have:=mW.lt;simp only at*;omega)
    refine load jQg ?_;have KU:a.toNat<512:=by omega
    refine zv (j:=a.toNat) (by omega) KU ?_;refine Qp Bh (N7 (N8 _ _ _ KU)) ?_;have YX:(Ys x).take (t+1)=(Ys x).take t++ [a.toNat]:=by rw[VT,ak]<;>rfl
    refine Qy (λh8=>?_) (λh8=>?_)
    ·refine⟨?_,Q2⟩;rw[bad];rintro⟨_,Ts⟩;rw[hkz] at Ts;have qQ:(JC (f.take s)++(Ys x).take (t+1)).Nodup:=Ts.sublist ((List.Sublist.refl _).append (List.take_sublist _ _));rw[YX,<-Je,DC] at qQ;exact qQ.2.2 _ h8 _ (by simp) rfl
    ·refine zv (j:=a.toNat) (by omega) KU ?_;refine XP Bh (by rw[dQI,dQO];exact KU) (λw8 JH Xt=>?_);rw[<-dQJ,dQP,Je,<-YX] at Xt;refine Qi ((t+1:Nat):Int) (by omega) (by omega) ?_;refine⟨t+1,rfl,⟨J5.trans JH (λi hi=>.inl hi),Xt,by omega,?_⟩,by show(Zj x.o).toNat-(t+1)<(Zj x.o).toNat-t;omega⟩;rw[YX,<-Je,DC];refine⟨GH,by simp,λu hu v hv e=>?_⟩;simp only[QL] at hv;subst hv;subst e;exact h8 hu
   ·have e:(Ys x).take t=Ys x:=Jm (by omega);rw[e,<-hkz] at Bh GH;refine Qi ((s+1:Nat):Int) (by omega) (by omega) ?_;refine⟨s+1,rfl,⟨Q2,Bh,by omega,λj y hj hy=>?_,GH⟩,by show n-(s+1)<n-s;omega⟩;by_cases YF:j<s
    ·exact hnd j y YF hy
    ·have:j=s:=by omega
     subst this;rw[Option.some.inj (hy.symm.trans hx)];exact nW
  ·have:s=n:=by omega
   subst this;rw[Jm (by omega)] at mW eQ;exact⟨(),rfl,Qg,mW,hnd,eQ⟩
 rintro⟨⟩ w2 ⟨Qg,mW,hnd,eQ⟩;refine Qi ((n-1:Nat):Int) (by omega) (by omega) ?_;refine jI Qa rfl rfl rfl rfl rfl rfl (by have:=h.1.le;omega) ?_;refine loop Qa [55] (λs:Nat=>[.int .i64 s]) (λs w'=>w2=w'/\s<=n-1/\∀j,j<s->j∈JC f) (λs _=>n-s) 0 rfl ⟨rfl,XJ _,λj hj=>Q8 hj (by omega)⟩ ?_;rintro s _ ⟨rfl,hs,hu⟩;refine Qy (λh3=>?_) (λh3=>?_)
 ·refine index (by omega) ?_;refine Qp mW (N7 (N8 _ _ s (by omega))) ?_;refine lX (Qy (λhm=>?_) (λhm=>?_))
  ·refine Qi ((s+1:Nat):Int) (by omega) (by omega) ?_;refine⟨s+1,rfl,⟨rfl,by omega,λj hj=>?_⟩,by show n-(s+1)<n-s;omega⟩;by_cases YF:j<s
   ·exact hu j YF
   ·have:j=s:=by omega
    rw[this];exact hm
  ·refine⟨?_,Qg⟩;rw[zC (λhv=>?_)];have:=hv.2.2.2 s (by omega);rw[List.count_eq_zero.2 hm] at this;cases this
 ·exact⟨by rw[zB (dQT (by omega) (by omega) (λj x hj hx=>hnd j x (by omega) hx) eQ (λj hj=>hu j (by omega)))],Qg⟩
end
section
inductive Fm where
 | c (b:Bool)
 | v (n:Nat)
 | not (a:Fm)
 | and (a b:Fm)
 | or (a b:Fm)
deriving DecidableEq
def RepF (f:List Fz):Fm->Nat->Prop
 | .c b,i=>f[i]? =some ⟨if b then 1 else 0,0,0,0⟩
 | .v n,i=>f[i]? =some ⟨2,(n:Nat),0,0⟩
 | .not a,i=>∃j:Nat,j<i/\f[i]? =some ⟨3,0,(j:Nat),0⟩/\RepF f a j
 | .and a b,i=>∃j k:Nat,j<i/\k<i/\f[i]? =some ⟨4,0,(j:Nat),(k:Nat)⟩/\RepF f a j/\RepF f b k
 | .or a b,i=>∃j k:Nat,j<i/\k<i/\f[i]? =some ⟨5,0,(j:Nat),(k:Nat)⟩/\RepF f a j/\RepF f b k
theorem dQX {x:Fz}{i:Nat}(h:Va x i):(x=⟨0,0,0,0⟩)∨(x=⟨1,0,0,0⟩)∨(∃n:Nat,n<64/\x=⟨2,n,0,0⟩)∨(∃j:Nat,j<i/\x=⟨3,0,j,0⟩)∨(∃j k:Nat,j<i/\k<i/\(x=⟨4,0,j,k⟩∨x=⟨5,0,j,k⟩)):=by
 obtain⟨o,v,a,b⟩:=x;obtain⟨h1,h2,h3,h4⟩:=h;simp only at h1 h2 h3 h4;rcases rY o with⟨ho,e⟩ | ⟨ho,e⟩ | ⟨ho,e⟩ | ⟨e,_⟩
 ·rw[if_neg (by omega)] at h3 h4;subst h3;subst h4;rcases ho with rfl | rfl | rfl
  ·rw[if_neg (by omega)] at h2;subst h2;exact .inl rfl
  ·rw[if_neg (by omega)] at h2;subst h2;exact .inr (.inl rfl)
  ·rw[Qf rfl] at h2;refine .inr (.inr (.inl ⟨v.toNat,by omega,?_⟩));rw[DG h2.1]
 ·rw[Qf (by omega)] at h3;rw[if_neg (by omega)] at h4 h2;subst ho;subst h4;subst h2;refine .inr (.inr (.inr (.inl ⟨a.toNat,by omega,?_⟩)));rw[DG h3.1]
 ·rw[Qf (by omega)] at h3 h4;rw[if_neg (by omega)] at h2;subst h2;refine .inr (.inr (.inr (.inr ⟨a.toNat,b.toNat,by omega,by omega,?_⟩)));rw[DG h3.1,DG h4.1];rcases ho with rfl | rfl
  ·exact .inl rfl
  ·exact .inr rfl
 ·omega
theorem Og {f:List Fz}(h:∀i x,f[i]? =some x->Va x i):∀i,i<f.length->∃t,RepF f t i:=by
 intro i;induction i using Nat.strongRecOn with
 | _ i ih=>
  intro hi;have hx:=Xn hi;rcases dQX (h i _ hx)with e | e | ⟨n,_,e⟩ | ⟨j,hj,e⟩ | ⟨j,k,hj,hk,e⟩
  ·exact⟨.c false,by rw[e] at hx;exact hx⟩
  ·exact⟨.c true,by rw[e] at hx;exact hx⟩
  ·exact⟨.v n,by rw[e] at hx;exact hx⟩
  ·obtain⟨a,ha⟩:=ih j hj (by omega);exact⟨.not a,j,hj,by rw[e] at hx;exact hx,ha⟩
  ·obtain⟨a,ha⟩:=ih j hj (by omega);obtain⟨b,hb⟩:=ih k hk (by omega);rcases e with e | e
   ·exact⟨.and a b,j,k,hj,hk,by rw[e] at hx;exact hx,ha,hb⟩
   ·exact⟨.or a b,j,k,hj,hk,by rw[e] at hx;exact hx,ha,hb⟩
theorem RepF.lt {f:List Fz}:∀{t:Fm}{i:Nat},RepF f t i->i<f.length
 | .c _,_,h=>(Z0.1 h).1
 | .v _,_,h=>(Z0.1 h).1
 | .not _,_,⟨_,_,h,_⟩=>(Z0.1 h).1
 | .and _ _,_,⟨_,_,_,_,h,_⟩=>(Z0.1 h).1
 | .or _ _,_,⟨_,_,_,_,h,_⟩=>(Z0.1 h).1
def ZF:Fm->Nat
 | .or _ _=>0
 | .and _ _=>1
 | _=>2
def Yf (b:Bool)(s:List Nat):List Nat:=if b then 40::s++ [41] else s
def Jg (nm:List (List Nat)):Fm->List Nat
 | .c b=>if b then Y5 else bW
 | .v n=>nm[n]?.getD []
 | .not a=>33::Yf (decide (ZF a<2)) (Jg nm a)
 | .and a b=>Yf (decide (ZF a<1)) (Jg nm a)++ [32,38,38,32]++Yf (decide (ZF b<2)) (Jg nm b)
 | .or a b=>Yf (decide (ZF a<0)) (Jg nm a)++ [32,124,124,32]++Yf (decide (ZF b<1)) (Jg nm b)
def ZG (nm:List (List Nat))(least:Nat)(t:Fm):List Nat:=Yf (decide (ZF t<least)) (Jg nm t)
def VarsIn (n:Nat):Fm->Prop
 | .c _=>True
 | .v k=>k<n
 | .not a=>VarsIn n a
 | .and a b=>VarsIn n a/\VarsIn n b
 | .or a b=>VarsIn n a/\VarsIn n b
theorem dQY (o:Int)(w:World):Fn Tryz.prog 224 [.int .i64 o] w (λv w'=>v= .int .i64 (if o=5 then 0 else if o=4 then 1 else 2)/\w=w'):=by
 refine QD (c:=cQ9) Qa Tryz.func224 rfl rfl rfl ?_;refine Zh (λh=>?_) (λh=>?_)
 ·exact⟨by rw[Qf h],rfl⟩
 refine Zh (λh1=>?_) (λh1=>?_)
 ·exact⟨by rw[if_neg h,Qf h1],rfl⟩
 ·exact⟨by rw[if_neg h,if_neg h1],rfl⟩
theorem r5 (u:FrameMode)(base g t:Nat)(rest:List Value)(A:Option Addr)(c:Nat)(out:List Nat)(b:Nat)(w:World)(hl:o7 t (rest.length+2))(hb:Bld w base g t rest A c out)(hs:out.length+1<=140737488355328):
  CallsD Tryz.prog 225 [.pointer (some ⟨g,0,none⟩),.int .u8 b].toArray u w (λe u' w'=>u'=u/\∃v,e= .returned v/\(λ_ w'=>∃A' c',Bld w' base g t rest A' c' (out++ [b])/\Mod (BldS g A) w w'/\Moved w A A') v w'):=by
 refine dQD (c:=NB) Qa u Tryz.func225 rfl rfl rfl ?_;obtain⟨pa,ZP,hB⟩:=hb.blk;refine call (Ei g t pa _ rest w hl ZP hB) ?_;rintro v w1 ⟨Zo,Qh⟩;have VN:=hb.own.rows;have kH:=hb.g1;have lv:=hb.top;have hn:¬Qj A g:=λh=>by have:=(VN g h).1;omega
 have pS:=hb.own.mod Zo (λk hk e=>hn (e▸hk));refine Qp Qh rfl ?_;refine Na Qa rfl rfl rfl rfl rfl rfl rfl rfl ?_;intro w7 Q2 jQc Q6;have kI:Sl w7 1 (some ⟨w1.heap.size,0,none⟩) 1 1 [.int .u8 (b:Int)]:=Sl.own' Q6 rfl (by simp[maxLen]);have jQd:=Zo.size;have jQe:=Q2.size;refine JB Qa rfl rfl rfl rfl rfl (by decide) rfl rfl ⟨_,rfl⟩ rfl rfl (pS.ext Q2) kI (by simp[Jz]) (by unfold maxLen;omega) (by show _*1<=_;omega) (by omega) ?_;intro A' c' w2 XQ di mS;refine XP ((Qh.ext Q2).mod XQ hn) (by simp) (λw3 XD Qt=>?_);have pT:=di.rows;refine⟨A',c',⟨kH,by have:=XQ.size;have:=XD.size;omega,⟨_,.inr rfl,by rw[Qu];exact Qt⟩,?_⟩,?_,mS.back (by omega)⟩
 ·rw[Qu,zq];exact di.mod XD (λk hk e=>by have:=(pT k hk).1;omega)
 ·exact(((Zo.mono (S':=BldS g A) (λi hi=>.inl (.inl hi))).trans (Mod.of_ext (λ_=>False) Q2) (λi hi=>hi.elim)).trans XQ (λi hi=>.inl (.inr hi))).trans XD (λi hi=>.inl (.inl hi))
end
section
theorem r6 (a b:Value):(#[]++ [a,b].toArray)++ #[]=[a,b].toArray:=by simp
theorem Wq:o7 109 2:=by unfold o7;kernel_rfl
def Wr (base g:Nat)(W:World)(A1:Option Addr)(out xs:List Nat)(w':World):Prop:=∃A' c',Bld w' base g 109 [] A' c' (out++xs)/\Mod (BldS g A1) W w'/\Moved W A1 A'
theorem Wr.trans {base g:Nat}{W w1 w2:World}{A1 A':Option Addr}{out xs ys:List Nat}(hm:Mod (BldS g A1) W w1)(hv:Moved W A1 A')(k:Wr base g w1 A' (out++xs) ys w2):Wr base g W A1 out (xs++ys) w2:=by
 obtain⟨A2,c2,hb2,XQ,J2⟩:=k;exact⟨A2,c2,by rw[<-Je];exact hb2,hm.trans XQ (BldS.moved hv),hv.trans J2 hm.size⟩
theorem Wr.pre {base g:Nat}{w w2 w':World}{A:Option Addr}{out xs:List Nat}(h:Wr base g w2 A out xs w')(hE:Ext w w2):Wr base g w A out xs w':=by
 obtain⟨A2,c2,hb2,XQ,J2⟩:=h;exact⟨A2,c2,hb2,(Mod.of_ext _ hE).trans XQ (λi hi=>.inl hi),J2.back hE.size⟩
theorem BldS.kept {base g:Nat}{w0 W:World}{A:Option Addr}{c:Nat}{out:List Nat}(h:Bld W base g 109 [] A c out)(hg:w0.heap.size<=g):∀i,BldS g A i->w0.heap.size<=i:=λi hi=>by
 have:=h.g1;rcases hi with rfl | hi
 ·exact hg
 ·have:=(h.own.rows i hi).1;omega
def QB:Fm->Nat
 | .c _=>1
 | .v _=>1
 | .not a=>QB a+1
 | .and a b=>QB a+QB b+1
 | .or a b=>QB a+QB b+1
def VW:Fm->Int
 | .c b=>if b then 1 else 0
 | .v _=>2
 | .not _=>3
 | .and _ _=>4
 | .or _ _=>5
theorem dQZ (t:Fm):(if VW t=5 then(0:Int)else if VW t=4 then 1 else 2)=(ZF t:Nat):=by
 cases t with
 | c b=>cases b<;>rfl
 | _=>rfl
theorem RepF.node {f:List Fz}{t:Fm}{i:Nat}(h:RepF f t i):∃x,f[i]? =some x/\x.o=VW t:=by
 cases t with
 | c b=>exact⟨_,h,rfl⟩
 | v n=>exact⟨_,h,rfl⟩
 | not a=>obtain⟨j,_,h,_⟩:=h;exact⟨_,h,rfl⟩
 | and a b=>obtain⟨j,k,_,_,h,_⟩:=h;exact⟨_,h,rfl⟩
 | or a b=>obtain⟨j,k,_,_,h,_⟩:=h;exact⟨_,h,rfl⟩
def zD (base g:Nat)(w0:World)(NA:Option Addr)(nn nc:Nat)(nm:List (List Nat))(FA:Option Addr)(nf cf:Nat)(f:List Fz)(t:Fm):Prop:=
 ∀(i least:Nat) (A:Option Addr) (c:Nat) (out:List Nat) (w:World),Ext w0 w->Bld w base g 109 [] A c out->RepF f t i->VarsIn nn t->out.length+(ZG nm least t).length<=140737488355328->least<=2->
  Fn Tryz.prog 194 [.pointer (some ⟨g,0,none⟩),.slice NA nn nc,.slice FA nf cf,.int .i64 i,.int .i64 least] w (λ_ w'=>Wr base g w A out (ZG nm least t) w')
theorem dQ0 (base g:Nat)(w0:World)(NA:Option Addr)(nn nc:Nat)(nm:List (List Nat))(FA:Option Addr)(nf cf:Nat)(f:List Fz)(hN:Sl w0 1 NA nn nc (XW nm))(VO:Ks nm)(hF:SF w0 FA nf cf f)(GI:w0.heap.size<=g)(t:Fm)(ih:∀u:Fm,QB u<QB t->zD base g w0 NA nn nc nm FA nf cf f u):zD base g w0 NA nn nc nm FA nf cf f t:=by
 intro i least A c out w hE hb hr hv hl ZO;have Ka:=hF.2;have KB:nm.length=nn:=by have:=hN.len;rw[bn] at this;omega
 have hi:=hr.lt;obtain⟨x,hx,xO⟩:=hr.node;refine vg (c:={cQR with cuts:=[]}) Qa Tryz.func194 rfl rfl rfl ?_;refine ZE (Zt Qa ?_);refine Zw zz (hF.ext hE) rfl (by omega) (λp y hy hc=>?_);have ib:y=x:=Option.some.inj (hy.symm.trans hx);subst ib;refine Kr (vs:=y.cells) rfl hc ?_;refine new (λw1 Qd Q3 Qh=>?_);refine Qz Qh rfl (sc rfl) (λw2 gE Zb Ku=>?_);have Xs:Ext w w2:=X9 Qd Qh gE;have Q7:=hE.trans Xs;have hb2:=hb.grow Xs;have lv:=hb.top;have kH:=hb.g1;have ie:¬BldS g A w.heap.size:=λe=>by
  rcases e with e | e
  ·omega
  ·have:=(hb.own.rows _ e).2;omega
 refine ZE (Zt Qa ?_);refine Qx Ku rfl ?_;refine call (dQY y.o w2) ?_;rintro v _ ⟨rfl,rfl⟩;rw[xO,dQZ];have Jq:(ZG nm least t).length=(Jg nm t).length+(if ZF t<least then 2 else 0):=by
  unfold ZG Yf;split
  ·rename_i h;rw[Qf (by simpa using h)];simp
  ·rename_i h;rw[if_neg (by simpa using h)]<;>rfl
 have tu:∀A' c' out' W w',Bld W base g 109 [] A' c' out'->Mod (BldS g A') W w'->Ext w0 W->Ext w0 w':=λA' c' out' W w' hb hm hE=>hm.ext hE (BldS.kept hb GI)
 refine ZE ?_;refine ZE (Zt Qa ?_);by_cases hd:ZF t<least
 ·rw[Qf hd] at Jq;have eS:ZG nm least t=[40]++(Jg nm t++ [41]):=by unfold ZG Yf;rw[Qf (by simpa using hd)];simp
  refine dQB rfl (XR (by omega)) (ZE (Zt Qa ?_));refine call (Ej base g _ [] _ _ _ 40 w2 Wq hb2 (by omega)) ?_;rintro v w3 ⟨A3,c3,mX,XD,am⟩;generalize dq:out++ [40]=oo at mX;have Vf:=Ku.mod XD ie;have QW:=tu _ _ _ _ _ hb2 XD Q7;have tv:¬BldS g A3 w.heap.size:=λe=>(BldS.moved am _ e).elim ie (λh=>by omega)
  refine vf Qa rfl rfl rfl rfl ⟨_,_,_,_,rfl,rfl,?_⟩;have Xy:oo.length+(Jg nm t).length<=140737488355327:=by rw[<-dq,Qu];simp only[Xj,Z5];omega
  have J3:=Xy
  replace Xy:oo.length+(Jg nm t).length<=140737488355328:=by omega
  have qR:∀w',Mod (BldS g A3) w3 w'->Blk w' w.heap.size 280 y.cells/\Ext w0 w':=λw' hm=>⟨Vf.mod hm tv,tu _ _ _ _ _ mX hm QW⟩
  refine ZE (Zt Qa ?_);refine Qx Vf rfl ?_;refine Zt Qa ?_;rw[xO] at*;cases t with
  | c b=>
   cases b with
   | false=>
    refine Kc rfl ?_;refine call (iG base g _ [] _ _ _ _ w3 Wq mX (by have:(Jg nm (.c false)).length=5:=rfl;rw[this] at Xy;exact Xy)) ?_;rintro v w9 h9
    replace h9:Wr base g w3 A3 _ (Jg nm (.c false)) w9:=h9;obtain⟨A9,c9,gF,Yy,gG⟩:=h9;refine fp (fq Qa rfl rfl (.inr rfl) (r6 _ _) ((r5 .returning base g _ [] A9 c9 _ 41 w9 Wq gF (by rw[Qu];omega)).mono ?_));rintro e u' QJ ⟨rfl,v,rfl,XN⟩;refine⟨v,rfl,rfl,?_⟩;show Wr base g w A out (ZG nm least _) QJ;rw[eS];exact Wr.pre (Wr.trans XD am (by rw[dq];exact Wr.trans Yy gG XN)) Xs
   | true=>
    refine XB (by decide) ?_;refine Kc rfl ?_;refine call (iG base g _ [] _ _ _ _ w3 Wq mX (by have:(Jg nm (.c true)).length=4:=rfl;rw[this] at Xy;exact Xy)) ?_;rintro v w9 h9
    replace h9:Wr base g w3 A3 _ (Jg nm (.c true)) w9:=h9;obtain⟨A9,c9,gF,Yy,gG⟩:=h9;refine fp (fq Qa rfl rfl (.inr rfl) (r6 _ _) ((r5 .returning base g _ [] A9 c9 _ 41 w9 Wq gF (by rw[Qu];omega)).mono ?_));rintro e u' QJ ⟨rfl,v,rfl,XN⟩;refine⟨v,rfl,rfl,?_⟩;show Wr base g w A out (ZG nm least _) QJ;rw[eS];exact Wr.pre (Wr.trans XD am (by rw[dq];exact Wr.trans Yy gG XN)) Xs
  | v n=>
   have hy:y=⟨2,(n:Nat),0,0⟩:=Option.some.inj (hx.symm.trans hr);subst hy;refine XB (by show(2:Int)≠_;decide) ?_;refine XB (by show(2:Int)≠_;decide) ?_;refine Kc rfl ?_;refine Qp Vf rfl ?_;have hn:n<nn:=hv;have qS:nm[n]? =some nm[n]:=Xn (by omega);have uj:Jg nm (.v n)=nm[n]:=by show nm[n]?.getD []=_;rw[qS]<;>rfl
   rw[uj] at Xy;generalize nm[n]=s at*;refine X5 (hN.ext QW) (by omega) (λad u hA hu QE=>?_);rw[lZ qS] at hu;cases hu;refine load QE ?_;refine call (iG base g _ [] _ _ _ _ w3 Wq mX (by rw[XF];exact Xy)) ?_;rintro v w9 h9;rw[Wp (VO s (QO qS)).1] at h9;rw[<-uj] at h9;obtain⟨A9,c9,gF,Yy,gG⟩:=h9;refine fp (fq Qa rfl rfl (.inr rfl) (r6 _ _) ((r5 .returning base g _ [] A9 c9 _ 41 w9 Wq gF (by rw[Qu];omega)).mono ?_));rintro e u' QJ ⟨rfl,v,rfl,XN⟩;refine⟨v,rfl,rfl,?_⟩;show Wr base g w A out (ZG nm least _) QJ;rw[eS];exact Wr.pre (Wr.trans XD am (by rw[dq];exact Wr.trans Yy gG XN)) Xs
  | not a=>
   obtain⟨j,hj,hy,YY⟩:=hr;have hy:=Option.some.inj (hx.symm.trans hy);subst hy;refine XB (by show(3:Int)≠_;decide) ?_;refine XB (by show(3:Int)≠_;decide) ?_;refine XB (by show(3:Int)≠_;decide) ?_;refine Kc rfl ?_;have ZP:Jg nm (.not a)=[33]++ZG nm 2 a:=rfl;rw[ZP,Qu] at Xy;simp only[Xj,Z5] at Xy;refine call (Ej base g _ [] _ _ _ 33 w3 Wq mX (by omega)) ?_;rintro v w7 ⟨A7,c7,gH,J5,KI⟩;obtain⟨wn,Q2⟩:=qR w7 J5;refine Qp wn rfl ?_;refine call (ih a (by simp only[QB];omega) j 2 A7 c7 _ w7 Q2 gH YY hv (by rw[Qu];simp only[Xj,Z5];omega) (QC _)) ?_;rintro v w9 h9
   replace h9:=Wr.trans J5 KI h9;rw[<-ZP] at h9;obtain⟨A9,c9,gF,Yy,gG⟩:=h9;refine fp (fq Qa rfl rfl (.inr rfl) (r6 _ _) ((r5 .returning base g _ [] A9 c9 _ 41 w9 Wq gF (by rw[Qu];omega)).mono ?_));rintro e u' QJ ⟨rfl,v,rfl,XN⟩;refine⟨v,rfl,rfl,?_⟩;show Wr base g w A out (ZG nm least _) QJ;rw[eS];exact Wr.pre (Wr.trans XD am (by rw[dq];exact Wr.trans Yy gG XN)) Xs
  | and a b=>
   obtain⟨j,k,hj,hk,hy,YY,eT⟩:=hr;have hy:=Option.some.inj (hx.symm.trans hy);subst hy;refine XB (by show(4:Int)≠_;decide) ?_;refine XB (by show(4:Int)≠_;decide) ?_;refine XB (by show(4:Int)≠_;decide) ?_;refine XB (by show(4:Int)≠_;decide) ?_;have ZP:Jg nm (.and a b)=(ZG nm 1 a++ [32,38,38,32])++ZG nm 2 b:=rfl;rw[ZP,Qu,Qu] at Xy;simp only[Xj,Z5] at Xy;refine Qp Vf rfl ?_;refine call (ih a (by simp only[QB];omega) j 1 _ _ _ w3 QW mX YY hv.1 (by omega) (by omega)) ?_;rintro v w7 ⟨A7,c7,gH,J5,KI⟩;refine rM Qa rfl rfl rfl rfl rfl rfl rfl rfl rfl rfl (λw8 Q0 VJ Xt=>?_);refine index (j:=1) (by decide) ?_;refine Qp Xt rfl ?_;have JH:=J5.trans (Mod.of_ext (BldS g A7) Q0) (BldS.moved KI);refine call (iG base g _ [] _ _ _ _ w8 Wq (gH.grow Q0) (by rw[Qu,show(⟨#[32,38,38,32]⟩:ByteArray).size=4 from rfl];omega)) ?_;rintro v w5 h5
   replace h5:=Wr.trans JH KI (show Wr base g w8 A7 _ [32,38,38,32] w5 from (by obtain⟨A5,c5,WF,XS,V5⟩:=h5;exact⟨A5,c5,WF,XS,V5⟩));obtain⟨A5,c5,WF,XS,V5⟩:=h5;obtain⟨Kv,Qv⟩:=qR w5 XS;refine Qp Kv rfl ?_;refine Qi 2 (by show(1:Int)+1=2;decide) (by decide) ?_;refine call (ih b (by simp only[QB];omega) k 2 A5 c5 _ w5 Qv WF eT hv.2 (by rw[Qu,Qu];simp only[Xj,Z5];omega) (by omega)) ?_;rintro v w9 h9
   replace h9:=Wr.trans XS V5 h9;rw[<-ZP] at h9;obtain⟨A9,c9,gF,Yy,gG⟩:=h9;refine fp (fq Qa rfl rfl (.inr rfl) (r6 _ _) ((r5 .returning base g _ [] A9 c9 _ 41 w9 Wq gF (by rw[Qu];omega)).mono ?_));rintro e u' QJ ⟨rfl,v,rfl,XN⟩;refine⟨v,rfl,rfl,?_⟩;show Wr base g w A out (ZG nm least _) QJ;rw[eS];exact Wr.pre (Wr.trans XD am (by rw[dq];exact Wr.trans Yy gG XN)) Xs
  | or a b=>
   obtain⟨j,k,hj,hk,hy,YY,eT⟩:=hr;have hy:=Option.some.inj (hx.symm.trans hy);subst hy;refine XB (by show(5:Int)≠_;decide) ?_;refine XB (by show(5:Int)≠_;decide) ?_;refine XB (by show(5:Int)≠_;decide) ?_;refine XB (by show(5:Int)≠_;decide) ?_;have ZP:Jg nm (.or a b)=(ZG nm 0 a++ [32,124,124,32])++ZG nm 1 b:=rfl;rw[ZP,Qu,Qu] at Xy;simp only[Xj,Z5] at Xy;refine Qp Vf rfl ?_;refine call (ih a (by simp only[QB];omega) j 0 _ _ _ w3 QW mX YY hv.1 (by omega) (by omega)) ?_;rintro v w7 ⟨A7,c7,gH,J5,KI⟩;refine rM Qa rfl rfl rfl rfl rfl rfl rfl rfl rfl rfl (λw8 Q0 VJ Xt=>?_);refine index (j:=0) (by decide) ?_;refine Qp Xt rfl ?_;have JH:=J5.trans (Mod.of_ext (BldS g A7) Q0) (BldS.moved KI);refine call (iG base g _ [] _ _ _ _ w8 Wq (gH.grow Q0) (by rw[Qu,show(⟨#[32,124,124,32]⟩:ByteArray).size=4 from rfl];omega)) ?_;rintro v w5 h5
   replace h5:=Wr.trans JH KI (show Wr base g w8 A7 _ [32,124,124,32] w5 from (by obtain⟨A5,c5,WF,XS,V5⟩:=h5;exact⟨A5,c5,WF,XS,V5⟩));obtain⟨A5,c5,WF,XS,V5⟩:=h5;obtain⟨Kv,Qv⟩:=qR w5 XS;refine Qp Kv rfl ?_;refine Qi 1 (by show(0:Int)+1=1;decide) (by decide) ?_;refine call (ih b (by simp only[QB];omega) k 1 A5 c5 _ w5 Qv WF eT hv.2 (by rw[Qu,Qu];simp only[Xj,Z5];omega) (by omega)) ?_;rintro v w9 h9
   replace h9:=Wr.trans XS V5 h9;rw[<-ZP] at h9;obtain⟨A9,c9,gF,Yy,gG⟩:=h9;refine fp (fq Qa rfl rfl (.inr rfl) (r6 _ _) ((r5 .returning base g _ [] A9 c9 _ 41 w9 Wq gF (by rw[Qu];omega)).mono ?_));rintro e u' QJ ⟨rfl,v,rfl,XN⟩;refine⟨v,rfl,rfl,?_⟩;show Wr base g w A out (ZG nm least _) QJ;rw[eS];exact Wr.pre (Wr.trans XD am (by rw[dq];exact Wr.trans Yy gG XN)) Xs
 ·rw[if_neg hd] at Jq;have eS:ZG nm least t=Jg nm t:=by unfold ZG Yf;rw[if_neg (by simpa using hd)]
  refine dQC rfl (X4 (by omega)) (Zt Qa ?_);have Xy:out.length+(Jg nm t).length<=140737488355328:=by omega
  have qR:∀w',Mod (BldS g A) w2 w'->Blk w' w.heap.size 280 y.cells/\Ext w0 w':=λw' hm=>⟨Ku.mod hm ie,tu _ _ _ _ _ hb2 hm Q7⟩
  refine ZE (Zt Qa ?_);refine Qx Ku rfl ?_;refine Zt Qa ?_;rw[xO] at*;cases t with
  | c b=>
   cases b with
   | false=>
    refine Kc rfl ?_;refine call (iG base g _ [] _ _ _ _ w2 Wq hb2 (by have:(Jg nm (.c false)).length=5:=rfl;rw[this] at Xy;exact Xy)) ?_;rintro v w9 h9
    replace h9:Wr base g w2 A _ (Jg nm (.c false)) w9:=h9;refine fp (iH Qa rfl (.inr rfl) ?_);show Wr base g w A out (ZG nm least _) w9;rw[eS];exact Wr.pre h9 Xs
   | true=>
    refine XB (by decide) ?_;refine Kc rfl ?_;refine call (iG base g _ [] _ _ _ _ w2 Wq hb2 (by have:(Jg nm (.c true)).length=4:=rfl;rw[this] at Xy;exact Xy)) ?_;rintro v w9 h9
    replace h9:Wr base g w2 A _ (Jg nm (.c true)) w9:=h9;refine fp (iH Qa rfl (.inr rfl) ?_);show Wr base g w A out (ZG nm least _) w9;rw[eS];exact Wr.pre h9 Xs
  | v n=>
   have hy:y=⟨2,(n:Nat),0,0⟩:=Option.some.inj (hx.symm.trans hr);subst hy;refine XB (by show(2:Int)≠_;decide) ?_;refine XB (by show(2:Int)≠_;decide) ?_;refine Kc rfl ?_;refine Qp Ku rfl ?_;have hn:n<nn:=hv;have qS:nm[n]? =some nm[n]:=Xn (by omega);have uj:Jg nm (.v n)=nm[n]:=by show nm[n]?.getD []=_;rw[qS]<;>rfl
   rw[uj] at Xy;generalize nm[n]=s at*;refine X5 (hN.ext Q7) (by omega) (λad u hA hu QE=>?_);rw[lZ qS] at hu;cases hu;refine load QE ?_;refine call (iG base g _ [] _ _ _ _ w2 Wq hb2 (by rw[XF];exact Xy)) ?_;rintro v w9 h9;rw[Wp (VO s (QO qS)).1] at h9;rw[<-uj] at h9;refine fp (iH Qa rfl (.inr rfl) ?_);show Wr base g w A out (ZG nm least _) w9;rw[eS];exact Wr.pre h9 Xs
  | not a=>
   obtain⟨j,hj,hy,YY⟩:=hr;have hy:=Option.some.inj (hx.symm.trans hy);subst hy;refine XB (by show(3:Int)≠_;decide) ?_;refine XB (by show(3:Int)≠_;decide) ?_;refine XB (by show(3:Int)≠_;decide) ?_;refine Kc rfl ?_;have ZP:Jg nm (.not a)=[33]++ZG nm 2 a:=rfl;rw[ZP,Qu] at Xy;simp only[Xj,Z5] at Xy;refine call (Ej base g _ [] _ _ _ 33 w2 Wq hb2 (by omega)) ?_;rintro v w7 ⟨A7,c7,gH,J5,KI⟩;obtain⟨wn,Q2⟩:=qR w7 J5;refine Qp wn rfl ?_;refine call (ih a (by simp only[QB];omega) j 2 A7 c7 _ w7 Q2 gH YY hv (by rw[Qu];simp only[Xj,Z5];omega) (QC _)) ?_;rintro v w9 h9
   replace h9:=Wr.trans J5 KI h9;rw[<-ZP] at h9;refine fp (iH Qa rfl (.inr rfl) ?_);show Wr base g w A out (ZG nm least _) w9;rw[eS];exact Wr.pre h9 Xs
  | and a b=>
   obtain⟨j,k,hj,hk,hy,YY,eT⟩:=hr;have hy:=Option.some.inj (hx.symm.trans hy);subst hy;refine XB (by show(4:Int)≠_;decide) ?_;refine XB (by show(4:Int)≠_;decide) ?_;refine XB (by show(4:Int)≠_;decide) ?_;refine XB (by show(4:Int)≠_;decide) ?_;have ZP:Jg nm (.and a b)=(ZG nm 1 a++ [32,38,38,32])++ZG nm 2 b:=rfl;rw[ZP,Qu,Qu] at Xy;simp only[Xj,Z5] at Xy;refine Qp Ku rfl ?_;refine call (ih a (by simp only[QB];omega) j 1 _ _ _ w2 Q7 hb2 YY hv.1 (by omega) (by omega)) ?_;rintro v w7 ⟨A7,c7,gH,J5,KI⟩;refine rM Qa rfl rfl rfl rfl rfl rfl rfl rfl rfl rfl (λw8 Q0 VJ Xt=>?_);refine index (j:=1) (by decide) ?_;refine Qp Xt rfl ?_;have JH:=J5.trans (Mod.of_ext (BldS g A7) Q0) (BldS.moved KI);refine call (iG base g _ [] _ _ _ _ w8 Wq (gH.grow Q0) (by rw[Qu,show(⟨#[32,38,38,32]⟩:ByteArray).size=4 from rfl];omega)) ?_;rintro v w5 h5
   replace h5:=Wr.trans JH KI (show Wr base g w8 A7 _ [32,38,38,32] w5 from (by obtain⟨A5,c5,WF,XS,V5⟩:=h5;exact⟨A5,c5,WF,XS,V5⟩));obtain⟨A5,c5,WF,XS,V5⟩:=h5;obtain⟨Kv,Qv⟩:=qR w5 XS;refine Qp Kv rfl ?_;refine Qi 2 (by show(1:Int)+1=2;decide) (by decide) ?_;refine call (ih b (by simp only[QB];omega) k 2 A5 c5 _ w5 Qv WF eT hv.2 (by rw[Qu,Qu];simp only[Xj,Z5];omega) (by omega)) ?_;rintro v w9 h9
   replace h9:=Wr.trans XS V5 h9;rw[<-ZP] at h9;refine fp (iH Qa rfl (.inr rfl) ?_);show Wr base g w A out (ZG nm least _) w9;rw[eS];exact Wr.pre h9 Xs
  | or a b=>
   obtain⟨j,k,hj,hk,hy,YY,eT⟩:=hr;have hy:=Option.some.inj (hx.symm.trans hy);subst hy;refine XB (by show(5:Int)≠_;decide) ?_;refine XB (by show(5:Int)≠_;decide) ?_;refine XB (by show(5:Int)≠_;decide) ?_;refine XB (by show(5:Int)≠_;decide) ?_;have ZP:Jg nm (.or a b)=(ZG nm 0 a++ [32,124,124,32])++ZG nm 1 b:=rfl;rw[ZP,Qu,Qu] at Xy;simp only[Xj,Z5] at Xy;refine Qp Ku rfl ?_;refine call (ih a (by simp only[QB];omega) j 0 _ _ _ w2 Q7 hb2 YY hv.1 (by omega) (by omega)) ?_;rintro v w7 ⟨A7,c7,gH,J5,KI⟩;refine rM Qa rfl rfl rfl rfl rfl rfl rfl rfl rfl rfl (λw8 Q0 VJ Xt=>?_);refine index (j:=0) (by decide) ?_;refine Qp Xt rfl ?_;have JH:=J5.trans (Mod.of_ext (BldS g A7) Q0) (BldS.moved KI);refine call (iG base g _ [] _ _ _ _ w8 Wq (gH.grow Q0) (by rw[Qu,show(⟨#[32,124,124,32]⟩:ByteArray).size=4 from rfl];omega)) ?_;rintro v w5 h5
   replace h5:=Wr.trans JH KI (show Wr base g w8 A7 _ [32,124,124,32] w5 from (by obtain⟨A5,c5,WF,XS,V5⟩:=h5;exact⟨A5,c5,WF,XS,V5⟩));obtain⟨A5,c5,WF,XS,V5⟩:=h5;obtain⟨Kv,Qv⟩:=qR w5 XS;refine Qp Kv rfl ?_;refine Qi 1 (by show(0:Int)+1=1;decide) (by decide) ?_;refine call (ih b (by simp only[QB];omega) k 1 A5 c5 _ w5 Qv WF eT hv.2 (by rw[Qu,Qu];simp only[Xj,Z5];omega) (by omega)) ?_;rintro v w9 h9
   replace h9:=Wr.trans XS V5 h9;rw[<-ZP] at h9;refine fp (iH Qa rfl (.inr rfl) ?_);show Wr base g w A out (ZG nm least _) w9;rw[eS];exact Wr.pre h9 Xs
theorem dQ1 (base g:Nat)(w0:World)(NA:Option Addr)(nn nc:Nat)(nm:List (List Nat))(FA:Option Addr)(nf cf:Nat)(f:List Fz)(hN:Sl w0 1 NA nn nc (XW nm))(VO:Ks nm)(hF:SF w0 FA nf cf f)(GI:w0.heap.size<=g)(t:Fm):zD base g w0 NA nn nc nm FA nf cf f t:=by
 have key:∀(n:Nat) (t:Fm),QB t<n->zD base g w0 NA nn nc nm FA nf cf f t:=by
  intro n;induction n with
  | zero=>intro t h;omega
  | succ n ih=>intro t _;exact dQ0 base g w0 NA nn nc nm FA nf cf f hN VO hF GI t (λu hu=>ih u (by omega))
 exact key _ t (dI _)
end
section
theorem zE {o v a b o' v' a' b':Int}(h:(⟨o,v,a,b⟩:Fz)=⟨o',v',a',b'⟩):o=o'/\v=v'/\a=a'/\b=b':=by cases h;exact⟨rfl,rfl,rfl,rfl⟩
theorem mQY {f:List Fz}:∀{t t':Fm}{i:Nat},RepF f t i->RepF f t' i->t=t':=by
 intro t;induction t with
 | c b=>
  intro t' i h h';obtain⟨x,hx,ho⟩:=RepF.node h;obtain⟨x',KA,Ko⟩:=RepF.node h';have e:=Option.some.inj (hx.symm.trans KA);rw[<-e,ho] at Ko;cases t' with
  | c b'=>cases b<;>cases b'<;>first | rfl | (simp[VW] at Ko)
  | v n=>cases b<;>simp[VW] at Ko
  | not a=>cases b<;>simp[VW] at Ko
  | and a c=>cases b<;>simp[VW] at Ko
  | or a c=>cases b<;>simp[VW] at Ko
 | v n=>
  intro t' i h h';obtain⟨x',KA,Ko⟩:=RepF.node h';have e:=Option.some.inj (KA.symm.trans h);rw[e] at Ko;cases t' with
  | c b'=>cases b'<;>simp[VW] at Ko
  | v n'=>
   have:=zE (Option.some.inj (h.symm.trans h'));congr 1;omega
  | not a=>simp[VW] at Ko
  | and a c=>simp[VW] at Ko
  | or a c=>simp[VW] at Ko
 | not a iha=>
  intro t' i h h';obtain⟨j,hj,hx,ha⟩:=h;obtain⟨x',KA,Ko⟩:=RepF.node h';have e:=Option.some.inj (KA.symm.trans hx);rw[e] at Ko;cases t' with
  | c b'=>cases b'<;>simp[VW] at Ko
  | v n'=>simp[VW] at Ko
  | not a'=>
   obtain⟨j',fR,xP,qT⟩:=h';have:=zE (Option.some.inj (hx.symm.trans xP));have ej:j=j':=by omega
   subst ej;rw[iha ha qT]
  | and a c=>simp[VW] at Ko
  | or a c=>simp[VW] at Ko
 | and a b iha ihb=>
  intro t' i h h';obtain⟨j,k,hj,hk,hx,ha,hb⟩:=h;obtain⟨x',KA,Ko⟩:=RepF.node h';have e:=Option.some.inj (KA.symm.trans hx);rw[e] at Ko;cases t' with
  | c b'=>cases b'<;>simp[VW] at Ko
  | v n'=>simp[VW] at Ko
  | not a'=>simp[VW] at Ko
  | and a' b'=>
   obtain⟨j',k',fR,YD,xP,qT,hb'⟩:=h';have:=zE (Option.some.inj (hx.symm.trans xP));have ej:j=j':=by omega
   have ek:k=k':=by omega
   subst ej;subst ek;rw[iha ha qT,ihb hb hb']
  | or a c=>simp[VW] at Ko
 | or a b iha ihb=>
  intro t' i h h';obtain⟨j,k,hj,hk,hx,ha,hb⟩:=h;obtain⟨x',KA,Ko⟩:=RepF.node h';have e:=Option.some.inj (KA.symm.trans hx);rw[e] at Ko;cases t' with
  | c b'=>cases b'<;>simp[VW] at Ko
  | v n'=>simp[VW] at Ko
  | not a'=>simp[VW] at Ko
  | and a c=>simp[VW] at Ko
  | or a' b'=>
   obtain⟨j',k',fR,YD,xP,qT,hb'⟩:=h';have:=zE (Option.some.inj (hx.symm.trans xP));have ej:j=j':=by omega
   have ek:k=k':=by omega
   subst ej;subst ek;rw[iha ha qT,ihb hb hb']
open Classical in
def fu (f:List Fz):Fm:=if h:∃t,RepF f t (f.length-1)then h.choose else .c false
theorem Ey {f:List Fz}{t:Fm}(h:RepF f t (f.length-1)):fu f=t:=by
 have fM:∃t,RepF f t (f.length-1):=⟨t,h⟩
 unfold fu;rw[dif_pos fM];exact mQY fM.choose_spec h
theorem dQ2 {f:List Fz}(h:FV f):RepF f (fu f) (f.length-1):=by
 obtain⟨t,ht⟩:=Og h.2.2.1 (f.length-1) (by have:=h.2.1;omega);rw[Ey ht];exact ht
def mf (n:Nat)(f:List Fz):Prop:=∀x∈f,x.o=2->x.v<n
theorem sf {n:Nat}{f:List Fz}(h:mf n f):∀{t:Fm}{i:Nat},RepF f t i->VarsIn n t
 | .c _,_,_=>trivial
 | .v k,_,hr=>by have:=h _ (QO hr) rfl;simp only at this;show k<n;omega
 | .not a,_,⟨_,_,_,ha⟩=>show VarsIn n a from sf h ha
 | .and a b,_,⟨_,_,_,_,_,ha,hb⟩=>⟨show VarsIn n a from sf h ha,show VarsIn n b from sf h hb⟩
 | .or a b,_,⟨_,_,_,_,_,ha,hb⟩=>⟨show VarsIn n a from sf h ha,show VarsIn n b from sf h hb⟩
open Classical in
def jP (names:List (List Nat))(f:List Fz):List Nat×Int:=if ZM names then if FV f/\mf names.length f then(ZG names 0 (fu f),0)else([],30)else([],1)
theorem dQ3 {names:List (List Nat)}{f:List Fz}(h:ZM names=false):jP names f=([],1):=by unfold jP;rw[h]<;>rfl
theorem Oh {names:List (List Nat)}{f:List Fz}(h:ZM names=true)(hv:FV f)(ho:mf names.length f):jP names f=(ZG names 0 (fu f),0):=by unfold jP;rw[Qf h,Qf ⟨hv,ho⟩]
theorem Oi {names:List (List Nat)}{f:List Fz}(h:ZM names=true)(hv:¬(FV f/\mf names.length f)):jP names f=([],30):=by unfold jP;rw[Qf h,if_neg hv]
def Oj (w:World)(r:List Nat×Int)(v:Value)(w':World):Prop:=v= .tuple #[.string (Qe r.1),.int .i64 r.2]/\Ext w w'
theorem dQ4 {nm:List (List Nat)}(hn:Ks nm):∀(t:Fm),∀x∈Jg nm t,x<256:=by
 have par:∀(b:Bool) (s:List Nat),(∀x∈s,x<256)->∀x∈Yf b s,x<256:=by
  intro b s h x hx;unfold Yf at hx;split at hx
  ·simp only[Xw,QZ,Jf,Jn,Jb] at hx;rcases hx with rfl | hx | rfl
   ·decide
   ·exact h x hx
   ·decide
  ·exact h x hx
 intro t;induction t with
 | c b=>
  cases b
  ·show∀x∈bW,x<256;decide
  ·show∀x∈Y5,x<256;decide
 | v n=>
  intro x hx;unfold Jg at hx;cases h:nm[n]? with
  | none=>rw[h] at hx;cases hx
  | some s=>rw[h] at hx;exact(hn s (QO h)).1 x hx
 | not a ih=>
  intro x hx;unfold Jg at hx;simp only[QZ] at hx;rcases hx with rfl | hx
  ·decide
  ·exact par _ _ ih x hx
 | and a b iha ihb=>
  intro x hx;unfold Jg at hx;simp only[Xw,QZ,Jf,Jn] at hx;rcases hx with(hx | hx) | hx
  ·exact par _ _ iha x hx
  ·omega
  ·exact par _ _ ihb x hx
 | or a b iha ihb=>
  intro x hx;unfold Jg at hx;simp only[Xw,QZ,Jf,Jn] at hx;rcases hx with(hx | hx) | hx
  ·exact par _ _ iha x hx
  ·omega
  ·exact par _ _ ihb x hx
theorem dQ5 (names:List (List Nat))(A FA:Option Addr)(n c nf cf:Nat)(f:List Fz)(w:World)(h:Sl w 1 A n c (XW names))(hb:Ks names)(hF:SF w FA nf cf f)(hl:FV f->mf names.length f->(ZG names 0 (fu f)).length<=140737488355328):
  Fn Tryz.prog 134 [.slice A n c,.slice FA nf cf] w (Oj w (jP names f)):=by
 have Ka:=hF.2;have KB:names.length=n:=by have:=h.len;rw[bn] at this;omega
 refine QD (c:={cQf with cuts:=[6]}) Qa Tryz.func134 rfl rfl rfl ?_;refine call (Ep names A n c w h hb) ?_;rintro v w1 ⟨v1,rfl,Qd,_⟩;cases Zq:ZM names with
 | false=>
  refine Xa rfl ?_;exact⟨by rw[dQ3 Zq];rfl,Qd⟩
 | true=>
  refine Q5 rfl ?_;refine call (N9 FA nf cf f w1 (hF.ext Qd)) ?_;rintro v w2 ⟨rfl,Qg⟩;have Q7:=Qd.trans Qg;refine bg (λh1=>?_) (λh1=>?_)
  ·exact⟨by rw[Oi Zq (λhh=>h1 (zB hh.1))];rfl,Q7⟩
  have hv:=dQK.1 h1;refine iD [] Qa [] (λ_:Unit=>[]) (λ_ w'=>Ext w w'/\mf names.length f) ?_ ?_
  ·refine loop Qa [23] (λs:Nat=>[.int .i64 s]) (λs w'=>Ext w w'/\s<=nf/\∀j x,j<s->f[j]? =some x->x.o=2->x.v<n) (λs _=>nf-s) 0 rfl ⟨Q7,XJ _,λj x hj=>Q8 hj (by omega)⟩ ?_;rintro s w3 ⟨Qk,hs,hall⟩;refine Qy (λh3=>?_) (λh3=>?_)
   ·refine Zw zz (hF.ext Qk) rfl (by omega) (λp x hx hc=>?_);refine Kr (vs:=x.cells) rfl hc ?_;refine new (λw4 Qq KY Q4=>?_);refine Qz Q4 rfl (sc rfl) (λw5 Jw KJ QK=>?_);have J6:Ext w3 w5:=X9 Qq Q4 Jw;have Qv:=Qk.trans J6;have next:(x.o=2->x.v<n)->∀j y,j<s+1->f[j]? =some y->y.o=2->y.v<n:=λhq j y hj hy ho=>by
     by_cases YF:j<s
     ·exact hall j y YF hy ho
     ·have:j=s:=by omega
      subst this;have e:=Option.some.inj (hy.symm.trans hx);subst e;exact hq ho
    refine Qx QK rfl ?_;refine Zh (λh4=>?_) (λh4=>?_)
    ·refine Qp QK rfl ?_;refine Qy (λh5=>?_) (λh5=>?_)
     ·refine⟨?_,Qv⟩;rw[Oi Zq (λhh=>by have:=hh.2 x (QO hx) h4;omega)];rfl
     ·refine Qi ((s+1:Nat):Int) (by omega) (by have:=hv.1;omega) ?_;exact⟨s+1,rfl,⟨Qv,by omega,next (λ_=>by omega)⟩,by show nf-(s+1)<nf-s;omega⟩
    ·refine Qi ((s+1:Nat):Int) (by omega) (by have:=hv.1;omega) ?_;exact⟨s+1,rfl,⟨Qv,by omega,next (λho=>Q8 ho h4)⟩,by show nf-(s+1)<nf-s;omega⟩
   ·refine⟨(),rfl,Qk,λx hx ho=>?_⟩;obtain⟨j,hj,rfl⟩:=DF.1 hx;rw[KB];exact hall j _ (by omega) (Xn hj) ho
  rintro⟨⟩ w3 ⟨Qk,Lg⟩;have ht:=dQ2 hv;have jl:=hv.2.1;refine new (λw4 Qq KY Q4=>?_);have hb4:Bld w4 w4.heap.size w3.heap.size 109 [] none 0 []:=⟨by omega,QC _,⟨_,.inl rfl,Q4⟩,Own.nil _ _ _ _⟩
  refine Qi ((nf-1:Nat):Int) (by omega) (by have:=hv.1;omega) ?_;have ly:=hl hv Lg;rw[Ka] at ht;refine call (dQ1 w4.heap.size w3.heap.size w3 A n c names FA nf cf f (h.ext Qk) hb (hF.ext Qk) (QC _) (fu f) (nf-1) 0 none 0 [] w4 Qq hb4 ht (by rw[<-KB];exact sf Lg ht) (by rw[Z5];omega) (by omega)) ?_;rintro v w5 ⟨A5,c5,WF,XS,V5⟩;rw[bP] at WF;have Qv:Ext w w5:=XS.ext (Qk.trans Qq) (λi hi=>by
   rcases hi with rfl | ⟨_,e,_⟩
   ·exact Qk.size
   ·cases e)
  have h8:∀x∈ZG names 0 (fu f),x<256:=by
   unfold ZG Yf;rw[if_neg (by simp)];exact dQ4 hb _
  refine call (dQg w4.heap.size w3.heap.size _ [] A5 c5 _ w5 WF h8 ly) ?_;rintro v w6 ⟨rfl,Ym⟩;refine⟨by rw[Oh Zq hv Lg],Ym.ext Qv (λi hi=>?_)⟩;have:=(WF.own.rows i hi).1;have:=Qk.size;omega
end
section
structure Br where
 v:Int
 l:Int
 h:Int
deriving DecidableEq
def Br.cells (x:Br):List Value:=[.int .i64 x.v,.int .i64 x.l,.int .i64 x.h]
theorem Ws (x:Br):x.cells.length=3:=rfl
abbrev SB (w:World)(A:Option Addr)(n c:Nat)(d:List Br):Prop:=SlS Br.cells 3 w A n c d
def Xm (A:Option Addr)(n c:Nat)(r:Int):Value:=.agg #[.slice A n c,.int .i64 r]
def Ql (d:List Br)(n:Int):Int:=if n<2 then 64 else(d[(n-2).toNat]?.map (·.v)).getD 64
def Za (nd:List Br):Nat->Int->List Br×List Nat->Int×(List Br×List Nat)
 | 0,n,st=>(n,st)
 | m+1,n,st=>if n<2 then(n,st)else
   if 0<st.2[(n-2).toNat]?.getD 0 then((st.2[(n-2).toNat]?.getD 0:Nat),st)else
    match nd[(n-2).toNat]? with
    | none=>(n,st)
    | some x=>
     let a:=Za nd m x.l st
     let b:=Za nd m x.h a.2
     (((b.2.1.length+2:Nat):Int),(b.2.1++ [⟨x.v,a.1,b.1⟩],b.2.2.set (n-2).toNat (b.2.1.length+2)))
def bq (nd:List Br)(r:Int):List Br×Int:=let a:=Za nd (r.toNat+1) r ([],List.replicate nd.length 0);(a.2.1,a.1)
def W3 (nd:List Br):Prop:=∀(j:Nat)(x:Br),nd[j]? =some x->0<=x.l/\x.l<j+2/\0<=x.h/\x.h<j+2
def gk (nd:List Br)(j:Nat)(b:Br):Prop:=0<=b.v/\b.v<=63/\0<=b.l/\b.l<j+2/\0<=b.h/\b.h<j+2/\b.l≠b.h/\b∉nd.take j/\b.v<Ql nd b.l/\b.v<Ql nd b.h
def VD (nd:List Br)(r:Int):Prop:=(∀(j:Nat)(b:Br),nd[j]? =some b->gk nd j b)/\0<=r/\r<nd.length+2/\bq nd r=(nd,r)
open Classical in
def XG (nd:List Br)(r:Int):Int:=if 4096<nd.length then 2 else if VD nd r then 0 else 20
theorem dQ6 {nd:List Br}{r:Int}(h:4096<nd.length):XG nd r=2:=Qf h
theorem Ez {nd:List Br}{r:Int}(h:¬4096<nd.length)(k:VD nd r):XG nd r=0:=(if_neg h).trans (Qf k)
theorem zF {nd:List Br}{r:Int}(h:¬4096<nd.length)(k:¬VD nd r):XG nd r=20:=(if_neg h).trans (if_neg k)
theorem fw {nd:List Br}{r:Int}:XG nd r=0↔¬4096<nd.length/\VD nd r:=by
 constructor
 ·intro h;unfold XG at h;split at h
  ·cases h
  ·split at h
   ·exact⟨by assumption,by assumption⟩
   ·cases h
 ·exactλh=>Ez h.1 h.2
theorem VD.wf {nd:List Br}{r:Int}(h:VD nd r):W3 nd:=λj x hx=>by
 obtain⟨_,_,h1,h2,h3,h4,_⟩:=h.1 j x hx;exact⟨h1,h2,h3,h4⟩
theorem cS (A:Option Addr)(n c:Nat)(r m:Int)(nd:List Br)(w:World)(h:SB w A n c nd)(hm:m<n+2):
  Fn Tryz.prog 103 [Xm A n c r,.int .i64 m] w (λv w'=>v= .int .i64 (Ql nd m)/\Ext w w'):=by
 have Xd:=h.2;refine QD (c:={bQY with cuts:=[]}) Qa Tryz.func103 rfl rfl rfl ?_;refine new (λw1 Qd Q3 Qh=>?_);refine Qy (λh1=>?_) (λh1=>?_)
 ·exact⟨by unfold Ql;rw[Qf h1],Qd⟩
 ·refine Qx Qh rfl ?_;refine Qi (((m-2).toNat:Nat):Int) (by omega) (by have:=h.1.le;have:=h.1.cap;simp only[maxLen] at this;omega) ?_;refine Zw Ws (h.ext Qd) rfl (by omega) (λp x hx hc=>?_);refine load (hc 0 _ rfl) ?_;exact⟨by unfold Ql;rw[if_neg h1,hx];rfl,Qd⟩
theorem ph (a b c a' b' c':Int):(a==a'&&(b==b'&&(c==c'&&true)))=decide (a=a'/\b=b'/\c=c'):=by
 rw[oE];simp only[JL,beq_iff_eq,Vl,and_true]
theorem pi {x y:Br}:x=y↔x.v=y.v/\x.l=y.l/\x.h=y.h:=by
 constructor
 ·rintro rfl;exact⟨rfl,rfl,rfl⟩
 ·obtain⟨a,b,c⟩:=x;obtain⟨d,e,f⟩:=y;rintro⟨rfl,rfl,rfl⟩;rfl
theorem dQ7 {α:Type}{l l':List α}{j:Nat}{x y:α}(hx:l[j]? =some x)(hy:l'[j]? =some y)(h:x≠y):l≠l':=λe=>by subst e;exact h (Option.some.inj (hx.symm.trans hy))
theorem dQ8 {α:Type}{l l':List α}{n:Nat}(h1:l.length=n)(h2:l'.length=n)(h:∀j,j<n->l[j]? =l'[j]?):l=l':=by
 apply DB;intro j;by_cases hj:j<n
 ·exact h j hj
 ·rw[lM (by omega),lM (by omega)]
theorem dQ9 (A B:Option Addr)(n c m e:Nat)(l l':List Br)(w:World)(h:SB w A n c l)(h':SB w B m e l'):
  Fn Tryz.prog 158 [.slice A n c,.slice B m e] w (λv w'=>v= .bool (decide (l=l'))/\Ext w w'):=by
 have hl:=h.2;have cE:=h'.2;refine QD (c:={cQz with cuts:=[]}) Qa Tryz.func158 rfl rfl rfl ?_;refine bg (λh1=>?_) (λh1=>?_)
 ·exact⟨by rw[X4 (λe=>by subst e;omega)],Ext.refl w⟩
 refine loop Qa [13] (λs:Nat=>[.int .i64 s]) (λs w'=>Ext w w'/\s<=n/\∀j,j<s->l[j]? =l'[j]?) (λs _=>n-s) 0 rfl ⟨Ext.refl w,XJ _,λj hj=>Q8 hj (by omega)⟩ ?_;rintro s w1 ⟨Qd,hs,hall⟩;refine Qy (λh2=>?_) (λh2=>?_)
 ·refine XC Qa (Ext w1) 9 [(true,0),(true,1),(true,2),(true,3),(true,4),(true,5),(true,6),(true,7),(true,8)] (by kernel_rfl) (Ext.drew w1) ?_;refine Zw Ws (h.ext Qd) rfl (by omega) (λp x hx hc=>?_);refine Xq (vs:=x.cells) rfl (λw' Qb j v hj=>Qb.cell (hc j v hj)) ?_;refine Zw Ws (h'.ext Qd) rfl (by omega) (λq y hy Z2=>?_);refine Xq (vs:=y.cells) rfl (λw' Qb j v hj=>Qb.cell (Z2 j v hj)) ?_;have cH:=Qd.trans (Ext.drew w1);by_cases Xr:x=y
  ·refine Q5 (by rw[ph,XR (pi.1 Xr)];rfl) ?_;refine Qi ((s+1:Nat):Int) (by omega) (by have:=h.1.le;have:=h.1.cap;simp only[maxLen] at this;omega) ?_;refine⟨s+1,rfl,⟨cH,by omega,λj hj=>?_⟩,by show n-(s+1)<n-s;omega⟩;by_cases YF:j<s
   ·exact hall j YF
   ·have:j=s:=by omega
    subst this;rw[hx,hy,Xr]
  ·refine Xa (by rw[ph,X4 (λe=>Xr (pi.2 e))];rfl) ?_;exact⟨by rw[X4 (dQ7 hx hy Xr)],cH⟩
 ·exact⟨by rw[XR (dQ8 hl (by omega) (λj hj=>hall j (by omega)))],Qd⟩
theorem eQa (A B:Option Addr)(n c m e:Nat)(l l':List Br)(r r':Int)(w:World)(h:SB w A n c l)(h':SB w B m e l'):
  Fn Tryz.prog 105 [Xm A n c r,Xm B m e r'] w (λv w'=>v= .bool (decide ((l,r)=(l',r')))/\Ext w w'):=by
 refine QD (c:={bQ0 with cuts:=[]}) Qa Tryz.func105 rfl rfl rfl ?_;refine new (λw1 Qd Q3 Qh=>?_);refine new (λw2 Qg Zb Qw=>?_);have Vg:=Qh.ext Qg;have Q7:=Qd.trans Qg;refine Qp Vg rfl ?_;refine Qp Qw rfl ?_;refine Zh (λh1=>?_) (λh1=>?_)
 ·refine Qx Vg rfl ?_;refine Qx Qw rfl ?_;refine call (dQ9 A B n c m e l l' w2 (h.ext Q7) (h'.ext Q7)) ?_;rintro v w3 ⟨rfl,Qk⟩;refine⟨?_,Q7.trans Qk⟩;congr 1;exact oM.2 ⟨λe=>by rw[e,h1],λe=>by cases e;rfl⟩
 ·exact⟨by rw[X4 (λe=>h1 (by cases e;rfl))],Q7⟩
end
section
theorem Ol {α:Type} [DecidableEq α]{kv:α->Value}{c:Cx}{o:Oper}{S:Env}{w:World}{K:Env->World->Prop}{Q:Zg}{t ke e:Nat}{r rk:TyRow}{x y:Operand}{q:Nat}{m:List (α×Value)}{a:α}{v:Value}{z:Operand}(hg:c.g.Ok)
  (ho:o.op= .insert t x y z) (ia:o.dst=none) (hr:QU c.g.tys t=some r) (hd:r.d= .map ke e) (aS:QU c.g.tys ke=some rk) (hk:KeyV rk.d kv)
  (hx:S.ev x=some (.map (some q))) (hy:S.ev y=some (kv a)) (hz:S.ev z=some v) (hm:MapAt kv w q m)
  (k:∀w1,w.grownBy w1 (some q)->w1.heap.size=w.heap.size->MapAt kv w1 q (Zd a v m)->K S w1):X8 c o S w K Q:=by
 have h:X8 c {o with op:=.mapUpdate t x y z} S w K Q:=jN hg rfl ia hr hd aS hk hx hy hz hm k;unfold X8 at*;intro b hf;have h1:=h b hf;unfold Oper.wp at*;have e:(execOp b.eval o).run c.g.P w=(execOp b.eval {o with op:=.mapUpdate t x y z}).run c.g.P w:=by simp only[execOp,ho]
 rw[e];generalize (execOp b.eval {o with op:=.mapUpdate t x y z}).run c.g.P w=r at*;cases r with
 | ok n w'=>cases n<;>simp only[Oper.upon] at h1 ⊢ <;> exact h1
 | halt x w'=>cases x<;>simp only[Oper.upon] at h1 ⊢ <;> exact h1
theorem eQb {l:List Nat}{j v:Nat}(h:l[j]? =some 0)(hv:0<v):(l.set j v).count 0+1=l.count 0:=by
 induction l generalizing j with
 | nil=>simp at h
 | cons x l ih=>
  cases j with
  | zero=>
   simp at h;subst h;rw[List.set_cons_zero,List.count_cons_of_ne (by omega),List.count_cons_self]
  | succ j=>
   simp at h;have:=ih h;rw[List.set_cons_succ,yK,yK];omega
theorem jQ {nd:List Br}{m:Nat}{n:Int}{st:List Br×List Nat}(h:n<2):Za nd (m+1) n st=(n,st):=by rw[Za,Qf h]
theorem jR {nd:List Br}{m:Nat}{n:Int}{st:List Br×List Nat}(h:¬n<2)(k:0<st.2[(n-2).toNat]?.getD 0):Za nd (m+1) n st=(((st.2[(n-2).toNat]?.getD 0:Nat):Int),st):=by rw[Za,if_neg h,Qf k]
theorem mi {nd:List Br}{m:Nat}{n:Int}{st:List Br×List Nat}{x:Br}(h:¬n<2)(k:¬0<st.2[(n-2).toNat]?.getD 0)(hx:nd[(n-2).toNat]? =some x):
  Za nd (m+1) n st=((((Za nd m x.h (Za nd m x.l st).2).2.1.length+2:Nat):Int),((Za nd m x.h (Za nd m x.l st).2).2.1++ [⟨x.v,(Za nd m x.l st).1,(Za nd m x.h (Za nd m x.l st).2).1⟩],(Za nd m x.h (Za nd m x.l st).2).2.2.set (n-2).toNat ((Za nd m x.h (Za nd m x.l st).2).2.1.length+2))):=by
 rw[Za,if_neg h,if_neg k,hx]
structure VisF (nd:List Br) (n:Int) (st WU:List Br×List Nat):Prop where
 len:WU.2.length=nd.length
 keep:∀k:Nat,n<(k:Int)+2->WU.2[k]? =st.2[k]?
 cnt:WU.1.length+WU.2.count 0<=st.1.length+st.2.count 0
 ge:st.1.length<=WU.1.length
theorem jS {nd:List Br}(hw:W3 nd):∀(m:Nat)(n:Int)(st:List Br×List Nat),0<=n->n<m->n<nd.length+2->st.2.length=nd.length->VisF nd n st (Za nd m n st).2
 | 0,n,st,h0,hm,_,_=>by omega
 | m+1,n,st,h0,hm,hn,hl=>by
  by_cases h1:n<2
  ·rw[jQ h1];exact⟨hl,λ_ _=>rfl,QC _,QC _⟩
  by_cases h2:0<st.2[(n-2).toNat]?.getD 0
  ·rw[jR h1 h2];exact⟨hl,λ_ _=>rfl,QC _,QC _⟩
  have hj:(n-2).toNat<nd.length:=by omega
  have hx:=Xn hj;obtain⟨w1,w2,w3,w4⟩:=hw _ _ hx;rw[mi h1 h2 hx];have f1:=jS hw m nd[(n-2).toNat].l st w1 (by omega) (by omega) hl;have f2:=jS hw m nd[(n-2).toNat].h _ w3 (by omega) (by omega) f1.len;generalize (Za nd m nd[(n-2).toNat].l st)=a at*;generalize (Za nd m nd[(n-2).toNat].h a.2)=b at*;have hz:st.2[(n-2).toNat]? =some 0:=by
   have:st.2[(n-2).toNat]? =some st.2[(n-2).toNat]:=Xn (by omega);rw[this] at h2 ⊢;simp only[iu] at h2;congr 1;omega
  have Zb:b.2.2[(n-2).toNat]? =some 0:=by rw[f2.keep _ (by omega),f1.keep _ (by omega),hz]
  have hc:=eQb (v:=b.2.1.length+2) Zb (by omega);have c1:=f1.cnt;have c2:=f2.cnt;have g1:=f1.ge;have g2:=f2.ge;refine⟨by rw[dG];exact f2.len,λk hk=>?_,?_,?_⟩
  ·rw[fd (by omega),f2.keep k (by omega),f1.keep k (by omega)]
  ·rw[Qu];simp only[Xj,Z5];omega
  ·rw[Qu];omega
abbrev aE:Int->Value:=λn=>.int .i64 n
def MapOk (num:List Nat)(m:List (Int×Value)):Prop:=∀n:Int,0<=n->Xv n m=if n<2 then some (.int .i64 n)else if 0<num[(n-2).toNat]?.getD 0 then some (.int .i64 (num[(n-2).toNat]?.getD 0:Nat))else none
theorem MapOk.set {num:List Nat}{m:List (Int×Value)}(h:MapOk num m){n:Int}(h2:¬n<2)(hl:(n-2).toNat<num.length){v:Nat}(hv:0<v):MapOk (num.set (n-2).toNat v) (Zd n (.int .i64 (v:Nat)) m):=by
 intro k hk;rw[aC];by_cases e:k=n
 ·subst e;rw[Qf rfl,if_neg h2,iv hl];simp only[iu];rw[Qf hv]
 ·rw[if_neg e,h k hk];by_cases VH:k<2
  ·rw[Qf VH,Qf VH]
  ·rw[if_neg VH,if_neg VH,fd (by omega)]
theorem eQc (n:Nat):MapOk (List.replicate n 0) (Zd 1 (.int .i64 1) (Zd 0 (.int .i64 0) [])):=by
 intro k hk;rw[aC,aC];by_cases h1:k=1
 ·subst h1;rfl
 ·rw[if_neg h1];by_cases h0:k=0
  ·subst h0;rfl
  ·rw[if_neg h0,if_neg (by omega),if_neg]
   ·rfl
   ·cases h:(List.replicate n 0)[(k-2).toNat]? with
    | none=>simp
    | some x=>
     have:=DH (QO h);rw[this];simp
end
section
def jT (l:List Br):List Value:=l.flatMap Br.cells
theorem zG (l:List Br)(x:Br):jT (l++ [x])=jT l++x.cells:=by simp[jT]
structure VP where
 mb:Nat
 q:Nat
 bb:Nat
 bp:Nat
 fb:Nat
 ob:Nat
def VP.ptr (i:Nat):Value:=.pointer (some ⟨i,0,none⟩)
def VP.clo (p:VP):Value:=.func (.func 157) #[] #[VP.ptr p.mb,VP.ptr p.bb,VP.ptr p.fb,VP.ptr p.ob]
structure VK (w:World) (base:Nat) (p:VP) (NA:Option Addr) (nn nc:Nat) (nd:List Br):Prop where
 mbx:Blk w p.mb 238 [.map (some p.q)]
 bbx:Blk w p.bb 174 [VP.ptr p.bp]
 bpx:∃kv,Blk w p.bp 177 [.slice NA nn nc,kv]
 fbx:Blk w p.fb 215 [p.clo]
 nds:SB w NA nn nc nd
 lt:p.q<base/\p.ob<base
 ne:p.q≠p.ob/\p.q≠p.mb/\p.q≠p.bb/\p.q≠p.bp/\p.q≠p.fb/\p.ob≠p.mb/\p.ob≠p.bb/\p.ob≠p.bp/\p.ob≠p.fb
 lt2:p.mb<base/\p.bb<base/\p.bp<base/\p.fb<base
 row:∀ad,NA=some ad->0<nn->ad.block<base/\ad.block≠p.q/\ad.block≠p.ob
def VS (p:VP)(A:Option Addr):Nat->Prop:=λk=>k=p.q∨k=p.ob∨Qj A k
theorem VS.moved {w:World}{p:VP}{A A':Option Addr}(h:Moved w A A'):∀k,VS p A' k->VS p A k∨w.heap.size<=k:=by
 rintro k (rfl | rfl | hk)
 ·exact .inl (.inl rfl)
 ·exact .inl (.inr (.inl rfl))
 ·rcases h.rows k hk with h | h
  ·exact .inl (.inr (.inr h))
  ·exact .inr h
theorem Mod.cell {S:Nat->Prop}{w w':World}(k:Mod S w w'){a:Addr}{v:Value}(h:w.cell? a=some v)(hn:¬S a.block):w'.cell? a=some v:=by
 have Xc:=World.block_lt_of_cell? w a h;have e:=k.block a.block Xc hn;unfold World.cell? at h ⊢;rw[e];exact h
theorem Sl.modS {S:Nat->Prop}{w w':World}{sz n c:Nat}{A:Option Addr}{cs:List Value}(h:Sl w sz A n c cs)(k:Mod S w w')(hn:0<n->∀i,Qj A i->¬S i):Sl w' sz A n c cs:=
 ⟨h.len,h.le,h.cap,λh0=>by
  obtain⟨ad,rfl,hc⟩:=h.at_ h0;exact⟨ad,rfl,λj u hu=>k.cell (hc j u hu) (hn h0 _ ⟨ad,rfl,(o6 ad j).symm⟩)⟩⟩
theorem EC {α:Type} [DecidableEq α]{kv:α->Value}{c:Cx}{o:Oper}{S:Env}{w:World}{K:Env->World->Prop}{Q:Zg}{t ke e:Nat}{r rk re:TyRow}{x y:Operand}{q:Nat}{m:List (α×Value)}{a:α}{v:Value}(hg:c.g.Ok)
  (ho:o.op= .lookup t x y false) (hr:QU c.g.tys t=some r) (hd:r.d= .map ke e) (aS:QU c.g.tys ke=some rk) (X7:QU c.g.tys e=some re) (hk:KeyV rk.d kv)
  (hx:S.ev x=some (.map (some q))) (hy:S.ev y=some (kv a)) (hm:MapAt kv w q m) (hv:(Xv a m).getD re.z=v) (k:Xk c S o.dst (.v v) (λS=>K S w)):X8 c o S w K Q:=by
 subst hv;exact bQP hg ho hr hd aS X7 hk hx hy hm k
theorem VK.mod {w w':World}{base:Nat}{p:VP}{NA OA:Option Addr}{nn nc:Nat}{nd:List Br}(h:VK w base p NA nn nc nd)(hr:∀i,Qj OA i->base<=i)(hm:Mod (VS p OA) w w'):VK w' base p NA nn nc nd:=by
 obtain⟨n1,n2,n3,n4,n5,n6,n7,n8,n9⟩:=h.ne;obtain⟨l1,l2,l3,l4⟩:=h.lt2;have key:∀i,i<base->i≠p.q->i≠p.ob->¬VS p OA i:=λi hi hq ho e=>by
  rcases e with e | e | e
  ·exact hq e
  ·exact ho e
  ·have:=hr i e;omega
 obtain⟨kv,Lh⟩:=h.bpx;refine⟨h.mbx.mod hm (key _ l1 n2.symm n6.symm),h.bbx.mod hm (key _ l2 n3.symm n7.symm),⟨kv,Lh.mod hm (key _ l3 n4.symm n8.symm)⟩,h.fbx.mod hm (key _ l4 n5.symm n9.symm),⟨h.nds.1.modS hm ?_,h.nds.2⟩,h.lt,h.ne,h.lt2,h.row⟩;rintro h0 i ⟨ad,rfl,rfl⟩;obtain⟨r1,r2,r3⟩:=h.row ad rfl h0;exact key _ r1 r2 r3
structure VSt (w:World) (base:Nat) (p:VP) (r0:Int) (OA:Option Addr) (oc:Nat) (st:List Br×List Nat):Prop where
 own:Own w base 105 3 OA st.1.length oc (jT st.1)
 obx:Blk w p.ob 32 [.slice OA st.1.length oc,.int .i64 r0]
 mp:∃mm,MapAt aE w p.q mm/\MapOk st.2 mm
 top:base<=w.heap.size
theorem VSt.ext {w w':World}{base:Nat}{p:VP}{r0:Int}{OA:Option Addr}{oc:Nat}{st:List Br×List Nat}(h:VSt w base p r0 OA oc st)(k:Ext w w'):VSt w' base p r0 OA oc st:=
 ⟨h.own.ext k,h.obx.ext k,let ⟨mm,h1,h2⟩:=h.mp;⟨mm,h1.ext k,h2⟩,Zf h.top k.size⟩
def VTo (w:World)(base:Nat)(p:VP)(r0:Int)(OA:Option Addr)(st:List Br×List Nat)(w':World):Prop:=∃OA' oc',VSt w' base p r0 OA' oc' st/\Mod (VS p OA) w w'/\Moved w OA OA'
theorem Om (base:Nat)(p:VP)(r0:Int)(NA:Option Addr)(nn nc:Nat)(nd:List Br)(We:W3 nd)(eQ:nn<=1000000000000):∀(m:Nat)(n:Int)(st:List Br×List Nat)(OA:Option Addr)(oc:Nat)(w:World),
  VK w base p NA nn nc nd->VSt w base p r0 OA oc st->0<=n->n<m->n<nn+2->st.2.length=nn->st.1.length+st.2.count 0<=1000000000000->
  Fn Tryz.prog 157 [.int .i64 n,VP.ptr p.mb,VP.ptr p.bb,VP.ptr p.fb,VP.ptr p.ob] w (λv w'=>v= .int .i64 (Za nd m n st).1/\VTo w base p r0 OA (Za nd m n st).2 w')
 | 0,n,st,OA,oc,w,_,_,h0,hm,_,_,_=>by omega
 | m+1,n,st,OA,oc,w,hK,hS,h0,hm,hn,hl,hc=>by
  have ih:=Om base p r0 NA nn nc nd We eQ m;have KB:nd.length=nn:=hK.nds.2;obtain⟨mm,uk,hmo⟩:=hS.mp;have VN:=hS.own.rows;have mQA:=uk.lt;have mQB:=hS.obx.lt;refine QD (c:={cQy with cuts:=[]}) Qa Tryz.func157 rfl rfl rfl ?_;refine Qx hK.mbx rfl ?_;have WT:=hmo n h0;by_cases h1:n<2
  ·rw[Qf h1] at WT;refine u9 (kv:=aE) (a:=n) (v:=.int .i64 n) (b:=true) Qa rfl rfl rfl rfl rfl (KeyV.int .i64) rfl rfl uk (by rw[WT];rfl) (by rw[WT];rfl) ?_;refine Xa rfl ?_;refine⟨by rw[jQ h1],OA,oc,?_,Mod.refl _ _,Moved.refl _ _⟩;rw[jQ h1];exact hS
  rw[if_neg h1] at WT;by_cases h2:0<st.2[(n-2).toNat]?.getD 0
  ·rw[Qf h2] at WT;refine u9 (kv:=aE) (a:=n) (v:=.int .i64 (st.2[(n-2).toNat]?.getD 0:Nat)) (b:=true) Qa rfl rfl rfl rfl rfl (KeyV.int .i64) rfl rfl uk (by rw[WT];rfl) (by rw[WT];rfl) ?_;refine Xa rfl ?_;refine⟨by rw[jR h1 h2],OA,oc,?_,Mod.refl _ _,Moved.refl _ _⟩;rw[jR h1 h2];exact hS
  rw[if_neg h2] at WT;refine u9 (kv:=aE) (a:=n) (v:=.int .i64 0) (b:=false) Qa rfl rfl rfl rfl rfl (KeyV.int .i64) rfl rfl uk (by rw[WT];rfl) (by rw[WT];rfl) ?_;refine Q5 rfl ?_;have hj:(n-2).toNat<nd.length:=by omega
  have hx:=Xn hj;generalize nd[(n-2).toNat]=x at hx;obtain⟨x1,x2,x3,x4⟩:=We _ _ hx;obtain⟨kv,Lh⟩:=hK.bpx;refine Qx hK.bbx rfl ?_;refine Qx Lh rfl ?_;refine Qi (((n-2).toNat:Nat):Int) (by omega) (by omega) ?_;refine Zw Ws hK.nds rfl (by omega) (λad y hy jm=>?_);have ib:y=x:=Option.some.inj (hy.symm.trans hx);subst ib;refine Kr (vs:=y.cells) rfl jm ?_;refine new (λw1 Qd Q3 Qh=>?_);refine Qz Qh rfl (sc rfl) (λw2 gE Zb Ku=>?_);have Qg:Ext w w2:=X9 Qd Qh gE;have Bi:Mod (VS p OA) w w2:=Mod.of_ext _ Qg;have GJ:=hK.mod (λi hi=>(VN i hi).1) Bi;have GK:=hS.ext Qg;have ie:¬VS p OA w.heap.size:=λe=>by
   rcases e with e | e | e
   ·omega
   ·omega
   ·have:=(VN _ e).2;omega
  refine Qx GJ.fbx rfl ?_;refine Qp Ku rfl ?_;have f1:=jS We m y.l st x1 (by omega) (by omega) (by omega);refine call (ih y.l st OA oc w2 GJ GK x1 (by omega) (by omega) hl hc) ?_;rintro v w3 ⟨rfl,OA3,GL,tw,ZU,kK⟩;have eo:=GJ.mod (λi hi=>(VN i hi).1) ZU;have Vf:=Ku.mod ZU ie;have Gy:=tw.own.rows;have tv:¬VS p OA3 w.heap.size:=λe=>(VS.moved kK _ e).elim ie (λh=>by omega)
  refine Qx eo.fbx rfl ?_;refine Qp Vf rfl ?_;have f2:=jS We m y.h _ x3 (by omega) (by omega) f1.len;have c1:=f1.cnt;have c2:=f2.cnt;refine call (ih y.h _ OA3 GL w3 eo tw x3 (by omega) (by omega) (by rw[f1.len];exact KB) (by omega)) ?_;rintro v w4 ⟨rfl,OA4,Tt,WG,KH,pV⟩;have Yx:=Vf.mod KH tv;have pW:=WG.own.rows;have kL:=ZU.trans KH (VS.moved kK);have GN:=kK.trans pV ZU.size;have wo:Mod (VS p OA) w w4:=Bi.trans kL (λi hi=>.inl hi);have wq:=GN.back Qg.size;have VL:=eo.mod (λi hi=>(Gy i hi).1) KH;have um:=mi (m:=m) h1 h2 hx;rw[um];generalize (Za nd m y.l st)=a at*;generalize (Za nd m y.h a.2)=b at*;have kQ8:¬Qj OA4 p.ob:=λe=>by have:=(pW _ e).1;have:=hK.lt.2;omega
  have hnq:¬Qj OA4 p.q:=λe=>by have:=(pW _ e).1;have:=hK.lt.1;omega
  refine Qx WG.obx rfl ?_;refine Qx Yx rfl ?_;refine XI Qa [(⟨y.v,a.1,b.1⟩:Br).cells] rfl rfl rfl rfl rfl ⟨rfl,rfl,⟨⟩⟩ rfl (λcs h=>by simp only[QL] at h;subst h;rfl) rfl (by decide) (by decide) ?_;intro w5 Qv KJ QK;have gI:=WG.ext Qv;have kM:Sl w5 3 (some ⟨w4.heap.size,0,none⟩) 1 1 (⟨y.v,a.1,b.1⟩:Br).cells:=Sl.own (sz:=3) (n:=1) QK (QC _) (by decide) (by simp[Br.cells]);refine JB Qa rfl rfl rfl rfl rfl (by decide) rfl rfl ⟨_,rfl⟩ rfl rfl gI.own kM (by intro u hu;simp[Br.cells] at hu;rcases hu with rfl | rfl | rfl<;>rfl) (by unfold maxLen;omega) (by show _*24<=_;omega) gI.top ?_;intro OA6 Bj w6 KZ wr wt;refine KE (gI.obx.mod KZ kQ8) (by simp) (λw7 Xb Q6=>?_);have tz:Mod (VS p OA4) w4 w7:=((Mod.of_ext (VS p OA4) Qv).trans KZ (λi hi=>.inl (.inr (.inr hi)))).trans Xb (λi hi=>.inl (.inr (.inl hi)));have WI:=VL.mod (λi hi=>(pW i hi).1) tz;obtain⟨m4,jQh,jQi⟩:=WG.mp;have jQj:MapAt aE w7 p.q m4:=((jQh.ext Qv).mod KZ hnq).mod Xb hK.ne.1;have Xd:b.2.2.length=nd.length:=f2.len;refine Qx WI.mbx rfl ?_;refine Qx Q6 rfl ?_;refine Qi ((b.2.1.length+2:Nat):Int) (by omega) (by omega) ?_;refine jN (kv:=aE) (a:=n) Qa rfl rfl rfl rfl rfl (KeyV.int .i64) rfl rfl rfl jQj (λw8 YQ _ Tu=>?_);have ZC:Mod (·=p.q) w7 w8:=mQW YQ rfl;have jQk:=jQi.set h1 (by omega) (v:=b.2.1.length+2) (by omega);have jQl:Xv n (Zd n (.int .i64 ((b.2.1.length+2:Nat):Int)) m4)=some (.int .i64 ((b.2.1.length+2:Nat):Int)):=by rw[aC,Qf rfl]
  have pX:Mod (VS p OA4) w4 w8:=tz.trans ZC (λi hi=>.inl (.inl hi));have hK8:=VL.mod (λi hi=>(pW i hi).1) pX;refine Qx hK8.mbx rfl ?_;refine EC (kv:=aE) (a:=n) (v:=.int .i64 ((b.2.1.length+2:Nat):Int)) Qa rfl rfl rfl rfl rfl (KeyV.int .i64) rfl rfl Tu (by rw[jQl];rfl) ?_;have wu:=wr.rows;have el:(b.2.1++ [(⟨y.v,a.1,b.1⟩:Br)]).length=b.2.1.length+1:=by simp
  refine⟨rfl,OA6,Bj,⟨?_,?_,⟨_,Tu,jQk⟩,?_⟩,wo.trans pX (VS.moved wq),?_⟩
  ·rw[el,zG];refine(wr.mod Xb (λi hi e=>?_)).mod ZC (λi hi e=>?_)
   ·have:=(wu i hi).1;have:=hK.lt.2;omega
   ·have:=(wu i hi).1;have:=hK.lt.1;omega
  ·rw[el];exact Q6.mod ZC (λe=>hK.ne.1 e.symm)
  ·have:=WG.top;have:=pX.size;omega
  ·exact wq.trans (wt.back Qv.size) wo.size
end
section
def vh (w:World)(r:List Br×Int)(v:Value)(w':World):Prop:=∃A n c,v=Xm A n c r.2/\Ext w w'/\SB w' A n c r.1/\∀i,Qj A i->w.heap.size<=i
theorem ED (bp:Nat)(kv:Value)(NA:Option Addr)(nn nc:Nat)(nd:List Br)(root:Int)(w:World)(hb:Blk w bp 177 [.slice NA nn nc,kv])(hN:SB w NA nn nc nd)(We:W3 nd)(eQ:nn<=1000000000000)(h0:0<=root)(hr:root<nn+2)
  (nV:∀ad,NA=some ad->0<nn->ad.block<w.heap.size):
  Fn Tryz.prog 104 [.pointer (some ⟨bp,0,none⟩),.int .i64 root] w (vh w (bq nd root)):=by
 have KB:nd.length=nn:=hN.2;have eU:=hb.lt;refine QD (c:={bQZ with cuts:=[]}) Qa Tryz.func104 rfl rfl rfl ?_;refine new (λw1 Qd Q3 Qh=>?_);refine new (λw2 Qg Zb Qw=>?_);refine new (λw3 Qk JI Qt=>?_);refine Qz Qt rfl (sc rfl) (λw4 cq KY Q4=>?_);have KH:Mod (·=w2.heap.size) w3 w4:=mQW cq rfl;refine uW Qa aE rfl ?_;intro w5 Qv KJ XS;refine Ol (kv:=aE) (a:=0) Qa rfl rfl rfl rfl rfl (KeyV.int .i64) rfl rfl rfl XS (λw6 WE em Ym=>?_);refine Ol (kv:=aE) (a:=1) Qa rfl rfl rfl rfl rfl (KeyV.int .i64) rfl rfl rfl Ym (λw7 Zu WJ J5=>?_);have jQm:Mod (·=w4.heap.size) w5 w7:=(mQW (S:=(·=w4.heap.size)) WE rfl).trans (mQW (S:=(·=w4.heap.size)) Zu rfl) (λi hi=>.inl hi);refine new (λw8 Q0 VJ Xt=>?_);refine KE Xt (by simp[JN]) (λw9 Ze JT=>?_);refine new (λQJ ZJ wv Km=>?_);refine KE Km (by simp[JN]) (λQG ZV ZZ=>?_);have z9:=Ze.size;have Bk:=ZV.size;have q1:Ext w w4:=KH.ext ((Qd.trans Qg).trans Qk) (λi hi=>by omega);have q2:Ext w4 w7:=jQm.ext Qv (λi hi=>by omega);have q3:Ext w7 w9:=Ze.ext Q0 (λi hi=>by omega);have q4:Ext w9 QG:=ZV.ext ZJ (λi hi=>by omega);have Bl:Ext w QG:=((q1.trans q2).trans q3).trans q4
 let p:VP:=⟨w7.heap.size,w4.heap.size,w.heap.size,bp,w9.heap.size,w2.heap.size⟩
 have Gr:Blk QG w.heap.size 174 [VP.ptr bp]:=(((Qh.ext (Qg.trans Qk)).mod KH (by omega)).ext q2).ext (q3.trans q4);have jQn:Blk QG w1.heap.size 32 [.slice none 0 0,.int .i64 0]:=(((Qw.ext Qk).mod KH (by omega)).ext q2).ext (q3.trans q4);have GO:Blk QG w2.heap.size 32 [.slice none 0 0,.int .i64 0]:=(Q4.ext q2).ext (q3.trans q4);have jQo:Blk QG w7.heap.size 238 [.map (some w4.heap.size)]:=JT.ext q4;have jQp:MapAt aE QG w4.heap.size _:=((J5.ext Q0).mod Ze (by omega)).ext q4;have hK:VK QG QG.heap.size p NA nn nc nd:=by
  refine⟨jQo,Gr,⟨kv,hb.ext Bl⟩,ZZ,hN.ext Bl,⟨?_,?_⟩,⟨?_,?_,?_,?_,?_,?_,?_,?_,?_⟩,⟨?_,?_,?_,?_⟩,λad e hn=>?_⟩
  all_goals try (show(_:Nat)≠_;simp only[p];omega)
  all_goals try (show(_:Nat)<_;simp only[p];omega)
  have:=nV ad e hn;refine⟨by omega,?_,?_⟩<;>(simp only[p];omega)
 have hS:VSt QG QG.heap.size p 0 none 0 ([],List.replicate nd.length 0):=⟨Own.nil _ _ _ _,GO,⟨_,jQp,eQc _⟩,QC _⟩
 refine Qx ZZ rfl ?_;refine call (Om QG.heap.size p 0 NA nn nc nd We eQ (root.toNat+1) root ([],List.replicate nd.length 0) none 0 QG hK hS h0 (by omega) hr (by simp[KB]) (by simp;omega)) ?_;rintro v Xg ⟨rfl,OA,oc,aL,Vr,tC⟩;have ui:∀i,i≠w4.heap.size->i≠w2.heap.size->¬VS p none i:=λi h1 h2 e=>by
  rcases e with e | e | ⟨_,e,_⟩
  ·exact h1 e
  ·exact h2 e
  ·cases e
 have GP:=jQn.mod Vr (ui _ (by omega) (by omega));have VN:=aL.own.rows;refine XP aL.obx (by simp) (λX2 Kf K2=>?_);have gJ:=GP.mod Kf (by show¬w1.heap.size=w2.heap.size;omega);refine Qs K2 rfl ?_;refine Qz gJ rfl (sc rfl) (λZi ep _ JU=>?_);have KP:Mod (·=w1.heap.size) X2 Zi:=mQW ep rfl;refine Qs JU rfl ?_;have Xs:Ext w Xg:=Vr.ext Bl (λi hi=>by
  rcases hi with e | e | ⟨_,e,_⟩
  ·simp only[p] at e;omega
  ·simp only[p] at e;omega
  ·cases e)
 have J7:Ext w Zi:=KP.ext (Kf.ext Xs (λi hi=>by have ig:i=w2.heap.size:=hi;omega)) (λi hi=>by omega);refine⟨OA,_,oc,rfl,J7,⟨?_,rfl⟩,λi hi=>Zf Bl.size (VN i hi).1⟩;have:∀i,Qj OA i->QG.heap.size<=i:=λi hi=>(VN i hi).1
 exact((aL.own.mod Kf (λi hi e=>by have:=this i hi;have e':i=w2.heap.size:=e;omega)).mod KP (λi hi e=>by have:=this i hi;omega)).sl
end
section
theorem eQd {P:Program}{t:TypeId}{fs:Array Field}{ks:List Nat}{xs ys:Array Value}{b:Bool}{w:World}(hu:P.underlying t=some (.struct fs))(hh:P.stoodInHeld t=false)(hf:oN P 0 fs.toList ks=true)(h:cL ks xs.toList ys.toList=some b)(n:Nat):
  (Op.equalIn (n+2) t (.agg xs) (.agg ys)).run P w= .ok b w:=by
 have ZI:P.fieldsOf t=fs:=by simp[Program.fieldsOf,hu]
 rw[run_equalIn_struct w (n+1) t xs ys (by rw[ZI];exact hu) hh,ZI];exact DY fs.toList ks 0 _ _ b hf h (λj=>by simp) (λj=>by simp) n w
theorem k3:dL (Tryz.prog.underlying 3)<3:=by rw[Tryz.underlying3];decide
abbrev bX:Br->Value:=λb=>.agg b.cells.toArray
theorem eQe (a b:Br)(n:Nat)(w:World):(Op.equalIn (n+2) 105 (bX a) (bX b)).run Tryz.prog w= .ok (decide (a=b)) w:=by
 refine eQd (ks:=[0,0,0]) Tryz.underlying105 (by kernel_rfl) (by kernel_rfl) ?_ n;rw[show cL [0,0,0] a.cells.toArray.toList b.cells.toArray.toList=some (a.v==b.v&&(a.l==b.l&&(a.h==b.h&&true))) from rfl,ph];congr 1;exact oM.2 pi.symm
theorem eQf (b:Bool)(a:Br)(n:Nat)(w:World):(Instr.checkKey b (n+2) 105 (bX a)).run Tryz.prog w= .ok () w:=by
 simp[Instr.checkKey,ZL Tryz.underlying105,ZL Tryz.underlying3,bX,Br.cells,bS k3 (cs:= #[Value.int IntKind.i64 a.v,Value.int IntKind.i64 a.l,Value.int IntKind.i64 a.h]) (n:=0) rfl,bS k3 (cs:= #[Value.int IntKind.i64 a.v,Value.int IntKind.i64 a.l,Value.int IntKind.i64 a.h]) (n:=1) rfl,bS k3 (cs:= #[Value.int IntKind.i64 a.v,Value.int IntKind.i64 a.l,Value.int IntKind.i64 a.h]) (n:=2) rfl]
theorem zH:KeyQ Tryz.prog 105 bX:=
 mQ9 Tryz.underlying105 (λa b w=>eQe a b 9998 w) (λb a w=>eQf b a 9998 w) (λa=>by simp[Br.cells,Instr.sameBits])
theorem EE {α:Type} [DecidableEq α]{kv:α->Value}{c:Cx}{o:Oper}{S:Env}{w:World}{K:Env->World->Prop}{Q:Zg}{t ke e:Nat}{r re:TyRow}{x y:Operand}{q:Nat}{m:List (α×Value)}{a:α}(hg:c.g.Ok)(ho:o.op= .lookup t x y false)(hr:QU c.g.tys t=some r)(hd:r.d= .map ke e)(X7:QU c.g.tys e=some re)(hk:KeyQ c.g.P ke kv)
  (hx:S.ev x=some (.map (some q))) (hy:S.ev y=some (kv a)) (hm:MapQ kv w q m) {v:Value} (hv:(Xv a m).getD re.z=v)
  (k:Xk c S o.dst (.v v) (λS=>K S w)):X8 c o S w K Q:=by
 refine Js (w':=w) (λb hf=>?_) k;have e1:=hf.ev hx;have e2:=hf.ev hy;have:=NK (w:=w) (a:=a) hg hr hd X7 hk hm false;simp only[hv] at this;simp only[execOp,ho,e1,e2];simp only[Sem.run_bind,this,Result.andThen_ok];simp
theorem SB.lt {w:World}{A:Option Addr}{n c:Nat}{d:List Br}(h:SB w A n c d):∀ad,A=some ad->0<n->ad.block<w.heap.size:=by
 intro ad e hn;obtain⟨ad',e',hc⟩:=h.1.at_ hn;cases e.symm.trans e';have hl:=h.1.len;cases Zc:d.flatMap Br.cells with
 | nil=>rw[Zc] at hl;simp at hl;omega
 | cons u us=>
  rw[Zc] at hc;have:=World.block_lt_of_cell? w _ (hc 0 u rfl);rw[o6] at this;exact this
end
section
theorem zI (A:Option Addr)(n c:Nat)(nd:List Br)(root:Int)(w:World)(h:SB w A n c nd):
  Fn Tryz.prog 52 [Xm A n c root] w (λv w'=>v= .int .i64 (XG nd root)/\Ext w w'):=by
 have Xd:=h.2;refine QD (c:={c52 with cuts:=[4]}) Qa Tryz.func52 rfl rfl rfl ?_;refine new (λw1 Qd Q3 Qh=>?_);refine Qx Qh rfl ?_;refine Qy (λh1=>?_) (λh1=>?_)
 ·exact⟨by rw[dQ6 (by omega)],Qd⟩
 have fS:¬4096<nd.length:=by omega
 refine rS Qa bX rfl ?_;intro w2 Qg Zb XQ;have Q7:=Qd.trans Qg;have Qw:=Qh.ext Qg;refine iD [] Qa [] (λ_:Unit=>[]) (λ_ w'=>Mod (·=w1.heap.size) w2 w'/\∀(j:Nat) (b:Br),j<n->nd[j]? =some b->gk nd j b) ?_ ?_
 ·refine Qx Qw rfl ?_;refine loop Qa [15] (λs:Nat=>[.int .i64 s]) (λs w'=>Mod (·=w1.heap.size) w2 w'/\s<=n/\(∀(j:Nat) (b:Br),j<s->nd[j]? =some b->gk nd j b)/\∃m,MapQ bX w' w1.heap.size m/\∀b,(Xv b m).getD (.bool false)= .bool (decide (b∈nd.take s))) (λs _=>n-s) 0 rfl ⟨Mod.refl _ _,XJ _,λj b hj=>Q8 hj (by omega),[],XQ,λb=>by simp[Xv]⟩ ?_;rintro s w3 ⟨ZU,hs,hall,m,XD,K7⟩;have Qk:Ext w w3:=ZU.ext Q7 (λi hi=>by have:=Qd.size;omega);have Qt:=Qw.mod ZU (by omega);refine Qy (λh2=>?_) (λh2=>?_)
  ·refine Zw Ws (h.ext Qk) rfl (by omega) (λp x hx hc=>?_);refine Kr (vs:=x.cells) rfl hc ?_;refine new (λw4 Qq KY Q4=>?_);refine Qz Q4 rfl (sc rfl) (λw5 Jw KJ Kv=>?_);have J6:Ext w3 w5:=X9 Qq Q4 Jw;have Qv:=Qk.trans J6;have XS:=XD.ext J6;have QK:=Qt.ext J6;have bad:¬gk nd s x->∀w',Ext w w'->(Value.int .i64 20= .int .i64 (XG nd root))/\Ext w w':=λXf w' hE=>⟨by rw[zF fS (λhv=>Xf (hv.1 s x hx))],hE⟩
   refine Qx Kv rfl ?_;refine Qy (λc1=>?_) (λc1=>?_)
   ·exact bad (λhb=>by have:=hb.1;omega) _ Qv
   refine Qx Kv rfl ?_;refine Qy (λc2=>?_) (λc2=>?_)
   ·exact bad (λhb=>by have:=hb.2.1;omega) _ Qv
   refine Qp Kv rfl ?_;refine Qy (λc3=>?_) (λc3=>?_)
   ·exact bad (λhb=>by have:=hb.2.2.1;omega) _ Qv
   refine Qp Kv rfl ?_;refine Qy (λc4=>?_) (λc4=>?_)
   ·exact bad (λhb=>by have:=hb.2.2.2.2.1;omega) _ Qv
   refine Qp Kv rfl ?_;refine Qi ((s:Int)+1) rfl (by omega) ?_;refine Qy (λc5=>?_) (λc5=>?_)
   ·exact bad (λhb=>by have:=hb.2.2.2.1;omega) _ Qv
   refine Qp Kv rfl ?_;refine Qi ((s:Int)+1) rfl (by omega) ?_;refine Qy (λc6=>?_) (λc6=>?_)
   ·exact bad (λhb=>by have:=hb.2.2.2.2.2.1;omega) _ Qv
   refine Qp Kv rfl ?_;refine Qp Kv rfl ?_;refine Zh (λc7=>?_) (λc7=>?_)
   ·exact bad (λhb=>hb.2.2.2.2.2.2.1 c7) _ Qv
   refine Qs Kv rfl ?_;refine EE (kv:=bX) (a:=x) Qa rfl rfl rfl rfl zH rfl rfl XS (K7 x) ?_;refine Qy (λc8=>?_) (λc8=>?_)
   ·exact bad (λhb=>hb.2.2.2.2.2.2.2.1 c8) _ Qv
   refine XC Qa (Ext w5) 16 [(true,0),(true,1),(true,2),(true,4),(true,5),(false,3),(true,6),(true,7),(true,8),(true,9),(true,10),(true,12),(true,13),(false,11),(true,14),(true,15)] (by kernel_rfl) (Ext.drew w5) ?_;have qB:∀w',Ext w5 w'->∀(j:Nat) (v:Value),[Value.slice A n c,.int .i64 root][j]? =some v->w'.cell? ((⟨w.heap.size,0,none⟩:Addr).add j)=some v:=λw' Qb j v hj=>by rw[(QK.ext Qb).cell];exact hj
   have qX:∀w',Ext w5 w'->∀(j:Nat) (v:Value),x.cells[j]? =some v->w'.cell? ((⟨w3.heap.size,0,none⟩:Addr).add j)=some v:=λw' Qb j v hj=>by rw[(Kv.ext Qb).cell];exact hj
   have ww:∀w',Ext w5 w'->w'.cell? (⟨w3.heap.size,0,none⟩:Addr)=some (.int .i64 x.v):=λw' Qb=>by have:=qX w' Qb 0 _ rfl;simpa [Addr.add] using this
   refine Xq (vs:=[.slice A n c,.int .i64 root]) rfl (λw' Qb j v hj=>by have:=qB w' Qb j v hj;simpa [Addr.add] using this) ?_;refine QH (v:=.int .i64 x.l) (λw' Qb=>qX w' Qb 1 _ rfl) ?_;refine QH (v:=.int .i64 x.v) (λw' Qb=>ww w' Qb) ?_;refine call (cS A n c root x.l nd _ (h.ext (Qv.trans (Ext.drew w5))) (by omega)) ?_;rintro v w6 ⟨rfl,Xh⟩;have Zy:=(Ext.drew w5).trans Xh;refine⟨Zy,?_⟩;refine Qy (λc9=>?_) (λc9=>?_)
   ·exact bad (λhb=>by have:=hb.2.2.2.2.2.2.2.2.1;omega) _ (Qv.trans Zy)
   refine Xq (vs:=[.slice A n c,.int .i64 root]) rfl (λw' Qb j v hj=>by have:=qB w' Qb j v hj;simpa [Addr.add] using this) ?_;refine QH (v:=.int .i64 x.h) (λw' Qb=>qX w' Qb 2 _ rfl) ?_;refine QH (v:=.int .i64 x.v) (λw' Qb=>ww w' Qb) ?_;refine call (cS A n c root x.h nd _ (h.ext (Qv.trans Zy)) (by omega)) ?_;rintro v w7 ⟨rfl,Q2⟩;have Vs:=Zy.trans Q2;refine⟨Vs,?_⟩;refine Qy (λrR=>?_) (λrR=>?_)
   ·exact bad (λhb=>by have:=hb.2.2.2.2.2.2.2.2.2;omega) _ (Qv.trans Vs)
   have Zq:gk nd s x:=⟨by omega,by omega,by omega,by omega,by omega,by omega,c7,c8,by omega,by omega⟩
   refine Qs (Kv.ext Vs) rfl ?_;refine rT (kv:=bX) (a:=x) Qa rfl rfl rfl rfl zH rfl rfl rfl (XS.ext Vs) (λw8 ZC VJ JH=>?_);refine Qi ((s+1:Nat):Int) (by omega) (by omega) ?_;refine⟨s+1,rfl,⟨(ZU.trans (Mod.of_ext (·=w1.heap.size) (J6.trans Vs)) (λi hi=>.inl hi)).trans ZC (λi hi=>.inl hi),by omega,λj b hj hb=>?_,_,JH,λb=>?_⟩,by show n-(s+1)<n-s;omega⟩
   ·by_cases YF:j<s
    ·exact hall j b YF hb
    ·have:j=s:=by omega
     subst this;rw[Option.some.inj (hb.symm.trans hx)];exact Zq
   ·rw[aC,VT,hx];by_cases lz:b=x
    ·subst lz;simp
    ·rw[if_neg lz,K7 b];simp[lz]
  ·have:s=n:=by omega
   subst this;exact⟨(),rfl,ZU,hall⟩
 rintro⟨⟩ w3 ⟨ZU,hall⟩;have Qk:Ext w w3:=ZU.ext Q7 (λi hi=>by have:=Qd.size;omega);have Qt:=Qw.mod ZU (by omega);refine Qp Qt rfl ?_;refine Qy (λc1=>?_) (λc1=>?_)
 ·exact⟨by rw[zF fS (λhv=>by have:=hv.2.1;omega)],Qk⟩
 refine Qp Qt rfl ?_;refine Qx Qt rfl ?_;refine Qi ((n:Int)+1) rfl (by omega) ?_;refine Qy (λc2=>?_) (λc2=>?_)
 ·exact⟨by rw[zF fS (λhv=>by have:=hv.2.2.1;omega)],Qk⟩
 have We:W3 nd:=λj x hx=>by
  obtain⟨_,_,h1,h2,h3,h4,_⟩:=hall j x (by have:=(Z0.1 hx).1;omega) hx;exact⟨h1,h2,h3,h4⟩
 refine Qx Qt rfl ?_;refine new (λw4 Qq KY Q4=>?_);have XL:=Qk.trans Qq;have iY:=Qt.ext Qq;refine Qp iY rfl ?_;refine call (ED w3.heap.size (.map none) A n c nd root w4 Q4 (h.ext XL) We (by omega) (by omega) (by omega) (SB.lt (h.ext XL))) ?_;rintro v w5 ⟨OA,m,oc,rfl,Qv,hO5,_⟩;refine new (λw6 Xh em Xo=>?_);refine Qz Xo rfl (sc rfl) (λw7 Zu WJ wn=>?_);have Vs:Ext w5 w7:=X9 Xh Xo Zu;have K4:=(XL.trans Qv).trans Vs;refine Qs wn rfl ?_;refine Qs ((iY.ext Qv).ext Vs) rfl ?_;refine call (eQa OA A m oc n c _ nd _ root w7 (hO5.ext Vs) (h.ext K4)) ?_;rintro v w8 ⟨rfl,Q0⟩;have YR:=K4.trans Q0;refine lX (Qy (λc3=>?_) (λc3=>?_))
 ·exact⟨by rw[Ez fS ⟨λj b hb=>hall j b (by have:=(Z0.1 hb).1;omega) hb,by omega,by omega,c3⟩],YR⟩
 ·exact⟨by rw[zF fS (λhv=>c3 hv.2.2.2)],YR⟩
end
section
theorem Blk.cell0 {w:World}{g t:Nat}{cs:List Value}(h:Blk w g t cs):w.cell? ⟨g,0,none⟩=cs[0]? :=by have:=h.cell 0;simpa [Addr.add] using this
theorem vi (A:Option Addr)(n c:Nat)(r m:Int)(nd:List Br)(w:World)(h:SB w A n c nd)(hm:m<n+2):
  Fn Tryz.prog 161 [Xm A n c r,.int .i64 m] w (λv w'=>v= .int .i64 (Ql nd m)/\Ext w w'):=by
 have Xd:=h.2;refine QD (c:={cQB with cuts:=[]}) Qa Tryz.func161 rfl rfl rfl ?_;refine new (λw1 Qd Q3 Qh=>?_);refine Qy (λh1=>?_) (λh1=>?_)
 ·exact⟨by unfold Ql;rw[Qf h1],Qd⟩
 ·refine Qx Qh rfl ?_;refine Qi (((m-2).toNat:Nat):Int) (by omega) (by have:=h.1.le;have:=h.1.cap;simp only[maxLen] at this;omega) ?_;refine Zw Ws (h.ext Qd) rfl (by omega) (λp x hx hc=>?_);refine load (hc 0 _ rfl) ?_;exact⟨by unfold Ql;rw[if_neg h1,hx];rfl,Qd⟩
theorem lQG (A:Option Addr)(n c:Nat)(r:Int)(s:Nat)(nd:List Br)(x:Br)(w:World)(h:SB w A n c nd)(hx:nd[s]? =some x)(bN:n<=1000000000000):
  Fn Tryz.prog 212 [Xm A n c r,.int .i64 s] w (λv w'=>∃b,v= .bool b/\(b=true↔gk nd s x)/\Ext w w'):=by
 have Xd:=h.2;have hs:s<nd.length:=(Z0.1 hx).1;refine QD (c:={cQ3 with cuts:=[]}) Qa Tryz.func212 rfl rfl rfl ?_;refine new (λw1 Qd Q3 Qh=>?_);refine Qx Qh rfl ?_;refine Zw Ws (h.ext Qd) rfl (by omega) (λp y hy hc=>?_);have ib:y=x:=Option.some.inj (hy.symm.trans hx);subst ib;refine Kr (vs:=y.cells) rfl hc ?_;refine new (λw4 Qq KY Q4=>?_);refine Qz Q4 rfl (sc rfl) (λw5 Jw KJ Kv=>?_);have V6:Ext w1 w5:=X9 Qq Q4 Jw;have Qv:=Qd.trans V6;have QK:=Qh.ext V6;have bad:¬gk nd s y->∀w',Ext w w'->∃b,(Value.bool false:Value)= .bool b/\(b=true↔gk nd s y)/\Ext w w':=λXf w' hE=>⟨false,rfl,by simp[Xf],hE⟩
 refine Qx Kv rfl ?_;refine Qy (λc1=>?_) (λc1=>?_)
 ·exact bad (λhb=>by have:=hb.1;omega) _ Qv
 refine Qx Kv rfl ?_;refine Qy (λc2=>?_) (λc2=>?_)
 ·exact bad (λhb=>by have:=hb.2.1;omega) _ Qv
 refine Qp Kv rfl ?_;refine Qy (λc3=>?_) (λc3=>?_)
 ·exact bad (λhb=>by have:=hb.2.2.1;omega) _ Qv
 refine Qp Kv rfl ?_;refine Qy (λc4=>?_) (λc4=>?_)
 ·exact bad (λhb=>by have:=hb.2.2.2.2.1;omega) _ Qv
 refine Qp Kv rfl ?_;refine Qi ((s:Int)+2) rfl (by omega) ?_;refine Qy (λc5=>?_) (λc5=>?_)
 ·exact bad (λhb=>by have:=hb.2.2.2.1;omega) _ Qv
 refine Qp Kv rfl ?_;refine Qi ((s:Int)+2) rfl (by omega) ?_;refine Qy (λc6=>?_) (λc6=>?_)
 ·exact bad (λhb=>by have:=hb.2.2.2.2.2.1;omega) _ Qv
 refine Qp Kv rfl ?_;refine Qp Kv rfl ?_;refine Zh (λc7=>?_) (λc7=>?_)
 ·exact bad (λhb=>hb.2.2.2.2.2.2.1 c7) _ Qv
 have qB:∀w',Ext w5 w'->∀(j:Nat) (v:Value),[Value.slice A n c,.int .i64 r][j]? =some v->w'.cell? ((⟨w.heap.size,0,none⟩:Addr).add j)=some v:=λw' Qb j v hj=>by rw[(QK.ext Qb).cell];exact hj
 have qX:∀w',Ext w5 w'->∀(j:Nat) (v:Value),y.cells[j]? =some v->w'.cell? ((⟨w1.heap.size,0,none⟩:Addr).add j)=some v:=λw' Qb j v hj=>by rw[(Kv.ext Qb).cell];exact hj
 have ww:∀w',Ext w5 w'->w'.cell? (⟨w1.heap.size,0,none⟩:Addr)=some (.int .i64 y.v):=λw' Qb=>by rw[(Kv.ext Qb).cell0]<;>rfl
 refine XC Qa (Ext w5) 16 [(true,0),(true,1),(true,2),(true,4),(true,5),(false,3),(true,6),(true,7),(true,8),(true,9),(true,10),(true,12),(true,13),(false,11),(true,14),(true,15)] (by kernel_rfl) (Ext.drew w5) ?_;refine Xq (vs:=[.slice A n c,.int .i64 r]) rfl (λw' Qb j v hj=>by have:=qB w' Qb j v hj;simpa [Addr.add] using this) ?_;refine QH (v:=.int .i64 y.l) (λw' Qb=>qX w' Qb 1 _ rfl) ?_;refine QH (v:=.int .i64 y.v) (λw' Qb=>ww w' Qb) ?_;refine call (vi A n c r y.l nd _ (h.ext (Qv.trans (Ext.drew w5))) (by omega)) ?_;rintro v w6 ⟨rfl,Xh⟩;have Zy:=(Ext.drew w5).trans Xh;refine⟨Zy,?_⟩;refine Qy (λc9=>?_) (λc9=>?_)
 ·exact bad (λhb=>by have:=hb.2.2.2.2.2.2.2.2.1;omega) _ (Qv.trans Zy)
 refine Xq (vs:=[.slice A n c,.int .i64 r]) rfl (λw' Qb j v hj=>by have:=qB w' Qb j v hj;simpa [Addr.add] using this) ?_;refine QH (v:=.int .i64 y.h) (λw' Qb=>qX w' Qb 2 _ rfl) ?_;refine QH (v:=.int .i64 y.v) (λw' Qb=>ww w' Qb) ?_;refine call (vi A n c r y.h nd _ (h.ext (Qv.trans Zy)) (by omega)) ?_;rintro v w7 ⟨rfl,Q2⟩;have Vs:=Zy.trans Q2;refine⟨Vs,?_⟩;refine Qy (λrR=>?_) (λrR=>?_)
 ·exact bad (λhb=>by have:=hb.2.2.2.2.2.2.2.2.2;omega) _ (Qv.trans Vs)
 have K4:=Qv.trans Vs;refine loop Qa [6] (λt:Nat=>[.int .i64 t]) (λt w'=>Ext w7 w'/\t<=s/\y∉nd.take t) (λt _=>s-t) 0 rfl ⟨Ext.refl w7,XJ _,by simp⟩ ?_;rintro t w8 ⟨Q0,ht,Xf⟩;have Xt:=(QK.ext Vs).ext Q0;have hX8:=(Kv.ext Vs).ext Q0;have YR:=K4.trans Q0;refine Qy (λh8=>?_) (λh8=>?_)
 ·refine XC Qa (Ext w8) 7 [(true,0),(true,1),(true,2),(true,3),(true,4),(true,5),(true,6)] (by kernel_rfl) (Ext.drew w8) ?_;refine QH (v:=.slice A n c) (λw' Qb=>by rw[(Xt.ext Qb).cell];rfl) ?_;refine Zw Ws (h.ext YR) rfl (by omega) (λp z hz hc=>?_);refine Xq (vs:=z.cells) rfl (λw' Qb j v hj=>Qb.cell (hc j v hj)) ?_;refine Xq (vs:=y.cells) rfl (λw' Qb j v hj=>by have:=(hX8.ext Qb).cell j;simp[Addr.add] at this;rw[<-hj];simpa [Addr.add] using this) ?_;have cH:=Q0.trans (Ext.drew w8);by_cases C7:z=y
  ·refine Xa (by rw[ph,XR (pi.1 C7)]) ?_;refine bad (λhb=>hb.2.2.2.2.2.2.2.1 ?_) _ (K4.trans cH);subst C7;exact QO (i:=t) (by rw[uB (by omega)];exact hz)
  ·refine Q5 (by rw[ph,X4 (λe=>C7 (pi.2 e))]) ?_;refine Qi ((t+1:Nat):Int) (by omega) (by omega) ?_;refine⟨t+1,rfl,⟨cH,by omega,?_⟩,by show s-(t+1)<s-t;omega⟩;rw[VT,hz];simp only[Option.toList_some,Xw,QL,not_or];exact⟨Xf,λe=>C7 e.symm⟩
 ·have:t=s:=by omega
  subst this;exact⟨true,rfl,by simp only[true_iff];exact⟨by omega,by omega,by omega,by omega,by omega,by omega,c7,Xf,by omega,by omega⟩,YR⟩
end
section
def jU (l:List Nat):List Value:=l.map λ(x:Nat)=>.int .i64 (x:Int)
theorem Oo {l:List Nat}{j x:Nat}(h:l[j]? =some x):(jU l)[j]? =some (.int .i64 (x:Int)):=by simp[jU,h]
theorem eQg (l:List Nat):(jU l).length=l.length:=by simp[jU]
theorem eQh (l:List Nat)(i x:Nat):jU (l.set i x)=(jU l).set i (.int .i64 (x:Int)):=by simp[jU,List.map_set]
def WS (x pg:Nat)(A:Option Addr):Nat->Prop:=λk=>k=x∨k=pg∨Qj A k
theorem WS.moved {w:World}{x pg:Nat}{A A':Option Addr}(h:Moved w A A'):∀k,WS x pg A' k->WS x pg A k∨w.heap.size<=k:=by
 rintro k (rfl | rfl | hk)
 ·exact .inl (.inl rfl)
 ·exact .inl (.inr (.inl rfl))
 ·rcases h.rows k hk with h | h
  ·exact .inl (.inr (.inr h))
  ·exact .inr h
structure Wk (w:World) (base x pg:Nat) (NA:Option Addr) (nn nc:Nat) (nd:List Br) (OA:Option Addr) (oc:Nat) (st:List Br×List Nat):Prop where
 blk:Blk w x 249 [.slice NA nn nc,.slice (some ⟨pg,0,none⟩) nn nn,.slice OA st.1.length oc]
 num:Blk w pg 3 (jU st.2)
 own:Own w base 105 3 OA st.1.length oc (jT st.1)
 lt:x<base/\pg<base/\x≠pg
 top:base<=w.heap.size
 nds:SB w NA nn nc nd
 row:∀ad,NA=some ad->0<nn->ad.block<base/\ad.block≠x/\ad.block≠pg
 len:st.2.length=nn
theorem Wk.ext {w w':World}{base x pg:Nat}{NA:Option Addr}{nn nc:Nat}{nd:List Br}{OA:Option Addr}{oc:Nat}{st:List Br×List Nat}(h:Wk w base x pg NA nn nc nd OA oc st)(k:Ext w w'):Wk w' base x pg NA nn nc nd OA oc st:=
 ⟨h.blk.ext k,h.num.ext k,h.own.ext k,h.lt,Zf h.top k.size,h.nds.ext k,h.row,h.len⟩
theorem Wk.keep {w w':World}{base x pg:Nat}{NA:Option Addr}{nn nc:Nat}{nd:List Br}{OA:Option Addr}{oc:Nat}{st:List Br×List Nat}(h:Wk w base x pg NA nn nc nd OA oc st)(hm:Mod (WS x pg OA) w w'):SB w' NA nn nc nd:=by
 refine⟨h.nds.1.modS hm ?_,h.nds.2⟩;rintro h0 i ⟨ad,rfl,rfl⟩ hi;obtain⟨r1,r2,r3⟩:=h.row ad rfl h0;rcases hi with hi | hi | hi
 ·exact r2 hi
 ·exact r3 hi
 ·have:=(h.own.rows _ hi).1;omega
def WTo (w:World)(base x pg:Nat)(NA:Option Addr)(nn nc:Nat)(nd:List Br)(OA:Option Addr)(st:List Br×List Nat)(w':World):Prop:=∃OA' oc',Wk w' base x pg NA nn nc nd OA' oc' st/\Mod (WS x pg OA) w w'/\Moved w OA OA'
theorem Oq (base x pg:Nat)(NA:Option Addr)(nn nc:Nat)(nd:List Br)(We:W3 nd)(eQ:nn<=1000000000000):∀(m:Nat)(n:Int)(st:List Br×List Nat)(OA:Option Addr)(oc:Nat)(w:World),
  Wk w base x pg NA nn nc nd OA oc st->0<=n->n<m->n<nn+2->st.1.length+st.2.count 0<=1000000000000->
  Fn Tryz.prog 164 [.pointer (some ⟨x,0,none⟩),.int .i64 n] w (λv w'=>v= .int .i64 (Za nd m n st).1/\WTo w base x pg NA nn nc nd OA (Za nd m n st).2 w')
 | 0,n,st,OA,oc,w,_,h0,hm,_,_=>by omega
 | m+1,n,st,OA,oc,w,hK,h0,hm,hn,hc=>by
  have ih:=Oq base x pg NA nn nc nd We eQ m;have KB:nd.length=nn:=hK.nds.2;have hl:=hK.len;have VN:=hK.own.rows;have mQC:=hK.blk.lt;have mQD:=hK.num.lt;obtain⟨lx,lp,lxp⟩:=hK.lt;refine QD (c:={cQE with cuts:=[]}) Qa Tryz.func164 rfl rfl rfl ?_;by_cases h1:n<2
  ·refine XH h1 ?_;rw[jQ h1];exact⟨rfl,OA,oc,hK,Mod.refl _ _,Moved.refl _ _⟩
  refine Q9 h1 ?_;have hj:(n-2).toNat<nn:=by omega
  have hz:st.2[(n-2).toNat]? =some st.2[(n-2).toNat]:=Xn (by omega);refine Qp hK.blk rfl ?_;refine Qi (((n-2).toNat:Nat):Int) (by omega) (by omega) ?_;refine index (by omega) ?_;refine Qp hK.num (Oo hz) ?_;have hd:st.2[(n-2).toNat]?.getD 0=st.2[(n-2).toNat]:=by rw[hz]<;>rfl
  by_cases h2:0<st.2[(n-2).toNat]?.getD 0
  ·rw[jR h1 h2];rw[hd] at h2 ⊢;refine XH (by omega) ?_;refine Qp hK.blk rfl ?_;refine Qi (((n-2).toNat:Nat):Int) (by omega) (by omega) ?_;refine index (by omega) ?_;refine Qp hK.num (Oo hz) ?_;exact⟨rfl,OA,oc,hK,Mod.refl _ _,Moved.refl _ _⟩
  refine Q9 (by rw[hd] at h2;omega) ?_;have hx:=Xn (show(n-2).toNat<nd.length by omega);generalize nd[(n-2).toNat]=b at hx;obtain⟨x1,x2,x3,x4⟩:=We _ _ hx;rw[mi h1 h2 hx];refine Qx hK.blk rfl ?_;refine Qi (((n-2).toNat:Nat):Int) (by omega) (by omega) ?_;refine Zw Ws hK.nds rfl (by omega) (λad y hy jm=>?_);have ib:y=b:=Option.some.inj (hy.symm.trans hx);subst ib;refine Kr (vs:=y.cells) rfl jm ?_;refine new (λw1 Qd Q3 Qh=>?_);refine Qz Qh rfl (sc rfl) (λw2 gE Zb Ku=>?_);have Qg:Ext w w2:=X9 Qd Qh gE;have Bi:Mod (WS x pg OA) w w2:=Mod.of_ext _ Qg;have ie:¬WS x pg OA w.heap.size:=λe=>by
   rcases e with e | e | e
   ·omega
   ·omega
   ·have:=(VN _ e).2;omega
  refine Qp Ku rfl ?_;have f1:=jS We m y.l st x1 (by omega) (by omega) (by omega);refine call (ih y.l st OA oc w2 (hK.ext Qg) x1 (by omega) (by omega) hc) ?_;rintro v w3 ⟨rfl,OA3,GL,eo,ZU,kK⟩;have Vf:=Ku.mod ZU ie;have tv:¬WS x pg OA3 w.heap.size:=λe=>(WS.moved kK _ e).elim ie (λh=>by omega)
  refine Qp Vf rfl ?_;have f2:=jS We m y.h _ x3 (by omega) (by omega) f1.len;have c1:=f1.cnt;have c2:=f2.cnt;refine call (ih y.h _ OA3 GL w3 eo x3 (by omega) (by omega) (by omega)) ?_;rintro v w4 ⟨rfl,OA4,Tt,VL,KH,pV⟩;have Yx:=Vf.mod KH tv;have jQq:¬WS x pg OA4 w.heap.size:=λe=>(WS.moved pV _ e).elim tv (λh=>by have:=ZU.size;omega)
  have kL:=ZU.trans KH (WS.moved kK);have GN:=kK.trans pV ZU.size;have wo:Mod (WS x pg OA) w w4:=Bi.trans kL (λi hi=>.inl hi);have wq:=GN.back Qg.size;generalize (Za nd m y.l st)=a at*;generalize (Za nd m y.h a.2)=b at*;have pW:=VL.own.rows;have cC:¬Qj OA4 x:=λe=>by have:=(pW _ e).1;omega
  have Li:¬Qj OA4 pg:=λe=>by have:=(pW _ e).1;omega
  refine XC Qa (Mod (Qj OA4) w4) 12 [(true,0),(true,1),(true,2),(true,3),(true,4),(true,5),(true,6),(true,7),(true,8),(true,9),(false,10),(false,11)] (by kernel_rfl) (Mod.of_ext _ (Ext.drew w4)) ?_;refine QH (v:=.slice OA4 b.2.1.length Tt) (λw' Qb=>by rw[(VL.blk.mod Qb cC).cell];rfl) ?_;refine QH (v:=.int .i64 y.v) (λw' Qb=>by rw[(Yx.mod Qb (λe=>jQq (.inr (.inr e)))).cell];rfl) ?_;refine XI Qa [(⟨y.v,a.1,b.1⟩:Br).cells] rfl rfl rfl rfl rfl ⟨rfl,rfl,⟨⟩⟩ rfl (λcs h=>by simp only[QL] at h;subst h;rfl) rfl (by decide) (by decide) ?_;intro w5 Qv KJ QK;have an:=(Ext.drew w4).trans Qv;have iZ:=VL.ext an;refine⟨Mod.of_ext _ an,?_⟩;have kM:Sl w5 3 (some ⟨w4.drew.heap.size,0,none⟩) 1 1 (⟨y.v,a.1,b.1⟩:Br).cells:=Sl.own (sz:=3) (n:=1) QK (QC _) (by decide) (by simp[Br.cells]);refine JB Qa rfl rfl rfl rfl rfl (by decide) rfl rfl ⟨_,rfl⟩ rfl rfl iZ.own kM (by intro u hu;simp[Br.cells] at hu;rcases hu with rfl | rfl | rfl<;>rfl) (by unfold maxLen;omega) (by show _*24<=_;omega) iZ.top ?_;intro OA6 Bj w6 KZ wr wt;have mY:Mod (Qj OA4) w4 w6:=(Mod.of_ext (Qj OA4) an).trans KZ (λi hi=>.inl hi);refine⟨mY,?_⟩;refine XP (VL.blk.mod mY cC) (by simp) (λw7 Xb Q6=>?_);have hN7:=(VL.num.mod mY Li).mod Xb (λe=>lxp e.symm);have Xd:b.2.2.length=nn:=VL.len;refine XC Qa (Ext w7) 13 [(true,0),(true,1),(true,2),(true,3),(true,4),(true,5),(true,6),(true,7),(true,8),(true,9),(true,10),(true,11),(true,12)] (by kernel_rfl) (Ext.drew w7) ?_;refine QH (v:=.slice (some ⟨pg,0,none⟩) nn nn) (λw' Qb=>by rw[(Q6.ext Qb).cell];rfl) ?_;refine Qi (((n-2).toNat:Nat):Int) (by omega) (by omega) ?_;refine QH (v:=.slice OA6 (b.2.1.length+1) Bj) (λw' Qb=>by rw[(Q6.ext Qb).cell];rfl) ?_;refine Qi ((b.2.1.length+2:Nat):Int) (by omega) (by omega) ?_;refine index (by omega) ?_;refine XP (hN7.ext (Ext.drew w7)) (by rw[eQg];omega) (λw8 ZC Xt=>?_);rw[<-eQh] at Xt;have wx:=(Q6.ext (Ext.drew w7)).mod ZC lxp;refine Qp wx rfl ?_;refine Qi ((b.2.1.length+2:Nat):Int) (by omega) (by omega) ?_;have pX:Mod (WS x pg OA4) w4 w8:=(((mY.mono (λi hi=>.inl (.inr (.inr hi)))).trans Xb (λi hi=>.inl (.inl hi))).trans (Mod.of_ext (WS x pg OA4) (Ext.drew w7)) (λi hi=>.inl hi)).trans ZC (λi hi=>.inl (.inr (.inl hi)));have wu:=wr.rows;have el:(b.2.1++ [(⟨y.v,a.1,b.1⟩:Br)]).length=b.2.1.length+1:=by simp
  refine⟨rfl,OA6,Bj,⟨?_,?_,?_,hK.lt,?_,VL.keep pX,hK.row,?_⟩,wo.trans pX (WS.moved wq),?_⟩
  ·rw[el];exact wx
  ·exact Xt
  ·rw[el,zG];refine((wr.mod Xb (λi hi e=>?_)).ext (Ext.drew w7)).mod ZC (λi hi e=>?_)
   ·have:=(wu i hi).1;omega
   ·have:=(wu i hi).1;omega
  ·have:=VL.top;have:=pX.size;omega
  ·rw[dG];exact Xd
  ·exact wq.trans (wt.back an.size) wo.size
theorem eQi (NA:Option Addr)(nn nc:Nat)(nd:List Br)(root:Int)(w:World)(hN:SB w NA nn nc nd)(We:W3 nd)(eQ:nn<=1000000000000)(h0:0<=root)(hr:root<nn+2):
  Fn Tryz.prog 108 [.slice NA nn nc,.int .i64 root] w (vh w (bq nd root)):=by
 have KB:nd.length=nn:=hN.2;have nV:=SB.lt hN;refine QD (c:={bQ2 with cuts:=[]}) Qa Tryz.func108 rfl rfl rfl ?_;refine new (λw1 Qd Q3 Qh=>?_);refine zo Qa rfl rfl rfl rfl rfl rfl rfl rfl (by show 8*nn<=_;omega) (by unfold maxLen;omega) (λw2 Qg Zb Qw=>?_);refine new (λw3 Qk JI Qt=>?_);have QW:=(Qd.trans Qg).trans Qk;have hW:Wk w3 w3.heap.size w2.heap.size w1.heap.size NA nn nc nd none 0 ([],List.replicate nd.length 0):=by
  refine⟨Qt,?_,Own.nil _ _ _ _,⟨by omega,by omega,by omega⟩,QC _,hN.ext QW,λad e hn=>?_,by simp[KB]⟩
  ·have:=Qw.ext Qk;rw[KB];simpa [jU] using this
  ·have:=nV ad e hn;exact⟨by omega,by omega,by omega⟩
 refine call (Oq w3.heap.size w2.heap.size w1.heap.size NA nn nc nd We eQ (root.toNat+1) root _ none 0 w3 hW h0 (by omega) hr (by simp;omega)) ?_;rintro v w4 ⟨rfl,OA,oc,hK,KH,pV⟩;refine Qp hK.blk rfl ?_;have bC:=((Qh.ext Qg).ext Qk).mod KH (λe=>by
  rcases e with e | e | ⟨_,e,_⟩
  ·omega
  ·omega
  ·cases e)
 refine Qz bC rfl (sc rfl) (λw5 Jw _ QK=>?_);have Z1:Mod (·=w.heap.size) w4 w5:=mQW Jw rfl;refine Qs QK rfl ?_;have Qq:Ext w w4:=KH.ext QW (λi hi=>by
  rcases hi with e | e | ⟨_,e,_⟩
  ·omega
  ·omega
  ·cases e)
 exact⟨OA,_,oc,rfl,Z1.ext Qq (λi hi=>by omega),⟨(hK.own.mod Z1 (λi hi e=>by have:=(hK.own.rows i hi).1;omega)).sl,rfl⟩,λi hi=>Zf QW.size (hK.own.rows i hi).1⟩
end
section
def KF (b:Br):List Br->Option Nat
 | []=>none
 | x::l=>if x=b then some 0 else(KF b l).map (·+1)
theorem Ot {b:Br}:∀{l:List Br}{s:Nat},(∀j,j<s->l[j]? ≠some b)->l[s]? =some b->KF b l=some s
 | [],s,_,h=>by simp at h
 | x::l,0,_,h=>by simp at h;simp[KF,h]
 | x::l,s+1,hn,h=>by
  have hx:x≠b:=λe=>hn 0 (by omega) (by simp[e])
  have:=Ot (l:=l) (s:=s) (λj hj=>by have:=hn (j+1) (by omega);simpa using this) (by simpa using h);simp[KF,hx,this]
theorem Ou {b:Br}:∀{l:List Br},(∀j,j<l.length->l[j]? ≠some b)->KF b l=none
 | [],_=>rfl
 | x::l,hn=>by
  have hx:x≠b:=λe=>hn 0 (by simp) (by simp[e])
  have:=Ou (l:=l) (λj hj=>by have:=hn (j+1) (by simpa using hj);simpa using this);simp[KF,hx,this]
def ZR (b:Br)(l:List Br):List Br×Int:=if b.l=b.h then(l,b.l)else match KF b l with
 | some i=>(l,((i+2:Nat):Int))
 | none=>(l++ [b],((l.length+2:Nat):Int))
theorem vj (b:Br)(l:List Br):l.length<=(ZR b l).1.length:=by
 unfold ZR;split
 ·exact QC _
 ·split
  ·exact QC _
  ·simp
def cT (op x y:Int):Int:=if op=0 then x*y else if op=1 then max x y else if op=3 then 1-x else if op=4 then(1-x)*y else(x+y) % 2
def Qm (d:List Br)(n v:Int):Int×Int:=if Ql d n≠v then(n,n)else match d[(n-2).toNat]? with
 | some b=>(b.l,b.h)
 | none=>(n,n)
abbrev Tr3:=Int×Int×Int
def Xp (a b:List Br)(op:Int):Nat->Int->Int->List Br×List Tr3->Int×(List Br×List Tr3)
 | 0,_,_,st=>(0,st)
 | m+1,x,y,st=>if x<2/\y<2 then(cT op x y,st)else
   match st.2.find? (λt=>decide (t.1=x/\t.2.1=y))with
   | some t=>(t.2.2,st)
   | none=>
    let v:=min (Ql a x) (Ql b y)
    let r0:=Xp a b op m (Qm a x v).1 (Qm b y v).1 st
    let r1:=Xp a b op m (Qm a x v).2 (Qm b y v).2 r0.2
    let u:=ZR ⟨v,r0.1,r1.1⟩ r1.2.1
    (u.2,(u.1,r1.2.2++ [(x,y,u.2)]))
theorem jV {a b:List Br}{op:Int}{m:Nat}{x y:Int}{st:List Br×List Tr3}(h:x<2/\y<2):Xp a b op (m+1) x y st=(cT op x y,st):=by rw[Xp,Qf h]
theorem jW {a b:List Br}{op:Int}{m:Nat}{x y:Int}{st:List Br×List Tr3}{t:Tr3}(h:¬(x<2/\y<2))(k:st.2.find? (λt=>decide (t.1=x/\t.2.1=y))=some t):Xp a b op (m+1) x y st=(t.2.2,st):=by rw[Xp,if_neg h,k]
theorem jX {a b:List Br}{op:Int}{m:Nat}{x y:Int}{st:List Br×List Tr3}(h:¬(x<2/\y<2))(k:st.2.find? (λt=>decide (t.1=x/\t.2.1=y))=none)(v:Int)(hv:min (Ql a x) (Ql b y)=v):
  Xp a b op (m+1) x y st=((ZR ⟨v,(Xp a b op m (Qm a x v).1 (Qm b y v).1 st).1,(Xp a b op m (Qm a x v).2 (Qm b y v).2 (Xp a b op m (Qm a x v).1 (Qm b y v).1 st).2).1⟩ (Xp a b op m (Qm a x v).2 (Qm b y v).2 (Xp a b op m (Qm a x v).1 (Qm b y v).1 st).2).2.1).2,
   ((
    ZR ⟨v,(Xp a b op m (Qm a x v).1 (Qm b y v).1 st).1,(Xp a b op m (Qm a x v).2 (Qm b y v).2 (Xp a b op m (Qm a x v).1 (Qm b y v).1 st).2).1⟩ (Xp a b op m (Qm a x v).2 (Qm b y v).2 (Xp a b op m (Qm a x v).1 (Qm b y v).1 st).2).2.1).1,
    (Xp a b op m (Qm a x v).2 (Qm b y v).2 (Xp a b op m (Qm a x v).1 (Qm b y v).1 st).2).2.2++ [(x,y,(ZR ⟨v,(Xp a b op m (Qm a x v).1 (Qm b y v).1 st).1,(Xp a b op m (Qm a x v).2 (Qm b y v).2 (Xp a b op m (Qm a x v).1 (Qm b y v).1 st).2).1⟩ (Xp a b op m (Qm a x v).2 (Qm b y v).2 (Xp a b op m (Qm a x v).1 (Qm b y v).1 st).2).2.1).2)])):=by
 subst hv;rw[Xp,if_neg h,k]
theorem mj (a b:List Br)(op:Int):∀(m:Nat)(x y:Int)(st:List Br×List Tr3),st.1.length<=(Xp a b op m x y st).2.1.length/\st.2.length<=(Xp a b op m x y st).2.2.length
 | 0,x,y,st=>⟨QC _,QC _⟩
 | m+1,x,y,st=>by
  by_cases h:x<2/\y<2
  ·rw[jV h];exact⟨QC _,QC _⟩
  cases k:st.2.find? (λt=>decide (t.1=x/\t.2.1=y))with
  | some t=>rw[jW h k];exact⟨QC _,QC _⟩
  | none=>
   rw[jX h k _ rfl];have h1:=mj a b op m (Qm a x (min (Ql a x) (Ql b y))).1 (Qm b y (min (Ql a x) (Ql b y))).1 st;have h2:=mj a b op m (Qm a x (min (Ql a x) (Ql b y))).2 (Qm b y (min (Ql a x) (Ql b y))).2 (Xp a b op m (Qm a x (min (Ql a x) (Ql b y))).1 (Qm b y (min (Ql a x) (Ql b y))).1 st).2;refine⟨Zf (Zf h1.1 h2.1) (vj _ _),?_⟩;simp only[Qu];omega
def Vo (nd:List Br):Prop:=W3 nd/\∀(j:Nat)(b:Br),nd[j]? =some b->0<=b.v/\b.v<=63
theorem VD.dok {nd:List Br}{r:Int}(h:VD nd r):Vo nd:=⟨h.wf,λj b hb=>⟨(h.1 j b hb).1,(h.1 j b hb).2.1⟩⟩
theorem Y7 {nd:List Br}(h:Vo nd){n v:Int}(h0:0<=n)(er:v<64):0<=(Qm nd n v).1/\(Qm nd n v).1<=n/\0<=(Qm nd n v).2/\(Qm nd n v).2<=n/\(Ql nd n=v->(Qm nd n v).1<n/\(Qm nd n v).2<n):=by
 unfold Qm;split
 ·rename_i hv;exact⟨h0,lN _,h0,lN _,λe=>Q8 e hv⟩
 ·rename_i hv;have hv:=Decidable.not_not.1 hv;have uo:¬n<2:=λh2=>by
   unfold Ql at hv;rw[Qf h2] at hv;omega
  cases hx:nd[(n-2).toNat]? with
  | none=>
   unfold Ql at hv;rw[if_neg uo,hx] at hv;simp at hv;omega
  | some b=>
   obtain⟨h1,h2,h3,h4⟩:=h.1 _ _ hx;exact⟨h1,by simp only;omega,h3,by simp only;omega,λ_=>⟨by simp only;omega,by simp only;omega⟩⟩
theorem W4 {nd:List Br}(h:Vo nd){n:Int}(h2:¬n<2)(hn:n<nd.length+2):Ql nd n<64:=by
 unfold Ql;have hx:=Xn (show(n-2).toNat<nd.length by omega);rw[if_neg h2,hx];have:=(h.2 _ _ hx).2;simp only[yJ,iu];omega
theorem eQj (base:Nat)(A:Option Addr)(n c:Nat)(l:List Br)(b:Br)(w:World)(h:Own w base 105 3 A n c (jT l))(hn:l.length=n)(hb:base<=w.heap.size)(hl:n+1<=1000000000000):
  Fn Tryz.prog 163 [.slice A n c,.agg b.cells.toArray] w (λv w'=>∃A' c',v= .tuple #[.slice A' (ZR b l).1.length c',.int .i64 (ZR b l).2]/\Own w' base 105 3 A' (ZR b l).1.length c' (jT (ZR b l).1)/\Mod (Qj A) w w'/\Moved w A A'):=by
 have C8:SB w A n c l:=⟨h.sl,hn⟩
 refine QD (c:={cQD with cuts:=[]}) Qa Tryz.func163 rfl rfl rfl ?_;refine new (λw1 Qd Q3 Qh=>?_);have d8:Mod (Qj A) w w1:=Mod.of_ext _ Qd;refine Qp Qh rfl ?_;refine Qp Qh rfl ?_;refine Zh (λh1=>?_) (λh1=>?_)
 ·have e:ZR b l=(l,b.l):=by unfold ZR;rw[Qf h1]
  rw[e];refine XC Qa (Ext w1) 5 [(true,0),(true,1),(true,2),(true,3),(true,4)] (by kernel_rfl) (Ext.drew w1) ?_;refine QH (v:=.int .i64 b.l) (λw' Qb=>by rw[(Qh.ext Qb).cell];rfl) ?_;have cH:=Qd.trans (Ext.drew w1);rw[hn];exact⟨A,c,rfl,h.ext cH,Mod.of_ext _ cH,Moved.refl _ _⟩
 have e0:ZR b l=match KF b l with
  | some i=>(l,((i+2:Nat):Int))
  | none=>(l++ [b],((l.length+2:Nat):Int)):=by unfold ZR;rw[if_neg h1]
 refine loop Qa [6] (λs:Nat=>[.int .i64 s]) (λs w'=>Ext w1 w'/\s<=n/\∀j,j<s->l[j]? ≠some b) (λs _=>n-s) 0 rfl ⟨Ext.refl _,XJ _,λj hj=>Q8 hj (by omega)⟩ ?_;rintro s w2 ⟨Qg,hs,Xf⟩;have Q7:=Qd.trans Qg;have Qw:=Qh.ext Qg;refine Qy (λh3=>?_) (λh3=>?_)
 ·refine XC Qa (Ext w2) 6 [(true,0),(true,1),(true,2),(true,3),(true,4),(true,5)] (by kernel_rfl) (Ext.drew w2) ?_;refine Zw Ws (C8.ext Q7) rfl (by omega) (λp z hz hc=>?_);refine Xq (vs:=z.cells) rfl (λw' Qb j v hj=>Qb.cell (hc j v hj)) ?_;refine Xq (vs:=b.cells) rfl (λw' Qb j v hj=>by rw[(Qw.ext Qb).cell];exact hj) ?_;have cH:=Qg.trans (Ext.drew w2);by_cases Vi:z=b
  ·refine Xa (by rw[ph,XR (pi.1 Vi)]) ?_;subst Vi;rw[Ot Xf hz] at e0;simp only at e0;rw[e0];refine Qi ((s+2:Nat):Int) (by omega) (by omega) ?_;rw[hn];exact⟨A,c,rfl,h.ext (Qd.trans cH),Mod.of_ext _ (Qd.trans cH),Moved.refl _ _⟩
  ·refine Q5 (by rw[ph,X4 (λe=>Vi (pi.2 e))]) ?_;refine Qi ((s+1:Nat):Int) (by omega) (by omega) ?_;refine⟨s+1,rfl,⟨cH,by omega,λj hj=>?_⟩,by show n-(s+1)<n-s;omega⟩;by_cases YF:j<s
   ·exact Xf j YF
   ·have:j=s:=by omega
    subst this;rw[hz];exactλe=>Vi (Option.some.inj e)
 ·have:s=n:=by omega
  subst this;rw[Ou (by rw[hn];exact Xf)] at e0;simp only at e0;rw[e0];refine Qs Qw rfl ?_;refine XI Qa [b.cells] rfl rfl rfl rfl rfl ⟨rfl,rfl,⟨⟩⟩ rfl (λcs h=>by simp only[QL] at h;subst h;rfl) rfl (by decide) (by decide) ?_;intro w3 Qk JI Qt;have QW:=Q7.trans Qk;have pY:Sl w3 3 (some ⟨w2.heap.size,0,none⟩) 1 1 b.cells:=Sl.own (sz:=3) (n:=1) Qt (QC _) (by decide) (by simp[Br.cells]);refine JB Qa rfl rfl rfl rfl rfl (by decide) rfl rfl ⟨_,rfl⟩ rfl rfl (h.ext QW) pY (by intro u hu;simp[Br.cells] at hu;rcases hu with rfl | rfl | rfl<;>rfl) (by unfold maxLen;omega) (by show _*24<=_;omega) (Zf hb QW.size) ?_;intro A' c' w4 KH pZ pV;refine Qi ((s+2:Nat):Int) (by omega) (by omega) ?_;have el:(l++ [b]).length=s+1:=by rw[Qu,hn]<;>rfl
  rw[el,hn];refine⟨A',c',rfl,?_,(Mod.of_ext (Qj A) QW).trans KH (λi hi=>.inl hi),pV.back QW.size⟩;rw[zG];exact pZ
end
section
theorem eQk (pb:Nat)(cs:List Value)(op x y:Int)(w:World)(h:Blk w pb 183 cs)(hc:cs[4]? =some (.int .i64 op))(x0:0<=x)(x1:x<2)(y0:0<=y)(y1:y<2)(ho:op≠3/\op≠4):
  Fn Tryz.prog 160 [.pointer (some ⟨pb,0,none⟩),.int .i64 x,.int .i64 y] w (λv w'=>v= .int .i64 (cT op x y)/\w=w'):=by
 refine QD (c:={cQA with cuts:=[]}) Qa Tryz.func160 rfl rfl rfl ?_;refine Qp h hc ?_;refine Zh (λc0=>?_) (λc0=>?_)
 ·have:0<=x*y/\x*y<=1:=by
   rcases(by omega:x=0∨x=1)with rfl | rfl<;>rcases(by omega:y=0∨y=1)with rfl | rfl<;>decide
  refine Qi (x*y) rfl (by omega) ?_;exact⟨by unfold cT;rw[Qf c0],rfl⟩
 refine Zh (λc1=>?_) (λc1=>?_)
 ·refine norm (m:=max x y) (by rw[Int.max_def];split<;>split<;>omega) ?_;exact⟨by unfold cT;rw[if_neg c0,Qf c1],rfl⟩
 ·refine Qi (x+y) rfl (by omega) ?_;refine normIf (m:=(x+y) % 2) (by decide) (Int.tmod_eq_emod_of_nonneg (by omega)) ?_;exact⟨by unfold cT;rw[if_neg c0,if_neg c1,if_neg ho.1,if_neg ho.2],rfl⟩
theorem Ov (A:Option Addr)(n c:Nat)(r m v:Int)(nd:List Br)(w:World)(h:SB w A n c nd)(hm:m<n+2)(er:v<64):
  Fn Tryz.prog 162 [Xm A n c r,.int .i64 m,.int .i64 v] w (λu w'=>u= .tuple #[.int .i64 (Qm nd m v).1,.int .i64 (Qm nd m v).2]/\Ext w w'):=by
 have Xd:=h.2;have bN:n<=9223372036854775807:=by have:=h.1.le;have:=h.1.cap;simp only[maxLen] at this;omega
 refine QD (c:={cQC with cuts:=[]}) Qa Tryz.func162 rfl rfl rfl ?_;refine new (λw1 Qd Q3 Qh=>?_);refine Qs Qh rfl ?_;refine call (vi A n c r m nd w1 (h.ext Qd) hm) ?_;rintro u w2 ⟨rfl,Qg⟩;have Q7:=Qd.trans Qg;have Qw:=Qh.ext Qg;refine bg (λc1=>?_) (λc1=>?_)
 ·exact⟨by unfold Qm;rw[Qf c1],Q7⟩
 ·have uo:¬m<2:=λh2=>by
   unfold Ql at c1;rw[Qf h2] at c1;omega
  have hx:=Xn (show(m-2).toNat<nd.length by omega);generalize nd[(m-2).toNat]=b at hx;have e:Qm nd m v=(b.l,b.h):=by unfold Qm;rw[if_neg (by omega),hx]
  rw[e];refine XC Qa (Ext w2) 16 [(true,0),(true,1),(true,2),(true,3),(true,4),(true,5),(true,6),(true,7),(true,8),(true,9),(true,10),(true,11),(true,12),(true,13),(true,14),(true,15)] (by kernel_rfl) (Ext.drew w2) ?_;refine QH (v:=.slice A n c) (λw' Qb=>by rw[(Qw.ext Qb).cell];rfl) ?_;refine Qi (((m-2).toNat:Nat):Int) (by omega) (by omega) ?_;refine Zw Ws (h.ext Q7) rfl (by omega) (λp z hz hc=>?_);have Vi:z=b:=Option.some.inj (hz.symm.trans hx);subst Vi;refine QH (v:=.int .i64 z.l) (λw' Qb=>Qb.cell (hc 1 _ rfl)) ?_;refine QH (v:=.slice A n c) (λw' Qb=>by rw[(Qw.ext Qb).cell];rfl) ?_;refine Qi (((m-2).toNat:Nat):Int) (by omega) (by omega) ?_;refine Zw Ws (h.ext Q7) rfl (by omega) (λp' z' WQ Z2=>?_);have Lj:z'=z:=Option.some.inj (WQ.symm.trans hx);subst Lj;refine QH (v:=.int .i64 z'.h) (λw' Qb=>Qb.cell (Z2 2 _ rfl)) ?_;exact⟨rfl,Q7.trans (Ext.drew w2)⟩
def Tr3.cells (t:Tr3):List Value:=[.int .i64 t.1,.int .i64 t.2.1,.int .i64 t.2.2]
theorem EF (t:Tr3):(Tr3.cells t).length=3:=rfl
def vk (l:List Tr3):List Value:=l.flatMap Tr3.cells
theorem eQl (l:List Tr3)(x:Tr3):vk (l++ [x])=vk l++Tr3.cells x:=by simp[vk]
def AS (pb:Nat)(NA SA:Option Addr):Nat->Prop:=λk=>k=pb∨Qj NA k∨Qj SA k
theorem AS.moved {w:World}{pb:Nat}{NA NA' SA SA':Option Addr}(h:Moved w NA NA')(h':Moved w SA SA'):∀k,AS pb NA' SA' k->AS pb NA SA k∨w.heap.size<=k:=by
 rintro k (rfl | hk | hk)
 ·exact .inl (.inl rfl)
 ·rcases h.rows k hk with h | h
  ·exact .inl (.inr (.inl h))
  ·exact .inr h
 ·rcases h'.rows k hk with h | h
  ·exact .inl (.inr (.inr h))
  ·exact .inr h
structure AD where
 A:Option Addr
 n:Nat
 c:Nat
 a:List Br
 ra:Int
 B:Option Addr
 m:Nat
 d:Nat
 b:List Br
 rb:Int
 op:Int
structure Ap (w0 w:World) (base pb:Nat) (D:AD) (NA:Option Addr) (nc:Nat) (SA:Option Addr) (sc:Nat) (st:List Br×List Tr3):Prop where
 e0:Ext w0 w
 as_:SB w0 D.A D.n D.c D.a
 bs:SB w0 D.B D.m D.d D.b
 p0:w0.heap.size<=pb
 blk:Blk w pb 183 [.slice D.A D.n D.c,.int .i64 D.ra,.slice D.B D.m D.d,.int .i64 D.rb,.int .i64 D.op,.slice NA st.1.length nc,.slice SA st.2.length sc]
 nown:Own w base 105 3 NA st.1.length nc (jT st.1)
 sown:Own w base 242 3 SA st.2.length sc (vk st.2)
 apart:∀i,Qj NA i->¬Qj SA i
 lt:pb<base
 top:base<=w.heap.size
def ATo (w0 w:World)(base pb:Nat)(D:AD)(NA SA:Option Addr)(st:List Br×List Tr3)(w':World):Prop:=∃NA' nc' SA' sc',Ap w0 w' base pb D NA' nc' SA' sc' st/\Mod (AS pb NA SA) w w'/\Moved w NA NA'/\Moved w SA SA'
theorem Ap.grow {w0 w w':World}{base pb:Nat}{D:AD}{NA:Option Addr}{nc:Nat}{SA:Option Addr}{sc:Nat}{st:List Br×List Tr3}(h:Ap w0 w base pb D NA nc SA sc st)(k:Ext w w'):Ap w0 w' base pb D NA nc SA sc st:=
 ⟨h.e0.trans k,h.as_,h.bs,h.p0,h.blk.ext k,h.nown.ext k,h.sown.ext k,h.apart,h.lt,Zf h.top k.size⟩
theorem Ap.kept {w0 w:World}{base pb:Nat}{D:AD}{NA:Option Addr}{nc:Nat}{SA:Option Addr}{sc:Nat}{st:List Br×List Tr3}(h:Ap w0 w base pb D NA nc SA sc st):∀i,AS pb NA SA i->w0.heap.size<=i:=by
 have:=h.p0;have:=h.lt;rintro i (rfl | hi | hi)
 ·omega
 ·have:=(h.nown.rows i hi).1;omega
 ·have:=(h.sown.rows i hi).1;omega
theorem eQm {l:List Tr3}{x y:Int}:∀{s:Nat}{t:Tr3},(∀j u,j<s->l[j]? =some u->¬(u.1=x/\u.2.1=y))->l[s]? =some t->t.1=x/\t.2.1=y->l.find? (λt=>decide (t.1=x/\t.2.1=y))=some t:=by
 induction l with
 | nil=>intro s t _ h;simp at h
 | cons u l ih=>
  intro s t hn h ht;cases s with
  | zero=>simp at h;subst h;rw[aQ1 (by simp[ht])]
  | succ s=>
   rw[DI (by have:=hn 0 u (by omega) rfl;simpa using this)];exact ih (s:=s) (λj v hj hv=>hn (j+1) v (by omega) (by simpa using hv)) (by simpa using h) ht
theorem eQn {l:List Tr3}{x y:Int}(h:∀j u,j<l.length->l[j]? =some u->¬(u.1=x/\u.2.1=y)):l.find? (λt=>decide (t.1=x/\t.2.1=y))=none:=by
 rw[uC];intro u hu;obtain⟨j,hj,rfl⟩:=DF.1 hu;simpa using h j _ hj (Xn hj)
end
section
theorem Ow (w0:World)(base pb:Nat)(D:AD)(ha:Vo D.a)(hb:Vo D.b)(dD:D.n<=1000000000000/\D.m<=1000000000000)(ho:D.op≠3/\D.op≠4):∀(m:Nat)(x y:Int)(st:List Br×List Tr3)(NA SA:Option Addr)(nc sc:Nat)(w:World),
  Ap w0 w base pb D NA nc SA sc st->0<=x->0<=y->x+y<m->x<D.n+2->y<D.m+2->(Xp D.a D.b D.op m x y st).2.1.length<=100000000000->(Xp D.a D.b D.op m x y st).2.2.length<=100000000000->
  Fn Tryz.prog 107 [.pointer (some ⟨pb,0,none⟩),.int .i64 x,.int .i64 y] w (λv w'=>v= .int .i64 (Xp D.a D.b D.op m x y st).1/\ATo w0 w base pb D NA SA (Xp D.a D.b D.op m x y st).2 w')
 | 0,x,y,st,NA,SA,nc,sc,w,_,x0,y0,hm,_,_,_,_=>by omega
 | m+1,x,y,st,NA,SA,nc,sc,w,h,x0,y0,hm,hx,hy,Xy,J3=>by
  have ih:=Ow w0 base pb D ha hb dD ho m;have mQE:=mj D.a D.b D.op (m+1) x y st;have KU:D.a.length=D.n:=h.as_.2;have eU:D.b.length=D.m:=h.bs.2;refine QD (c:={bQ1 with cuts:=[1]}) Qa Tryz.func107 rfl rfl rfl ?_;refine iD [] Qa [] (λ_:Unit=>[]) (λ_ w'=>w=w'/\¬(x<2/\y<2)) ?_ ?_
  ·refine Qy (λc1=>?_) (λc1=>?_)
   ·refine Qy (λc2=>?_) (λc2=>?_)
    ·rw[jV ⟨c1,c2⟩];refine call (eQk pb _ D.op x y w h.blk rfl x0 c1 y0 c2 ho) ?_;rintro v _ ⟨rfl,rfl⟩;exact⟨rfl,NA,nc,SA,sc,h,Mod.refl _ _,Moved.refl _ _,Moved.refl _ _⟩
    ·exact⟨(),rfl,rfl,λhh=>c2 hh.2⟩
   ·exact⟨(),rfl,rfl,λhh=>c1 hh.1⟩
  rintro⟨⟩ _ ⟨rfl,Xr⟩;have Lk:SlS Tr3.cells 3 w SA st.2.length sc st.2:=⟨h.sown.sl,rfl⟩
  refine loop Qa [7] (λs:Nat=>[.int .i64 s]) (λs w'=>w=w'/\s<=st.2.length/\∀(j:Nat) (u:Tr3),j<s->st.2[j]? =some u->¬(u.1=x/\u.2.1=y)) (λs _=>st.2.length-s) 0 rfl ⟨rfl,XJ _,λj u hj=>Q8 hj (by omega)⟩ ?_;rintro s _ ⟨rfl,hs,Xf⟩;refine Qp h.blk rfl ?_;refine Qy (λh3=>?_) (λh3=>?_)
  ·have again:∀t:Tr3,st.2[s]? =some t->¬(t.1=x/\t.2.1=y)->∀(j:Nat) (u:Tr3),j<s+1->st.2[j]? =some u->¬(u.1=x/\u.2.1=y):=λt ht hn j u hj hu=>by
    by_cases YF:j<s
    ·exact Xf j u YF hu
    ·have:j=s:=by omega
     subst this;rw[Option.some.inj (hu.symm.trans ht)];exact hn
   refine Qp h.blk rfl ?_;refine Zw EF Lk rfl (by omega) (λp t ht hc=>?_);refine index (j:=0) (by decide) ?_;refine load (hc 0 _ rfl) ?_;refine Zh (λe1=>?_) (λe1=>?_)
   ·refine Qp h.blk rfl ?_;refine Zw EF Lk rfl (by omega) (λp' t' ht' Z2=>?_);have xQ:t'=t:=Option.some.inj (ht'.symm.trans ht);subst xQ;refine index (j:=1) (by decide) ?_;refine load (Z2 1 _ rfl) ?_;refine Zh (λe2=>?_) (λe2=>?_)
    ·refine Qp h.blk rfl ?_;refine Zw EF Lk rfl (by omega) (λp2 t2 kN KK=>?_);have jQr:t2=t':=Option.some.inj (kN.symm.trans ht);subst jQr;refine index (j:=2) (by decide) ?_;refine load (KK 2 _ rfl) ?_;rw[jW Xr (eQm Xf ht ⟨e1,e2⟩)];exact⟨rfl,NA,nc,SA,sc,h,Mod.refl _ _,Moved.refl _ _,Moved.refl _ _⟩
    ·refine Qi ((s+1:Nat):Int) (by omega) (by omega) ?_;exact⟨s+1,rfl,⟨rfl,by omega,again t' ht (λhh=>e2 hh.2)⟩,by show st.2.length-(s+1)<st.2.length-s;omega⟩
   ·refine Qi ((s+1:Nat):Int) (by omega) (by omega) ?_;exact⟨s+1,rfl,⟨rfl,by omega,again t ht (λhh=>e1 hh.1)⟩,by show st.2.length-(s+1)<st.2.length-s;omega⟩
  have qU:s=st.2.length:=by omega
  subst qU;have Ll:=eQn Xf;have Bm:=h.e0;refine XC Qa (Ext w) 13 [(true,0),(true,1),(true,2),(true,3),(true,4),(true,6),(true,7),(true,8),(true,9),(true,10),(false,5),(false,11),(true,12)] (by kernel_rfl) (Ext.drew w) ?_;refine Xq (vs:=[.slice D.A D.n D.c,.int .i64 D.ra]) rfl (λw' Qb j v hj=>by
   rw[add_add,(h.blk.ext Qb).cell]
   match j,hj with
   | 0,hj=>exact hj
   | 1,hj=>exact hj) ?_
  refine Xq (vs:=[.slice D.B D.m D.d,.int .i64 D.rb]) rfl (λw' Qb j v hj=>by
   rw[add_add,(h.blk.ext Qb).cell]
   match j,hj with
   | 0,hj=>exact hj
   | 1,hj=>exact hj) ?_
  refine call (vi D.A D.n D.c D.ra x D.a _ (h.as_.ext (Bm.trans (Ext.drew w))) hx) ?_;rintro v w1 ⟨rfl,Qd⟩;have GQ:=(Ext.drew w).trans Qd;refine⟨GQ,?_⟩;refine call (vi D.B D.m D.d D.rb y D.b w1 (h.bs.ext (Bm.trans GQ)) hy) ?_;rintro v w2 ⟨rfl,Qg⟩;have Q7:=GQ.trans Qg;refine⟨Q7,?_⟩;refine norm (m:=min (Ql D.a x) (Ql D.b y)) (by rw[ZW];split<;>split<;>omega) ?_;have Zv:min (Ql D.a x) (Ql D.b y)<64:=by
   by_cases c:x<2
   ·have:=W4 hb (n:=y) (λc2=>Xr ⟨c,c2⟩) (by omega);rw[ZW];split<;>omega
   ·have:=W4 ha (n:=x) c (by omega);rw[ZW];split<;>omega
  have eV:Ql D.a x=min (Ql D.a x) (Ql D.b y)∨Ql D.b y=min (Ql D.a x) (Ql D.b y):=by rw[ZW];split<;>simp
  have um:=jX (a:=D.a) (b:=D.b) (op:=D.op) (m:=m) Xr Ll _ rfl;rw[um] at Xy J3 ⊢;generalize min (Ql D.a x) (Ql D.b y)=v at*;obtain⟨s1,s2,s3,s4,s5⟩:=Y7 ha (n:=x) x0 Zv;obtain⟨t1,t2,t3,t4,t5⟩:=Y7 hb (n:=y) y0 Zv;have dec:(Qm D.a x v).1+(Qm D.b y v).1<m/\(Qm D.a x v).2+(Qm D.b y v).2<m:=by
   rcases eV with e | e
   ·have:=s5 e;omega
   ·have:=t5 e;omega
  have h2:=h.grow Q7;refine Kr (vs:=[.slice D.A D.n D.c,.int .i64 D.ra]) rfl (λj v hj=>by
   rw[add_add,h2.blk.cell]
   match j,hj with
   | 0,hj=>exact hj
   | 1,hj=>exact hj) ?_
  refine call (Ov D.A D.n D.c D.ra x v D.a w2 (h2.as_.ext h2.e0) hx Zv) ?_;rintro _ w3 ⟨rfl,Qk⟩;have mQ:=h2.grow Qk;refine Kr (vs:=[.slice D.B D.m D.d,.int .i64 D.rb]) rfl (λj v hj=>by
   rw[add_add,mQ.blk.cell]
   match j,hj with
   | 0,hj=>exact hj
   | 1,hj=>exact hj) ?_
  refine call (Ov D.B D.m D.d D.rb y v D.b w3 (mQ.bs.ext mQ.e0) hy Zv) ?_;rintro _ w4 ⟨rfl,Qq⟩;have XL:=(Q7.trans Qk).trans Qq;have h4:=mQ.grow Qq;have lQL:=mj D.a D.b D.op m (Qm D.a x v).1 (Qm D.b y v).1 st;have lQM:=mj D.a D.b D.op m (Qm D.a x v).2 (Qm D.b y v).2 (Xp D.a D.b D.op m (Qm D.a x v).1 (Qm D.b y v).1 st).2;simp only[Qu,Xj,Z5] at Xy J3;have ulen:=vj ⟨v,(Xp D.a D.b D.op m (Qm D.a x v).1 (Qm D.b y v).1 st).1,(Xp D.a D.b D.op m (Qm D.a x v).2 (Qm D.b y v).2 (Xp D.a D.b D.op m (Qm D.a x v).1 (Qm D.b y v).1 st).2).1⟩ (Xp D.a D.b D.op m (Qm D.a x v).2 (Qm D.b y v).2 (Xp D.a D.b D.op m (Qm D.a x v).1 (Qm D.b y v).1 st).2).2.1;refine call (ih _ _ st NA SA nc sc w4 h4 s1 t1 dec.1 (by omega) (by omega) (by omega) (by omega)) ?_;rintro _ w5 ⟨rfl,NA5,nc5,SA5,sc5,h5,Z1,GR,GS⟩;refine call (ih _ _ _ NA5 SA5 nc5 sc5 w5 h5 s3 t3 dec.2 (by omega) (by omega) (by omega) (by omega)) ?_;rintro _ w6 ⟨rfl,NA6,nc6,SA6,sc6,h6,KZ,wt,GG⟩;have mY:=Z1.trans KZ (AS.moved GR GS);have Tv:=GR.trans wt Z1.size;have Tw:=GS.trans GG Z1.size;generalize (Xp D.a D.b D.op m (Qm D.a x v).1 (Qm D.b y v).1 st)=r0 at*;generalize (Xp D.a D.b D.op m (Qm D.a x v).2 (Qm D.b y v).2 r0.2)=r1 at*;have jQs:=h6.nown.rows;have jQt:=h6.sown.rows;have lQN:=h6.lt;have lQO:=h6.top;refine Qp h6.blk rfl ?_;refine call (eQj base NA6 _ nc6 r1.2.1 ⟨v,r0.1,r1.1⟩ w6 h6.nown rfl h6.top (by omega)) ?_;rintro _ w7 ⟨NA7,nc7,rfl,tD,Xb,Tx⟩;have Q6:=h6.blk.mod Xb (λe=>by have:=(jQs _ e).1;omega);have XX:=h6.sown.mod Xb (λi hi e=>h6.apart i e hi);generalize ZR ⟨v,r0.1,r1.1⟩ r1.2.1=u at*;refine XP Q6 (by simp) (λw8 ZC Xt=>?_);have jQu:=tD.mod ZC (λi hi e=>by have:=(tD.rows i hi).1;omega);have gK:=XX.mod ZC (λi hi e=>by have:=(XX.rows i hi).1;omega);refine Qp Xt rfl ?_;refine XI Qa [Tr3.cells (x,y,u.2)] rfl rfl rfl rfl rfl ⟨rfl,rfl,⟨⟩⟩ rfl (λcs h=>by simp only[QL] at h;subst h;rfl) rfl (by decide) (by decide) ?_;intro w9 XE et JT;have GE:Sl w9 3 (some ⟨w8.heap.size,0,none⟩) 1 1 (Tr3.cells (x,y,u.2)):=Sl.own (sz:=3) (n:=1) JT (QC _) (by decide) (by simp[Tr3.cells]);have z7:=Xb.size;have z8:=ZC.size;have z9:=XE.size;refine JB Qa rfl rfl rfl rfl rfl (by decide) rfl rfl ⟨_,rfl⟩ rfl rfl (gK.ext XE) GE (by intro u hu;simp[Tr3.cells] at hu;rcases hu with rfl | rfl | rfl<;>rfl) (by unfold maxLen;omega) (by show _*24<=_;omega) (by omega) ?_;intro SA10 GT QJ Zp Ty Tz;have jQv:=gK.rows;refine XP ((Xt.ext XE).mod Zp (λe=>by have:=(jQv _ e).1;omega)) (by simp) (λQG ZV ZZ=>?_);have TB:∀i,Qj NA7 i->¬Qj SA6 i:=λi hi e=>by
   rcases Tx.rows i hi with hh | hh
   ·exact h6.apart i hh e
   ·have:=(jQt i e).2;omega
  have jQw:∀i,Qj NA7 i->¬Qj SA10 i:=λi hi e=>by
   rcases Tz.rows i e with hh | hh
   ·exact TB i hi hh
   ·have:=(tD.rows i hi).2;omega
  have jQx:=((jQu.ext XE).mod Zp (λi hi e=>TB i hi e)).mod ZV (λi hi e=>by have:=(tD.rows i hi).1;omega);have p7:=Ty.mod ZV (λi hi e=>by have:=(Ty.rows i hi).1;omega);have TC:Mod (AS pb NA6 SA6) w6 QG:=((((Xb.mono (λi hi=>.inl (.inr (.inl hi)))).trans ZC (λi hi=>.inl (.inl hi))).trans (Mod.of_ext (AS pb NA6 SA6) XE) (λi hi=>.inl hi)).trans Zp (λi hi=>.inl (.inr (.inr hi)))).trans ZV (λi hi=>.inl (.inl hi));have kQ9:=mY.trans TC (AS.moved Tv Tw);have el:(r1.2.2++ [((x,y,u.2):Tr3)]).length=r1.2.2.length+1:=by simp
  refine⟨rfl,NA7,nc7,SA10,GT,⟨TC.ext h6.e0 h6.kept,h.as_,h.bs,h.p0,?_,jQx,?_,jQw,h.lt,?_⟩,(Mod.of_ext (AS pb NA SA) XL).trans kQ9 (λi hi=>.inl hi),?_,?_⟩
  ·show Blk QG pb _ [_,_,_,_,_,_,.slice SA10 (r1.2.2++ [((x,y,u.2):Tr3)]).length GT];rw[el];exact ZZ
  ·show Own QG base _ 3 SA10 (r1.2.2++ [((x,y,u.2):Tr3)]).length GT (vk (r1.2.2++ [((x,y,u.2):Tr3)]));rw[el,eQl];exact p7
  ·have:=Zp.size;have:=ZV.size;omega
  ·exact(Tv.back XL.size).trans Tx (by have:=XL.size;have:=mY.size;omega)
  ·exact(Tw.back XL.size).trans (Tz.back (by omega)) (by have:=XL.size;have:=mY.size;omega)
end
section
def Ox (st:List Br×List Tr3):Prop:=W3 st.1/\∀t∈st.2,0<=t.2.2/\t.2.2<st.1.length+2
theorem eQo {b:Br}{l:List Br}(hw:W3 l)(h1:0<=b.l)(h2:b.l<l.length+2)(h3:0<=b.h)(h4:b.h<l.length+2):W3 (ZR b l).1/\0<=(ZR b l).2/\(ZR b l).2<(ZR b l).1.length+2:=by
 have idx:∀{l:List Br} {i:Nat},KF b l=some i->i<l.length:=by
  intro l;induction l with
  | nil=>intro i h;cases h
  | cons x l ih=>
   intro i h;unfold KF at h;split at h
   ·cases h;simp
   ·cases hf:KF b l with
    | none=>rw[hf] at h;cases h
    | some k=>rw[hf] at h;cases h;have:=ih hf;simp;omega
 unfold ZR;split
 ·exact⟨hw,h1,h2⟩
 ·split
  ·rename_i i hi;have:=idx hi;exact⟨hw,by omega,by simp only;omega⟩
  ·refine⟨λj x hx=>?_,by omega,by simp only[Qu,Xj,Z5];omega⟩;by_cases hj:j<l.length
   ·rw[Wh hj] at hx;exact hw j x hx
   ·rw[YI (by omega)] at hx;have mR:j-l.length=0:=by
     cases hk:j-l.length with
     | zero=>rfl
     | succ k=>rw[hk] at hx;simp at hx
    rw[mR] at hx;simp at hx;subst hx;omega
theorem EG {op x y:Int}(x0:0<=x)(x1:x<2)(y0:0<=y)(y1:y<2):0<=cT op x y/\cT op x y<2:=by
 unfold cT;rcases(by omega:x=0∨x=1)with rfl | rfl<;>rcases(by omega:y=0∨y=1)with rfl | rfl<;>(split<;>first | decide | (split<;>first | decide | (split<;>first | decide | (split<;>decide))))
theorem vl {a b:List Br}(ha:Vo a)(hb:Vo b)(op:Int):∀(m:Nat)(x y:Int)(st:List Br×List Tr3),Ox st->0<=x->0<=y->x<a.length+2->y<b.length+2->
  Ox (Xp a b op m x y st).2/\0<=(Xp a b op m x y st).1/\(Xp a b op m x y st).1<(Xp a b op m x y st).2.1.length+2
 | 0,x,y,st,h,_,_,_,_=>⟨h,lN _,by show(0:Int)<st.1.length+2;omega⟩
 | m+1,x,y,st,h,x0,y0,hx,hy=>by
  by_cases Xr:x<2/\y<2
  ·rw[jV Xr];have:=EG (op:=op) x0 Xr.1 y0 Xr.2;exact⟨h,this.1,by simp only;omega⟩
  cases k:st.2.find? (λt=>decide (t.1=x/\t.2.1=y))with
  | some t=>
   rw[jW Xr k];have:=h.2 t (aQ2 k);exact⟨h,this.1,this.2⟩
  | none=>
   have Zv:min (Ql a x) (Ql b y)<64:=by
    by_cases c:x<2
    ·have:=W4 hb (n:=y) (λc2=>Xr ⟨c,c2⟩) (by omega);rw[ZW];split<;>omega
    ·have:=W4 ha (n:=x) c (by omega);rw[ZW];split<;>omega
   rw[jX Xr k _ rfl];generalize min (Ql a x) (Ql b y)=v at*;obtain⟨s1,s2,s3,s4,s5⟩:=Y7 ha (n:=x) x0 Zv;obtain⟨t1,t2,t3,t4,t5⟩:=Y7 hb (n:=y) y0 Zv;have i1:=vl ha hb op m (Qm a x v).1 (Qm b y v).1 st h s1 t1 (by omega) (by omega);have m2:=mj a b op m (Qm a x v).2 (Qm b y v).2 (Xp a b op m (Qm a x v).1 (Qm b y v).1 st).2;generalize (Xp a b op m (Qm a x v).1 (Qm b y v).1 st)=r0 at*;have i2:=vl ha hb op m (Qm a x v).2 (Qm b y v).2 r0.2 i1.1 s3 t3 (by omega) (by omega);generalize (Xp a b op m (Qm a x v).2 (Qm b y v).2 r0.2)=r1 at*;have hu:=eQo (b:=⟨v,r0.1,r1.1⟩) (l:=r1.2.1) i2.1.1 i1.2.1 (by have:=i1.2.2;simp only;omega) i2.2.1 i2.2.2;have hul:=vj ⟨v,r0.1,r1.1⟩ r1.2.1;generalize ZR ⟨v,r0.1,r1.1⟩ r1.2.1=u at*;refine⟨⟨hu.1,λt ht=>?_⟩,hu.2.1,hu.2.2⟩;simp only[Xw,QL] at ht;rcases ht with ht | rfl
   ·have:=i2.1.2 t ht;exact⟨this.1,by simp only;omega⟩
   ·exact⟨hu.2.1,hu.2.2⟩
def jY (a:List Br)(ra:Int)(b:List Br)(rb op:Int):Int×(List Br×List Tr3):=Xp a b op (ra.toNat+rb.toNat+1) ra rb ([],[])
def VE (a:List Br)(ra:Int)(b:List Br)(rb op:Int):List Br×Int:=bq (jY a ra b rb op).2.1 (jY a ra b rb op).1
def iI (d:List Br×Int):(List Br×Int)×Int:=if 4096<d.1.length then(([],0),2)else(d,0)
def dR (a:List Br)(ra:Int)(b:List Br)(rb op:Int):(List Br×Int)×Int:=if XG a ra≠0 then(([],0),XG a ra)else if XG b rb≠0 then(([],0),XG b rb)else iI (VE a ra b rb op)
def pj (w:World)(r:(List Br×Int)×Int)(v:Value)(w':World):Prop:=∃A n c,v= .tuple #[Xm A n c r.1.2,.int .i64 r.2]/\Ext w w'/\SB w' A n c r.1.1/\∀i,Qj A i->w.heap.size<=i
theorem eQp (A:Option Addr)(n c:Nat)(a:List Br)(ra:Int)(B:Option Addr)(m d:Nat)(b:List Br)(rb op:Int)(w:World)(h:SB w A n c a)(h':SB w B m d b)(ha:Vo a)(hb:Vo b)(r0:0<=ra)(r1:ra<n+2)(s0:0<=rb)(s1:rb<m+2)(hn:n<=1000000000000)(hm:m<=1000000000000)
  (Xy:(jY a ra b rb op).2.1.length<=100000000000) (J3:(jY a ra b rb op).2.2.length<=100000000000) (ho:op≠3/\op≠4):
  Fn Tryz.prog 58 [Xm A n c ra,Xm B m d rb,.int .i64 op] w (vh w (VE a ra b rb op)):=by
 have KU:=h.2;have eU:=h'.2;refine QD (c:={c58 with cuts:=[]}) Qa Tryz.func58 rfl rfl rfl ?_;refine new (λw1 Qd Q3 Qh=>?_);refine new (λw2 Qg Zb Qw=>?_);refine new (λw3 Qk JI Qt=>?_);have QW:=(Qd.trans Qg).trans Qk;have K2:=(Qh.ext Qg).ext Qk;have mZ:=Qw.ext Qk;refine Qs K2 rfl ?_;refine Qs mZ rfl ?_;refine new (λw4 Qq KY Q4=>?_);have XL:=QW.trans Qq
 let D:AD:=⟨A,n,c,a,ra,B,m,d,b,rb,op⟩
 have hA:Ap w3 w4 w4.heap.size w3.heap.size D none 0 none 0 ([],[]):=⟨Qq,h.ext QW,h'.ext QW,QC _,Q4,Own.nil _ _ _ _,Own.nil _ _ _ _,(λi hi=>by obtain⟨_,e,_⟩:=hi;cases e),(by omega),QC _⟩
 refine Qp (K2.ext Qq) rfl ?_;refine Qp (mZ.ext Qq) rfl ?_;have inv:=vl ha hb op (ra.toNat+rb.toNat+1) ra rb ([],[]) ⟨λj x hx=>by simp at hx,λt ht=>by simp at ht⟩ r0 s0 (by omega) (by omega);refine call (Ow w3 w4.heap.size w3.heap.size D ha hb ⟨hn,hm⟩ ho (ra.toNat+rb.toNat+1) ra rb ([],[]) none none 0 0 w4 hA r0 s0 (by omega) r1 s1 Xy J3) ?_;rintro v w5 ⟨rfl,NA,nc,SA,sc1,GU,Z1,GR,GS⟩;have Qv:Ext w3 w5:=GU.e0;have JV:=QW.trans Qv;refine Qp GU.blk rfl ?_;refine call (eQi NA _ nc _ _ w5 ⟨GU.nown.sl,rfl⟩ inv.1.1 (by have:(jY a ra b rb op).2.1.length<=100000000000:=Xy;exact Zf this (by decide)) inv.2.1 inv.2.2) ?_;rintro v w6 ⟨OA,k,oc,rfl,Xh,fG,gD⟩;refine Qz ((Qt.ext Qv).ext Xh) rfl (sc rfl) (λw7 Zu _ Q6=>?_);have Xb:Mod (·=w2.heap.size) w6 w7:=mQW Zu rfl;refine Qs Q6 rfl ?_;have z5:=Qv.size;have nr:∀i,Qj OA i->¬i=w2.heap.size:=λi hi e=>by have:=gD i hi;omega
 refine⟨OA,k,oc,rfl,Xb.ext (JV.trans Xh) (λi hi=>by have:=Qd.size;have:=Qg.size;omega),⟨fG.1.modS Xb (λ_ i hi=>nr i hi),fG.2⟩,λi hi=>by have:=gD i hi;have:=JV.size;omega⟩
theorem eQq (k:Int)(w:World)(h0:0<=k)(h1:k<=63):Fn Tryz.prog 30 [.int .i64 k] w (pj w (([⟨k,0,1⟩],2),0)):=by
 refine QD (c:={c30 with cuts:=[]}) Qa Tryz.func30 rfl rfl rfl ?_;refine new (λw1 Qd Q3 Qh=>?_);refine Q9 (by omega) ?_;refine Q9 (by omega) ?_;refine XI Qa [(⟨k,0,1⟩:Br).cells] rfl rfl rfl rfl rfl ⟨rfl,rfl,⟨⟩⟩ rfl (λcs h=>by simp only[QL] at h;subst h;rfl) rfl (by decide) (by decide) ?_;intro w2 Qg Zb Qw;refine Qz (Qh.ext Qg) rfl (sc rfl) (λw3 ZY _ Qt=>?_);have ZU:Mod (·=w.heap.size) w2 w3:=mQW ZY rfl;refine Qs Qt rfl ?_;refine⟨some ⟨w1.heap.size,0,none⟩,1,1,rfl,ZU.ext (Qd.trans Qg) (λi hi=>by omega),⟨Sl.own (sz:=3) (n:=1) (Qw.mod ZU (by omega)) (QC _) (by decide) (by simp[Br.cells]),rfl⟩,λi ⟨ad,e,hi⟩=>by cases e;simp only at hi;omega⟩
end
section
structure DV where
 A:Option Addr
 n:Nat
 c:Nat
 nd:List Br
 r:Int
def DV.cells (x:DV):List Value:=[.slice x.A x.n x.c,.int .i64 x.r]
theorem cU (x:DV):x.cells.length=2:=rfl
def bY:List DV->Int
 | []=>0
 | x::l=>if XG x.nd x.r≠0 then XG x.nd x.r else bY l
theorem eQr {l:List DV}:∀{s:Nat}{x:DV},(∀j y,j<s->l[j]? =some y->XG y.nd y.r=0)->l[s]? =some x->XG x.nd x.r≠0->bY l=XG x.nd x.r:=by
 induction l with
 | nil=>intro s x _ h;simp at h
 | cons y l ih=>
  intro s x hn h hx;cases s with
  | zero=>simp at h;subst h;rw[bY,Qf hx]
  | succ s=>
   rw[bY,if_neg (λhh=>hh (hn 0 y (by omega) rfl))];exact ih (s:=s) (λj z hj hz=>hn (j+1) z (by omega) (by simpa using hz)) (by simpa using h) hx
theorem eQs {l:List DV}(h:∀j y,j<l.length->l[j]? =some y->XG y.nd y.r=0):bY l=0:=by
 induction l with
 | nil=>rfl
 | cons y l ih=>
  rw[bY,if_neg (λhh=>hh (h 0 y (by simp) rfl))];exact ih (λj z hj hz=>h (j+1) z (by simpa using hj) (by simpa using hz))
end
end
section
section
def cV (nd:List Br):Nat->Int->(Nat->Bool)->Bool
 | 0,n,_=>decide (n=1)
 | m+1,n,e=>if n<2 then decide (n=1)else match nd[(n-2).toNat]? with
  | none=>false
  | some b=>if e b.v.toNat then cV nd m b.h e else cV nd m b.l e
def ev (nd:List Br)(n:Int)(e:Nat->Bool):Bool:=cV nd n.toNat n e
theorem jZ {nd:List Br}{m:Nat}{n:Int}{e:Nat->Bool}(h:n<2):cV nd m n e=decide (n=1):=by
 cases m with
 | zero=>rfl
 | succ m=>rw[cV,Qf h]
theorem zJ {nd:List Br}(hw:W3 nd):∀(m m':Nat)(n:Int)(e:Nat->Bool),n<=m->n<=m'->cV nd m n e=cV nd m' n e
 | 0,m',n,e,h,_=>by rw[jZ (by omega),jZ (by omega)]
 | m+1,0,n,e,_,h=>by rw[jZ (by omega),jZ (by omega)]
 | m+1,m'+1,n,e,h,h'=>by
  by_cases hn:n<2
  ·rw[jZ hn,jZ hn]
  ·rw[cV,cV,if_neg hn,if_neg hn];cases hb:nd[(n-2).toNat]? with
   | none=>rfl
   | some b=>
    obtain⟨h1,h2,h3,h4⟩:=hw _ _ hb;simp only;rw[zJ hw m m' b.h e (by omega) (by omega),zJ hw m m' b.l e (by omega) (by omega)]
theorem JD {nd:List Br}{n:Int}{e:Nat->Bool}(h:n<2):ev nd n e=decide (n=1):=jZ h
theorem bZ {nd:List Br}(hw:W3 nd){n:Int}{e:Nat->Bool}{b:Br}(h:¬n<2)(hb:nd[(n-2).toNat]? =some b):ev nd n e=if e b.v.toNat then ev nd b.h e else ev nd b.l e:=by
 obtain⟨h1,h2,h3,h4⟩:=hw _ _ hb;unfold ev;obtain⟨k,hk⟩:∃k,n.toNat=k+1:=⟨n.toNat-1,by omega⟩
 rw[hk,cV,if_neg h,hb];simp only;rw[zJ hw k b.h.toNat b.h e (by omega) (by omega),zJ hw k b.l.toNat b.l e (by omega) (by omega)]
def Rd0 (nd:List Br):Prop:=∀(j:Nat)(b:Br),nd[j]? =some b->gk nd j b
theorem Rd0.wf {nd:List Br}(h:Rd0 nd):W3 nd:=λj x hx=>by
 obtain⟨_,_,h1,h2,h3,h4,_⟩:=h j x hx;exact⟨h1,h2,h3,h4⟩
theorem VD.rd0 {nd:List Br}{r:Int}(h:VD nd r):Rd0 nd:=h.1
theorem cW {nd:List Br}{n:Int}{b:Br}(h:¬n<2)(hb:nd[(n-2).toNat]? =some b):Ql nd n=b.v:=by unfold Ql;rw[if_neg h,hb]<;>rfl
def Yg (e:Nat->Bool)(v:Nat)(x:Bool):Nat->Bool:=λk=>if k=v then x else e k
theorem Y8 {nd:List Br}{n:Int}(h:¬n<2)(hn:n<nd.length+2):∃b,nd[(n-2).toNat]? =some b:=⟨_,Xn (by omega)⟩
theorem cX {nd:List Br}(h:Rd0 nd)(v:Nat)(x:Bool)(e:Nat->Bool):∀(m:Nat)(n:Int),n.toNat<m->n<nd.length+2->(v:Int)<Ql nd n->ev nd n (Yg e v x)=ev nd n e
 | 0,n,hm,_,_=>by omega
 | m+1,n,hm,hn,hv=>by
  by_cases h2:n<2
  ·rw[JD h2,JD h2]
  obtain⟨b,hb⟩:=Y8 h2 hn;obtain⟨b1,b2,b3,b4,b5,b6,b7,b8,b9,aM⟩:=h _ _ hb;rw[cW h2 hb] at hv;rw[bZ h.wf h2 hb,bZ h.wf h2 hb,cX h v x e m b.h (by omega) (by omega) (by omega),cX h v x e m b.l (by omega) (by omega) (by omega)];have:Yg e v x b.v.toNat=e b.v.toNat:=by unfold Yg;rw[if_neg (by omega)]
  rw[this]
def Eqv (nd:List Br)(n:Int)(XZ:List Br)(n':Int):Prop:=∀e,ev nd n e=ev XZ n' e
theorem Eqv.symm {nd XZ:List Br}{n n':Int}(h:Eqv nd n XZ n'):Eqv XZ n' nd n:=λe=>(h e).symm
theorem Eqv.trans {nd XZ i5:List Br}{n n' n2:Int}(h:Eqv nd n XZ n')(k:Eqv XZ n' i5 n2):Eqv nd n i5 n2:=λe=>(h e).trans (k e)
def zK (nd:List Br)(m:Nat):Prop:=∀(n n':Int),0<=n->0<=n'->n<m->n'<m->n<nd.length+2->n'<nd.length+2->Eqv nd n nd n'->n=n'
theorem vm {nd:List Br}(h:Rd0 nd){n:Int}{b:Br}(h2:¬n<2)(hb:nd[(n-2).toNat]? =some b)(hn:n<nd.length+2)(e:Nat->Bool):ev nd n (Yg e b.v.toNat true)=ev nd b.h e/\ev nd n (Yg e b.v.toNat false)=ev nd b.l e:=by
 obtain⟨b1,b2,b3,b4,b5,b6,b7,b8,b9,aM⟩:=h _ _ hb;have e1:Yg e b.v.toNat true b.v.toNat=true:=by unfold Yg;rw[Qf rfl]
 have e2:Yg e b.v.toNat false b.v.toNat=false:=by unfold Yg;rw[Qf rfl]
 rw[bZ h.wf h2 hb,bZ h.wf h2 hb,e1,e2,Qf rfl,if_neg (by decide)];exact⟨cX h _ _ _ (b.h.toNat+1) _ (by omega) (by omega) (by omega),cX h _ _ _ (b.l.toNat+1) _ (by omega) (by omega) (by omega)⟩
theorem dep {nd:List Br}(h:Rd0 nd){n:Int}{m:Nat}{b:Br}(hi:zK nd m)(h2:¬n<2)(hb:nd[(n-2).toNat]? =some b)(hn:n<nd.length+2)(hm:n<=m):∃e,ev nd n (Yg e b.v.toNat true)≠ev nd n (Yg e b.v.toNat false):=by
 obtain⟨b1,b2,b3,b4,b5,b6,b7,b8,b9,aM⟩:=h _ _ hb;refine Classical.byContradiction (λQQ=>b7 ?_);refine hi b.l b.h b3 b5 (by omega) (by omega) (by omega) (by omega) (λe=>?_);have:=vm h h2 hb hn e;rw[<-this.1,<-this.2];refine Classical.byContradiction (λhh=>QQ ⟨e,λh3=>hh h3.symm⟩)
theorem sh {nd XZ:List Br}(h:Rd0 nd){n n':Int}{m:Nat}(hi:zK nd m)(hm:n<=m)(hn:n<nd.length+2)(h2:n'<2)(k:Eqv nd n XZ n'):n<2:=by
 refine Classical.byContradiction (λhh=>?_);obtain⟨b,hb⟩:=Y8 hh hn;obtain⟨e,he⟩:=dep h hi hh hb hn hm;apply he;rw[k,k,JD h2,JD h2]
theorem si {nd XZ:List Br}(h:Rd0 nd)(h':Rd0 XZ){n n':Int}{m:Nat}{b b':Br}(hi:zK nd m)(hm:n<=m)(hn:n<nd.length+2)(Kn:n'<XZ.length+2)(h2:¬n<2)(Ji:¬n'<2)(hb:nd[(n-2).toNat]? =some b)(hb':XZ[(n'-2).toNat]? =some b')(k:Eqv nd n XZ n'):b'.v<=b.v:=by
 refine Classical.byContradiction (λhh=>?_);obtain⟨e,he⟩:=dep h hi h2 hb hn hm;apply he;obtain⟨b1,_⟩:=h _ _ hb;rw[k,k,cX h' _ _ _ (n'.toNat+1) _ (by omega) Kn (by rw[cW Ji hb'];omega),cX h' _ _ _ (n'.toNat+1) _ (by omega) Kn (by rw[cW Ji hb'];omega)]
theorem Oy {nd XZ:List Br}(h:Rd0 nd)(h':Rd0 XZ){n n':Int}{b b':Br}(hn:n<nd.length+2)(Kn:n'<XZ.length+2)(h2:¬n<2)(Ji:¬n'<2)(hb:nd[(n-2).toNat]? =some b)(hb':XZ[(n'-2).toNat]? =some b')(k:Eqv nd n XZ n')(hv:b.v=b'.v):Eqv nd b.l XZ b'.l/\Eqv nd b.h XZ b'.h:=by
 refine⟨λe=>?_,λe=>?_⟩
 ·rw[<-(vm h h2 hb hn e).2,<-(vm h' Ji hb' Kn e).2,k,hv]
 ·rw[<-(vm h h2 hb hn e).1,<-(vm h' Ji hb' Kn e).1,k,hv]
theorem sj {nd:List Br}(h:Rd0 nd):∀m,zK nd m
 | 0=>λn n' h0 _ hm _ _ _ _=>by omega
 | m+1=>λn n' h0 tE hm C9 hn Kn k=>by
  have ih:=sj h m;by_cases h2:n<2
  ·have Ji:n'<2:=sh h ih (by omega) Kn h2 k.symm;have:=k (λ_=>true);rw[JD h2,JD Ji,oM] at this;omega
  by_cases Ji:n'<2
  ·exact Q8 (sh h ih (by omega) hn Ji k) h2
  obtain⟨b,hb⟩:=Y8 h2 hn;obtain⟨b',hb'⟩:=Y8 Ji Kn;have hv:b.v=b'.v:=Int.le_antisymm (si h h ih (by omega) Kn hn Ji h2 hb' hb k.symm) (si h h ih (by omega) hn Kn h2 Ji hb hb' k);obtain⟨k1,k2⟩:=Oy h h hn Kn h2 Ji hb hb' k hv;obtain⟨b1,b2,b3,b4,b5,b6,b7,b8,b9,aM⟩:=h _ _ hb;obtain⟨c1,c2,c3,c4,c5,c6,c7,c8,c9,rR⟩:=h _ _ hb';have el:=ih b.l b'.l b3 c3 (by omega) (by omega) (by omega) (by omega) k1;have eh:=ih b.h b'.h b5 c5 (by omega) (by omega) (by omega) (by omega) k2;have ebb:b=b':=by cases b;cases b';simp_all
  subst ebb;rcases Int.lt_trichotomy n n' with Xc | heq | hgt
  ·exact Q8 (QO (i:=(n-2).toNat) (by rw[uB (by omega)];exact hb)) c8
  ·exact heq
  ·exact Q8 (QO (i:=(n'-2).toNat) (by rw[uB (by omega)];exact hb')) b8
theorem inj {nd:List Br}(h:Rd0 nd){n n':Int}(h0:0<=n)(tE:0<=n')(hn:n<nd.length+2)(Kn:n'<nd.length+2)(k:Eqv nd n nd n'):n=n':=
 sj h (nd.length+2) n n' h0 tE (by omega) (by omega) hn Kn k
structure Twin (nd XZ:List Br) (st WU:List Br×List Nat):Prop where
 out:st.1=WU.1
 len:st.2.length=nd.length
 len':WU.2.length=XZ.length
 num:∀(n n':Int),¬n<2->¬n'<2->n<nd.length+2->n'<XZ.length+2->Eqv nd n XZ n'->st.2[(n-2).toNat]? =WU.2[(n'-2).toNat]?
theorem EH {nd XZ:List Br}(h:Rd0 nd)(h':Rd0 XZ):∀(m m':Nat)(n n':Int)(st WU:List Br×List Nat),0<=n->0<=n'->n<m->n'<m'->n<nd.length+2->n'<XZ.length+2->Eqv nd n XZ n'->Twin nd XZ st WU->
  (Za nd m n st).1=(Za XZ m' n' WU).1/\Twin nd XZ (Za nd m n st).2 (Za XZ m' n' WU).2
 | 0,m',n,n',st,WU,h0,_,hm,_,_,_,_,_=>by omega
 | m+1,0,n,n',st,WU,_,h0,_,hm,_,_,_,_=>by omega
 | m+1,m'+1,n,n',st,WU,h0,tE,hm,C9,hn,Kn,k,T=>by
  have I:=sj h (nd.length+2);have I':=sj h' (XZ.length+2);by_cases h2:n<2
  ·have Ji:n'<2:=sh h' I' (by omega) Kn h2 k.symm;rw[jQ h2,jQ Ji];have:=k (λ_=>true);rw[JD h2,JD Ji,oM] at this;exact⟨by simp only;omega,T⟩
  have Ji:¬n'<2:=λhh=>h2 (sh h I (by omega) hn hh k)
  obtain⟨b,hb⟩:=Y8 h2 hn;obtain⟨b',hb'⟩:=Y8 Ji Kn;have Lm:=T.num n n' h2 Ji hn Kn k;by_cases h3:0<st.2[(n-2).toNat]?.getD 0
  ·rw[jR h2 h3,jR Ji (by rw[<-Lm];exact h3)];exact⟨by simp only;rw[Lm],T⟩
  have mQ:¬0<WU.2[(n'-2).toNat]?.getD 0:=by rw[<-Lm];exact h3
  have hv:b.v=b'.v:=Int.le_antisymm (si h' h I' (by omega) Kn hn Ji h2 hb' hb k.symm) (si h h' I (by omega) hn Kn h2 Ji hb hb' k);obtain⟨k1,k2⟩:=Oy h h' hn Kn h2 Ji hb hb' k hv;obtain⟨b1,b2,b3,b4,b5,b6,b7,b8,b9,aM⟩:=h _ _ hb;obtain⟨c1,c2,c3,c4,c5,c6,c7,c8,c9,rR⟩:=h' _ _ hb';rw[mi h2 h3 hb,mi Ji mQ hb'];obtain⟨e1,T1⟩:=EH h h' m m' b.l b'.l st WU b3 c3 (by omega) (by omega) (by omega) (by omega) k1 T;generalize (Za nd m b.l st)=p at*;generalize (Za XZ m' b'.l WU)=p' at*;obtain⟨e2,T2⟩:=EH h h' m m' b.h b'.h p.2 p'.2 b5 c5 (by omega) (by omega) (by omega) (by omega) k2 T1;generalize (Za nd m b.h p.2)=q at*;generalize (Za XZ m' b'.h p'.2)=q' at*;have qV:=T2.out;refine⟨by simp only;rw[qV],by simp only;rw[qV,hv,e1,e2],by rw[dG];exact T2.len,by rw[dG];exact T2.len',λi i' j2 j2' hi ig kk=>?_⟩;have l1:=T2.len;have l2:=T2.len';by_cases Xe:i=n
  ·subst Xe;have:i'=n':=inj h' (by omega) tE ig Kn (kk.symm.trans k);subst this;simp only;rw[iv (by omega),iv (by omega),qV]
  ·have mQF:i'≠n':=λe=>by
    subst e;exact Xe (inj h (by omega) h0 hi hn (kk.trans k.symm))
   simp only;rw[fd (by omega),fd (by omega)];exact T2.num i i' j2 j2' hi ig kk
theorem eQt (nd XZ:List Br):Twin nd XZ ([],List.replicate nd.length 0) ([],List.replicate XZ.length 0):=
 ⟨rfl,by simp,by simp,λn n' h2 Ji hn Kn _=>by simp only;rw[List.getElem?_replicate_of_lt (by omega),List.getElem?_replicate_of_lt (by omega)]⟩
theorem Oz {nd XZ:List Br}(h:Rd0 nd)(h':Rd0 XZ){n n':Int}(h0:0<=n)(tE:0<=n')(hn:n<nd.length+2)(Kn:n'<XZ.length+2)(k:Eqv nd n XZ n'):bq nd n=bq XZ n':=by
 obtain⟨e,T⟩:=EH h h' (n.toNat+1) (n'.toNat+1) n n' _ _ h0 tE (by omega) (by omega) hn Kn k (eQt nd XZ);unfold bq;simp only;rw[e,T.out]
theorem VD.eqv {nd XZ:List Br}{r r':Int}(h:VD nd r)(h':VD XZ r')(k:Eqv nd r XZ r'):(nd,r)=(XZ,r'):=by
 rw[<-h.2.2.2,<-h'.2.2.2];exact Oz h.1 h'.1 h.2.1 h'.2.1 h.2.2.1 h'.2.2.1 k
theorem EI {nd:List Br}(hw:W3 nd)(l:List Br):∀(m:Nat)(n:Int)(e:Nat->Bool),n<nd.length+2->cV (nd++l) m n e=cV nd m n e
 | 0,n,e,_=>rfl
 | m+1,n,e,hn=>by
  by_cases h2:n<2
  ·rw[jZ h2,jZ h2]
  ·obtain⟨b,hb⟩:=Y8 h2 hn;obtain⟨h1,Ji,h3,h4⟩:=hw _ _ hb;rw[cV,cV,if_neg h2,if_neg h2,Wh (by omega),hb];simp only;rw[EI hw l m b.h e (by omega),EI hw l m b.l e (by omega)]
theorem mo {nd:List Br}(hw:W3 nd)(l:List Br){n:Int}(hn:n<nd.length+2)(e:Nat->Bool):ev (nd++l) n e=ev nd n e:=EI hw l _ n e hn
theorem sk {nd:List Br}(l:List Br){n:Int}(hn:n<nd.length+2):Ql (nd++l) n=Ql nd n:=by
 unfold Ql;by_cases h2:n<2
 ·rw[Qf h2,Qf h2]
 ·rw[if_neg h2,if_neg h2,Wh (by omega)]
theorem gl {nd:List Br}{n:Int}(h:n<2):Ql nd n=64:=Qf h
theorem OB {nd XZ:List Br}(h:Rd0 nd)(h':Rd0 XZ){n n':Int}(hn:n<nd.length+2)(Kn:n'<XZ.length+2)(k:Eqv nd n XZ n'):Ql nd n=Ql XZ n':=by
 have I:=sj h (nd.length+2);have I':=sj h' (XZ.length+2);by_cases h2:n<2
 ·rw[gl h2,gl (sh h' I' (by omega) Kn h2 k.symm)]
 have Ji:¬n'<2:=λhh=>h2 (sh h I (by omega) hn hh k)
 obtain⟨b,hb⟩:=Y8 h2 hn;obtain⟨b',hb'⟩:=Y8 Ji Kn;rw[cW h2 hb,cW Ji hb'];exact Int.le_antisymm (si h' h I' (by omega) Kn hn Ji h2 hb' hb k.symm) (si h h' I (by omega) hn Kn h2 Ji hb hb' k)
theorem Rd0.snoc {nd:List Br}(h:Rd0 nd){b:Br}(hb:gk (nd++ [b]) nd.length b):Rd0 (nd++ [b]):=by
 intro j x hx;by_cases hj:j<nd.length
 ·rw[Wh hj] at hx;obtain⟨b1,b2,b3,b4,b5,b6,b7,b8,b9,aM⟩:=h _ _ hx;exact⟨b1,b2,b3,b4,b5,b6,b7,by rw[Mw (by omega)];exact b8,by rw[sk _ (by omega)];exact b9,by rw[sk _ (by omega)];exact aM⟩
 ·have hl:=(Z0.1 hx).1;simp at hl;have:j=nd.length:=by omega
  subst this;rw[YI (QC _)] at hx;simp at hx;subst hx;exact hb
theorem OC {nd:List Br}{b:Br}(b1:0<=b.v)(b2:b.v<=63)(b3:0<=b.l)(b4:b.l<nd.length+2)(b5:0<=b.h)(b6:b.h<nd.length+2)(b7:b.l≠b.h)(b8:b∉nd)(b9:b.v<Ql nd b.l)(aM:b.v<Ql nd b.h):gk (nd++ [b]) nd.length b:=
 ⟨b1,b2,b3,b4,b5,b6,b7,by rw[Mw (QC _),rA];exact b8,by rw[sk _ b4];exact b9,by rw[sk _ b6];exact aM⟩
structure Wi (nd:List Br) (st:List Br×List Nat):Prop where
 rd:Rd0 st.1
 len:st.2.length=nd.length
 num:∀k m:Nat,st.2[k]? =some m->0<m->2<=m/\m<st.1.length+2/\Eqv st.1 (m:Int) nd ((k:Int)+2)
 sur:∀j:Nat,j<st.1.length->∃k:Nat,st.2[k]? =some (j+2)
theorem Wi.start (nd:List Br):Wi nd ([],List.replicate nd.length 0):=
 ⟨λj b hb=>by simp at hb,by simp,λk m hk hm=>by
  have:=DH (QO hk);omega,λj hj=>by simp at hj⟩
theorem EJ {nd:List Br}(h:Rd0 nd):∀(m:Nat)(n:Int)(st:List Br×List Nat),0<=n->n<m->n<nd.length+2->Wi nd st->
  Wi nd (Za nd m n st).2/\0<=(Za nd m n st).1/\(Za nd m n st).1<(Za nd m n st).2.1.length+2/\Eqv (Za nd m n st).2.1 (Za nd m n st).1 nd n/\∃l,(Za nd m n st).2.1=st.1++l
 | 0,n,st,h0,hm,_,_=>by omega
 | m+1,n,st,h0,hm,hn,W=>by
  by_cases h2:n<2
  ·rw[jQ h2];exact⟨W,h0,by simp only;omega,λe=>by rw[JD h2,JD h2],[],by simp⟩
  have Xc:(n-2).toNat<st.2.length:=by have:=W.len;omega
  by_cases h3:0<st.2[(n-2).toNat]?.getD 0
  ·rw[jR h2 h3];have hg:=Xn Xc;rw[hg] at h3 ⊢;simp only[iu] at h3 ⊢;obtain⟨q1,q2,q3⟩:=W.num _ _ hg h3;have en:(((n-2).toNat:Nat):Int)+2=n:=by omega
   rw[en] at q3;exact⟨W,by omega,by omega,q3,[],by simp⟩
  obtain⟨b,hb⟩:=Y8 h2 hn;obtain⟨b1,b2,b3,b4,b5,b6,b7,b8,b9,aM⟩:=h _ _ hb;have f1:=jS h.wf m b.l st b3 (by omega) (by omega) W.len;rw[mi h2 h3 hb];obtain⟨W1,p1,p2,p3,l1,p4⟩:=EJ h m b.l st b3 (by omega) (by omega) W;generalize (Za nd m b.l st)=p at*;have f2:=jS h.wf m b.h p.2 b5 (by omega) (by omega) W1.len;obtain⟨W2,q1,q2,q3,l2,q4⟩:=EJ h m b.h p.2 b5 (by omega) (by omega) W1;generalize (Za nd m b.h p.2)=q at*;have hz:q.2.2[(n-2).toNat]? =some 0:=by
   rw[f2.keep _ (by omega),f1.keep _ (by omega)];have hg:=Xn Xc;rw[hg] at h3 ⊢;simp only[iu] at h3;congr 1;omega
  have hR:=W2.rd;have GV:p.1<q.2.1.length+2:=by rw[q4,Qu];omega
  have GW:Eqv q.2.1 p.1 nd b.l:=λe=>by rw[q4,mo W1.rd.wf l2 p2];exact p3 e
  have QQ:p.1≠q.1:=λe=>b7 (inj h b3 b5 (by omega) (by omega) (GW.symm.trans (by rw[e];exact q3)))
  have Xy:=OB hR h GV (by omega) GW;have J3:=OB hR h q2 (by omega) q3;have mean:∀i5,Rd0 i5->∀(i:Int),¬i<2->i5[(i-2).toNat]? =some ⟨b.v,p.1,q.1⟩->(∀e,ev i5 p.1 e=ev q.2.1 p.1 e)->(∀e,ev i5 q.1 e=ev q.2.1 q.1 e)->Eqv i5 i nd n:=λi5 hR2 i hi hx u1 u2 e=>by
   rw[bZ hR2.wf hi hx,bZ h.wf h2 hb];simp only;rw[u1,u2,GW e,q3 e]
  have lr:(⟨b.v,p.1,q.1⟩:Br)∉q.2.1:=λXe=>by
   obtain⟨j,hj,hjx⟩:=DF.1 Xe;obtain⟨k,hk⟩:=W2.sur j hj;obtain⟨_,_,r3⟩:=W2.num k _ hk (by omega);have XQ:=mean q.2.1 hR ((j+2:Nat):Int) (by omega) (by rw[show(((j+2:Nat):Int)-2).toNat=j by omega,Xn hj,hjx]) (λ_=>rfl) (λ_=>rfl);have VH:=(Z0.1 hk).1;have Bn:=W2.len;have:=inj h (n:=(k:Int)+2) (n':=n) (by omega) h0 (by omega) hn (r3.symm.trans XQ);have Xl:(n-2).toNat=k:=by omega
   rw[Xl,hk] at hz;cases hz
  have gL:Rd0 (q.2.1++ [⟨b.v,p.1,q.1⟩]):=hR.snoc (OC b1 b2 p1 GV q1 q2 QQ lr (by rw[Xy];exact b9) (by rw[J3];exact aM));have um:Eqv (q.2.1++ [⟨b.v,p.1,q.1⟩]) ((q.2.1.length+2:Nat):Int) nd n:=mean _ gL _ (by omega) (by
   rw[show(((q.2.1.length+2:Nat):Int)-2).toNat=q.2.1.length by omega,YI (QC _)];simp) (λe=>mo hR.wf _ GV e) (λe=>mo hR.wf _ q2 e)
  refine⟨⟨gL,by rw[dG];exact W2.len,λk mm hk ZQ=>?_,λj hj=>?_⟩,by omega,by simp only[Qu,Xj,Z5];omega,um,l1++(l2++ [⟨b.v,p.1,q.1⟩]),by simp only;rw[q4,p4];simp⟩
  ·simp only at hk ⊢;by_cases Xl:(n-2).toNat=k
   ·subst Xl;rw[iv (by have:=W2.len;omega)] at hk;cases hk;refine⟨by omega,by simp,?_⟩;rw[show(((n-2).toNat:Nat):Int)+2=n by omega];exact um
   ·rw[fd Xl] at hk;obtain⟨r1,r2,r3⟩:=W2.num k mm hk ZQ;exact⟨r1,by simp;omega,λe=>by rw[mo hR.wf _ (by omega)];exact r3 e⟩
  ·simp only[Qu,Xj,Z5] at hj;by_cases lw:j<q.2.1.length
   ·obtain⟨k,hk⟩:=W2.sur j lw;refine⟨k,?_⟩;simp only;rw[fd (λe=>by rw[e,hk] at hz;cases hz)];exact hk
   ·have:j=q.2.1.length:=by omega
    subst this;exact⟨(n-2).toNat,by simp only;rw[iv (by have:=W2.len;omega)]⟩
theorem eQu {nd:List Br}(h:Rd0 nd){r:Int}(h0:0<=r)(hr:r<nd.length+2):VD (bq nd r).1 (bq nd r).2/\Eqv (bq nd r).1 (bq nd r).2 nd r/\(bq nd r).1.length<=nd.length:=by
 obtain⟨W,w1,w2,w3,_⟩:=EJ h (r.toNat+1) r _ h0 (by omega) hr (Wi.start nd);have f:=(jS h.wf (r.toNat+1) r _ h0 (by omega) hr (Wi.start nd).len).cnt;have e1:(bq nd r).1=(Za nd (r.toNat+1) r ([],List.replicate nd.length 0)).2.1:=rfl;have e2:(bq nd r).2=(Za nd (r.toNat+1) r ([],List.replicate nd.length 0)).1:=rfl;rw[<-e1] at w3 w2 f;rw[<-e2] at w3 w2 w1;have hR:Rd0 (bq nd r).1:=W.rd;refine⟨⟨hR,w1,w2,?_⟩,w3,?_⟩
 ·rw[Oz hR h w1 h0 w2 hr w3]
 ·have:=List.count_le_length (a:=0) (l:=List.replicate nd.length 0);simp at this f;omega
end
section
theorem OD {b:Br}:∀{l:List Br}{i:Nat},KF b l=some i->l[i]? =some b
 | [],i,h=>by cases h
 | x::l,i,h=>by
  unfold KF at h;split at h
  ·rename_i hx;cases h;simp[hx]
  ·cases hf:KF b l with
   | none=>rw[hf] at h;cases h
   | some k=>rw[hf] at h;cases h;simpa using OD hf
theorem OE {b:Br}:∀{l:List Br},KF b l=none->b∉l
 | [],_=>by simp
 | x::l,h=>by
  unfold KF at h;split at h
  ·cases h
  ·rename_i hx;cases hf:KF b l with
   | some k=>rw[hf] at h;cases h
   | none=>simp only[QZ,not_or];exact⟨λe=>hx e.symm,OE hf⟩
structure UniqOk (nd:List Br) (b:Br) (r:List Br×Int):Prop where
 rd:Rd0 r.1
 pos:0<=r.2
 lt:r.2<r.1.length+2
 mean:∀e,ev r.1 r.2 e=if e b.v.toNat then ev nd b.h e else ev nd b.l e
 lvl:b.v<=Ql r.1 r.2
 ext:∃l,r.1=nd++l
theorem eQv {nd:List Br}(h:Rd0 nd){b:Br}(b1:0<=b.v)(b2:b.v<=63)(b3:0<=b.l)(b4:b.l<nd.length+2)(b5:0<=b.h)(b6:b.h<nd.length+2)(b9:b.v<Ql nd b.l)(aM:b.v<Ql nd b.h):UniqOk nd b (ZR b nd):=by
 unfold ZR;split
 ·rename_i he;exact⟨h,b3,b4,λe=>by simp only;rw[<-he];split<;>rfl,by simp only;omega,[],by simp⟩
 ·rename_i QQ;split
  ·rename_i i hi;have hx:=OD hi;have Xc:=(Z0.1 hx).1;have KA:nd[(((i+2:Nat):Int)-2).toNat]? =some b:=by rw[show(((i+2:Nat):Int)-2).toNat=i by omega];exact hx
   have h2:¬(((i+2:Nat):Int)<2):=by omega
   exact⟨h,by simp only;omega,by simp only;omega,λe=>bZ h.wf h2 KA,by simp only;rw[cW h2 KA];exact lN _,[],by simp⟩
  ·rename_i hn;have Zq:=OC b1 b2 b3 b4 b5 b6 QQ (OE hn) b9 aM;have hR:=h.snoc Zq;have KA:(nd++ [b])[(((nd.length+2:Nat):Int)-2).toNat]? =some b:=by
    rw[show(((nd.length+2:Nat):Int)-2).toNat=nd.length by omega,YI (QC _)];simp
   have h2:¬(((nd.length+2:Nat):Int)<2):=by omega
   exact⟨hR,by simp only;omega,by simp only[Qu,Xj,Z5];omega,λe=>by simp only;rw[bZ hR.wf h2 KA,mo h.wf _ b6,mo h.wf _ b4],by simp only;rw[cW h2 KA];exact lN _,[b],rfl⟩
theorem Rd0.dok {nd:List Br}(h:Rd0 nd):Vo nd:=⟨h.wf,λj b hb=>⟨(h j b hb).1,(h j b hb).2.1⟩⟩
theorem sm {nd:List Br}(h:Rd0 nd){n v:Int}(_:0<=n)(hn:n<nd.length+2)(hv:v<=Ql nd n)(er:v<64):
  (∀e,ev nd n e=if e v.toNat then ev nd (Qm nd n v).2 e else ev nd (Qm nd n v).1 e)/\v<Ql nd (Qm nd n v).1/\v<Ql nd (Qm nd n v).2/\(Qm nd n v).1<nd.length+2/\(Qm nd n v).2<nd.length+2:=by
 unfold Qm;split
 ·rename_i QQ;exact⟨λe=>by simp,by simp only;omega,by simp only;omega,hn,hn⟩
 ·rename_i he;have he:=Decidable.not_not.1 he;have h2:¬n<2:=λhh=>by rw[gl hh] at he;omega
  obtain⟨b,hb⟩:=Y8 h2 hn;obtain⟨b1,b2,b3,b4,b5,b6,b7,b8,b9,aM⟩:=h _ _ hb;have Vj:=cW h2 hb;simp only[hb];exact⟨λe=>by rw[bZ h.wf h2 hb,show v=b.v by omega],by omega,by omega,by omega,by omega⟩
def Ki (op:Int)(x y:Bool):Bool:=if op=0 then x&&y else if op=1 then x||y else if op=3 then !x else if op=4 then !x&&y else x !=y
theorem OF {op x y:Int}(x0:0<=x)(x1:x<2)(y0:0<=y)(y1:y<2):decide (cT op x y=1)=Ki op (decide (x=1)) (decide (y=1)):=by
 unfold cT Ki;rcases(by omega:x=0∨x=1)with rfl | rfl<;>rcases(by omega:y=0∨y=1)with rfl | rfl<;>(split<;>first | rfl | (split<;>first | rfl | (split<;>first | rfl | (split<;>rfl))))
structure At2I (a b:List Br) (op:Int) (st:List Br×List Tr3):Prop where
 rd:Rd0 st.1
 seen:∀t∈st.2,0<=t.2.2/\t.2.2<st.1.length+2/\(∀e,ev st.1 t.2.2 e=Ki op (ev a t.1 e) (ev b t.2.1 e))/\min (Ql a t.1) (Ql b t.2.1)<=Ql st.1 t.2.2
structure At2R (a b:List Br) (op:Int) (x y:Int) (st:List Br×List Tr3) (r:Int×(List Br×List Tr3)):Prop where
 inv:At2I a b op r.2
 pos:0<=r.1
 lt:r.1<r.2.1.length+2
 mean:∀e,ev r.2.1 r.1 e=Ki op (ev a x e) (ev b y e)
 lvl:min (Ql a x) (Ql b y)<=Ql r.2.1 r.1
 ext:∃l,r.2.1=st.1++l
theorem At2I.ext {a b:List Br}{op:Int}{nd:List Br}{s:List Tr3}(h:At2I a b op (nd,s)){XZ:List Br}(hr:Rd0 XZ)(he:∃l,XZ=nd++l):At2I a b op (XZ,s):=by
 obtain⟨l,rfl⟩:=he;refine⟨hr,λt ht=>?_⟩;obtain⟨h1,h2,h3,h4⟩:=h.seen t ht;exact⟨h1,by simp only at h2 ⊢;rw[Qu];omega,λe=>by rw[mo h.rd.wf l h2];exact h3 e,by rw[sk l h2];exact h4⟩
theorem EL {a b:List Br}(ha:Rd0 a)(hb:Rd0 b)(op:Int):∀(m:Nat)(x y:Int)(st:List Br×List Tr3),At2I a b op st->0<=x->0<=y->x+y<m->x<a.length+2->y<b.length+2->At2R a b op x y st (Xp a b op m x y st)
 | 0,x,y,st,_,_,_,hm,_,_=>by omega
 | m+1,x,y,st,h,x0,y0,hm,hx,hy=>by
  by_cases Xr:x<2/\y<2
  ·rw[jV Xr];have hc:=EG (op:=op) x0 Xr.1 y0 Xr.2;refine⟨h,hc.1,by simp only;omega,λe=>?_,?_,[],by simp⟩
   ·simp only;rw[JD hc.2,JD Xr.1,JD Xr.2];exact OF x0 Xr.1 y0 Xr.2
   ·simp only;rw[gl hc.2,gl Xr.1];omega
  cases k:st.2.find? (λt=>decide (t.1=x/\t.2.1=y))with
  | some t=>
   rw[jW Xr k];have hk:=List.find?_some k;simp only[Vl] at hk;obtain⟨rfl,rfl⟩:=hk;obtain⟨h1,h2,h3,h4⟩:=h.seen t (aQ2 k);exact⟨h,h1,h2,h3,h4,[],by simp⟩
  | none=>
   have Zv:min (Ql a x) (Ql b y)<64:=by
    by_cases c:x<2
    ·have:=W4 hb.dok (n:=y) (λc2=>Xr ⟨c,c2⟩) (by omega);rw[ZW];split<;>omega
    ·have:=W4 ha.dok (n:=x) c (by omega);rw[ZW];split<;>omega
   have eu:0<=min (Ql a x) (Ql b y):=by
    have pos:∀{d:List Br},Rd0 d->∀{n:Int},n<d.length+2->0<=Ql d n:=λ{d} hd {n} hn=>by
     by_cases h2:n<2
     ·rw[gl h2];omega
     ·obtain⟨z,hz⟩:=Y8 h2 hn;rw[cW h2 hz];exact(hd _ _ hz).1
    have p1:=pos ha hx;have p2:=pos hb hy;rw[ZW];split<;>omega
   rw[jX Xr k _ rfl];have eV:Ql a x=min (Ql a x) (Ql b y)∨Ql b y=min (Ql a x) (Ql b y):=by rw[ZW];split<;>simp
   have jQy:min (Ql a x) (Ql b y)<=Ql a x:=Int.min_le_left _ _;have TD:min (Ql a x) (Ql b y)<=Ql b y:=Int.min_le_right _ _;have nN:At2I a b op st->min (Ql a x) (Ql b y)<=min (Ql a x) (Ql b y):=λ_=>lN _
   generalize hv:min (Ql a x) (Ql b y)=v at*;obtain⟨s1,s2,s3,s4,s5⟩:=Y7 ha.dok (n:=x) x0 Zv;obtain⟨t1,t2,t3,t4,t5⟩:=Y7 hb.dok (n:=y) y0 Zv;obtain⟨u1,u2,u3,u4,u5⟩:=sm ha x0 hx jQy Zv;obtain⟨z1,z2,z3,z4,z5⟩:=sm hb y0 hy TD Zv;have dec:(Qm a x v).1+(Qm b y v).1<m/\(Qm a x v).2+(Qm b y v).2<m:=by
    rcases eV with e | e
    ·have:=s5 e;omega
    ·have:=t5 e;omega
   have i1:=EL ha hb op m _ _ st h s1 t1 dec.1 u4 z4;generalize (Xp a b op m (Qm a x v).1 (Qm b y v).1 st)=r0 at*;have i2:=EL ha hb op m _ _ r0.2 i1.inv s3 t3 dec.2 u5 z5;generalize (Xp a b op m (Qm a x v).2 (Qm b y v).2 r0.2)=r1 at*;obtain⟨l1,Xy⟩:=i1.ext;obtain⟨l2,J3⟩:=i2.ext;have r0lt:r0.1<r1.2.1.length+2:=by rw[J3,Qu];have:=i1.lt;omega
   have r0m:∀e,ev r1.2.1 r0.1 e=ev r0.2.1 r0.1 e:=λe=>by rw[J3,mo i1.inv.rd.wf l2 i1.lt]
   have r0l:Ql r1.2.1 r0.1=Ql r0.2.1 r0.1:=by rw[J3,sk l2 i1.lt]
   have g1:v<Ql r1.2.1 r0.1:=by rw[r0l];have:=i1.lvl;rw[ZW] at this;split at this<;>omega
   have g2:v<Ql r1.2.1 r1.1:=by have:=i2.lvl;rw[ZW] at this;split at this<;>omega
   have U:=eQv i2.inv.rd (b:=⟨v,r0.1,r1.1⟩) eu (by simp only;omega) i1.pos r0lt i2.pos i2.lt g1 g2;have hu3:=U.ext;have hI:=At2I.ext (s:=r1.2.2) i2.inv U.rd U.ext;generalize ZR ⟨v,r0.1,r1.1⟩ r1.2.1=u at*;have XQ:∀e,ev u.1 u.2 e=Ki op (ev a x e) (ev b y e):=λe=>by
    rw[U.mean e,u1 e,z1 e];simp only;split
    ·exact i2.mean e
    ·rw[r0m e];exact i1.mean e
   refine⟨⟨U.rd,λt ht=>?_⟩,U.pos,U.lt,XQ,by rw[hv];exact U.lvl,?_⟩
   ·simp only[Xw,QL] at ht;rcases ht with ht | rfl
    ·exact hI.seen t ht
    ·exact⟨U.pos,U.lt,XQ,by rw[hv];exact U.lvl⟩
   ·obtain⟨l3,hl3⟩:=hu3;exact⟨l1++(l2++l3),by simp only;rw[hl3,J3,Xy];simp⟩
theorem OG:∀(N:Nat)(l:List Nat),l.Nodup->(∀x∈l,x<N)->l.length<=N
 | 0,l,_,h=>by
  cases l with
  | nil=>simp
  | cons x l=>have:=h x (by simp);omega
 | N+1,l,hn,h=>by
  have h1:=OG N (l.filter (λx=>decide (x≠N))) (hn.filter _) (λx hx=>by
   rw[JZ,Vl] at hx;have:=h x hx.1;omega)
  have h2:l.length=(l.filter (λx=>decide (x≠N))).length+l.count N:=by
   clear h h1 hn;induction l with
   | nil=>rfl
   | cons x l ih=>
    by_cases e:x=N
    ·subst e;rw[List.filter_cons_of_neg (by simp),List.count_cons_self,Xj];omega
    ·rw[List.filter_cons_of_pos (by simpa using e),List.count_cons_of_ne e,Xj,Xj];omega
  have h3:=List.nodup_iff_count.1 hn N;omega
def EM (M:Nat)(t:Tr3):Nat:=t.1.toNat*M+t.2.1.toNat
structure At2B (n m:Nat) (st:List Br×List Tr3):Prop where
 rng:∀t∈st.2,0<=t.1/\t.1<n/\0<=t.2.1/\t.2.1<m
 nod:(st.2.map (EM m)).Nodup
 le:st.1.length<=st.2.length
theorem At2B.bound {n m:Nat}{st:List Br×List Tr3}(h:At2B n m st):st.2.length<=n*m/\st.1.length<=n*m:=by
 have:=OG (n*m) _ h.nod (λx hx=>by
  simp only[Z4] at hx;obtain⟨t,ht,rfl⟩:=hx;obtain⟨h1,h2,h3,h4⟩:=h.rng t ht;unfold EM;have:(t.1.toNat+1)*m<=n*m:=Y1 _ (by omega);rw[rv] at this;omega)
 rw[JM] at this;exact⟨this,Zf h.le this⟩
theorem eQw {m:Nat}{x y x' y':Nat}(hy:y<m)(qW:y'<m)(h:x*m+y=x'*m+y'):x=x'/\y=y':=by
 have hx:x=x':=by
  have e1:(x*m+y)/m=x:=by rw[uD,Nat.mul_add_div (by omega),Nat.div_eq_of_lt hy]<;>rfl
  have e2:(x'*m+y')/m=x':=by rw[uD,Nat.mul_add_div (by omega),Nat.div_eq_of_lt qW]<;>rfl
  rw[<-e1,<-e2,h]
 subst hx;exact⟨rfl,by omega⟩
theorem EN {a b:List Br}(ha:Vo a)(hb:Vo b)(op:Int):∀(f:Nat)(x y:Int)(st:List Br×List Tr3),At2B (a.length+2) (b.length+2) st->0<=x->0<=y->x+y<f->x<a.length+2->y<b.length+2->
  At2B (a.length+2) (b.length+2) (Xp a b op f x y st).2/\(∀t∈(Xp a b op f x y st).2.2,t∈st.2∨t.1+t.2.1<=x+y)
 | 0,x,y,st,_,_,_,hm,_,_=>by omega
 | f+1,x,y,st,h,x0,y0,hm,hx,hy=>by
  by_cases Xr:x<2/\y<2
  ·rw[jV Xr];exact⟨h,λt ht=>.inl ht⟩
  cases k:st.2.find? (λt=>decide (t.1=x/\t.2.1=y))with
  | some t=>rw[jW Xr k];exact⟨h,λt ht=>.inl ht⟩
  | none=>
   have Zv:min (Ql a x) (Ql b y)<64:=by
    by_cases c:x<2
    ·have:=W4 hb (n:=y) (λc2=>Xr ⟨c,c2⟩) (by omega);rw[ZW];split<;>omega
    ·have:=W4 ha (n:=x) c (by omega);rw[ZW];split<;>omega
   rw[jX Xr k _ rfl];have eV:Ql a x=min (Ql a x) (Ql b y)∨Ql b y=min (Ql a x) (Ql b y):=by rw[ZW];split<;>simp
   generalize min (Ql a x) (Ql b y)=v at*;obtain⟨s1,s2,s3,s4,s5⟩:=Y7 ha (n:=x) x0 Zv;obtain⟨t1,t2,t3,t4,t5⟩:=Y7 hb (n:=y) y0 Zv;have dec:(Qm a x v).1+(Qm b y v).1<x+y/\(Qm a x v).2+(Qm b y v).2<x+y:=by
    rcases eV with e | e
    ·have:=s5 e;omega
    ·have:=t5 e;omega
   obtain⟨i1,j1⟩:=EN ha hb op f _ _ st h s1 t1 (by omega) (by omega) (by omega);generalize (Xp a b op f (Qm a x v).1 (Qm b y v).1 st)=r0 at*;obtain⟨i2,j2⟩:=EN ha hb op f _ _ r0.2 i1 s3 t3 (by omega) (by omega) (by omega);generalize (Xp a b op f (Qm a x v).2 (Qm b y v).2 r0.2)=r1 at*;have ul:(ZR ⟨v,r0.1,r1.1⟩ r1.2.1).1.length<=r1.2.1.length+1:=by
    unfold ZR;split
    ·exact yL _
    ·split
     ·exact yL _
     ·simp
   have lr:∀t∈r1.2.2,¬(t.1=x/\t.2.1=y):=λt ht hh=>by
    rcases j2 t ht with h1 | h1
    ·rcases j1 t h1 with h2 | h2
     ·have:=uC.1 k t h2;simp at this;exact this hh.1 hh.2
     ·omega
    ·omega
   refine⟨⟨λt ht=>?_,?_,?_⟩,λt ht=>?_⟩
   ·simp only[Xw,QL] at ht;rcases ht with ht | rfl
    ·exact i2.rng t ht
    ·exact⟨x0,by simp only;omega,y0,by simp only;omega⟩
   ·simp only[f0,Y0,yI];rw[DC];refine⟨i2.nod,by simp,λp hp q hq e=>?_⟩;simp only[QL] at hq;subst hq;subst e;simp only[Z4] at hp;obtain⟨t,ht,hk⟩:=hp;obtain⟨r1',r2',r3',r4'⟩:=i2.rng t ht;unfold EM at hk;have:=eQw (m:=b.length+2) (by omega) (by simp only;omega) hk;simp only at this;exact lr t ht ⟨by omega,by omega⟩
   ·simp only[Qu,Xj,Z5];have:=i2.le;omega
   ·simp only[Xw,QL] at ht;rcases ht with ht | rfl
    ·rcases j2 t ht with h1 | h1
     ·rcases j1 t h1 with h2 | h2
      ·exact .inl h2
      ·exact .inr (by omega)
     ·exact .inr (by omega)
    ·exact .inr (by simp only;omega)
theorem EO {a b:List Br}{ra rb:Int}(ha:VD a ra)(hb:VD b rb)(op:Int):(jY a ra b rb op).2.2.length<=(a.length+2)*(b.length+2)/\(jY a ra b rb op).2.1.length<=(a.length+2)*(b.length+2):=
 (EN ha.dok hb.dok op (ra.toNat+rb.toNat+1) ra rb ([],[]) ⟨λt ht=>by simp at ht,by simp,QC _⟩ ha.2.1 hb.2.1 (by have:=ha.2.1;have:=hb.2.1;omega) ha.2.2.1 hb.2.2.1).1.bound
theorem eQx {a b:List Br}{ra rb:Int}(ha:VD a ra)(hb:VD b rb)(op:Int):VD (VE a ra b rb op).1 (VE a ra b rb op).2/\∀e,ev (VE a ra b rb op).1 (VE a ra b rb op).2 e=Ki op (ev a ra e) (ev b rb e):=by
 have R:=EL ha.rd0 hb.rd0 op (ra.toNat+rb.toNat+1) ra rb ([],[]) ⟨λj x hx=>by simp at hx,λt ht=>by simp at ht⟩ ha.2.1 hb.2.1 (by have:=ha.2.1;have:=hb.2.1;omega) ha.2.2.1 hb.2.2.1;obtain⟨n1,n2,n3⟩:=eQu R.inv.rd R.pos R.lt;exact⟨n1,λe=>(n2 e).trans (R.mean e)⟩
end
section
def VX:Nat->List Nat->List (List Nat)×Bool
 | 0,_=>([],true)
 | _+1,[]=>([],true)
 | n+1,b::l=>
  if b=32∨b=9 then VX n l
  else if b=40∨b=41∨b=33 then([b]::(VX n l).1,(VX n l).2)
  else if(b=38∨b=124)/\l.head? =some b then([b,b]::(VX n l.tail).1,(VX n l.tail).2)
  else if aD b then((b::l).takeWhile X6::(VX n ((b::l).dropWhile X6)).1,(VX n ((b::l).dropWhile X6)).2)
  else([],false)
def XU (l:List Nat):List (List Nat)×Bool:=VX l.length l
theorem sn {b:Nat}(h:aD b=true):X6 b=true:=by unfold X6;rw[h]<;>rfl
theorem zL {b:Nat}{l:List Nat}(h:aD b=true):(b::l).dropWhile X6=l.dropWhile X6:=by rw[oI,Qf (sn h)]
theorem zM (p:Nat->Bool)(l:List Nat):(l.dropWhile p).length<=l.length:=(List.dropWhile_suffix p).length_le
theorem vn:∀(n m:Nat)(l:List Nat),l.length<=n->l.length<=m->VX n l=VX m l
 | n,m,[],_,_=>by cases n<;>cases m<;>rfl
 | 0,_,b::l,h,_=>by simp at h
 | _+1,0,b::l,_,h=>by simp at h
 | n+1,m+1,b::l,h,h'=>by
  simp only[Xj] at h h';have e1:=vn n m l (by omega) (by omega);have e2:=vn n m l.tail (by rw[yM];omega) (by rw[yM];omega);have hd:=zM X6 l;have e3:=vn n m (l.dropWhile X6) (by omega) (by omega);simp only[VX];split
  ·exact e1
  ·split
   ·rw[e1]
   ·split
    ·rw[e2]
    ·split
     ·rename_i hl;rw[zL hl,e3]
     ·rfl
theorem vo:XU []=([],true):=rfl
theorem vp {b:Nat}{l:List Nat}(h:b=32∨b=9):XU (b::l)=XU l:=by
 show VX (l.length+1) (b::l)=_;rw[VX,Qf h]<;>rfl
theorem mr {b:Nat}{l:List Nat}(h:b=40∨b=41∨b=33):XU (b::l)=([b]::(XU l).1,(XU l).2):=by
 show VX (l.length+1) (b::l)=_;rw[VX,if_neg (by omega),Qf h]<;>rfl
theorem pk {b:Nat}{l:List Nat}(h:b=38∨b=124):XU (b::b::l)=([b,b]::(XU l).1,(XU l).2):=by
 show VX ((b::l).length+1) (b::b::l)=_;rw[VX,if_neg (by omega),if_neg (by omega),Qf ⟨h,rfl⟩];have:=vn (b::l).length l.length l (by simp) (QC _);rw[show(b::l).tail=l from rfl,this]<;>rfl
theorem vq {b:Nat}{l:List Nat}(h:aD b=true):XU (b::l)=((b::l).takeWhile X6::(XU ((b::l).dropWhile X6)).1,(XU ((b::l).dropWhile X6)).2):=by
 have hb:b=95∨(97<=b/\b<=122)∨(65<=b/\b<=90):=by unfold aD at h;simp at h;omega
 show VX (l.length+1) (b::l)=_;rw[VX,if_neg (by omega),if_neg (by omega),if_neg (by omega),Qf h,zL h];have:=vn l.length (l.dropWhile X6).length (l.dropWhile X6) (zM _ _) (QC _);rw[this]<;>rfl
theorem zN {b:Nat}{l:List Nat}(h1:¬(b=32∨b=9))(h2:¬(b=40∨b=41∨b=33))(h3:¬((b=38∨b=124)/\l.head? =some b))(h4:aD b=false):XU (b::l)=([],false):=by
 show VX (l.length+1) (b::l)=_;rw[VX,if_neg h1,if_neg h2,if_neg h3,if_neg (by rw[h4];decide)]
theorem pm (l:List Nat):XU (Zx l)=XU l:=by
 induction l with
 | nil=>rfl
 | cons b l ih=>
  unfold Zx at*;rw[oI];split
  ·rename_i h;rw[ih,vp];simpa using h
  ·rfl
theorem vr {l:List Nat}{b:Nat}{r:List Nat}(h:Zx l=b::r):¬(b=32∨b=9):=by
 unfold Zx at h;induction l with
 | nil=>cases h
 | cons x l ih=>
  rw[oI] at h;split at h
  ·exact ih h
  ·rename_i hx;cases h;simpa using hx
theorem EQ {b:Nat}(hb:b=40∨b=41∨b=33)(p:Ps):match Kd [b] p with
  | (true,p')=>XU p.r=([b]::(XU p'.r).1,(XU p'.r).2)/\p'.f=p.f/\p'.u=p.u/\p'.r.length<p.r.length
  | (false,p')=>(XU p.r).1.head? ≠some [b]/\p'={p with r:=Zx p.r}:=by
 have hl:=pm p.r;have YE:=rU p.r;rw[u7];cases ht:Zx p.r with
 | nil=>
  rw[ht] at hl;simp only[List.isPrefixOf];refine⟨?_,by simp⟩;rw[<-hl];simp[vo]
 | cons x r=>
  have hx:=vr ht;rw[ht] at hl YE;by_cases Ja:x=b
  ·subst Ja;simp only[List.isPrefixOf,beq_self_eq_true,dH];refine⟨by rw[<-hl,mr hb];simp,trivial,trivial,by simp at YE ⊢;omega⟩
  ·have: [b].isPrefixOf (x::r)=false:=by simp[List.isPrefixOf,Ne.symm Ja]
   rw[this];simp only;refine⟨λh=>?_,by simp⟩;rw[<-hl] at h;by_cases h2:x=40∨x=41∨x=33
   ·rw[mr h2] at h;simp at h;exact Ja h
   ·by_cases h3:(x=38∨x=124)/\r.head? =some x
    ·cases r with
     | nil=>simp at h3
     | cons y r=>
      simp at h3;obtain⟨h3,rfl⟩:=h3;rw[pk h3] at h;simp at h
    ·by_cases h4:aD x=true
     ·rw[vq h4,Wj,Qf (sn h4)] at h;simp at h;exact Ja h.1
     ·rw[zN hx h2 h3 (by simpa using h4)] at h;simp at h
theorem zO {b:Nat}(hb:b=38∨b=124)(p:Ps):match Kd [b,b] p with
  | (true,p')=>XU p.r=([b,b]::(XU p'.r).1,(XU p'.r).2)/\p'.f=p.f/\p'.u=p.u/\p'.r.length<p.r.length
  | (false,p')=>(XU p.r).1.head? ≠some [b,b]/\p'={p with r:=Zx p.r}:=by
 have hl:=pm p.r;have YE:=rU p.r;rw[u7];cases ht:Zx p.r with
 | nil=>
  rw[ht] at hl;simp only[List.isPrefixOf];refine⟨?_,by simp⟩;rw[<-hl];simp[vo]
 | cons x r=>
  have hx:=vr ht;rw[ht] at hl YE;by_cases Ja:x=b/\r.head? =some b
  ·obtain⟨rfl,hr⟩:=Ja;cases r with
   | nil=>simp at hr
   | cons y r=>
    simp at hr;subst hr;simp only[List.isPrefixOf,beq_self_eq_true,dH];refine⟨by rw[<-hl,pk hb];simp,trivial,trivial,by simp at YE ⊢;omega⟩
  ·have: [b,b].isPrefixOf (x::r)=false:=by
    rw[<-Bool.not_eq_true];intro h;cases r with
    | nil=>simp[List.isPrefixOf] at h
    | cons y r=>simp[List.isPrefixOf] at h;exact Ja ⟨h.1.symm,by simp[h.2]⟩
   rw[this];simp only;refine⟨λh=>?_,by simp⟩;rw[<-hl] at h;by_cases h2:x=40∨x=41∨x=33
   ·rw[mr h2] at h;simp at h
   ·by_cases h3:(x=38∨x=124)/\r.head? =some x
    ·cases r with
     | nil=>simp at h3
     | cons y r=>
      simp at h3;obtain⟨h3,rfl⟩:=h3;rw[pk h3] at h;simp at h;exact Ja ⟨h,by simp[h]⟩
    ·by_cases h4:aD x=true
     ·have jj:X6 b=false:=by rcases hb with rfl | rfl<;>decide
      rw[vq h4,Wj,Qf (sn h4)] at h;simp at h;have hi:=sn h4;rw[h.1,jj] at hi;cases hi
     ·rw[zN hx h2 h3 (by simpa using h4)] at h;simp at h
def Yh (op:List Nat)(mk:Fm->Fm->Fm)(opd:List (List Nat)->Option (Fm×Bool×List (List Nat))):Nat->Fm->Bool->List (List Nat)->Option (Fm×Bool×List (List Nat))
 | 0,_,_,_=>none
 | m+1,a,u,ts=>if ts.head? =some op then
   match opd ts.tail with
   | none=>none
   | some (b,v,Z3)=>Yh op mk opd m (mk a b) (u||v) Z3
  else some (a,u,ts)
def Yt (op:List Nat)(mk:Fm->Fm->Fm)(opd:List (List Nat)->Option (Fm×Bool×List (List Nat)))(ts:List (List Nat)):Option (Fm×Bool×List (List Nat)):=match opd ts with
 | none=>none
 | some (a,u,Z3)=>Yh op mk opd (Z3.length+1) a u Z3
def ER (t:List Nat):Bool:=match t with
 | []=>false
 | b::_=>aD b
def j0 (ix:List Nat->Option Nat)(t:List Nat):Fm×Bool:=if t=Y5 then(.c true,false)else if t=bW then(.c false,false)else(.v ((ix t).getD 0),(ix t).isNone)
def KG (ix:List Nat->Option Nat):Nat->List (List Nat)->Option (Fm×Bool×List (List Nat))
 | 0,_=>none
 | _+1,[]=>none
 | n+1,t::ts=>if t=[33] then
   match KG ix n ts with
   | none=>none
   | some (a,u,Z3)=>some (.not a,u,Z3)
  else if t=[40] then
   match Yt [124,124] .or (Yt [38,38] .and (KG ix n)) ts with
   | none=>none
   | some (a,u,Z3)=>if Z3.head? =some [41] then some (a,u,Z3.tail)else none
  else if ER t then some ((j0 ix t).1,(j0 ix t).2,ts)else none
def sr (ix:List Nat->Option Nat)(n:Nat)(ts:List (List Nat)):Option (Fm×Bool×List (List Nat)):=Yt [124,124] .or (Yt [38,38] .and (KG ix n)) ts
def X0:Fm->Nat->List Fz
 | .c b,_=>[⟨if b then 1 else 0,0,0,0⟩]
 | .v n,_=>[⟨2,(n:Nat),0,0⟩]
 | .not a,k=>X0 a k++ [⟨3,0,((k+QB a-1:Nat):Int),0⟩]
 | .and a b,k=>X0 a k++X0 b (k+QB a)++ [⟨4,0,((k+QB a-1:Nat):Int),((k+QB a+QB b-1:Nat):Int)⟩]
 | .or a b,k=>X0 a k++X0 b (k+QB a)++ [⟨5,0,((k+QB a-1:Nat):Int),((k+QB a+QB b-1:Nat):Int)⟩]
theorem JP:∀(t:Fm)(k:Nat),(X0 t k).length=QB t
 | .c _,_=>rfl
 | .v _,_=>rfl
 | .not a,k=>by simp[X0,QB,JP a k]
 | .and a b,k=>by simp[X0,QB,JP a k,JP b,oF]
 | .or a b,k=>by simp[X0,QB,JP a k,JP b,oF]
theorem Yi:∀t:Fm,0<QB t
 | .c _=>Nat.one_pos
 | .v _=>Nat.one_pos
 | .not _=>Nat.succ_pos _
 | .and _ _=>Nat.succ_pos _
 | .or _ _=>Nat.succ_pos _
def po (p:Ps)(r:Option (Nat×Ps))(rt:Option (Fm×Bool×List (List Nat))):Prop:=match rt with
 | none=>r=none
 | some (t,u,ts)=>∃p',r=some (p.f.length+QB t-1,p')/\p'.f=p.f++X0 t p.f.length/\p'.u=(p.u||u)/\XU p'.r=(ts,(XU p.r).2)/\p'.r.length<p.r.length
def vt (opd:Ps->Option (Nat×Ps))(opt:List (List Nat)->Option (Fm×Bool×List (List Nat))):Prop:=∀p,po p (opd p) (opt (XU p.r).1)
def j5 (opt:List (List Nat)->Option (Fm×Bool×List (List Nat))):Prop:=∀ts t u Z3,opt ts=some (t,u,Z3)->Z3.length<ts.length
theorem OH {op:List Nat}{o:Int}{mk:Fm->Fm->Fm}{opd:Ps->Option (Nat×Ps)}{opt:List (List Nat)->Option (Fm×Bool×List (List Nat))}
  (bM:∀p,match Kd op p with
   | (true,p')=>XU p.r=(op::(XU p'.r).1,(XU p'.r).2)/\p'.f=p.f/\p'.u=p.u/\p'.r.length<p.r.length
   | (false,p')=>(XU p.r).1.head? ≠some op/\p'={p with r:=Zx p.r})
  (Da:∀a b k,X0 (mk a b) k=X0 a k++X0 b (k+QB a)++ [⟨o,0,((k+QB a-1:Nat):Int),((k+QB a+QB b-1:Nat):Int)⟩]) (Xu:∀a b,QB (mk a b)=QB a+QB b+1) (H:vt opd opt) (hl:j5 opt):
  ∀(m m':Nat) (a:Fm) (u:Bool) (p0 p:Ps),p.f=p0.f++X0 a p0.f.length->p.u=(p0.u||u)->(XU p.r).2=(XU p0.r).2->p.r.length<p0.r.length->p.r.length<m->(XU p.r).1.length<m'->
   po p0 (fo op o opd m (p0.f.length+QB a-1) p) (Yh op mk opt m' a u (XU p.r).1)
 | 0,m',a,u,p0,p,_,_,_,_,h,_=>by omega
 | m+1,0,a,u,p0,p,_,_,_,_,_,h=>by omega
 | m+1,m'+1,a,u,p0,p,hf,hu,J3,hr,hm,C9=>by
  have hs:=bM p;unfold fo Yh;cases nY:Kd op p with
  | mk b p1=>
  rw[nY] at hs;cases b with
  | false=>
   obtain⟨h1,rfl⟩:=hs;rw[if_neg h1];refine⟨_,rfl,hf,hu,?_,?_⟩
   ·simp only;rw[pm,<-J3]
   ·have:=rU p.r;simp only;omega
  | true=>
   obtain⟨h1,h2,h3,h4⟩:=hs;have hh:=QN Prod.fst h1;have kO:=QN Prod.snd h1;simp only at hh kO;rw[hh,DJ,Qf rfl,List.tail_cons];simp only;have hc:=H p1;cases ho:opt (XU p1.r).1 with
   | none=>
    rw[ho] at hc;simp only[po] at hc ⊢;rw[hc]
   | some q=>
    obtain⟨t,v,ts⟩:=q;rw[ho] at hc;obtain⟨p2,e1,e2,e3,e4,e5⟩:=hc;rw[e1];simp only;have Xc:=hl _ _ _ _ ho;have pa:=Yi a;have pt:=Yi t;rw[hf] at h2;have Ka:p1.f.length=p0.f.length+QB a:=by rw[h2,Qu,JP]
    have ih:=OH bM Da Xu H hl m m' (mk a t) (u||v) p0 {p2 with f:=p2.f++ [⟨o,0,((p0.f.length+QB a-1:Nat):Int),((p1.f.length+QB t-1:Nat):Int)⟩]}
     (by simp only;rw[e2,h2,Da,Qu,JP];simp) (by simp only;rw[e3,h3,hu,DK]) (by simp only;rw[e4,<-kO,J3]) (by simp only;omega) (by simp only;omega)
     (by simp only;rw[e4];simp only;rw[hh] at C9;simp only[Xj] at C9;omega)
    simp only[e4] at ih;have hx:p2.f.length=p0.f.length+QB (mk a t)-1:=by rw[e2,Qu,JP,Ka,Xu];omega
    rw[hx];exact ih
theorem zP {op:List Nat}{o:Int}{mk:Fm->Fm->Fm}{opd:Ps->Option (Nat×Ps)}{opt:List (List Nat)->Option (Fm×Bool×List (List Nat))}
  (bM:∀p,match Kd op p with
   | (true,p')=>XU p.r=(op::(XU p'.r).1,(XU p'.r).2)/\p'.f=p.f/\p'.u=p.u/\p'.r.length<p.r.length
   | (false,p')=>(XU p.r).1.head? ≠some op/\p'={p with r:=Zx p.r})
  (Da:∀a b k,X0 (mk a b) k=X0 a k++X0 b (k+QB a)++ [⟨o,0,((k+QB a-1:Nat):Int),((k+QB a+QB b-1:Nat):Int)⟩]) (Xu:∀a b,QB (mk a b)=QB a+QB b+1) (H:vt opd opt) (hl:j5 opt):vt (Vn op o opd) (Yt op mk opt):=λp=>by
 have hc:=H p;unfold Vn Yt;cases ho:opt (XU p.r).1 with
 | none=>
  rw[ho] at hc;simp only[po] at hc ⊢;rw[hc]
 | some q=>
  obtain⟨t,v,ts⟩:=q;rw[ho] at hc;obtain⟨p2,e1,e2,e3,e4,e5⟩:=hc;rw[e1];simp only;have:=OH bM Da Xu H hl (p2.r.length+1) (ts.length+1) t v p p2 e2 e3 (by rw[e4]) e5 (by omega) (by rw[e4];exact dI _);rw[e4] at this;exact this
theorem OI {op:List Nat}{mk:Fm->Fm->Fm}{opt:List (List Nat)->Option (Fm×Bool×List (List Nat))}(hl:j5 opt):∀(m:Nat)(a:Fm)(u:Bool)(ts:List (List Nat))(t:Fm)(v:Bool)(Z3:List (List Nat)),Yh op mk opt m a u ts=some (t,v,Z3)->Z3.length<=ts.length
 | 0,a,u,ts,t,v,Z3,h=>by cases h
 | m+1,a,u,ts,t,v,Z3,h=>by
  unfold Yh at h;split at h
  ·cases ho:opt ts.tail with
   | none=>rw[ho] at h;cases h
   | some q=>
    obtain⟨b,v2,gM⟩:=q;rw[ho] at h;have h1:=OI hl m _ _ _ _ _ _ h;have h2:=hl _ _ _ _ ho;rw[yM] at h2;omega
  ·cases h;exact QC _
theorem vu {op:List Nat}{mk:Fm->Fm->Fm}{opt:List (List Nat)->Option (Fm×Bool×List (List Nat))}(hl:j5 opt):j5 (Yt op mk opt):=λts t u Z3 h=>by
 unfold Yt at h;cases ho:opt ts with
 | none=>rw[ho] at h;cases h
 | some q=>
  obtain⟨b,v2,gM⟩:=q;rw[ho] at h;have h1:=OI hl _ _ _ _ _ _ _ h;have h2:=hl _ _ _ _ ho;omega
theorem ss (ix:List Nat->Option Nat):∀n,j5 (KG ix n)
 | 0=>λts t u Z3 h=>by cases h
 | n+1=>λts t u Z3 h=>by
  have ih:=ss ix n;cases ts with
  | nil=>cases h
  | cons x ts=>
   unfold KG at h;split at h
   ·cases ho:KG ix n ts with
    | none=>rw[ho] at h;cases h
    | some q=>
     obtain⟨b,v2,gM⟩:=q;rw[ho] at h;have:=ih _ _ _ _ ho;cases h;simp;omega
   ·split at h
    ·cases ho:Yt [124,124] .or (Yt [38,38] .and (KG ix n)) ts with
     | none=>rw[ho] at h;cases h
     | some q=>
      obtain⟨b,v2,gM⟩:=q;rw[ho] at h;have:=vu (op:=[124,124]) (mk:=.or) (vu (op:=[38,38]) (mk:=.and) ih) _ _ _ _ ho;simp only at h;split at h
      ·cases h;simp[yM];omega
      ·cases h
    ·split at h
     ·cases h;simp
     ·cases h
theorem eQy (p:Nat->Bool)(l:List Nat):l.take (l.takeWhile p).length=l.takeWhile p:=by
 induction l with
 | nil=>rfl
 | cons x l ih=>
  rw[Wj];split
  ·rw[Xj,jx,ih]
  ·rfl
theorem eQz (p:Nat->Bool)(l:List Nat):l.drop (l.takeWhile p).length=l.dropWhile p:=by
 induction l with
 | nil=>rfl
 | cons x l ih=>
  rw[Wj,oI];split
  ·rw[Xj,Mx,ih]
  ·rfl
theorem eQA (l:List Nat):Zx (Zx l)=Zx l:=by
 cases h:Zx l with
 | nil=>rfl
 | cons b r=>
  have:=vr h;unfold Zx;rw[oI,if_neg (by simpa using this)]
theorem OJ {x:Nat}{r:List Nat}(h:Vm (x::r)≠0):aD x=true/\Vm (x::r)=((x::r).takeWhile X6).length:=by
 have e:Vm (x::r)=if isDig x then 0 else((x::r).takeWhile X6).length:=rfl
 rw[e] at h ⊢;split at h
 ·exact Q8 rfl h
 ·rename_i hd;rw[if_neg hd];refine⟨?_,rfl⟩;rw[Wj] at h;split at h
  ·rename_i hi;unfold X6 at hi;rw[Bool.or_eq_true] at hi;exact hi.resolve_right hd
  ·exact Q8 rfl h
theorem eQB {x:Nat}{r:List Nat}(h:Vm (x::r)=0):aD x=false:=by
 have e:Vm (x::r)=if isDig x then 0 else((x::r).takeWhile X6).length:=rfl
 rw[e] at h;rw[<-Bool.not_eq_true];intro hl;have hb:x=95∨(97<=x/\x<=122)∨(65<=x/\x<=90):=by unfold aD at hl;simp at hl;omega
 rw[if_neg (by unfold isDig;simp;omega),Wj,Qf (sn hl)] at h;simp at h
theorem eQC {x:Nat}{r:List Nat}(h:aD x=true):ER ((x::r).takeWhile X6)=true:=by
 rw[Wj,Qf (sn h)];exact h
theorem OK (ix:List Nat->Option Nat):∀n,vt (bV ix n) (KG ix n)
 | 0=>λp=>rfl
 | n+1=>λp=>by
  have ih:=OK ix n;have dD:=ss ix n;have s1:=EQ (b:=33) (by omega) p;cases hk:Kd [33] p with
  | mk b p1=>
  rw[hk] at s1;cases b with
  | true=>
   obtain⟨h1,h2,h3,h4⟩:=s1;rw[Er ix n hk,h1];have hc:=ih p1;unfold KG;rw[Qf rfl];cases ho:KG ix n (XU p1.r).1 with
   | none=>
    rw[ho] at hc;simp only[po] at hc ⊢;rw[hc]
   | some q=>
    obtain⟨t,v,ts⟩:=q;rw[ho] at hc;obtain⟨p2,e1,e2,e3,e4,e5⟩:=hc;rw[e1];have pt:=Yi t;refine⟨(VU ⟨3,0,((p1.f.length+QB t-1:Nat):Int),0⟩ p2).2,?_,?_,?_,?_,?_⟩
    ·simp only[VU];rw[e2,Qu,JP,h2]<;>rfl
    ·simp only[VU];rw[e2,h2];simp[X0]
    ·simp only[VU];rw[e3,h3]
    ·simp only[VU];rw[e4,h1]
    ·simp only[VU];omega
  | false=>
   obtain⟨h1,rfl⟩:=s1;have s2:=EQ (b:=40) (by omega) {p with r:=Zx p.r};cases VH:Kd [40] {p with r:=Zx p.r}with
   | mk b p2=>
   rw[VH] at s2;have YE:=rU p.r;cases b with
   | true=>
    obtain⟨h5,h6,h7,h8⟩:=s2;simp only[pm] at h5 h6 h7 h8;rw[Es ix n hk VH,h5];have hc:=zP (op:=[124,124]) (o:=5) (mk:=.or) (λp=>zO (by omega) p) (λa b k=>rfl) (λa b=>rfl) (zP (op:=[38,38]) (o:=4) (mk:=.and) (λp=>zO (by omega) p) (λa b k=>rfl) (λa b=>rfl) ih dD) (vu dD) p2;unfold KG;rw[if_neg (by decide),Qf rfl];unfold gg;cases ho:Yt [124,124] Fm.or (Yt [38,38] Fm.and (KG ix n)) (XU p2.r).1 with
    | none=>
     rw[ho] at hc;simp only[po] at hc ⊢;rw[hc]
    | some q=>
     obtain⟨t,v,ts⟩:=q;rw[ho] at hc;obtain⟨p3,e1,e2,e3,e4,e5⟩:=hc;rw[e1];simp only;have s3:=EQ (b:=41) (by omega) p3;cases iW:Kd [41] p3 with
     | mk b p4=>
     rw[iW] at s3;cases b with
     | true=>
      obtain⟨g1,g2,g3,g4⟩:=s3;have ht:=QN Prod.fst (e4.symm.trans g1);have kN:=QN Prod.snd (e4.symm.trans g1);simp only at ht kN;rw[ht,DJ,Qf rfl,List.tail_cons];refine⟨_,by rw[h6],by rw[g2,e2,h6],by rw[g3,e3,h7],?_,?_⟩
      ·rw[h5];simp only;rw[kN]
      ·omega
     | false=>
      obtain⟨g1,rfl⟩:=s3;rw[e4] at g1;simp only at g1;rw[if_neg g1]<;>rfl
   | false=>
    obtain⟨h5,rfl⟩:=s2;simp only[pm] at h5;rw[Et ix n hk VH];simp only[eQA];have hl:=pm p.r;cases ht:Zx p.r with
    | nil=>
     rw[ht,vo] at hl;rw[<-hl]<;>rfl
    | cons x r=>
     have hx:=vr ht;rw[ht] at hl YE;rw[<-hl] at h1 h5 ⊢;by_cases jj:Vm (x::r)=0
     ·rw[Qf jj];have h4:=eQB jj;have:KG ix (n+1) (XU (x::r)).1=none:=by
       by_cases h2:x=40∨x=41∨x=33
       ·rw[mr h2] at h1 h5 ⊢;simp only[DJ,ne_eq,Option.some.injEq,List.cons.injEq,and_true] at h1 h5;have:x=41:=by omega
        subst this;rfl
       ·by_cases h3:(x=38∨x=124)/\r.head? =some x
        ·cases r with
         | nil=>simp at h3
         | cons y r=>
          simp at h3;obtain⟨h3,rfl⟩:=h3;rw[pk h3];rcases h3 with rfl | rfl<;>rfl
        ·rw[zN hx h2 h3 h4]<;>rfl
      rw[this]<;>rfl
     ·rw[if_neg jj];obtain⟨Xy,J3⟩:=OJ jj;rw[J3,eQy,eQz];have lQa:=vq (l:=r) Xy;rw[lQa] at h1 h5 hl ⊢;simp only[DJ,ne_eq,Option.some.injEq] at h1 h5;unfold KG;rw[if_neg h1,if_neg h5,Qf (eQC Xy)];have Xd:((x::r).dropWhile X6).length<p.r.length:=by
       rw[zL Xy];have:=zM X6 r;simp only[Xj] at YE;omega
      unfold j0;by_cases m0:(x::r).takeWhile X6=Y5
      ·rw[Qf m0,Qf m0];exact⟨_,rfl,rfl,by simp,by simp only;rw[<-hl],Xd⟩
      ·rw[if_neg m0,if_neg m0];by_cases kN:(x::r).takeWhile X6=bW
       ·rw[Qf kN,Qf kN];exact⟨_,rfl,rfl,by simp,by simp only;rw[<-hl],Xd⟩
       ·rw[if_neg kN,if_neg kN];exact⟨_,rfl,rfl,rfl,by simp only;rw[<-hl],Xd⟩
theorem eQD (ix:List Nat->Option Nat)(n:Nat):vt (gg ix n) (sr ix n):=
 zP (op:=[124,124]) (o:=5) (mk:=.or) (λp=>zO (by omega) p) (λ_ _ _=>rfl) (λ_ _=>rfl) (zP (op:=[38,38]) (o:=4) (mk:=.and) (λp=>zO (by omega) p) (λ_ _ _=>rfl) (λ_ _=>rfl) (OK ix n) (ss ix n)) (vu (ss ix n))
theorem eQE (l:List Nat):Zx l=[]↔XU l=([],true):=by
 rw[<-pm l];cases h:Zx l with
 | nil=>simp[vo]
 | cons x r=>
  have hx:=vr h;simp only[reduceCtorEq,false_iff];intro e;by_cases h2:x=40∨x=41∨x=33
  ·rw[mr h2] at e;simp at e
  ·by_cases h3:(x=38∨x=124)/\r.head? =some x
   ·cases r with
    | nil=>simp at h3
    | cons y r=>
     simp at h3;obtain⟨h3,rfl⟩:=h3;rw[pk h3] at e;simp at e
   ·by_cases h4:aD x=true
    ·rw[vq h4] at e;simp at e
    ·rw[zN hx h2 h3 (by simpa using h4)] at e;simp at e
def zQ (names:List (List Nat))(s:List Nat):List Fz×Int:=if ZM names then
  if(XU s).2 then match sr (Jo names) (s.length+1) (XU s).1 with
   | none=>([],31)
   | some (t,u,ts)=>if ts≠ [] then([],31)else if u then([],3)else if 512<QB t then([],2)else(X0 t 0,0)
  else([],31)
 else([],1)
theorem OL (names:List (List Nat))(s:List Nat):cR names s=zQ names s:=by
 unfold cR zQ;by_cases hn:ZM names=true
 ·rw[Qf hn,Qf hn];have hc:=eQD (Jo names) (s.length+1) ⟨s,[],false⟩;simp only at hc;cases ho:sr (Jo names) (s.length+1) (XU s).1 with
  | none=>
   rw[ho] at hc;simp only[po] at hc;rw[hc];simp
  | some q=>
   obtain⟨t,v,ts⟩:=q;rw[ho] at hc;obtain⟨p2,e1,e2,e3,e4,e5⟩:=hc;rw[e1];simp only at e2 e3 e4 ⊢;simp only[bP,Z5,Bool.false_or] at e2 e3;have he:=eQE p2.r;rw[e4] at he;by_cases hf:(XU s).2=true
   ·rw[Qf hf];rw[hf] at he;simp only[Prod.mk.injEq,and_true] at he;rw[e3,e2,JP];by_cases fL:ts=[]
    ·rw[if_neg (λh=>h (he.2 fL)),if_neg (c:=ts≠ []) (λh=>h fL)]
    ·rw[Qf (λh=>fL (he.1 h)),Qf fL]
   ·rw[if_neg hf,Qf (λh=>hf (by have:=QN Prod.snd (he.1 h);simpa using this))]
 ·rw[if_neg hn,if_neg hn]
end
section
def VF (b:Bool)(ts:List (List Nat)):List (List Nat):=if b then [40]::ts++ [[41]] else ts
def Z6 (nm:List (List Nat)):Fm->List (List Nat)
 | .c b=>[if b then Y5 else bW]
 | .v n=>[nm[n]?.getD []]
 | .not a=>[33]::VF (decide (ZF a<2)) (Z6 nm a)
 | .and a b=>VF (decide (ZF a<1)) (Z6 nm a)++ [38,38]::VF (decide (ZF b<2)) (Z6 nm b)
 | .or a b=>Z6 nm a++ [124,124]::VF (decide (ZF b<1)) (Z6 nm b)
theorem eQF (nm:List (List Nat)):∀t:Fm,0<(Z6 nm t).length
 | .c _=>Nat.one_pos
 | .v _=>Nat.one_pos
 | .not _=>Nat.succ_pos _
 | .and _ _=>by simp only[Z6,Qu,Xj];omega
 | .or _ _=>by simp only[Z6,Qu,Xj];omega
def Stop (l:List Nat):Prop:=∀b r,l=b::r->X6 b=false
theorem Stop.nil:Stop []:=λ_ _ h=>by cases h
theorem Stop.cons {b:Nat}{r:List Nat}(h:X6 b=false):Stop (b::r):=λ_ _ e=>by cases e;exact h
def mt (w:List Nat):Prop:=(∃b r,w=b::r/\aD b=true)/\∀x∈w,X6 x=true
theorem eQG {w rest:List Nat}(h:∀x∈w,X6 x=true)(hs:Stop rest):(w++rest).takeWhile X6=w/\(w++rest).dropWhile X6=rest:=by
 induction w with
 | nil=>
  cases rest with
  | nil=>exact⟨rfl,rfl⟩
  | cons b r=>
   have:=hs b r rfl;rw[bP,Wj,oI,if_neg (by rw[this];decide),if_neg (by rw[this];decide)];exact⟨rfl,rfl⟩
 | cons x w ih=>
  obtain⟨h1,h2⟩:=ih (λy hy=>h y (by simp[hy]));have hx:=h x (by simp);rw[Jb,Wj,oI,Qf hx,Qf hx,h1,h2];exact⟨rfl,rfl⟩
theorem eQH {w rest:List Nat}(h:mt w)(hs:Stop rest):XU (w++rest)=(w::(XU rest).1,(XU rest).2):=by
 obtain⟨⟨b,r,rfl,hb⟩,hall⟩:=h;obtain⟨h1,h2⟩:=eQG hall hs;rw[Jb] at h1 h2 ⊢;rw[vq hb,h1,h2]
theorem eQI {w:List Nat}(h:mt w):ER w=true:=by
 obtain⟨⟨b,r,rfl,hb⟩,_⟩:=h;exact hb
theorem ES {s:List Nat}(h:WZ s=true):mt s/\s≠Y5/\s≠bW:=by
 unfold WZ at h;rw[Vl] at h;obtain⟨h1,h2,h3,h4⟩:=h;cases s with
 | nil=>exact Q8 rfl h1
 | cons b r=>
  obtain⟨hl,he⟩:=OJ (x:=b) (r:=r) (by rw[h2];simp);rw[he] at h2;refine⟨⟨⟨b,r,rfl,hl⟩,λx hx=>?_⟩,h3,h4⟩;have:(b::r).takeWhile X6=b::r:=(List.takeWhile_prefix X6).eq_of_length h2;rw[<-this] at hx;exact(Y2.1 (List.all_takeWhile (p:=X6) (l:=b::r))) x hx
theorem OM:mt Y5:=⟨⟨116,_,rfl,by decide⟩,by decide⟩
theorem ON:mt bW:=⟨⟨102,_,rfl,by decide⟩,by decide⟩
structure NmOk (nm:List (List Nat)) (ix:List Nat->Option Nat):Prop where
 word:∀k,k<nm.length->WZ (nm[k]?.getD [])=true
 ix:∀k,k<nm.length->ix (nm[k]?.getD [])=some k
def LexS (s:List Nat)(ts:List (List Nat)):Prop:=∀rest,Stop rest->XU (s++rest)=(ts++(XU rest).1,(XU rest).2)
theorem LexS.par {s:List Nat}{ts:List (List Nat)}(h:LexS s ts)(b:Bool):LexS (Yf b s) (VF b ts):=by
 cases b with
 | false=>exact h
 | true=>
  intro rest hs;show XU (40::s++ [41]++rest)=_;rw[Jb,Jb,mr (by omega),Je,List.singleton_append,h (41::rest) (Stop.cons (by decide)),mr (by omega)];simp[VF]
theorem LexS.word {w:List Nat}(h:mt w):LexS w [w]:=λ_ hs=>eQH h hs
theorem su {nm:List (List Nat)}{ix:List Nat->Option Nat}(hn:NmOk nm ix):∀(t:Fm),VarsIn nm.length t->LexS (Jg nm t) (Z6 nm t)
 | .c b,_=>by
  cases b with
  | true=>exact LexS.word OM
  | false=>exact LexS.word ON
 | .v n,h=>LexS.word (ES (hn.word n h)).1
 | .not a,h=>by
  have ih:=(su hn a h).par (decide (ZF a<2));intro rest hs;show XU (33::Yf _ _++rest)=_;rw[Jb,mr (by omega),ih rest hs]<;>rfl
 | .and a b,h=>by
  have iha:=(su hn a h.1).par (decide (ZF a<1));have ihb:=(su hn b h.2).par (decide (ZF b<2));intro rest hs;show XU (Yf _ _++ [32,38,38,32]++Yf _ _++rest)=_;rw[Je,Je,show [32,38,38,32]++(Yf (decide (ZF b<2)) (Jg nm b)++rest)=32::38::38::32::(Yf (decide (ZF b<2)) (Jg nm b)++rest) from rfl];rw[iha _ (Stop.cons (b:=32) (by decide)),vp (by omega),pk (by omega),vp (by omega),ihb rest hs];simp[Z6]
 | .or a b,h=>by
  have iha:=su hn a h.1;have ihb:=(su hn b h.2).par (decide (ZF b<1));intro rest hs;show XU (Yf (decide (ZF a<0)) _++ [32,124,124,32]++Yf _ _++rest)=_;rw[show decide (ZF a<0)=false from X4 (by omega)];show XU (Jg nm a++ [32,124,124,32]++Yf _ _++rest)=_;rw[Je,Je,show [32,124,124,32]++(Yf (decide (ZF b<1)) (Jg nm b)++rest)=32::124::124::32::(Yf (decide (ZF b<1)) (Jg nm b)++rest) from rfl];rw[iha _ (Stop.cons (b:=32) (by decide)),vp (by omega),pk (by omega),vp (by omega),ihb rest hs];simp[Z6]
theorem eQJ {nm:List (List Nat)}{ix:List Nat->Option Nat}(hn:NmOk nm ix)(t:Fm)(h:VarsIn nm.length t):XU (ZG nm 0 t)=(Z6 nm t,true):=by
 have:=su hn t h [] Stop.nil;unfold ZG;rw[show decide (ZF t<0)=false from X4 (by omega)];simp only[YH,vo] at this;exact this
theorem OO {op:List Nat}{mk:Fm->Fm->Fm}{opt:List (List Nat)->Option (Fm×Bool×List (List Nat))}(hl:j5 opt):∀(m m':Nat)(a:Fm)(u:Bool)(ts:List (List Nat)),ts.length<m->ts.length<m'->Yh op mk opt m a u ts=Yh op mk opt m' a u ts
 | 0,_,_,_,_,h,_=>by omega
 | _+1,0,_,_,_,_,h=>by omega
 | m+1,m'+1,a,u,ts,h,h'=>by
  unfold Yh;split
  ·cases ho:opt ts.tail with
   | none=>rfl
   | some q=>
    obtain⟨b,v,Z3⟩:=q;have:=hl _ _ _ _ ho;rw[yM] at this;exact OO hl m m' _ _ Z3 (by omega) (by omega)
  ·rfl
theorem zR {op:List Nat}{mk:Fm->Fm->Fm}{opt:List (List Nat)->Option (Fm×Bool×List (List Nat))}{m:Nat}{a:Fm}{u:Bool}{ts:List (List Nat)}(h:ts.head? ≠some op):Yh op mk opt (m+1) a u ts=some (a,u,ts):=by
 unfold Yh;rw[if_neg h]
theorem OP {op:List Nat}{mk:Fm->Fm->Fm}{opt:List (List Nat)->Option (Fm×Bool×List (List Nat))}(hl:j5 opt){m:Nat}{a b:Fm}{u v:Bool}{ts Z3:List (List Nat)}(h:opt ts=some (b,v,Z3)):Yh op mk opt ((op::ts).length+m) a u (op::ts)=Yh op mk opt (Z3.length+1) (mk a b) (u||v) Z3:=by
 have:=hl _ _ _ _ h;have e:Yh op mk opt ((ts.length+m)+1) a u (op::ts)=Yh op mk opt (ts.length+m) (mk a b) (u||v) Z3:=by
  rw[Yh,DJ,Qf rfl,List.tail_cons,h]
 rw[Xj,show ts.length+1+m=(ts.length+m)+1 by omega,e];exact OO hl _ _ _ _ _ (by omega) (by omega)
theorem eQK (ix:List Nat->Option Nat)(b:Bool):j0 ix (if b then Y5 else bW)=(.c b,false):=by cases b<;>rfl
theorem eQL {nm:List (List Nat)}{ix:List Nat->Option Nat}(hn:NmOk nm ix){n:Nat}(h:n<nm.length):j0 ix (nm[n]?.getD [])=(.v n,false):=by
 obtain⟨_,h1,h2⟩:=ES (hn.word n h);unfold j0;rw[if_neg h1,if_neg h2,hn.ix n h]<;>rfl
theorem eQM {w:List Nat}(h:mt w):w≠ [33]/\w≠ [40]/\w≠ [41]/\w≠ [38,38]/\w≠ [124,124]:=by
 obtain⟨⟨b,r,rfl,hb⟩,_⟩:=h;refine⟨?_,?_,?_,?_,?_⟩<;>(intro e;cases e;exact Q8 hb (by decide))
theorem OQ {ix:List Nat->Option Nat}{n:Nat}{w:List Nat}{rest:List (List Nat)}(h:mt w):KG ix (n+1) (w::rest)=some ((j0 ix w).1,(j0 ix w).2,rest):=by
 have:=eQM h;unfold KG;rw[if_neg this.1,if_neg this.2.1,Qf (eQI h)]
abbrev sw (ix:List Nat->Option Nat)(n:Nat):=Yt [38,38] Fm.and (KG ix n)
abbrev OR (ix:List Nat->Option Nat)(n:Nat):=Yt [124,124] Fm.or (sw ix n)
theorem eQN (ix:List Nat->Option Nat)(n:Nat):j5 (sw ix n):=vu (ss ix n)
theorem OS {op:List Nat}{mk:Fm->Fm->Fm}{opt:List (List Nat)->Option (Fm×Bool×List (List Nat))}{ts Z3:List (List Nat)}{a:Fm}{u:Bool}(h:opt ts=some (a,u,Z3)):Yt op mk opt ts=Yh op mk opt (Z3.length+1) a u Z3:=by
 unfold Yt;rw[h]
def ET (nm:List (List Nat))(ix:List Nat->Option Nat)(n:Nat):Prop:=∀(t:Fm)(rest:List (List Nat)),VarsIn nm.length t->(VF (decide (ZF t<2)) (Z6 nm t)).length<=n->KG ix n (VF (decide (ZF t<2)) (Z6 nm t)++rest)=some (t,false,rest)
theorem OT {nm:List (List Nat)}{ix:List Nat->Option Nat}{n:Nat}(F:ET nm ix n):∀(t:Fm)(rest:List (List Nat)),VarsIn nm.length t->(VF (decide (ZF t<1)) (Z6 nm t)).length<=n->
  sw ix n (VF (decide (ZF t<1)) (Z6 nm t)++rest)=Yh [38,38] .and (KG ix n) (rest.length+1) t false rest:=by
 intro t;have base:∀t,decide (ZF t<1)=decide (ZF t<2)->∀rest,VarsIn nm.length t->(VF (decide (ZF t<1)) (Z6 nm t)).length<=n->sw ix n (VF (decide (ZF t<1)) (Z6 nm t)++rest)=Yh [38,38] .and (KG ix n) (rest.length+1) t false rest:=by
  intro t e rest hv hl;rw[e] at hl ⊢;exact OS (F t rest hv hl)
 induction t with
 | c b=>exact base _ rfl
 | v k=>exact base _ rfl
 | not a _=>exact base _ rfl
 | or a b _ _=>exact base _ rfl
 | and a b iha _=>
  intro rest hv hl;have e:VF (decide (ZF (.and a b)<1)) (Z6 nm (.and a b))=VF (decide (ZF a<1)) (Z6 nm a)++ [38,38]::VF (decide (ZF b<2)) (Z6 nm b):=rfl;rw[e,Qu,Xj] at hl;rw[e,Je,Jb,iha _ hv.1 (by omega)];have hf:=F b rest hv.2 (by omega);exact OP (ss ix n) (m:=1) hf
theorem OU {nm:List (List Nat)}{ix:List Nat->Option Nat}{n:Nat}(F:ET nm ix n):∀(t:Fm)(rest:List (List Nat)),VarsIn nm.length t->(Z6 nm t).length<=n->rest.head? ≠some [38,38]->
  OR ix n (Z6 nm t++rest)=Yh [124,124] .or (sw ix n) (rest.length+1) t false rest:=by
 intro t;have base:∀t,decide (ZF t<1)=false->∀rest,VarsIn nm.length t->(Z6 nm t).length<=n->rest.head? ≠some [38,38]->OR ix n (Z6 nm t++rest)=Yh [124,124] .or (sw ix n) (rest.length+1) t false rest:=by
  intro t e rest hv hl hs;have:=OT F t rest hv (by rw[e];exact hl);rw[e,zR hs] at this;exact OS this
 induction t with
 | c b=>exact base _ rfl
 | v k=>exact base _ rfl
 | not a _=>exact base _ rfl
 | and a b _ _=>exact base _ rfl
 | or a b iha _=>
  intro rest hv hl hs;have e:Z6 nm (.or a b)=Z6 nm a++ [124,124]::VF (decide (ZF b<1)) (Z6 nm b):=rfl;rw[e,Qu,Xj] at hl;rw[e,Je,Jb,iha _ hv.1 (by omega) (by simp)];have hf:=OT F b rest hv.2 (by omega);rw[zR hs] at hf;exact OP (eQN ix n) (m:=1) hf
theorem OV {nm:List (List Nat)}{ix:List Nat->Option Nat}(hn:NmOk nm ix):∀n,ET nm ix n
 | 0=>λt rest hv hl=>by
  have:∀(b:Bool),0<(VF b (Z6 nm t)).length:=by
   intro b;have:=eQF nm t;cases b with
   | true=>simp[VF]
   | false=>exact this
  have:=this (decide (ZF t<2));omega
 | n+1=>λt rest hv hl=>by
  have F:=OV hn n;by_cases h2:ZF t<2
  ·rw[XR h2] at hl ⊢;have e:VF true (Z6 nm t)++rest=[40]::(Z6 nm t++ [41]::rest):=by simp[VF]
   have cE:(Z6 nm t).length<=n:=by simp[VF] at hl;omega
   rw[e];have ho:=OU F t ([41]::rest) hv cE (by simp);rw[zR (by simp)] at ho;unfold KG;have Ko:Yt [124,124] Fm.or (Yt [38,38] Fm.and (KG ix n)) (Z6 nm t++ [41]::rest)=some (t,false,[41]::rest):=ho;rw[if_neg (by decide),Qf rfl,Ko];simp
  ·rw[X4 h2] at hl ⊢;cases t with
   | c b=>
    show KG ix (n+1) ((if b then Y5 else bW)::rest)=_;rw[OQ (by cases b;exact ON;exact OM),eQK]
   | v k=>
    show KG ix (n+1) (nm[k]?.getD []::rest)=_;rw[OQ (ES (hn.word k hv)).1,eQL hn hv]
   | not a=>
    have cE:(VF (decide (ZF a<2)) (Z6 nm a)).length<=n:=by
     have:(VF false (Z6 nm (.not a))).length=(VF (decide (ZF a<2)) (Z6 nm a)).length+1:=rfl;omega
    show KG ix (n+1) ([33]::(VF (decide (ZF a<2)) (Z6 nm a)++rest))=_;unfold KG;rw[Qf rfl,F a rest hv cE]
   | and a b=>exact Q8 (show ZF (.and a b)<2 by simp[ZF]) h2
   | or a b=>exact Q8 (show ZF (.or a b)<2 by simp[ZF]) h2
theorem eQO {nm:List (List Nat)}{ix:List Nat->Option Nat}(hn:NmOk nm ix)(t:Fm)(hv:VarsIn nm.length t){n:Nat}(hl:(Z6 nm t).length<=n):sr ix n (Z6 nm t)=some (t,false,[]):=by
 have:=OU (OV hn n) t [] hv hl (by simp);rw[YH,zR (by simp)] at this;exact this
theorem zS:∀(n:Nat)(l:List Nat),(VX n l).1.length<=l.length
 | 0,l=>XJ _
 | n+1,[]=>XJ _
 | n+1,b::l=>by
  have i1:=zS n l;have i2:=zS n l.tail;rw[yM] at i2;simp only[VX,Xj];split
  ·omega
  ·split
   ·simp only[Xj];omega
   ·split
    ·rename_i h;cases l with
     | nil=>simp at h
     | cons y l=>simp only[Xj] at i2 ⊢;omega
    ·split
     ·rename_i h;have i3:=zS n (l.dropWhile X6);have:=zM X6 l;rw[zL h];simp only[Xj];omega
     ·simp
theorem eQP {nm:List (List Nat)}(hn:ZM nm=true)(hi:NmOk nm (Jo nm))(t:Fm)(hv:VarsIn nm.length t)(hs:QB t<=512):cR nm (ZG nm 0 t)=(X0 t 0,0):=by
 rw[OL];unfold zQ;have hl:=eQJ hi t hv;have ZO:(Z6 nm t).length<=(ZG nm 0 t).length+1:=by
  have:=zS (ZG nm 0 t).length (ZG nm 0 t);have e:VX (ZG nm 0 t).length (ZG nm 0 t)=(Z6 nm t,true):=hl;rw[e] at this;exact Nat.le_succ_of_le this
 rw[Qf hn,hl];simp only;rw[Qf trivial,eQO hi t hv ZO];simp only;rw[if_neg (c:=([]:List (List Nat))≠ []) (λh=>h rfl),if_neg (by decide),if_neg (by omega)]
end
section
theorem OW (a:ByteArray)(v:Value):∀m:List (ByteArray×Value),a∈m.map Prod.fst->(Zd a v m).map Prod.fst=m.map Prod.fst
 | [],h=>by simp at h
 | (b,u)::m,h=>by
  unfold Zd;by_cases e:a=b
  ·subst e;rw[Qf rfl]<;>rfl
  ·rw[if_neg e,Y0,OW a v m (by simp only[Y0,QZ] at h;exact h.resolve_left e)];rfl
theorem EU (a:ByteArray)(v:Value):∀m:List (ByteArray×Value),a∉m.map Prod.fst->(Zd a v m).map Prod.fst=m.map Prod.fst++ [a]
 | [],_=>rfl
 | (b,u)::m,h=>by
  simp only[Y0,QZ,not_or] at h;unfold Zd;rw[if_neg h.1,Y0,EU a v m h.2]<;>rfl
theorem OX (a:ByteArray)(v:Value)(m:List (ByteArray×Value))(h:a∈m.map Prod.fst):(Zd a v m).length=m.length:=by
 have:=QN List.length (OW a v m h);simpa using this
theorem OY (a:ByteArray)(v:Value)(m:List (ByteArray×Value))(h:a∉m.map Prod.fst):(Zd a v m).length=m.length+1:=by
 have:=QN List.length (EU a v m h);simpa using this
theorem OZ:∀(l:List (List Nat))(i:Nat)(m:List (ByteArray×Value)),(Yr l i m).length<=m.length+l.length
 | [],_,m=>QC _
 | s::l,i,m=>by
  have:=OZ l (i+1) (Zd (Qe s) (.int .i64 (i:Nat)) m);simp only[Yr,Xj];by_cases h:Qe s∈m.map Prod.fst
  ·have:=OX _ (.int .i64 (i:Nat)) m h;omega
  ·have:=OY _ (.int .i64 (i:Nat)) m h;omega
theorem O0:∀(l:List (List Nat))(i:Nat)(m:List (ByteArray×Value)),(∀s∈l,∀x∈s,x<256)->((Yr l i m).length=m.length+l.length↔l.Nodup/\∀s∈l,Qe s∉m.map Prod.fst)
 | [],_,m,_=>by simp[Yr]
 | s::l,i,m,hb=>by
  have hs:=hb s (by simp);have ih:=O0 l (i+1) (Zd (Qe s) (.int .i64 (i:Nat)) m) (λt ht=>hb t (by simp[ht]));have ZO:=OZ l (i+1) (Zd (Qe s) (.int .i64 (i:Nat)) m);simp only[Yr,Xj];by_cases h:Qe s∈m.map Prod.fst
  ·have hl:=OX _ (.int .i64 (i:Nat)) m h;constructor
   ·intro e;omega
   ·intro e;exact Q8 h (e.2 s (by simp))
  ·have hl:=OY _ (.int .i64 (i:Nat)) m h;have hk:=EU _ (.int .i64 (i:Nat)) m h;rw[show m.length+(l.length+1)=(Zd (Qe s) (.int .i64 (i:Nat)) m).length+l.length by omega,ih,hk];simp only[yN,Xw,not_or,QZ];constructor
   ·rintro⟨h1,h2⟩;refine⟨⟨λhm=>(h2 s hm).2.1 rfl,h1⟩,λt ht=>?_⟩;rcases ht with rfl | ht
    ·exact h
    ·exact(h2 t ht).1
   ·rintro⟨⟨h1,h2⟩,h3⟩;refine⟨h2,λt ht=>⟨h3 t (.inr ht),λe=>?_,by simp⟩⟩;have:=Jc (hb t (by simp[ht])) hs e;subst this;exact h1 ht
theorem O1 {names:List (List Nat)}(hb:Ks names):ZM names=true↔names.all WZ=true/\names.Nodup/\names.length<=64:=by
 have:=O0 names 0 [] (λs hs=>(hb s hs).1);simp only[Z5,bQ,yI,Jf,not_false_eq_true,implies_true,and_true] at this;unfold ZM;rw[Vl,this]
theorem O2 (l:List Nat):∀(names:List (List Nat))(i:Nat)(QR:Option Nat),l∉names->gi l names i QR=QR
 | [],_,_,_=>rfl
 | s::names,i,QR,h=>by
  simp only[QZ,not_or] at h;rw[gi,if_neg (λe=>h.1 e.symm),O2 l names (i+1) QR h.2]
theorem O3:∀(names:List (List Nat))(k i:Nat)(QR:Option Nat)(l:List Nat),names.Nodup->names[k]? =some l->gi l names i QR=some (i+k)
 | [],k,i,QR,l,_,h=>by simp at h
 | s::names,0,i,QR,l,hn,h=>by
  simp at h;subst h;rw[gi,Qf rfl,O2 _ _ _ _ (yN.1 hn).1]<;>rfl
 | s::names,k+1,i,QR,l,hn,h=>by
  have h':names[k]? =some l:=by simpa using h
  rw[gi,O3 names k (i+1) _ l (yN.1 hn).2 h'];congr 1;omega
theorem eQQ {names:List (List Nat)}(hb:Ks names)(h:ZM names=true):NmOk names (Jo names):=by
 obtain⟨h1,h2,h3⟩:=(O1 hb).1 h;refine⟨λk hk=>?_,λk hk=>?_⟩
 ·rw[Xn hk];exact Y2.1 h1 _ (My hk)
 ·rw[Xn hk];have:=O3 names k 0 none names[k] h2 (Xn hk);rw[bQ] at this;exact this
theorem sA:∀(t:Fm)(pre Wf:List Fz),RepF (pre++X0 t pre.length++Wf) t (pre.length+QB t-1)
 | .c b,pre,Wf=>by
  show(pre++ [_]++Wf)[pre.length+1-1]? =_;simp
 | .v n,pre,Wf=>by
  show(pre++ [_]++Wf)[pre.length+1-1]? =_;simp
 | .not a,pre,Wf=>by
  have pa:=Yi a;refine⟨pre.length+QB a-1,by simp only[QB];omega,?_,?_⟩
  ·simp only[QB,X0];rw[Je,YI (by omega),Je,YI (by rw[JP];omega),JP,show pre.length+(QB a+1)-1-pre.length-QB a=0 by omega];rfl
  ·have:=sA a pre ([⟨3,0,((pre.length+QB a-1:Nat):Int),0⟩]++Wf);simpa [X0] using this
 | .and a b,pre,Wf=>by
  have pa:=Yi a;have pb:=Yi b;refine⟨pre.length+QB a-1,pre.length+QB a+QB b-1,by simp only[QB];omega,by simp only[QB];omega,?_,?_,?_⟩
  ·simp only[QB,X0];rw[Je,YI (by omega),Je,YI (by rw[Qu,JP,JP];omega),Qu,JP,JP,show pre.length+(QB a+QB b+1)-1-pre.length-(QB a+QB b)=0 by omega];rfl
  ·have:=sA a pre (X0 b (pre.length+QB a)++ [⟨4,0,((pre.length+QB a-1:Nat):Int),((pre.length+QB a+QB b-1:Nat):Int)⟩]++Wf);simpa [X0] using this
  ·have:=sA b (pre++X0 a pre.length) ([⟨4,0,((pre.length+QB a-1:Nat):Int),((pre.length+QB a+QB b-1:Nat):Int)⟩]++Wf);rw[Qu,JP] at this;simpa [X0] using this
 | .or a b,pre,Wf=>by
  have pa:=Yi a;have pb:=Yi b;refine⟨pre.length+QB a-1,pre.length+QB a+QB b-1,by simp only[QB];omega,by simp only[QB];omega,?_,?_,?_⟩
  ·simp only[QB,X0];rw[Je,YI (by omega),Je,YI (by rw[Qu,JP,JP];omega),Qu,JP,JP,show pre.length+(QB a+QB b+1)-1-pre.length-(QB a+QB b)=0 by omega];rfl
  ·have:=sA a pre (X0 b (pre.length+QB a)++ [⟨5,0,((pre.length+QB a-1:Nat):Int),((pre.length+QB a+QB b-1:Nat):Int)⟩]++Wf);simpa [X0] using this
  ·have:=sA b (pre++X0 a pre.length) ([⟨5,0,((pre.length+QB a-1:Nat):Int),((pre.length+QB a+QB b-1:Nat):Int)⟩]++Wf);rw[Qu,JP] at this;simpa [X0] using this
theorem EV (t:Fm):fu (X0 t 0)=t:=by
 refine Ey ?_;have:=sA t [] [];rw[JP];simpa using this
theorem pq {α:Type}{l m:List α}{i:Nat}{x:α}(h:(l++m)[i]? =some x):(i<l.length/\l[i]? =some x)∨(l.length<=i/\m[i-l.length]? =some x):=by
 by_cases hi:i<l.length
 ·rw[Wh hi] at h;exact .inl ⟨hi,h⟩
 ·rw[YI (by omega)] at h;exact .inr ⟨by omega,h⟩
theorem j6 {α:Type}{y x:α}{i:Nat}(h: [y][i]? =some x):i=0/\x=y:=by
 cases i with
 | zero=>simp at h;exact⟨rfl,h.symm⟩
 | succ i=>simp at h
theorem eQR {j i:Nat}(h:j<i):Va ⟨3,0,(j:Nat),0⟩ i:=by
 refine⟨show 0<=Zj 3 by decide,rfl,?_,rfl⟩;show if 0<Zj 3 then _ else _
 rw[Qf (by decide)];simp only;omega
theorem eQS {j k i:Nat}(h:j<i)(h':k<i):Va ⟨4,0,(j:Nat),(k:Nat)⟩ i:=by
 refine⟨show 0<=Zj 4 by decide,rfl,?_,?_⟩
 ·show if 0<Zj 4 then _ else _
  rw[Qf (by decide)];simp only;omega
 ·show if 1<Zj 4 then _ else _
  rw[Qf (by decide)];simp only;omega
theorem eQT {j k i:Nat}(h:j<i)(h':k<i):Va ⟨5,0,(j:Nat),(k:Nat)⟩ i:=by
 refine⟨show 0<=Zj 5 by decide,rfl,?_,?_⟩
 ·show if 0<Zj 5 then _ else _
  rw[Qf (by decide)];simp only;omega
 ·show if 1<Zj 5 then _ else _
  rw[Qf (by decide)];simp only;omega
theorem sB:∀(t:Fm)(k i:Nat)(x:Fz),VarsIn 64 t->(X0 t k)[i]? =some x->Va x (k+i)
 | .c b,k,i,x,_,h=>by
  obtain⟨rfl,rfl⟩:=j6 h;cases b<;>exact⟨by decide,rfl,rfl,rfl⟩
 | .v n,k,i,x,hv,h=>by
  obtain⟨rfl,rfl⟩:=j6 h;refine⟨show 0<=Zj 2 by decide,?_,rfl,rfl⟩;have:n<64:=hv;rw[Qf rfl];simp only;omega
 | .not a,k,i,x,hv,h=>by
  have pa:=Yi a;rcases pq h with⟨hi,h⟩ | ⟨hi,h⟩
  ·exact sB a k i x hv h
  ·rw[JP] at hi h;obtain⟨e,rfl⟩:=j6 h;exact eQR (by omega)
 | .and a b,k,i,x,hv,h=>by
  have pa:=Yi a;have pb:=Yi b;rcases pq h with⟨hi,h⟩ | ⟨hi,h⟩
  ·rcases pq h with⟨hi,h⟩ | ⟨hi,h⟩
   ·exact sB a k i x hv.1 h
   ·rw[JP] at hi h;have:=sB b (k+QB a) (i-QB a) x hv.2 h
    rwa [show k+QB a+(i-QB a)=k+i by omega] at this
  ·rw[Qu,JP,JP] at hi h;obtain⟨e,rfl⟩:=j6 h;exact eQS (by omega) (by omega)
 | .or a b,k,i,x,hv,h=>by
  have pa:=Yi a;have pb:=Yi b;rcases pq h with⟨hi,h⟩ | ⟨hi,h⟩
  ·rcases pq h with⟨hi,h⟩ | ⟨hi,h⟩
   ·exact sB a k i x hv.1 h
   ·rw[JP] at hi h;have:=sB b (k+QB a) (i-QB a) x hv.2 h
    rwa [show k+QB a+(i-QB a)=k+i by omega] at this
  ·rw[Qu,JP,JP] at hi h;obtain⟨e,rfl⟩:=j6 h;exact eQT (by omega) (by omega)
theorem vv (l m:List Fz):JC (l++m)=JC l++JC m:=by simp[JC]
theorem eQU (j:Nat):JC [⟨3,0,(j:Nat),0⟩]=[j]:=by
 show Ys _++ []=_;unfold Ys;rw[show Zj (Fz.o ⟨3,0,(j:Nat),0⟩)=1 from rfl];simp
theorem eQV (j k:Nat):JC [⟨4,0,(j:Nat),(k:Nat)⟩]=[j,k]:=by
 show Ys _++ []=_;unfold Ys;rw[show Zj (Fz.o ⟨4,0,(j:Nat),(k:Nat)⟩)=2 from rfl];simp
theorem eQW (j k:Nat):JC [⟨5,0,(j:Nat),(k:Nat)⟩]=[j,k]:=by
 show Ys _++ []=_;unfold Ys;rw[show Zj (Fz.o ⟨5,0,(j:Nat),(k:Nat)⟩)=2 from rfl];simp
theorem sC:∀(t:Fm)(k j:Nat),(JC (X0 t k)).count j=if k<=j/\j+1<k+QB t then 1 else 0
 | .c b,k,j=>by
  rw[if_neg (by simp only[QB];omega)];cases b<;>rfl
 | .v n,k,j=>by
  rw[if_neg (by simp only[QB];omega)];rfl
 | .not a,k,j=>by
  have pa:=Yi a;show _=if k<=j/\j+1<k+(QB a+1)then 1 else 0
  simp only[X0];rw[vv,DL,eQU,sC a k j,List.count_singleton];simp only[beq_iff_eq];by_cases h1:k<=j/\j+1<k+QB a
  ·rw[Qf h1,if_neg (by omega),Qf (by omega)]
  ·rw[if_neg h1];by_cases h2:k+QB a-1=j
   ·rw[Qf h2,Qf (by omega)]
   ·rw[if_neg h2,if_neg (by omega)]
 | .and a b,k,j=>by
  have pa:=Yi a;have pb:=Yi b;show _=if k<=j/\j+1<k+(QB a+QB b+1)then 1 else 0
  simp only[X0];rw[vv,vv,DL,DL,eQV,sC a k j,sC b _ j,yK,List.count_singleton];simp only[beq_iff_eq];by_cases h1:k<=j/\j+1<k+QB a
  ·rw[Qf h1,if_neg (by omega),if_neg (by omega),if_neg (by omega),Qf (by omega)]
  ·rw[if_neg h1];by_cases h2:k+QB a<=j/\j+1<k+QB a+QB b
   ·rw[Qf h2,if_neg (by omega),if_neg (by omega),Qf (by omega)]
   ·rw[if_neg h2];by_cases h3:k+QB a-1=j
    ·rw[if_neg (by omega),Qf h3,Qf (by omega)]
    ·rw[if_neg h3];by_cases h4:k+QB a+QB b-1=j
     ·rw[Qf h4,Qf (by omega)]
     ·rw[if_neg h4,if_neg (by omega)]
 | .or a b,k,j=>by
  have pa:=Yi a;have pb:=Yi b;show _=if k<=j/\j+1<k+(QB a+QB b+1)then 1 else 0
  simp only[X0];rw[vv,vv,DL,DL,eQW,sC a k j,sC b _ j,yK,List.count_singleton];simp only[beq_iff_eq];by_cases h1:k<=j/\j+1<k+QB a
  ·rw[Qf h1,if_neg (by omega),if_neg (by omega),if_neg (by omega),Qf (by omega)]
  ·rw[if_neg h1];by_cases h2:k+QB a<=j/\j+1<k+QB a+QB b
   ·rw[Qf h2,if_neg (by omega),if_neg (by omega),Qf (by omega)]
   ·rw[if_neg h2];by_cases h3:k+QB a-1=j
    ·rw[if_neg (by omega),Qf h3,Qf (by omega)]
    ·rw[if_neg h3];by_cases h4:k+QB a+QB b-1=j
     ·rw[Qf h4,Qf (by omega)]
     ·rw[if_neg h4,if_neg (by omega)]
theorem O4 {t:Fm}(hv:VarsIn 64 t)(hs:QB t<=512):FV (X0 t 0):=by
 refine⟨by rw[JP];exact hs,by rw[JP];exact Yi t,λi x hx=>by have:=sB t 0 i x hv hx;rwa [bQ] at this,λi hi=>?_⟩;rw[sC,Qf];rw[JP] at hi;omega
instance decVars (n:Nat):∀t:Fm,Decidable (VarsIn n t)
 | .c _=>isTrue trivial
 | .v k=>inferInstanceAs (Decidable (k<n))
 | .not a=>decVars n a
 | .and a b=> @instDecidableAnd _ _ (decVars n a) (decVars n b)
 | .or a b=> @instDecidableAnd _ _ (decVars n a) (decVars n b)
theorem VarsIn.mono {n m:Nat}(h:n<=m):∀{t:Fm},VarsIn n t->VarsIn m t
 | .c _,_=>trivial
 | .v _,hv=>VQ hv h
 | .not a,hv=>VarsIn.mono (t:=a) h hv
 | .and _ _,hv=>⟨VarsIn.mono h hv.1,VarsIn.mono h hv.2⟩
 | .or _ _,hv=>⟨VarsIn.mono h hv.1,VarsIn.mono h hv.2⟩
theorem sE:∀(t:Fm)(n k:Nat),VarsIn n t->mf n (X0 t k)
 | .c b,n,k,_=>λx hx ho=>by
  simp only[X0,QL] at hx;subst hx;cases b<;>simp at ho
 | .v j,n,k,hv=>λx hx ho=>by
  simp only[X0,QL] at hx;subst hx;have:j<n:=hv;simp only;omega
 | .not a,n,k,hv=>λx hx ho=>by
  simp only[X0,Xw,QL] at hx;rcases hx with hx | rfl
  ·exact sE a n k hv x hx ho
  ·simp at ho
 | .and a b,n,k,hv=>λx hx ho=>by
  simp only[X0,Xw,QL] at hx;rcases hx with(hx | hx) | rfl
  ·exact sE a n k hv.1 x hx ho
  ·exact sE b n _ hv.2 x hx ho
  ·simp at ho
 | .or a b,n,k,hv=>λx hx ho=>by
  simp only[X0,Xw,QL] at hx;rcases hx with(hx | hx) | rfl
  ·exact sE a n k hv.1 x hx ho
  ·exact sE b n _ hv.2 x hx ho
  ·simp at ho
end
end
noncomputable section
section
def ZX (x:Fz)(f:List Fz):Nat×List Fz:=if f.length<=512 then(f.length,f++ [x])else(f.length-1,f)
def Kj (bld:Int->List Fz->Nat×List Fz)(op v:Int)(pos:Bool)(num:Int)(f:List Fz):Nat×List Fz:=
 let p:=ZX ⟨2,v,0,0⟩ f
 let a:=if pos then p else ZX ⟨3,0,(p.1:Nat),0⟩ p.2
 if op=4/\num=1 then a else
  let c:=bld num a.2
  ZX ⟨op,0,(a.1:Nat),(c.1:Nat)⟩ c.2
def Zm (
     nd:List Br):Nat->Int->List Fz->Nat×List Fz
 | 0,_,f=>(0,f)
 | m+1,n,f=>if n<2∨512<f.length then ZX ⟨min n 1,0,0,0⟩ f else
   match nd[(n-2).toNat]? with
   | none=>(0,f)
   | some b=>
    if b.l=0 then Kj (Zm nd m) 4 b.v true b.h f else
    if b.h=0 then Kj (Zm nd m) 4 b.v false b.l f else
    if b.h=1 then Kj (Zm nd m) 5 b.v true b.l f else
    if b.l=1 then Kj (Zm nd m) 5 b.v false b.h f else
     let hi:=Kj (Zm nd m) 4 b.v true b.h f
     let lo:=Kj (Zm nd m) 4 b.v false b.l hi.2
     ZX ⟨5,0,(hi.1:Nat),(lo.1:Nat)⟩ lo.2
structure Cn (w:World) (base x:Nat) (NA:Option Addr) (nn nc:Nat) (nd:List Br) (root:Int) (A:Option Addr) (c:Nat) (f:List Fz):Prop where
 blk:Blk w x 277 [.slice NA nn nc,.int .i64 root,.slice A f.length c]
 own:Own w base 280 4 A f.length c (l6 f)
 lt:x<base
 top:base<=w.heap.size
 nds:SB w NA nn nc nd
 row:∀ad,NA=some ad->0<nn->ad.block<base/\ad.block≠x
 lim:f.length<=513
def CnTo (w:World)(base x:Nat)(NA:Option Addr)(nn nc:Nat)(nd:List Br)(root:Int)(A:Option Addr)(f:List Fz)(w':World):Prop:=∃A' c',Cn w' base x NA nn nc nd root A' c' f/\Mod (RdS x A) w w'/\Moved w A A'
section
variable {base x:Nat} {NA:Option Addr} {nn nc:Nat} {nd:List Br} {root:Int}
theorem Cn.ext {w w':World}{A:Option Addr}{c:Nat}{f:List Fz}(h:Cn w base x NA nn nc nd root A c f)(k:Ext w w'):Cn w' base x NA nn nc nd root A c f:=
 ⟨h.blk.ext k,h.own.ext k,h.lt,Zf h.top k.size,h.nds.ext k,h.row,h.lim⟩
theorem CnTo.step {w w1 w2:World}{A A1:Option Addr}{f:List Fz}(h:CnTo w1 base x NA nn nc nd root A1 f w2)(hm:Mod (RdS x A) w w1)(hv:Moved w A A1):CnTo w base x NA nn nc nd root A f w2:=by
 obtain⟨A2,c2,h2,XQ,J2⟩:=h;exact⟨A2,c2,h2,RdS.trans hm hv XQ,hv.trans J2 hm.size⟩
theorem Cn.keep {w w':World}{A:Option Addr}{c:Nat}{f:List Fz}(h:Cn w base x NA nn nc nd root A c f)(hm:Mod (RdS x A) w w'):SB w' NA nn nc nd:=by
 refine⟨h.nds.1.modS hm ?_,h.nds.2⟩;rintro h0 i ⟨ad,rfl,rfl⟩ hi;obtain⟨r1,r2⟩:=h.row ad rfl h0;rcases hi with hi | hi
 ·exact r2 hi
 ·have:=(h.own.rows _ hi).1;omega
theorem pr (A:Option Addr)(c:Nat)(f:List Fz)(z:Fz)(w:World)(h:Cn w base x NA nn nc nd root A c f):
  Fn Tryz.prog 221 [.pointer (some ⟨x,0,none⟩),.agg z.cells.toArray] w (λv w'=>v= .int .i64 ((ZX z f).1:Nat)/\CnTo w base x NA nn nc nd root A (ZX z f).2 w'):=by
 refine QD (c:={cQ6 with cuts:=[]}) Qa Tryz.func221 rfl rfl rfl ?_;refine new (λw1 Qd Q3 Qh=>?_);have h1:=h.ext Qd;have dD:=h.lim;have VN:=h.own.rows;have Xc:=h.lt;have lv:=h.top;have cC:¬Qj A x:=λhr=>by have:=(VN x hr).1;omega
 refine Qp h1.blk rfl ?_;refine Qy (λhl=>?_) (λhl=>?_)
 ·have ZO:f.length<=512:=by omega
  have e:ZX z f=(f.length,f++ [z]):=by unfold ZX;rw[Qf ZO]
  rw[e];refine XC Qa (Mod (Qj A) w1) 8 [(true,0),(true,1),(true,2),(true,3),(true,4),(true,5),(false,6),(false,7)] (by kernel_rfl) (Mod.of_ext _ (Ext.drew w1)) ?_;refine QH (v:=.slice A f.length c) (λw' Qb=>by rw[(h1.blk.mod Qb cC).cell];rfl) ?_;have Gw:¬Qj A w.heap.size:=λhr=>by have:=(VN _ hr).2;omega
  refine Xq (vs:=z.cells) rfl (λw' Qb j v hj=>by rw[(Qh.mod Qb Gw).cell];exact hj) ?_;refine XI Qa [z.cells] rfl rfl rfl rfl rfl ⟨rfl,rfl,⟨⟩⟩ rfl (λcs h=>by simp only[QL] at h;subst h;rfl) rfl (by decide) (by decide) ?_;intro w2 Qg Zb Qw;have Xs:=(Ext.drew w1).trans Qg;have h2:=h1.ext Xs;refine⟨Mod.of_ext _ Xs,?_⟩;have kG:Sl w2 4 (some ⟨w1.drew.heap.size,0,none⟩) 1 1 z.cells:=Sl.own (sz:=4) (n:=1) Qw (QC _) (by decide) (by simp[Fz.cells]);refine JB Qa rfl rfl rfl rfl rfl (by decide) rfl rfl ⟨_,rfl⟩ rfl rfl h2.own kG (by intro u hu;simp[Fz.cells] at hu;rcases hu with rfl | rfl | rfl | rfl<;>rfl) (by unfold maxLen;omega) (by show _*32<=_;omega) h2.top ?_;intro A' c' w3 XD mT A0;have Kf:Mod (Qj A) w1 w3:=(Mod.of_ext (Qj A) Xs).trans XD (λi hi=>.inl hi);refine⟨Kf,?_⟩;refine XP (h1.blk.mod Kf cC) (by simp) (λw4 X1 Q4=>?_);refine Qp Q4 rfl ?_;have hz:=Xs.size;have KH:Mod (RdS x A) w w4:=((Mod.of_ext (RdS x A) Qd).trans Kf (λi hi=>.inl (.inr hi))).trans X1 (λi hi=>.inl (.inl hi));refine Qi ((f.length:Nat):Int) (by omega) (by omega) ?_;refine⟨rfl,A',c',⟨?_,?_,Xc,Zf lv KH.size,h.keep KH,h.row,?_⟩,KH,A0.back (Zf Qd.size hz)⟩
  ·show Blk w4 x _ [_,_,.slice A' (f++ [z]).length c'];rw[Qu];exact Q4
  ·show Own w4 base _ 4 A' (f++ [z]).length c' (l6 (f++ [z]));rw[Qu,NR];exact mT.mod X1 (λk hk e=>by have:=(mT.rows k hk).1;omega)
  ·show(f++ [z]).length<=513;rw[Qu];simp only[Xj,Z5];omega
 ·have ZO:¬f.length<=512:=by omega
  have e:ZX z f=(f.length-1,f):=by unfold ZX;rw[if_neg ZO]
  rw[e];refine Qp h1.blk rfl ?_;refine Qi ((f.length-1:Nat):Int) (by omega) (by omega) ?_;exact⟨rfl,A,c,h1,Mod.of_ext _ Qd,Moved.refl _ _⟩
def O5 (base x:Nat)(NA:Option Addr)(nn nc:Nat)(nd:List Br)(root:Int)(m:Nat):Prop:=∀(n:Int)(f:List Fz)(A:Option Addr)(c:Nat)(w:World),Cn w base x NA nn nc nd root A c f->0<=n->n<m->n<nn+2->
 Fn Tryz.prog 192 [.pointer (some ⟨x,0,none⟩),.int .i64 n] w (λv w'=>v= .int .i64 ((Zm nd m n f).1:Nat)/\CnTo w base x NA nn nc nd root A (Zm nd m n f).2 w')
theorem sF (m:Nat)(H:O5 base x NA nn nc nd root m)(op v:Int)(pos:Bool)(n:Int)(f:List Fz)(A:Option Addr)(c:Nat)(w:World)(h:Cn w base x NA nn nc nd root A c f)(h0:0<=n)(hm:n<m)(hn:n<nn+2):
  Fn Tryz.prog 222 [.pointer (some ⟨x,0,none⟩),.int .i64 op,.int .i64 v,.bool pos,.int .i64 n] w (λu w'=>u= .int .i64 ((Kj (Zm nd m) op v pos n f).1:Nat)/\CnTo w base x NA nn nc nd root A (Kj (Zm nd m) op v pos n f).2 w'):=by
 refine QD (c:={cQ7 with cuts:=[2]}) Qa Tryz.func222 rfl rfl rfl ?_;refine call (pr A c f ⟨2,v,0,0⟩ w h) ?_;rintro _ w1 ⟨rfl,A1,c1,h1,Zo,kJ⟩;refine iD [] Qa [11] (λa:Nat=>[.int .i64 a]) (λa w'=>a=(if pos then ZX ⟨2,v,0,0⟩ f else ZX ⟨3,0,((ZX ⟨2,v,0,0⟩ f).1:Nat),0⟩ (ZX ⟨2,v,0,0⟩ f).2).1/\CnTo w base x NA nn nc nd root A (if pos then ZX ⟨2,v,0,0⟩ f else ZX ⟨3,0,((ZX ⟨2,v,0,0⟩ f).1:Nat),0⟩ (ZX ⟨2,v,0,0⟩ f).2).2 w') ?_ ?_
 ·refine lX (Wn (λhp=>?_) (λhp=>?_))
  ·subst hp;exact⟨_,rfl,rfl,A1,c1,h1,Zo,kJ⟩
  ·subst hp;refine call (pr A1 c1 _ ⟨3,0,((ZX ⟨2,v,0,0⟩ f).1:Nat),0⟩ w1 h1) ?_;rintro _ w2 ⟨rfl,h2⟩;exact⟨_,rfl,rfl,h2.step Zo kJ⟩
 rintro a w2 ⟨ha,A2,c2,h2,XQ,J2⟩;unfold Kj;generalize hq:(if pos then ZX ⟨2,v,0,0⟩ f else ZX ⟨3,0,((ZX ⟨2,v,0,0⟩ f).1:Nat),0⟩ (ZX ⟨2,v,0,0⟩ f).2)=q at*;subst ha;simp only[hq];by_cases xR:op=4/\n=1
 ·rw[Qf xR];refine Kc xR.1 ?_;refine Kc xR.2 ?_;exact⟨rfl,A2,c2,h2,XQ,J2⟩
 ·rw[if_neg xR];by_cases h4:op=4
  ·refine Kc h4 ?_;refine XB (λh1=>xR ⟨h4,h1⟩) ?_;refine call (H n q.2 A2 c2 w2 h2 h0 hm hn) ?_;rintro _ w3 ⟨rfl,A3,c3,h3,XD,am⟩;refine call (pr A3 c3 _ ⟨op,0,(q.1:Nat),((Zm nd m n q.2).1:Nat)⟩ w3 h3) ?_;rintro _ w4 ⟨rfl,h4⟩;exact⟨rfl,(h4.step XD am).step XQ J2⟩
  ·refine XB h4 ?_;refine call (H n q.2 A2 c2 w2 h2 h0 hm hn) ?_;rintro _ w3 ⟨rfl,A3,c3,h3,XD,am⟩;refine call (pr A3 c3 _ ⟨op,0,(q.1:Nat),((Zm nd m n q.2).1:Nat)⟩ w3 h3) ?_;rintro _ w4 ⟨rfl,h4⟩;exact⟨rfl,(h4.step XD am).step XQ J2⟩
theorem O6 (We:W3 nd):∀m,O5 base x NA nn nc nd root m
 | 0=>λn f A c w _ h0 hm _=>by omega
 | m+1=>λn f A c w h h0 hm hn=>by
  have ih:=O6 We m;have dD:=h.lim;have KB:nd.length=nn:=h.nds.2;refine QD (c:={cQP with cuts:=[]}) Qa Tryz.func192 rfl rfl rfl ?_;by_cases h1:n<2
  ·have e:Zm nd (m+1) n f=ZX ⟨min n 1,0,0,0⟩ f:=by rw[Zm,Qf (.inl h1)]
   rw[e];refine XH h1 ?_;refine norm (m:=min n 1) (by rw[ZW];split<;>split<;>omega) ?_;refine call (pr A c f ⟨min n 1,0,0,0⟩ w h) ?_;rintro _ w1 ⟨rfl,h1⟩;exact⟨rfl,h1⟩
  refine Q9 h1 ?_;refine Qp h.blk rfl ?_;by_cases h2:512<f.length
  ·have e:Zm nd (m+1) n f=ZX ⟨min n 1,0,0,0⟩ f:=by rw[Zm,Qf (.inr h2)]
   rw[e];refine XH (by omega) ?_;refine norm (m:=min n 1) (by rw[ZW];split<;>split<;>omega) ?_;refine call (pr A c f ⟨min n 1,0,0,0⟩ w h) ?_;rintro _ w1 ⟨rfl,h1⟩;exact⟨rfl,h1⟩
  refine Q9 (by omega) ?_;have hj:(n-2).toNat<nd.length:=by omega
  have hx:=Xn hj;generalize nd[(n-2).toNat]=y at hx;obtain⟨x1,x2,x3,x4⟩:=We _ _ hx;have e:Zm nd (m+1) n f=(if y.l=0 then Kj (Zm nd m) 4 y.v true y.h f else
    if y.h=0 then Kj (Zm nd m) 4 y.v false y.l f else
    if y.h=1 then Kj (Zm nd m) 5 y.v true y.l f else
    if y.l=1 then Kj (Zm nd m) 5 y.v false y.h f else
     ZX ⟨5,0,((Kj (Zm nd m) 4 y.v true y.h f).1:Nat),((Kj (Zm nd m) 4 y.v false y.l (Kj (Zm nd m) 4 y.v true y.h f).2).1:Nat)⟩ (Kj (Zm nd m) 4 y.v false y.l (Kj (Zm nd m) 4 y.v true y.h f).2).2):=by
   rw[Zm,if_neg (by omega),hx]
  rw[e];refine Qx h.blk rfl ?_;refine Qi (((n-2).toNat:Nat):Int) (by omega) (by have:=h.nds.1.le;have:=h.nds.1.cap;simp only[maxLen] at this;omega) ?_;refine Zw Ws h.nds rfl (by omega) (λad z hy jm=>?_);have ib:z=y:=Option.some.inj (hy.symm.trans hx);subst ib;refine Kr (vs:=z.cells) rfl jm ?_;refine new (λw1 Qd Q3 Qh=>?_);refine Qz Qh rfl (sc rfl) (λw2 gE Zb Ku=>?_);have Qg:Ext w w2:=X9 Qd Qh gE;have m3:Mod (RdS x A) w w2:=Mod.of_ext _ Qg;have Ji:=h.ext Qg;have ie:¬RdS x A w.heap.size:=λe=>by
   have:=h.blk.lt;rcases e with e | e
   ·omega
   ·have:=(h.own.rows _ e).2;omega
  refine Qp Ku rfl ?_;refine Zh (λc1=>?_) (λc1=>?_)
  ·rw[Qf c1];refine Qx Ku rfl ?_;refine Qp Ku rfl ?_;refine call (sF m ih 4 z.v true z.h f A c w2 Ji x3 (by omega) (by omega)) ?_;rintro _ w3 ⟨rfl,h3⟩;exact⟨rfl,h3.step m3 (Moved.refl _ _)⟩
  rw[if_neg c1];refine Qp Ku rfl ?_;refine Zh (λc2=>?_) (λc2=>?_)
  ·rw[Qf c2];refine Qx Ku rfl ?_;refine Qp Ku rfl ?_;refine call (sF m ih 4 z.v false z.l f A c w2 Ji x1 (by omega) (by omega)) ?_;rintro _ w3 ⟨rfl,h3⟩;exact⟨rfl,h3.step m3 (Moved.refl _ _)⟩
  rw[if_neg c2];refine Qp Ku rfl ?_;refine Zh (λc3=>?_) (λc3=>?_)
  ·rw[Qf c3];refine Qx Ku rfl ?_;refine Qp Ku rfl ?_;refine call (sF m ih 5 z.v true z.l f A c w2 Ji x1 (by omega) (by omega)) ?_;rintro _ w3 ⟨rfl,h3⟩;exact⟨rfl,h3.step m3 (Moved.refl _ _)⟩
  rw[if_neg c3];refine Qp Ku rfl ?_;refine Zh (λc4=>?_) (λc4=>?_)
  ·rw[Qf c4];refine Qx Ku rfl ?_;refine Qp Ku rfl ?_;refine call (sF m ih 5 z.v false z.h f A c w2 Ji x3 (by omega) (by omega)) ?_;rintro _ w3 ⟨rfl,h3⟩;exact⟨rfl,h3.step m3 (Moved.refl _ _)⟩
  rw[if_neg c4];refine Qx Ku rfl ?_;refine Qp Ku rfl ?_;refine call (sF m ih 4 z.v true z.h f A c w2 Ji x3 (by omega) (by omega)) ?_;rintro _ w3 ⟨rfl,A3,c3,h3,XD,am⟩;have Vf:=Ku.mod XD ie;refine Qx Vf rfl ?_;refine Qp Vf rfl ?_;refine call (sF m ih 4 z.v false z.l _ A3 c3 w3 h3 x1 (by omega) (by omega)) ?_;rintro _ w4 ⟨rfl,A4,c4,h4,X1,mV⟩;refine call (pr A4 c4 _ ⟨5,0,((Kj (Zm nd m) 4 z.v true z.h f).1:Nat),((Kj (Zm nd m) 4 z.v false z.l (Kj (Zm nd m) 4 z.v true z.h f).2).1:Nat)⟩ w4 h4) ?_;rintro _ w5 ⟨rfl,h5⟩;exact⟨rfl,(((h5.step X1 mV).step XD am)).step m3 (Moved.refl _ _)⟩
end
end
section
def W5 (nd:List Br)(root:Int):List Fz×Int:=if XG nd root=0 then(if 512<(Zm nd (root.toNat+1) root []).2.length then([],2)else((Zm nd (root.toNat+1) root []).2,0))else([],XG nd root)
def sG (names:List (List Nat))(nd:List Br)(root:Int):List Nat×Int:=if ZM names then(if(W5 nd root).2=0 then jP names (W5 nd root).1 else([],(W5 nd root).2))else([],1)
theorem of_fn (A:Option Addr)(n c:Nat)(nd:List Br)(root:Int)(w:World)(h:SB w A n c nd):
  Fn Tryz.prog 133 [Xm A n c root] w (Ex w (W5 nd root)):=by
 have Xd:=h.2;refine QD (c:={cQe with cuts:=[]}) Qa Tryz.func133 rfl rfl rfl ?_;refine new (λw1 Qd Q3 Qh=>?_);refine Qs Qh rfl ?_;refine call (zI A n c nd root w1 (h.ext Qd)) ?_;rintro v w2 ⟨rfl,Qg⟩;have Q7:=Qd.trans Qg;have Qw:=Qh.ext Qg;refine bg (λc1=>?_) (λc1=>?_)
 ·refine⟨none,0,0,?_,Q7,?_⟩
  ·unfold W5;rw[if_neg c1]
  ·unfold W5;rw[if_neg c1];exact SlS.nil _
 obtain⟨fS,hv⟩:=fw.1 c1;have We:=hv.wf;refine Qs Qw rfl ?_;refine new (λw3 Qk JI Qt=>?_);have QW:=Q7.trans Qk;have jQz:=Qg.size;have hC:Cn w3 w3.heap.size w2.heap.size A n c nd root none 0 []:=⟨Qt,Own.nil _ _ _ _,by omega,QC _,h.ext QW,λad e hn=>by
  have h1:=SB.lt (h.ext Q7) ad e hn;exact⟨by omega,by omega⟩,by simp⟩
 refine Qp (Qw.ext Qk) rfl ?_;have r0:=hv.2.1;have r1:=hv.2.2.1;refine call (O6 We (root.toNat+1) root [] none 0 w3 hC r0 (by omega) (by omega)) ?_;rintro v w4 ⟨rfl,A4,c4,GX,X1,mV⟩;have Qq:Ext w w4:=X1.ext QW (λi hi=>by
  rcases hi with rfl | ⟨_,e,_⟩
  ·have:=Q7.size;omega
  ·cases e)
 refine Qp GX.blk rfl ?_;refine Qy (λc2=>?_) (λc2=>?_)
 ·have e:W5 nd root=([],2):=by unfold W5;rw[Qf c1,Qf (by omega)]
  rw[e];exact⟨none,0,0,rfl,Qq,SlS.nil _⟩
 ·have e:W5 nd root=((Zm nd (root.toNat+1) root []).2,0):=by unfold W5;rw[Qf c1,if_neg (by omega)]
  rw[e];refine Qp GX.blk rfl ?_;exact⟨A4,_,c4,rfl,Qq,GX.own.sl,rfl⟩
theorem eQX (names:List (List Nat))(A NA:Option Addr)(n c nn nc:Nat)(nd:List Br)(root:Int)(w:World)(h:Sl w 1 A n c (XW names))(hb:Ks names)(hN:SB w NA nn nc nd)
  (hl:(ZG names 0 (fu (W5 nd root).1)).length<=140737488355328):
  Fn Tryz.prog 86 [.slice A n c,Xm NA nn nc root] w (Oj w (sG names nd root)):=by
 refine QD (c:={c86 with cuts:=[]}) Qa Tryz.func86 rfl rfl rfl ?_;refine new (λw1 Qd Q3 Qh=>?_);refine call (Ep names A n c w1 (h.ext Qd) hb) ?_;rintro v w2 ⟨v1,rfl,Qg,_⟩;have Q7:=Qd.trans Qg;cases Zq:ZM names with
 | false=>
  refine Xa rfl ?_;exact⟨by unfold sG;rw[Zq];rfl,Q7⟩
 | true=>
  refine Q5 rfl ?_;refine Qs (Qh.ext Qg) rfl ?_;refine call (of_fn NA nn nc nd root w2 (hN.ext Q7)) ?_;rintro v w3 ⟨F,m,cF,rfl,Qk,hF⟩;have QW:=Q7.trans Qk;have e:sG names nd root=if(W5 nd root).2=0 then jP names (W5 nd root).1 else([],(W5 nd root).2):=by unfold sG;rw[Qf Zq]
  refine bg (λc1=>?_) (λc1=>?_)
  ·exact⟨by rw[e,if_neg c1];rfl,QW⟩
  ·refine call (dQ5 names A F n c m cF _ w3 (h.ext QW) hb hF (λ_ _=>hl)) ?_;rintro v w4 ⟨rfl,Qq⟩;exact⟨by rw[e,Qf c1],QW.trans Qq⟩
end
end
section
section
theorem EW {w1 w2 w:World}{g:Nat}{r:(List Br×Int)×Int}{A:Option Addr}{n c:Nat}(hE:Ext w w1)(hM:Mod (·=g) w1 w2)(hg:w.heap.size<=g)(hs:SB w1 A n c r.1.1)(hr:∀i,Qj A i->g<i):
  Ext w w2/\SB w2 A n c r.1.1/\∀i,Qj A i->w.heap.size<=i:=
 ⟨hM.ext hE (λi hi=>by omega),⟨hs.1.modS hM (λ_ i hi e=>by have:=hr i hi;omega),hs.2⟩,λi hi=>by have:=hr i hi;omega⟩
end
section
theorem eQY {names:List (List Nat)}(h:names.all (λs=>s.all (λx=>decide (x<256))&&decide (s.length<=100))=true):Ks names:=λs hs=>by
 have:=Y2.1 h s hs;rw[JL,Vl] at this;exact⟨λx hx=>by have:=Y2.1 this.1 x hx;simpa using this,by omega⟩
theorem eQZ {k:Int}(h0:0<=k)(h1:k<=63):Rd0 [⟨k,0,1⟩]:=λj b hb=>by
 obtain⟨rfl,rfl⟩:=j6 hb;refine⟨h0,h1,lN 0,?_,(by decide:(0:Int)<=1),?_,(by decide:(0:Int)≠1),by simp,?_,?_⟩
 ·simp only;omega
 ·simp only;omega
 ·rw[gl (by simp only;omega)];simp only;omega
 ·rw[gl (by simp only;omega)];simp only;omega
theorem zT {k:Int}(h0:0<=k)(h1:k<=63):VD [⟨k,0,1⟩] 2:=⟨eQZ h0 h1,by decide,by simp,rfl⟩
end
section
end
def VY:List (List Nat):=[[65],[66],[67],[68],[108,111,110,103,95,110,97,109,101],[95],[120,49],[84,82,85,69],[116],[102],[116,114,117],[102,97,108,115,101,101]]
theorem eQ0 (k:Nat)(w:World)(hk:k<=12):
  Fn Tryz.prog 51 [.int .i64 k] w (λv w'=>∃A c,v= .slice A k c/\Ext w w'/\Sl w' 1 A k c (XW (VY.take k))):=by
 refine QD (c:={c51 with cuts:=[]}) Qa Tryz.func51 rfl rfl rfl ?_;refine XI Qa (VY.map (λs=>[.string (Qe s)])) rfl rfl rfl rfl rfl ⟨rfl,rfl,rfl,rfl,rfl,rfl,rfl,rfl,rfl,rfl,rfl,rfl,rfl,rfl,rfl,rfl,rfl,rfl,rfl,rfl,rfl,rfl,rfl,rfl,⟨⟩⟩ rfl (λcs h=>by simp only[Z4] at h;obtain⟨s,_,rfl⟩:=h;rfl) rfl (by decide) (by decide) ?_;intro w1 Qd Q3 Qh;refine jI Qa rfl rfl rfl rfl rfl rfl hk ?_;have hS:Sl w1 1 (some ⟨w.heap.size,0,none⟩) 12 12 (XW VY):=Sl.own' (n:=12) Qh rfl (by decide);have:=hS.take (m:=k) hk;rw[ir] at this;exact⟨_,12,rfl,Qd,by rw[show XW (VY.take k)=(XW VY).take k by simp[XW]];exact this⟩
theorem eQ1 (k:Nat)(hk:k<=12):Ks (VY.take k)/\ZM (VY.take k)=true/\(VY.take k).length=k:=by
 have hb:Ks VY:=eQY (by decide);have hb':Ks (VY.take k):=λs hs=>hb s (fa hs)
 have hl:(VY.take k).length=k:=by rw[Ye];show min k 12=k;omega
 refine⟨hb',(O1 hb').2 ⟨?_,List.Nodup.sublist (List.take_sublist k VY) (by decide),by omega⟩,hl⟩;have:VY.all WZ=true:=by decide
 exact Y2.2 (λs hs=>Y2.1 this s (fa hs))
def Y9 (v:Nat)(pos:Bool):Fm:=if pos then .v v else .not (.v v)
def Yj (nd:List Br):Nat->Int->Fm
 | 0,_=>.c false
 | m+1,n=>if n<2 then .c (decide (n=1))else match nd[(n-2).toNat]? with
  | none=>.c false
  | some b=>if b.h<2/\b.l<2 then Y9 b.v.toNat (decide (b.h=1))
   else if b.l=0 then .and (Y9 b.v.toNat true) (Yj nd m b.h)
   else if b.h=0 then .and (Y9 b.v.toNat false) (Yj nd m b.l)
   else if b.h=1 then .or (Y9 b.v.toNat true) (Yj nd m b.l)
   else if b.l=1 then .or (Y9 b.v.toNat false) (Yj nd m b.h)
   else .or (.and (Y9 b.v.toNat true) (Yj nd m b.h)) (.and (Y9 b.v.toNat false) (Yj nd m b.l))
def cf (nd:List Br)(n:Int):Fm:=Yj nd (n.toNat+1) n
theorem O7 {nd:List Br}{m:Nat}{n:Int}(h:n<2):Yj nd (m+1) n= .c (decide (n=1)):=by rw[Yj,Qf h]
theorem O8 {nd:List Br}{m:Nat}{n:Int}{b:Br}(h:¬n<2)(hb:nd[(n-2).toNat]? =some b):Yj nd (m+1) n=if b.h<2/\b.l<2 then Y9 b.v.toNat (decide (b.h=1))
   else if b.l=0 then .and (Y9 b.v.toNat true) (Yj nd m b.h)
   else if b.h=0 then .and (Y9 b.v.toNat false) (Yj nd m b.l)
   else if b.h=1 then .or (Y9 b.v.toNat true) (Yj nd m b.l)
   else if b.l=1 then .or (Y9 b.v.toNat false) (Yj nd m b.h)
   else .or (.and (Y9 b.v.toNat true) (Yj nd m b.h)) (.and (Y9 b.v.toNat false) (Yj nd m b.l)):=by rw[Yj,if_neg h,hb]
def evF:Fm->(Nat->Bool)->Bool
 | .c b,_=>b
 | .v n,e=>e n
 | .not a,e=> !evF a e
 | .and a b,e=>evF a e&&evF b e
 | .or a b,e=>evF a e||evF b e
theorem pu (v:Nat)(pos:Bool)(e:Nat->Bool):evF (Y9 v pos) e=(e v==pos):=by
 cases pos<;>cases h:e v<;>simp[Y9,evF,h]
theorem O9 {nd:List Br}(h:Rd0 nd)(e:Nat->Bool):∀(m:Nat)(n:Int),0<=n->n<m->n<nd.length+2->evF (Yj nd m n) e=ev nd n e
 | 0,n,h0,hm,_=>by omega
 | m+1,n,h0,hm,hn=>by
  by_cases h2:n<2
  ·rw[O7 h2,JD h2]<;>rfl
  obtain⟨b,hb⟩:=Y8 h2 hn;obtain⟨b1,b2,b3,b4,b5,b6,b7,b8,b9,aM⟩:=h _ _ hb;have ihl:=O9 h e m b.l b3 (by omega) (by omega);have ihh:=O9 h e m b.h b5 (by omega) (by omega);rw[O8 h2 hb,bZ h.wf h2 hb];split
  ·rename_i hc;rw[pu,JD hc.1,JD hc.2];have:b.l=1↔¬b.h=1:=by omega
   by_cases hh:b.h=1
   ·rw[XR hh,X4 (λhl=>(this.1 hl) hh)];cases e b.v.toNat<;>rfl
   ·rw[X4 hh,XR (this.2 hh)];cases e b.v.toNat<;>rfl
  ·split
   ·rename_i hl;simp only[evF];rw[pu,ihh,JD (n:=b.l) (by omega),hl];cases e b.v.toNat<;>simp
   ·split
    ·rename_i hh;simp only[evF];rw[pu,ihl,JD (n:=b.h) (by omega),hh];cases e b.v.toNat<;>simp
    ·split
     ·rename_i hh;simp only[evF];rw[pu,ihl,JD (n:=b.h) (by omega),hh];cases e b.v.toNat<;>simp
     ·split
      ·rename_i hl;simp only[evF];rw[pu,ihh,JD (n:=b.l) (by omega),hl];cases e b.v.toNat<;>simp
      ·simp only[evF];rw[pu,pu,ihh,ihl];cases e b.v.toNat<;>simp
theorem pv (x:Fz){f:List Fz}(h:f.length<=513):(ZX x f).2.length=min 513 (f.length+1):=by
 unfold ZX;split
 ·simp;omega
 ·simp only;omega
theorem vw (x:Fz){f:List Fz}(h:f.length+1<=513):ZX x f=(f.length,f++ [x]):=by unfold ZX;rw[Qf (by omega)]
structure BldOk (bld:List Fz->Nat×List Fz) (t:Fm):Prop where
 len:∀f,f.length<=513->(bld f).2.length=min 513 (f.length+QB t)
 eq:∀f,f.length+QB t<=513->bld f=(f.length+QB t-1,f++X0 t f.length)
def vx (v:Int)(pos:Bool)(f:List Fz):Nat×List Fz:=let p:=ZX ⟨2,v,0,0⟩ f;if pos then p else ZX ⟨3,0,(p.1:Nat),0⟩ p.2
theorem eQ2 {v:Int}(hv:0<=v)(pos:Bool):BldOk (vx v pos) (Y9 v.toNat pos):=by
 have e:(⟨2,v,0,0⟩:Fz)=⟨2,(v.toNat:Nat),0,0⟩:=by rw[DG hv]
 cases pos with
 | true=>exact⟨λf hf=>by show(ZX _ f).2.length=_;rw[pv _ hf];rfl,λf hf=>by show ZX _ f=_;rw[vw _ hf,e];rfl⟩
 | false=>
  refine⟨λf hf=>?_,λf hf=>?_⟩
  ·show(ZX _ (ZX _ f).2).2.length=min 513 (f.length+2);rw[pv _ (by rw[pv _ hf];omega),pv _ hf];omega
  ·have QY:f.length+2<=513:=hf;show ZX _ (ZX _ f).2=_;rw[vw _ (f:=f) (by omega)];simp only;rw[vw _ (by simp;omega),e];simp[Y9,QB,X0]
theorem EX {b1 b2:List Fz->Nat×List Fz}{t1 t2:Fm}(h1:BldOk b1 t1)(h2:BldOk b2 t2)(op:Int)(mk:Fm->Fm->Fm)(hs:∀a b,QB (mk a b)=QB a+QB b+1)
  (hp:∀a b k,X0 (mk a b) k=X0 a k++X0 b (k+QB a)++ [⟨op,0,((k+QB a-1:Nat):Int),((k+QB a+QB b-1:Nat):Int)⟩]):
  BldOk (λf=>let a:=b1 f;let c:=b2 a.2;ZX ⟨op,0,(a.1:Nat),(c.1:Nat)⟩ c.2) (mk t1 t2):=by
 refine⟨λf hf=>?_,λf hf=>?_⟩
 ·have e1:=h1.len f hf;have e2:=h2.len (b1 f).2 (by omega);simp only;rw[pv _ (by omega),e2,e1,hs];omega
 ·rw[hs] at hf;have p1:=Yi t1;have p2:=Yi t2;simp only;rw[h1.eq f (by omega)];simp only;have l1:(f++X0 t1 f.length).length=f.length+QB t1:=by rw[Qu,JP]
  rw[h2.eq _ (by rw[l1];omega)];simp only;have l2:(f++X0 t1 f.length++X0 t2 (f++X0 t1 f.length).length).length=f.length+QB t1+QB t2:=by rw[Qu,l1,JP]
  rw[vw _ (by rw[l2];omega),l2,hs,hp,l1];simp;omega
theorem Pa (bld:Int->List Fz->Nat×List Fz)(op v:Int)(pos:Bool)(num:Int)(f:List Fz):Kj bld op v pos num f=if op=4/\num=1 then vx v pos f else let a:=vx v pos f;let c:=bld num a.2;ZX ⟨op,0,(a.1:Nat),(c.1:Nat)⟩ c.2:=rfl
theorem EY {nd:List Br}(h:Rd0 nd):∀(m:Nat)(n:Int),0<=n->n<m->n<nd.length+2->BldOk (Zm nd m n) (Yj nd m n)
 | 0,n,h0,hm,_=>by omega
 | m+1,n,h0,hm,hn=>by
  by_cases h2:n<2
  ·have e:(⟨min n 1,0,0,0⟩:Fz)=⟨if decide (n=1)then 1 else 0,0,0,0⟩:=by
    rcases(by omega:n=0∨n=1)with rfl | rfl<;>rfl
   rw[O7 h2];refine⟨λf hf=>?_,λf hf=>?_⟩
   ·rw[Zm,Qf (.inl h2),pv _ hf]<;>rfl
   ·rw[Zm,Qf (.inl h2),vw _ hf,e]<;>rfl
  obtain⟨b,hb⟩:=Y8 h2 hn;obtain⟨b1,b2,b3,b4,b5,b6,b7,b8,b9,aM⟩:=h _ _ hb;have ihl:=EY h m b.l b3 (by omega) (by omega);have ihh:=EY h m b.h b5 (by omega) (by omega);have lit:=λp=>eQ2 (v:=b.v) b1 p
  have sd:∀(op:Int) (pos:Bool) (num:Int) (t:Fm),¬(op=4/\num=1)->BldOk (Zm nd m num) t->(op=4->BldOk (Kj (Zm nd m) op b.v pos num) (.and (Y9 b.v.toNat pos) t))/\(op=5->BldOk (Kj (Zm nd m) op b.v pos num) (.or (Y9 b.v.toNat pos) t)):=λop pos num t Xf ht=>by
   have e:Kj (Zm nd m) op b.v pos num=λf=>let a:=vx b.v pos f;let c:=Zm nd m num a.2;ZX ⟨op,0,(a.1:Nat),(c.1:Nat)⟩ c.2:=by
    funext f;rw[Pa,if_neg Xf]
   rw[e];refine⟨λh4=>?_,λh5=>?_⟩
   ·subst h4;exact EX (lit pos) ht 4 .and (λ_ _=>rfl) (λ_ _ _=>rfl)
   ·subst h5;exact EX (lit pos) ht 5 .or (λ_ _=>rfl) (λ_ _ _=>rfl)
  have short:∀(pos:Bool),Kj (Zm nd m) 4 b.v pos 1=vx b.v pos:=λpos=>by funext f;rw[Pa,Qf ⟨rfl,rfl⟩]
  have main:∃B,BldOk B (Yj nd (m+1) n)/\∀f,¬512<f.length->Zm nd (m+1) n f=B f:=by
   rw[O8 h2 hb];have unf:∀f,¬512<f.length->Zm nd (m+1) n f=if b.l=0 then Kj (Zm nd m) 4 b.v true b.h f else
     if b.h=0 then Kj (Zm nd m) 4 b.v false b.l f else
     if b.h=1 then Kj (Zm nd m) 5 b.v true b.l f else
     if b.l=1 then Kj (Zm nd m) 5 b.v false b.h f else
      let hi:=Kj (Zm nd m) 4 b.v true b.h f
      let lo:=Kj (Zm nd m) 4 b.v false b.l hi.2
      ZX ⟨5,0,(hi.1:Nat),(lo.1:Nat)⟩ lo.2:=λf hf=>by
    rw[Zm,if_neg (λhh=>hh.elim h2 hf),hb]
   split
   ·rename_i hc;by_cases hl:b.l=0
    ·have hh:b.h=1:=by omega
     rw[XR hh];exact⟨_,lit true,λf hf=>by rw[unf f hf,Qf hl,hh,short]⟩
    ·have hh:b.h=0:=by omega
     have Xy:b.l=1:=by omega
     rw[X4 (by omega)];exact⟨_,lit false,λf hf=>by rw[unf f hf,if_neg hl,Qf hh,Xy,short]⟩
   ·rename_i hc;split
    ·rename_i hl;exact⟨_,(sd 4 true b.h _ (by omega) ihh).1 rfl,λf hf=>by rw[unf f hf,Qf hl]⟩
    ·rename_i hl;split
     ·rename_i hh;exact⟨_,(sd 4 false b.l _ (by omega) ihl).1 rfl,λf hf=>by rw[unf f hf,if_neg hl,Qf hh]⟩
     ·rename_i hh;split
      ·rename_i Bo;exact⟨_,(sd 5 true b.l _ (by omega) ihl).2 rfl,λf hf=>by rw[unf f hf,if_neg hl,if_neg hh,Qf Bo]⟩
      ·rename_i Bo;split
       ·rename_i Xy;exact⟨_,(sd 5 false b.h _ (by omega) ihh).2 rfl,λf hf=>by rw[unf f hf,if_neg hl,if_neg hh,if_neg Bo,Qf Xy]⟩
       ·rename_i Xy;exact⟨_,EX ((sd 4 true b.h _ (by omega) ihh).1 rfl) ((sd 4 false b.l _ (by omega) ihl).1 rfl) 5 .or (λ_ _=>rfl) (λ_ _ _=>rfl),λf hf=>by rw[unf f hf,if_neg hl,if_neg hh,if_neg Bo,if_neg Xy]⟩
  obtain⟨B,hB,eP⟩:=main;refine⟨λf hf=>?_,λf hf=>?_⟩
  ·by_cases h5:512<f.length
   ·rw[Zm,Qf (.inr h5),pv _ hf];have:=Yi (Yj nd (m+1) n);omega
   ·rw[eP f h5,hB.len f hf]
  ·have:=Yi (Yj nd (m+1) n);rw[eP f (by omega),hB.eq f hf]
theorem Pb {nd:List Br}{root:Int}(hv:XG nd root=0):W5 nd root=if 512<QB (cf nd root)then([],2)else(X0 (cf nd root) 0,0):=by
 obtain⟨_,vd⟩:=fw.1 hv;have B:=EY vd.rd0 (root.toNat+1) root vd.2.1 (by have:=vd.2.1;omega) vd.2.2.1;have e1:=B.len [] (by simp);unfold W5;rw[Qf hv];simp only[Z5,bQ] at e1;have:Yj nd (root.toNat+1) root=cf nd root:=rfl;rw[this] at e1;by_cases h:512<QB (cf nd root)
 ·rw[Qf h,Qf (by rw[e1];omega)]
 ·rw[if_neg h,if_neg (by rw[e1];omega)];have e2:=B.eq [] (by simp only[Z5];rw[this];omega);rw[e2,this]<;>rfl
def VIn (k:Nat)(nd:List Br):Prop:=∀b∈nd,b.v<k
theorem VIn.nil (k:Nat):VIn k []:=λb hb=>by simp at hb
theorem VIn.lvl {k:Nat}{nd:List Br}(h:VIn k nd){n:Int}(h2:¬n<2)(hn:n<nd.length+2):Ql nd n<k:=by
 obtain⟨b,hb⟩:=Y8 h2 hn;rw[cW h2 hb];exact h b (QO hb)
theorem Rd0.lvl0 {nd:List Br}(h:Rd0 nd){n:Int}(hn:n<nd.length+2):0<=Ql nd n:=by
 by_cases h2:n<2
 ·rw[gl h2];omega
 ·obtain⟨z,hz⟩:=Y8 h2 hn;rw[cW h2 hz];exact(h _ _ hz).1
theorem eQ3 {a b c:Nat}(ha:a<c)(hb:b<c):2^a+2^b<=2^c:=by
 obtain⟨d,rfl⟩:∃d,c=d+1:=⟨c-1,by omega⟩
 have h1:2^a<=2^d:=Wl (by decide) (by omega);have h2:2^b<=2^d:=Wl (by decide) (by omega);rw[lO];omega
theorem eQ4 (a:Nat):1<=2^a:=Nat.one_le_two_pow
theorem EZ {nd:List Br}(h:Rd0 nd){k:Nat}(hk:VIn k nd):∀(m:Nat)(n:Int)(st:List Br×List Nat),0<=n->n<m->n<nd.length+2->(Za nd m n st).2.1.length+1<=st.1.length+2^((k:Int)-Ql nd n).toNat
 | 0,n,st,h0,hm,_=>by omega
 | m+1,n,st,h0,hm,hn=>by
  have p:=eQ4 ((k:Int)-Ql nd n).toNat;by_cases h2:n<2
  ·rw[jQ h2];simp only;omega
  by_cases h3:0<st.2[(n-2).toNat]?.getD 0
  ·rw[jR h2 h3];simp only;omega
  obtain⟨b,hb⟩:=Y8 h2 hn;obtain⟨b1,b2,b3,b4,b5,b6,b7,b8,b9,aM⟩:=h _ _ hb;have ji:=hk b (QO hb);have hlv:=cW h2 hb;rw[mi h2 h3 hb];have i1:=EZ h hk m b.l st b3 (by omega) (by omega);generalize (Za nd m b.l st)=p1 at*;have i2:=EZ h hk m b.h p1.2 b5 (by omega) (by omega);generalize (Za nd m b.h p1.2)=p2 at*;have:=eQ3 (a:=((k:Int)-Ql nd b.l).toNat) (b:=((k:Int)-Ql nd b.h).toNat) (c:=((k:Int)-Ql nd n).toNat) (by omega) (by omega);simp only[Qu,Xj,Z5];omega
theorem E0 {nd:List Br}{k:Nat}(hk:VIn k nd):∀(m:Nat)(n:Int)(st:List Br×List Nat),VIn k st.1->VIn k (Za nd m n st).2.1
 | 0,n,st,h=>h
 | m+1,n,st,h=>by
  by_cases h2:n<2
  ·rw[jQ h2];exact h
  by_cases h3:0<st.2[(n-2).toNat]?.getD 0
  ·rw[jR h2 h3];exact h
  cases hb:nd[(n-2).toNat]? with
  | none=>rw[Za,if_neg h2,if_neg h3,hb];exact h
  | some b=>
   rw[mi h2 h3 hb];have i1:=E0 hk m b.l st h;generalize (Za nd m b.l st)=p1 at*;have i2:=E0 hk m b.h p1.2 i1;generalize (Za nd m b.h p1.2)=p2 at*;intro x hx;simp only[Xw,QL] at hx;rcases hx with hx | rfl
   ·exact i2 x hx
   ·exact hk b (QO hb)
theorem eQ5 {nd:List Br}{k:Nat}(hk:VIn k nd)(r:Int):VIn k (bq nd r).1:=E0 hk _ _ _ (VIn.nil k)
theorem VD.len {nd:List Br}{r:Int}(h:VD nd r){k:Nat}(hk:VIn k nd):nd.length+1<=2^k:=by
 have i:=EZ h.rd0 hk (r.toNat+1) r ([],List.replicate nd.length 0) h.2.1 (by have:=h.2.1;omega) h.2.2.1;have e:(Za nd (r.toNat+1) r ([],List.replicate nd.length 0)).2.1=nd:=QN Prod.fst h.2.2.2;rw[e] at i;have:=h.rd0.lvl0 h.2.2.1;have p:2^((k:Int)-Ql nd r).toNat<=2^k:=Wl (by decide) (by omega);simp only[Z5] at i;omega
theorem eQ6 {k:Nat}{l:List Br}(h:VIn k l){b:Br}(hb:b.v<k):VIn k (ZR b l).1:=by
 unfold ZR;split
 ·exact h
 ·split
  ·exact h
  ·intro x hx;simp only[Xw,QL] at hx;rcases hx with hx | rfl
   ·exact h x hx
   ·exact hb
theorem E1 {a b:List Br}(ha:Vo a)(hb:Vo b){k:Nat}(ka:VIn k a)(kb:VIn k b)(op:Int):∀(m:Nat)(x y:Int)(st:List Br×List Tr3),0<=x->0<=y->x<a.length+2->y<b.length+2->VIn k st.1->VIn k (Xp a b op m x y st).2.1
 | 0,_,_,st,_,_,_,_,h=>h
 | m+1,x,y,st,x0,y0,hx,hy,h=>by
  by_cases Xr:x<2/\y<2
  ·rw[jV Xr];exact h
  cases k3:st.2.find? (λt=>decide (t.1=x/\t.2.1=y))with
  | some t=>rw[jW Xr k3];exact h
  | none=>
   have Db:min (Ql a x) (Ql b y)<k:=by
    by_cases c:x<2
    ·have:=kb.lvl (n:=y) (λc2=>Xr ⟨c,c2⟩) hy;rw[ZW];split<;>omega
    ·have:=ka.lvl (n:=x) c hx;rw[ZW];split<;>omega
   have Zv:min (Ql a x) (Ql b y)<64:=by
    by_cases c:x<2
    ·have:=W4 hb (n:=y) (λc2=>Xr ⟨c,c2⟩) (by omega);rw[ZW];split<;>omega
    ·have:=W4 ha (n:=x) c (by omega);rw[ZW];split<;>omega
   rw[jX Xr k3 _ rfl];generalize min (Ql a x) (Ql b y)=v at*;obtain⟨s1,s2,s3,s4,s5⟩:=Y7 ha (n:=x) x0 Zv;obtain⟨t1,t2,t3,t4,t5⟩:=Y7 hb (n:=y) y0 Zv;have i1:=E1 ha hb ka kb op m (Qm a x v).1 (Qm b y v).1 st s1 t1 (by omega) (by omega) h;generalize (Xp a b op m (Qm a x v).1 (Qm b y v).1 st)=r0 at*;have i2:=E1 ha hb ka kb op m (Qm a x v).2 (Qm b y v).2 r0.2 s3 t3 (by omega) (by omega) i1;exact eQ6 i2 Db
structure Set1 (k:Nat) (nd:List Br) (r:Int) (o:(Nat->Bool)->Bool):Prop where
 vd:VD nd r
 vin:VIn k nd
 mean:∀e,ev nd r e=o e
theorem Set1.len {k:Nat}{nd:List Br}{r:Int}{o:(Nat->Bool)->Bool}(h:Set1 k nd r o)(hk:k<=12):nd.length<=4095:=by
 have:=h.vd.len h.vin;have p:2^k<=2^12:=Wl (by decide) hk;omega
theorem Set1.chk {k:Nat}{nd:List Br}{r:Int}{o:(Nat->Bool)->Bool}(h:Set1 k nd r o)(hk:k<=12):XG nd r=0:=Ez (by have:=h.len hk;omega) h.vd
theorem Set1.unique {k k':Nat}{nd XZ:List Br}{r r':Int}{o o':(Nat->Bool)->Bool}(h:Set1 k nd r o)(h':Set1 k' XZ r' o')(e:∀x,o x=o' x):(nd,r)=(XZ,r'):=
 h.vd.eqv h'.vd (λx=>by rw[h.mean,h'.mean,e])
theorem Set1.congr {k:Nat}{nd:List Br}{r:Int}{o o':(Nat->Bool)->Bool}(h:Set1 k nd r o)(e:∀x,o x=o' x):Set1 k nd r o':=⟨h.vd,h.vin,λx=>(h.mean x).trans (e x)⟩
theorem dS {k:Nat}{a b:List Br}{ra rb:Int}{o o':(Nat->Bool)->Bool}(h:Set1 k a ra o)(h':Set1 k b rb o')(op:Int):Set1 k (VE a ra b rb op).1 (VE a ra b rb op).2 (λe=>Ki op (o e) (o' e)):=by
 obtain⟨v,m⟩:=eQx h.vd h'.vd op;refine⟨v,eQ5 (E1 h.vd.dok h'.vd.dok h.vin h'.vin op _ _ _ _ h.vd.2.1 h'.vd.2.1 h.vd.2.2.1 h'.vd.2.2.1 (VIn.nil k)) _,λe=>?_⟩;rw[m e,h.mean,h'.mean]
theorem gm {k:Nat}(hk:k<=12){a b:List Br}{ra rb:Int}{o o':(Nat->Bool)->Bool}(h:Set1 k a ra o)(h':Set1 k b rb o')(op:Int):dR a ra b rb op=(VE a ra b rb op,0):=by
 have l:=(dS h h' op).len hk;unfold dR;rw[if_neg (λhh=>hh (h.chk hk)),if_neg (λhh=>hh (h'.chk hk))];unfold iI;rw[if_neg (by omega)]
theorem br (k:Nat)(b:Bool):Set1 k [] (if b then 1 else 0) (λ_=>b):=by
 refine⟨⟨λj x hx=>by simp at hx,by cases b<;>decide,by cases b<;>decide,by cases b<;>rfl⟩,VIn.nil k,λe=>?_⟩;rw[JD (by cases b<;>decide)];cases b<;>rfl
def j7 (nm:List (List Nat))(s:List Nat):Except Int Fm:=if ZM nm then
  if(XU s).2 then match sr (Jo nm) (s.length+1) (XU s).1 with
   | none=>.error 31
   | some (t,u,ts)=>if ts≠ [] then .error 31 else if u then .error 3 else if 512<QB t then .error 2 else .ok t
  else .error 31
 else .error 1
theorem eQ7 (nm:List (List Nat))(s:List Nat):cR nm s=match j7 nm s with
  | .ok t=>(X0 t 0,0)
  | .error e=>([],e):=by
 rw[OL];unfold zQ j7;cases ZM nm with
 | false=>rfl
 | true=>
  cases (XU s).2 with
  | false=>rfl
  | true=>
   simp only[if_true];cases sr (Jo nm) (s.length+1) (XU s).1 with
   | none=>rfl
   | some q=>
    obtain⟨t,u,ts⟩:=q;simp only;by_cases h1:ts≠ []
    ·rw[Qf h1,Qf h1]
    ·rw[if_neg h1,if_neg h1];by_cases h2:u=true
     ·rw[Qf h2,Qf h2]
     ·rw[if_neg h2,if_neg h2];by_cases h3:512<QB t
      ·rw[Qf h3,Qf h3]
      ·rw[if_neg h3,if_neg h3]
def zU (N:Nat)(opd:List (List Nat)->Option (Fm×Bool×List (List Nat))):Prop:=∀ts t Z3,opd ts=some (t,false,Z3)->VarsIn N t
theorem Pd {N:Nat}{op:List Nat}{mk:Fm->Fm->Fm}{opd:List (List Nat)->Option (Fm×Bool×List (List Nat))}(hm:∀a b,VarsIn N a->VarsIn N b->VarsIn N (mk a b))(h:zU N opd):
  ∀(m:Nat) (a:Fm) (u:Bool) (ts:List (List Nat)) (t:Fm) (Z3:List (List Nat)),(u=false->VarsIn N a)->Yh op mk opd m a u ts=some (t,false,Z3)->VarsIn N t
 | 0,a,u,ts,t,Z3,_,hh=>by cases hh
 | m+1,a,u,ts,t,Z3,ha,hh=>by
  unfold Yh at hh;split at hh
  ·cases ho:opd ts.tail with
   | none=>rw[ho] at hh;cases hh
   | some q=>
    obtain⟨b,v,gM⟩:=q;rw[ho] at hh;refine Pd hm h m _ _ _ t Z3 (λhuv=>?_) hh;cases u<;>cases v<;>simp at huv
    exact hm _ _ (ha rfl) (h _ _ _ ho)
  ·cases hh;exact ha rfl
theorem zV {N:Nat}{op:List Nat}{mk:Fm->Fm->Fm}{opd:List (List Nat)->Option (Fm×Bool×List (List Nat))}(hm:∀a b,VarsIn N a->VarsIn N b->VarsIn N (mk a b))(h:zU N opd):zU N (Yt op mk opd):=λts t Z3 hh=>by
 unfold Yt at hh;cases ho:opd ts with
 | none=>rw[ho] at hh;cases hh
 | some q=>
  obtain⟨a,u,gM⟩:=q;rw[ho] at hh;exact Pd hm h _ _ _ _ t Z3 (λhu=>by subst hu;exact h _ _ _ ho) hh
theorem Pe {N:Nat}{ix:List Nat->Option Nat}(hx:∀l n,ix l=some n->n<N):∀n,zU N (KG ix n)
 | 0=>λts t Z3 h=>by cases h
 | n+1=>λts t Z3 h=>by
  have ih:=Pe hx n;cases ts with
  | nil=>cases h
  | cons w ts=>
   unfold KG at h;split at h
   ·cases ho:KG ix n ts with
    | none=>rw[ho] at h;cases h
    | some q=>
     obtain⟨a,u,gM⟩:=q;rw[ho] at h;cases h;exact show VarsIn N a from ih _ _ _ ho
   split at h
   ·cases ho:Yt [124,124] Fm.or (Yt [38,38] Fm.and (KG ix n)) ts with
    | none=>rw[ho] at h;cases h
    | some q=>
     obtain⟨a,u,gM⟩:=q;rw[ho] at h;simp only at h;split at h
     ·cases h;exact zV (mk:=Fm.or) (λ_ _ h h'=>⟨h,h'⟩) (zV (mk:=Fm.and) (λ_ _ h h'=>⟨h,h'⟩) ih) _ _ _ ho
     ·cases h
   split at h
   ·simp only[Option.some.injEq,Prod.mk.injEq] at h;obtain⟨rfl,h2,_⟩:=h;unfold j0 at h2 ⊢;split
    ·trivial
    ·split
     ·trivial
     ·rename_i h3 h4;rw[if_neg h3,if_neg h4] at h2;simp only at h2;cases hi:ix w with
      | none=>rw[hi] at h2;cases h2
      | some k=>exact hx _ _ hi
   ·cases h
theorem Pf (l:List Nat)(N:Nat):∀(names:List (List Nat))(i:Nat)(QR:Option Nat),(∀n,QR=some n->n<N)->i+names.length<=N->∀n,gi l names i QR=some n->n<N
 | [],i,QR,ha,_,n,h=>ha n h
 | s::names,i,QR,ha,hl,n,h=>by
  unfold gi at h;refine Pf l N names (i+1) _ (λm hm=>?_) (by simp at hl;omega) n h;split at hm
  ·cases hm;simp at hl;omega
  ·exact ha m hm
theorem j8 {names:List (List Nat)}{l:List Nat}{n:Nat}(h:Jo names l=some n):n<names.length:=Pf l _ names 0 none (λ_ h=>by cases h) (by omega) n h
theorem eQ8 {nm:List (List Nat)}{s:List Nat}{t:Fm}(h:j7 nm s= .ok t):ZM nm=true/\VarsIn nm.length t/\QB t<=512:=by
 unfold j7 at h;split at h
 ·rename_i hn;split at h
  ·split at h
   ·cases h
   ·rename_i t' u ts hw;split at h
    ·cases h
    split at h
    ·cases h
    split at h
    ·cases h
    ·rename_i hu hs;cases h;have hu:u=false:=by simpa using hu
     subst hu;exact⟨hn,zV (mk:=Fm.or) (λ_ _ h h'=>⟨h,h'⟩) (zV (mk:=Fm.and) (λ_ _ h h'=>⟨h,h'⟩) (Pe (λl n h=>j8 h) _)) _ _ _ hw,by omega⟩
  ·cases h
 ·cases h
theorem eQ9 {nm:List (List Nat)}{s:List Nat}{e:Int}(h:j7 nm s= .error e):e=1∨e=2∨e=3∨e=31:=by
 unfold j7 at h
 repeat' split at h
 all_goals first | cases h | skip
 all_goals simp
abbrev BF:=(Nat->Bool)->Bool
def Yu (nm:List (List Nat))(s:List Nat):Except Int BF:=match j7 nm s with
 | .ok t=>.ok (evF t)
 | .error e=>.error (if e=2 then 2 else 71)
inductive Dir where
 | txt
 | ifd (s:List Nat)
 | elif (s:List Nat)
 | els
 | en
 | inc (s:List Nat)
def Zl:List Nat:=[35,105,102,32]
def pElif:List Nat:=[35,101,108,105,102,32]
def pInc:List Nat:=[35,105,110,99,108,117,100,101,32]
def Jd:List Nat:=[35,101,108,115,101]
def Xx:List Nat:=[35,101,110,100]
def ZN (s:List Nat):Dir:=if Zl.isPrefixOf s then .ifd (s.drop 4)else if pInc.isPrefixOf s then .inc (s.drop 9)else if pElif.isPrefixOf s then .elif (s.drop 6)else if s=Jd then .els else if s=Xx then .en else .txt
def QT:List Nat->List (List Nat)
 | []=>[]
 | b::l=>if b=10 then []::QT l else match QT l with
  | []=>[[b]]
  | s::ls=>(b::s)::ls
def Qo (ls:List (List Nat)):List Nat:=ls.flatMap (λs=>s++ [10])
theorem Wu (s:List Nat)(ls:List (List Nat)):Qo (s::ls)=s++10::Qo ls:=by simp[Qo]
theorem vy (ls:List (List Nat)):ls.length<=(Qo ls).length:=by
 induction ls with
 | nil=>exact QC _
 | cons s ls ih=>rw[Wu];simp only[Xj,Qu];omega
def dU (ls:List (List Nat)):Prop:=∀s∈ls,10∉s
theorem fQa (s l:List Nat)(h:10∉s):QT (s++10::l)=s::QT l:=by
 induction s with
 | nil=>simp[QT]
 | cons b s ih=>
  simp only[QZ,not_or] at h;rw[Jb,QT,if_neg (λe=>h.1 e.symm),ih h.2]
theorem j9 {ls:List (List Nat)}(h:dU ls):QT (Qo ls)=ls:=by
 induction ls with
 | nil=>rfl
 | cons s ls ih=>rw[Wu,fQa _ _ (h s (by simp)),ih (λt ht=>h t (by simp[ht]))]
def cd (l:List Nat):Prop:=l=[]∨l.getLast? =some 10
theorem mv:∀(l:List Nat),dU (QT l)
 | []=>λs hs=>by simp[QT] at hs
 | b::l=>by
  have ih:=mv l;intro s hs;unfold QT at hs;split at hs
  ·simp only[QZ] at hs;rcases hs with rfl | hs
   ·simp
   ·exact ih s hs
  ·rename_i hb;cases hl:QT l with
   | nil=>
    rw[hl] at hs;simp only[QL] at hs;subst hs;simpa using λe=>hb e.symm
   | cons t ls=>
    rw[hl] at hs ih;simp only[QZ] at hs;rcases hs with rfl | hs
    ·have:=ih t (by simp);simp only[QZ,not_or];exact⟨λe=>hb e.symm,this⟩
    ·exact ih s (by simp[hs])
theorem W6:∀{l:List Nat},cd l->Qo (QT l)=l
 | [],_=>rfl
 | b::l,h=>by
  have hl:cd l:=by
   cases l with
   | nil=>exact .inl rfl
   | cons c l=>right;rcases h with h | h;cases h;simpa using h
  have ih:=W6 hl;unfold QT;split
  ·rename_i hb;subst hb;rw[Wu,ih]<;>rfl
  ·rename_i hb;cases KC:QT l with
   | nil=>
    rw[KC] at ih;have:l=[]:=ih.symm;subst this;rcases h with h | h
    ·cases h
    ·simp at h;exact Q8 h hb
   | cons t ls=>
    rw[KC] at ih;simp only[Wu] at ih ⊢;rw[Jb,ih]
theorem E2 (ls:List (List Nat)):cd (Qo ls):=by
 induction ls with
 | nil=>exact .inl rfl
 | cons s ls ih=>
  right
  rw[Wu];rcases ih with h | h
  ·rw[h];simp
  ·rw[List.getLast?_append,List.getLast?_cons,h];simp
structure Sg where
 f:Nat
 t:Nat
 fl:Nat
 at_:Nat
 o:BF
structure Gs where
 tx:List Nat
 sg:List Sg
 fr:Bool
structure Se where
 ou:BF
 re:BF
 ot:Bool
 ln:Nat
structure Pl where
 e:Int
 f:Int
 l:Int
def my (n:Nat):List Sg->List Sg
 | []=>[]
 | [x]=>[{x with t:=n}]
 | x::y::l=>x::my n (y::l)
theorem kc (n:Nat)(l:List Sg)(x:Sg):my n (l++ [x])=l++ [{x with t:=n}]:=by
 induction l with
 | nil=>rfl
 | cons y l ih=>
  cases l with
  | nil=>rfl
  | cons z l=>rw[Jb,Jb] at*;rw[my,ih]<;>rfl
def VZ (s:List Nat)(fl at_:Nat)(k:BF)(g:Gs):Option Gs:=
 if 1048576<g.tx.length+s.length∨(g.fr=true/\g.sg.length=65536)then none
 else some ⟨g.tx++s,my (g.tx.length+s.length) (if g.fr then g.sg++ [⟨g.tx.length,0,fl,at_,k⟩] else g.sg),false⟩
def cY (ix:List Nat->Option Nat)(rd:List Nat)(s:List Nat):Except Int Nat:=
 if s.length<2∨s.head? ≠some 34∨s.getLast? ≠some 34∨s.count 34≠2 then .error 71
 else match ix ((s.drop 1).take (s.length-2))with
  | none=>.error 73
  | some n=>if n∈rd then .error 73 else .ok n
abbrev JE (a b:BF):BF:=λe=>a e&&b e
abbrev Yk (a b:BF):BF:=λe=>a e && !b e
def ZS (nm:List (List Nat))(fl d0:Nat)(inc:List Nat->Nat->Nat->BF->Gs->Except Pl Gs):List (List Nat)->Nat->Nat->BF->List Se->Gs->Except Pl Gs
 | [],_,_,_,op,g=>match op with
  | []=>.ok {g with fr:=true}
  | x::_=>.error ⟨72,fl,x.ln⟩
 | s::ls,ln,at_,k,op,g=>match ZN s with
  | .ifd r=>match Yu nm r with
   | .error e=>.error ⟨e,fl,ln+1⟩
   | .ok d=>if d0+op.length=64 then .error ⟨2,fl,ln+1⟩else ZS nm fl d0 inc ls (ln+1) (at_+s.length+1) (JE k d) (⟨k,Yk k d,false,ln+1⟩::op) {g with fr:=true}
  | .inc r=>match inc r (ln+1) (d0+op.length) k g with
   | .error p=>.error p
   | .ok g'=>ZS nm fl d0 inc ls (ln+1) (at_+s.length+1) k op {g' with fr:=true}
  | .elif r=>match op with
   | []=>.error ⟨72,fl,ln+1⟩
   | x::aT=>if x.ot then .error ⟨71,fl,ln+1⟩else match Yu nm r with
    | .error e=>.error ⟨e,fl,ln+1⟩
    | .ok d=>ZS nm fl d0 inc ls (ln+1) (at_+s.length+1) (JE x.re d) ({x with re:=Yk x.re d}::aT) {g with fr:=true}
  | .els=>match op with
   | []=>.error ⟨72,fl,ln+1⟩
   | x::aT=>if x.ot then .error ⟨71,fl,ln+1⟩else ZS nm fl d0 inc ls (ln+1) (at_+s.length+1) x.re ({x with ot:=true}::aT) {g with fr:=true}
  | .en=>match op with
   | []=>.error ⟨72,fl,ln+1⟩
   | x::aT=>ZS nm fl d0 inc ls (ln+1) (at_+s.length+1) x.ou aT {g with fr:=true}
  | .txt=>match VZ (s++ [10]) fl at_ k g with
   | none=>.error ⟨2,fl,ln+1⟩
   | some g'=>ZS nm fl d0 inc ls (ln+1) (at_+s.length+1) k op g'
def aF (nm:List (List Nat))(fs:List (List Nat×List Nat)):Nat->List Nat->Nat->Nat->BF->Gs->Except Pl Gs
 | 0,_,_,_,_,_=>.error ⟨0,0,0⟩
 | f+1,rd,d,n,k,g=>ZS nm n d (λr ln d k g=>match cY (Jo (fs.map (·.1))) (n::rd) r with
   | .error e=>.error ⟨e,n,ln⟩
   | .ok m=>if d=64 then .error ⟨2,n,ln⟩else aF nm fs f (n::rd) (d+1) m k g) (QT ((fs[n]?.map (·.2)).getD [])) 0 0 k [] {g with fr:=true}
def pw (s:List Nat):Bool:=decide (s≠ [])&&s.all (λb=>decide (32<=b)&&b !=34&&b !=127)
def aG (l:List Nat):Bool:=decide (l=[])||l.getLast? ==some 10
def dV:List (List Nat×List Nat)->List (List Nat)->Nat->Option Pl
 | [],_,_=>none
 | x::l,seen,i=>if¬(pw x.1=true/\x.1∉seen/\aG x.2=true)then some ⟨70,i,0⟩else if 1048576<x.2.length then some ⟨2,i,0⟩else dV l (seen++ [x.1]) (i+1)
def Wv (fs:List (List Nat×List Nat)):Option Pl:=if 256<fs.length then some ⟨2, -1,0⟩else dV fs [] 0
def Ww (nm:List (List Nat))(fs:List (List Nat×List Nat))(root:List Nat):Except Pl Gs:=
 if ZM nm=false then .error ⟨30, -1,0⟩else match Wv fs with
  | some p=>.error p
  | none=>match Jo (fs.map (·.1)) root with
   | none=>.error ⟨73, -1,0⟩
   | some n=>aF nm fs 65 [] 0 n (λ_=>true) ⟨[],[],false⟩
theorem iJ (A:Option Addr)(n c:Nat)(r m v:Int)(nd:List Br)(w:World)(h:SB w A n c nd)(hm:m<n+2)(er:v<64):
  Fn Tryz.prog 167 [Xm A n c r,.int .i64 m,.int .i64 v] w (λu w'=>u= .tuple #[.int .i64 (Qm nd m v).1,.int .i64 (Qm nd m v).2]/\Ext w w'):=by
 have Xd:=h.2;have bN:n<=9223372036854775807:=by have:=h.1.le;have:=h.1.cap;simp only[maxLen] at this;omega
 refine QD (c:={cQG with cuts:=[]}) Qa Tryz.func167 rfl rfl rfl ?_;refine new (λw1 Qd Q3 Qh=>?_);refine Qs Qh rfl ?_;refine call (cS A n c r m nd w1 (h.ext Qd) hm) ?_;rintro u w2 ⟨rfl,Qg⟩;have Q7:=Qd.trans Qg;have Qw:=Qh.ext Qg;refine bg (λc1=>?_) (λc1=>?_)
 ·exact⟨by unfold Qm;rw[Qf c1],Q7⟩
 ·have uo:¬m<2:=λh2=>by
   unfold Ql at c1;rw[Qf h2] at c1;omega
  have hx:=Xn (show(m-2).toNat<nd.length by omega);generalize nd[(m-2).toNat]=b at hx;have e:Qm nd m v=(b.l,b.h):=by unfold Qm;rw[if_neg (by omega),hx]
  rw[e];refine XC Qa (Ext w2) 16 [(true,0),(true,1),(true,2),(true,3),(true,4),(true,5),(true,6),(true,7),(true,8),(true,9),(true,10),(true,11),(true,12),(true,13),(true,14),(true,15)] (by kernel_rfl) (Ext.drew w2) ?_;refine QH (v:=.slice A n c) (λw' Qb=>by rw[(Qw.ext Qb).cell];rfl) ?_;refine Qi (((m-2).toNat:Nat):Int) (by omega) (by omega) ?_;refine Zw Ws (h.ext Q7) rfl (by omega) (λp z hz hc=>?_);have Vi:z=b:=Option.some.inj (hz.symm.trans hx);subst Vi;refine QH (v:=.int .i64 z.l) (λw' Qb=>Qb.cell (hc 1 _ rfl)) ?_;refine QH (v:=.slice A n c) (λw' Qb=>by rw[(Qw.ext Qb).cell];rfl) ?_;refine Qi (((m-2).toNat:Nat):Int) (by omega) (by omega) ?_;refine Zw Ws (h.ext Q7) rfl (by omega) (λp' z' WQ Z2=>?_);have Lj:z'=z:=Option.some.inj (WQ.symm.trans hx);subst Lj;refine QH (v:=.int .i64 z'.h) (λw' Qb=>Qb.cell (Z2 2 _ rfl)) ?_;exact⟨rfl,Q7.trans (Ext.drew w2)⟩
def vz (nd:List Br)(b:Br):Option Value:=(KF b nd).map λi=>.int .i64 ((i+2:Nat):Int)
structure Bd (w:World) (base pb km:Nat) (NA:Option Addr) (nc:Nat) (nd:List Br):Prop where
 blk:Blk w pb 177 [.slice NA nd.length nc,.map (some km)]
 own:Own w base 105 3 NA nd.length nc (jT nd)
 known:∃m,MapQ bX w km m/\∀b,Xv b m=vz nd b
 lt:pb<base/\km<base/\pb≠km
 top:base<=w.heap.size
theorem Bd.ext {w w':World}{base pb km:Nat}{NA:Option Addr}{nc:Nat}{nd:List Br}(h:Bd w base pb km NA nc nd)(k:Ext w w'):Bd w' base pb km NA nc nd:=
 ⟨h.blk.ext k,h.own.ext k,let ⟨m,h1,h2⟩:=h.known;⟨m,h1.ext k,h2⟩,h.lt,Zf h.top k.size⟩
def BS (pb km:Nat)(NA:Option Addr):Nat->Prop:=λk=>k=pb∨k=km∨Qj NA k
theorem BS.moved {w:World}{pb km:Nat}{A A':Option Addr}(h:Moved w A A'):∀k,BS pb km A' k->BS pb km A k∨w.heap.size<=k:=by
 rintro k (rfl | rfl | hk)
 ·exact .inl (.inl rfl)
 ·exact .inl (.inr (.inl rfl))
 ·rcases h.rows k hk with h | h
  ·exact .inl (.inr (.inr h))
  ·exact .inr h
def fQb (w:World)(base pb km:Nat)(NA:Option Addr)(nd:List Br)(w':World):Prop:=∃NA' nc',Bd w' base pb km NA' nc' nd/\Mod (BS pb km NA) w w'/\Moved w NA NA'
theorem Pg (b x:Br):∀l:List Br,KF x l=none->KF b (l++ [x])=if b=x then some l.length else KF b l
 | [],_=>by
  show(if x=b then some 0 else(none:Option Nat).map (·+1))=_;by_cases h:x=b
  ·rw[Qf h,Qf h.symm]<;>rfl
  ·rw[if_neg h,if_neg (λe=>h e.symm)]<;>rfl
 | y::l,hx=>by
  have hy:y≠x:=λe=>by rw[KF,Qf e] at hx;cases hx
  have hl:KF x l=none:=by
   rw[KF,if_neg hy] at hx;cases hh:KF x l with
   | none=>rfl
   | some k=>rw[hh] at hx;cases hx
  have ih:=Pg b x l hl;show(if y=b then some 0 else(KF b (l++ [x])).map (·+1))=if b=x then some (l.length+1)else if y=b then some 0 else(KF b l).map (·+1)
  rw[ih];by_cases h1:b=x
  ·rw[Qf h1,Qf h1,if_neg (λe=>hy (e.trans h1))]<;>rfl
  ·rw[if_neg h1,if_neg h1]
theorem fQc {b:Br}{nd:List Br}{i:Nat}(h:b.l≠b.h)(k:KF b nd=some i):ZR b nd=(nd,((i+2:Nat):Int)):=by unfold ZR;rw[if_neg h,k]
theorem fQd {b:Br}{nd:List Br}(h:b.l≠b.h)(k:KF b nd=none):ZR b nd=(nd++ [b],((nd.length+2:Nat):Int)):=by unfold ZR;rw[if_neg h,k]
theorem Ph (base pb km:Nat)(NA:Option Addr)(nc:Nat)(nd:List Br)(b:Br)(w:World)(h:Bd w base pb km NA nc nd)(hl:nd.length+1<=1000000000000):
  Fn Tryz.prog 189 [.pointer (some ⟨pb,0,none⟩),.int .i64 b.v,.int .i64 b.l,.int .i64 b.h] w (λu w'=>u= .int .i64 (ZR b nd).2/\fQb w base pb km NA (ZR b nd).1 w'):=by
 obtain⟨p1,p2,p3⟩:=h.lt;have lv:=h.top;have VN:=h.own.rows;refine QD (c:={cQN with cuts:=[]}) Qa Tryz.func189 rfl rfl rfl ?_;refine Zh (λc1=>?_) (λc1=>?_)
 ·have e:ZR b nd=(nd,b.l):=by unfold ZR;rw[Qf c1]
  rw[e];exact⟨rfl,NA,nc,h,Mod.refl _ _,Moved.refl _ _⟩
 refine new (λw1 Qd Q3 Qh=>?_);refine Qz Qh rfl (sc rfl) (λw2 gE Zb Qw=>?_);have Qg:Ext w w2:=X9 Qd Qh gE
 replace Qw:Blk w2 w.heap.size 105 b.cells:=Qw;have h2:=h.ext Qg;obtain⟨m,hm,K7⟩:=h2.known;refine XC Qa (Ext w2) 11 [(true,0),(true,1),(true,2),(true,3),(true,4),(false,5),(true,6),(true,7),(true,8),(true,9),(true,10)] (by kernel_rfl) (Ext.drew w2) ?_;refine QH (v:=.map (some km)) (λw' Qb=>by rw[(h2.blk.ext Qb).cell];rfl) ?_;refine Xq (vs:=b.cells) rfl (λw' Qb j v hj=>by rw[(Qw.ext Qb).cell];exact hj) ?_;refine En (kv:=bX) (a:=b) Qa rfl rfl rfl rfl zH rfl rfl (hm.ext (Ext.drew w2)) ?_;refine⟨Ext.drew w2,?_⟩;have Q7:=Qg.trans (Ext.drew w2);have Qt:=Qw.ext (Ext.drew w2);have h3:=h2.ext (Ext.drew w2);have XD:=hm.ext (Ext.drew w2);have JI:w2.heap.size<=w2.drew.heap.size:=(Ext.drew w2).size;generalize w2.drew=w3 at*;cases hf:KF b nd with
 | some i=>
  have ha:Xv b m=some (.int .i64 ((i+2:Nat):Int)):=by rw[K7,vz,hf]<;>rfl
  have fH:=fQc c1 hf;refine lX (Xa (by rw[ha];rfl) ?_);rw[fH];exact⟨by rw[ha];rfl,NA,nc,h3,Mod.of_ext _ Q7,Moved.refl _ _⟩
 | none=>
  have ha:Xv b m=none:=by rw[K7,vz,hf]<;>rfl
  have fH:=fQd c1 hf;refine lX (Q5 (by rw[ha];rfl) ?_);rw[fH];have n3:w1.heap.size=w.heap.size+1:=Q3;have Dc:¬Qj NA pb:=λhr=>by have:=(VN _ hr).1;omega
  have Dd:¬Qj NA w.heap.size:=λhr=>by have:=(VN _ hr).2;omega
  refine XC Qa (Mod (Qj NA) w3) 8 [(true,0),(true,1),(true,2),(true,3),(true,4),(true,5),(false,6),(false,7)] (by kernel_rfl) (Mod.of_ext _ (Ext.drew w3)) ?_;refine QH (v:=.slice NA nd.length nc) (λw' Qb=>by rw[(h3.blk.mod Qb Dc).cell];rfl) ?_;refine Xq (vs:=b.cells) rfl (λw' Qb j v hj=>by rw[(Qt.mod Qb Dd).cell];exact hj) ?_;refine XI Qa [b.cells] rfl rfl rfl rfl rfl ⟨rfl,rfl,⟨⟩⟩ rfl (λcs h=>by simp only[QL] at h;subst h;rfl) rfl (by decide) (by decide) ?_;intro w4 Qq KY Q4;have KQ:=(Ext.drew w3).trans Qq;have h4:=h3.ext KQ;refine⟨Mod.of_ext _ KQ,?_⟩;have Tn:Sl w4 3 (some ⟨w3.drew.heap.size,0,none⟩) 1 1 b.cells:=Sl.own (sz:=3) (n:=1) Q4 (QC _) (by decide) (by simp[Br.cells]);refine JB (n:=nd.length) Qa rfl rfl rfl rfl rfl (by decide) rfl rfl ⟨_,rfl⟩ rfl rfl h4.own Tn (by intro u hu;simp[Br.cells] at hu;rcases hu with rfl | rfl | rfl<;>rfl) (by unfold maxLen;omega) (by show _*24<=_;omega) h4.top ?_;intro A' c' w5 XS TE jQA;have tF:Mod (Qj NA) w3 w5:=(Mod.of_ext (Qj NA) KQ).trans XS (λi hi=>.inl hi);refine⟨tF,?_⟩;have KJ:=tF.size;have lQP:=KQ.size;have jQB:=Q7.size;refine XP (h3.blk.mod tF Dc) (by simp) (λw6 Ym Xo=>?_);have em:=Ym.size;have ar:∀i,Qj A' i->base<=i:=λi hi=>(TE.rows i hi).1
  have GY:Blk w6 pb 177 [.slice A' (nd.length+1) c',.map (some km)]:=Xo;refine Qx GY rfl ?_;refine Qi ((nd.length+2:Nat):Int) (by show((nd.length+1:Nat):Int)+1=_;omega) (by omega) ?_;have hx6:=(Qt.mod tF Dd).mod Ym (by show¬w.heap.size=pb;omega);have hq6:MapQ bX w6 km m:=(XD.mod tF (λhr=>by have:=(VN _ hr).1;omega)).mod Ym (by show¬km=pb;omega);refine XC Qa (Ext w6) 6 [(true,0),(true,1),(true,2),(true,3),(true,4),(true,5)] (by kernel_rfl) (Ext.drew w6) ?_;refine QH (v:=.map (some km)) (λw' Qb=>by rw[(GY.ext Qb).cell];rfl) ?_;refine Xq (vs:=b.cells) rfl (λw' Qb j v hj=>by rw[(hx6.ext Qb).cell];exact hj) ?_;refine rT (kv:=bX) (a:=b) Qa rfl rfl rfl rfl zH rfl rfl rfl (hq6.ext (Ext.drew w6)) (λw8 JH VJ hq8=>?_);have GZ:Mod (·=km) w6 w8:=(Mod.of_ext (·=km) (Ext.drew w6)).trans JH (λi hi=>.inl hi);have ZU:Mod (BS pb km NA) w w3:=Mod.of_ext _ Q7;have Z1:Mod (BS pb km NA) w w5:=ZU.trans tF (λi hi=>.inl (.inr (.inr hi)));have KZ:Mod (BS pb km NA) w w6:=Z1.trans Ym (λi hi=>.inl (.inl hi));have ZC:Mod (BS pb km NA) w w8:=KZ.trans GZ (λi hi=>.inl (.inr (.inl hi)));have el:(nd++ [b]).length=nd.length+1:=by simp
  refine⟨rfl,A',c',⟨?_,?_,⟨_,hq8,λx=>?_⟩,h.lt,Zf lv ZC.size⟩,ZC,jQA.back (by omega)⟩
  ·rw[el];exact GY.mod GZ (by show¬pb=km;omega)
  ·rw[el,zG];exact(TE.mod Ym (λi hi e=>by have:=ar i hi;have e':i=pb:=e;omega)).mod GZ (λi hi e=>by have:=ar i hi;have e':i=km:=e;omega)
  ·rw[aC,K7,vz,vz,Pg x b nd hf];by_cases Ja:x=b
   ·rw[Qf Ja,Qf Ja]<;>rfl
   ·rw[if_neg Ja,if_neg Ja]
theorem zW (F:Option Addr)(m cf:Nat)(L:List DV)(w:World)(h:SlS DV.cells 2 w F m cf L)(hL:∀x∈L,SB w x.A x.n x.c x.nd):
  Fn Tryz.prog 111 [.slice F m cf] w (λv w'=>v= .int .i64 (bY L)/\Ext w w'):=by
 have Xd:=h.2;have bN:m<=9223372036854775807:=by have:=h.1.le;have:=h.1.cap;simp only[maxLen] at this;omega
 refine QD (c:={bQ5 with cuts:=[]}) Qa Tryz.func111 rfl rfl rfl ?_;refine loop Qa [8] (λs:Nat=>[.int .i64 s]) (λs w'=>Ext w w'/\s<=m/\∀(j:Nat) (y:DV),j<s->L[j]? =some y->XG y.nd y.r=0) (λs _=>m-s) 0 rfl ⟨Ext.refl w,XJ _,λj y hj=>Q8 hj (by omega)⟩ ?_;rintro s w1 ⟨Qd,hs,hall⟩;refine Qy (λh2=>?_) (λh2=>?_)
 ·refine Zw cU (h.ext Qd) rfl (by omega) (λp x hx hc=>?_);refine Kr (vs:=x.cells) rfl hc ?_;refine new (λw2 Qg Zb Qw=>?_);refine Qz Qw rfl (sc rfl) (λw3 ZY JI Qt=>?_);have Qk:Ext w w3:=Qd.trans (X9 Qg Qw ZY);refine Qs Qt rfl ?_;refine call (zI x.A x.n x.c x.nd x.r w3 ((hL x (QO hx)).ext Qk)) ?_;rintro v w4 ⟨rfl,Qq⟩;refine bg (λc1=>?_) (λc1=>?_)
  ·exact⟨by rw[eQr hall hx c1],Qk.trans Qq⟩
  ·refine Qi ((s+1:Nat):Int) (by omega) (by omega) ?_;refine⟨s+1,rfl,⟨Qk.trans Qq,by omega,λj y hj hy=>?_⟩,by show m-(s+1)<m-s;omega⟩;by_cases YF:j<s
   ·exact hall j y YF hy
   ·have:j=s:=by omega
    subst this;rw[Option.some.inj (hy.symm.trans hx)];exact c1
 ·exact⟨by rw[eQs (λj y hj hy=>hall j y (by omega) hy)],Qd⟩
theorem Pi (A:Option Addr)(n c:Nat)(a:List Br)(ra:Int)(w0 w:World)(h:SB w A n c a)(hr:∀i,Qj A i->w0.heap.size<=i)(hE:Ext w0 w):
  Fn Tryz.prog 127 [Xm A n c ra] w (pj w0 (iI (a,ra))):=by
 have KU:=h.2;refine QD (c:={cQc with cuts:=[]}) Qa Tryz.func127 rfl rfl rfl ?_;refine new (λw1 Qd Q3 Qh=>?_);refine new (λw2 Qg Zb Qw=>?_);have Q7:=Qd.trans Qg;refine Qx (Qh.ext Qg) rfl ?_;refine Qy (λc1=>?_) (λc1=>?_)
 ·have e:iI (a,ra)=(([],0),2):=by unfold iI;rw[Qf (show 4096<(a,ra).1.length by simp only;omega)]
  rw[e];refine Qz Qw rfl (sc rfl) (λw3 ZY _ Qt=>?_);have ZU:Mod (·=w1.heap.size) w2 w3:=mQW ZY rfl;refine Qs Qt rfl ?_;exact⟨none,0,0,rfl,hE.trans (ZU.ext Q7 (λi hi=>by have:=Qd.size;omega)),SlS.nil _,λi ⟨_,e,_⟩=>by cases e⟩
 ·have e:iI (a,ra)=((a,ra),0):=by unfold iI;rw[if_neg (show¬4096<(a,ra).1.length by simp only;omega)]
  rw[e];refine Qs (Qh.ext Qg) rfl ?_;refine Qz Qw rfl (sc rfl) (λw3 ZY _ Qt=>?_);have ZU:Mod (·=w1.heap.size) w2 w3:=mQW ZY rfl;refine Qs Qt rfl ?_;refine⟨A,n,c,rfl,hE.trans (ZU.ext Q7 (λi hi=>by have:=Qd.size;omega)),⟨(h.ext Q7).1.modS ZU (λh0 i hi e=>by obtain⟨ad,rfl,rfl⟩:=hi;have:=SB.lt h ad rfl h0;omega),KU⟩,hr⟩
theorem E3 (k:Int)(w:World)(h0:0<=k)(h1:k<=63):Fn Tryz.prog 34 [.int .i64 k] w (pj w (([⟨k,0,1⟩],2),0)):=by
 refine QD (c:={c34 with cuts:=[]}) Qa Tryz.func34 rfl rfl rfl ?_;refine new (λw1 Qd Q3 Qh=>?_);refine Q9 (by omega) ?_;refine Q9 (by omega) ?_;refine XI Qa [(⟨k,0,1⟩:Br).cells] rfl rfl rfl rfl rfl ⟨rfl,rfl,⟨⟩⟩ rfl (λcs h=>by simp only[QL] at h;subst h;rfl) rfl (by decide) (by decide) ?_;intro w2 Qg Zb Qw;refine Qz (Qh.ext Qg) rfl (sc rfl) (λw3 ZY _ Qt=>?_);have ZU:Mod (·=w.heap.size) w2 w3:=mQW ZY rfl;refine Qs Qt rfl ?_;refine⟨some ⟨w1.heap.size,0,none⟩,1,1,rfl,ZU.ext (Qd.trans Qg) (λi hi=>by omega),⟨Sl.own (sz:=3) (n:=1) (Qw.mod ZU (by omega)) (QC _) (by decide) (by simp[Br.cells]),rfl⟩,λi ⟨ad,e,hi⟩=>by cases e;simp only at hi;omega⟩
theorem ce (b:Bool)(w:World):Fn Tryz.prog 37 [.bool b] w (λv w'=>v=Xm none 0 0 (if b then 1 else 0)/\Ext w w'):=by
 refine QD (c:={c37 with cuts:=[]}) Qa Tryz.func37 rfl rfl rfl ?_;refine new (λw1 Qd Q3 Qh=>?_);cases b with
 | true=>
  refine Xa rfl ?_;refine Qz Qh rfl (sc rfl) (λw3 ZY _ Qt=>?_);refine Qs Qt rfl ?_;exact⟨rfl,X9 Qd Qh ZY⟩
 | false=>
  refine Q5 rfl ?_;refine Qz Qh rfl (sc rfl) (λw3 ZY _ Qt=>?_);refine Qs Qt rfl ?_;exact⟨rfl,X9 Qd Qh ZY⟩
def vC (F:Nat)(op:Int):Prop:=(F=84/\op=0)∨(F=155/\op=1)∨(F=83/\op=3)
theorem E4 {F:Nat}{op:Int}(h:vC F op)(x y:Bool)(w:World):Fn Tryz.prog F [.bool x,.bool y] w (λv w'=>v= .bool (Ki op x y)/\w=w'):=by
 rcases h with⟨rfl,rfl⟩ | ⟨rfl,rfl⟩ | ⟨rfl,rfl⟩
 ·refine QD (c:={c84 with cuts:=[]}) Qa Tryz.func84 rfl rfl rfl ?_;cases x with
  | true=>
   refine Xa rfl ?_;exact⟨rfl,rfl⟩
  | false=>
   refine Q5 rfl ?_;exact⟨rfl,rfl⟩
 ·refine QD (c:={cQx with cuts:=[]}) Qa Tryz.func155 rfl rfl rfl ?_;cases x with
  | true=>
   refine Xa rfl ?_;exact⟨rfl,rfl⟩
  | false=>
   refine Q5 rfl ?_;exact⟨rfl,rfl⟩
 ·refine QD (c:={c83 with cuts:=[]}) Qa Tryz.func83 rfl rfl rfl ?_;exact⟨rfl,rfl⟩
theorem fQe {F:Nat}{op:Int}(h:vC F op)(ob:Nat)(x y z:Bool)(w:World)(hB:Blk w ob 139 [.func (.func F) #[] #[]]):
  Fn Tryz.prog 129 [.bool x,.bool y,.bool z,.pointer (some ⟨ob,0,none⟩)] w (λv w'=>v= .bool (Ki op x y)/\w=w'):=by
 rcases h with⟨rfl,rfl⟩ | ⟨rfl,rfl⟩ | ⟨rfl,rfl⟩
 ·refine QD (c:={Eh with cuts:=[]}) Qa Tryz.func129 rfl rfl rfl ?_;refine Qx hB rfl ?_;refine call (E4 (op:=0) (.inl ⟨rfl,rfl⟩) x y w) ?_;rintro _ _ ⟨rfl,rfl⟩;exact⟨rfl,rfl⟩
 ·refine QD (c:={Eh with cuts:=[]}) Qa Tryz.func129 rfl rfl rfl ?_;refine Qx hB rfl ?_;refine call (E4 (op:=1) (.inr (.inl ⟨rfl,rfl⟩)) x y w) ?_;rintro _ _ ⟨rfl,rfl⟩;exact⟨rfl,rfl⟩
 ·refine QD (c:={Eh with cuts:=[]}) Qa Tryz.func129 rfl rfl rfl ?_;refine Qx hB rfl ?_;refine call (E4 (op:=3) (.inr (.inr ⟨rfl,rfl⟩)) x y w) ?_;rintro _ _ ⟨rfl,rfl⟩;exact⟨rfl,rfl⟩
theorem mQ1 {α:Type} [DecidableEq α]{P:Program}{ke:Nat}{kv:α->Value}{len elem:Nat}(hu:P.underlying ke=some (.array len elem))
  (heq:∀(a b:α) (w:World),(Op.equal ke (kv a) (kv b)).run P w= .ok (decide (a=b)) w) (hc:∀b a w,(Instr.checkKey b 10000 ke (kv a)).run P w= .ok () w) (hb:∀a,Instr.sameBits 10000 (kv a) (kv a)=true):KeyQ P ke kv:=by
 refine⟨λa m bs w hl=>?_,hc,hb⟩;have key:=Em (P:=P) (ke:=ke) (kv:=kv) a w (λb=>heq a b w) m bs 0 hl;obtain⟨r,h1,h2,h3,h4⟩:=key;refine⟨r,?_,h2,λj v hj v'=>by simpa using (h3 j v hj).2 v',h4⟩;unfold Instr.findKey;simp only[Sem.run_bind,ZL hu,Result.andThen_ok];cases m with
 | nil=>
  simp only[XT,List.zip_nil_left,yI,Instr.findNow,Sem.run_pure];simp[XT,Instr.findAsking] at h1;rw[h1]
 | cons p m=>
  cases bs with
  | nil=>simp at hl
  | cons s bs=>
   have e:XT kv (p::m) (s::bs)={key:=kv p.1,val:=p.2,born:=s}::XT kv m bs:=rfl;rw[e] at h1 ⊢;have hn:Instr.findNow (.array len elem) (kv a) ({key:=kv p.1,val:=p.2,born:=s}::XT kv m bs) 0=none:=by
    simp[Instr.findNow,Instr.sameNow]
   rw[hn];exact h1
abbrev I3:=Int×Int×Int
abbrev cZ (t:I3):List Value:=[.int .i64 t.1,.int .i64 t.2.1,.int .i64 t.2.2]
abbrev bt:I3->Value:=λt=>.agg #[.int .i64 t.1,.int .i64 t.2.1,.int .i64 t.2.2]
theorem zX:Tryz.prog.cellsOf 3=1:=by kernel_rfl
theorem vD (a b:Int)(n:Nat)(w:World):(Op.equalIn (n+1) 3 (.int .i64 a) (.int .i64 b)).run Tryz.prog w= .ok (a==b) w:=by
 simp[Op.equalIn,ZL Tryz.underlying3]
theorem fQf (a b:I3)(n:Nat)(w:World):(Op.equalIn (n+2) 242 (bt a) (bt b)).run Tryz.prog w= .ok (decide (a=b)) w:=by
 obtain⟨i,hi⟩:=Mz.1 (show(Tryz.prog.info? 3).isSome=true by kernel_rfl);obtain⟨a0,a1,a2⟩:=a;obtain⟨b0,b1,b2⟩:=b;have e:=run_equalIn_array (w:=w) (n+1) #[.int .i64 a0,.int .i64 a1,.int .i64 a2] #[.int .i64 b0,.int .i64 b1,.int .i64 b2] Tryz.underlying242 hi;rw[zX,show List.range 3=[0,1,2] from rfl] at e;refine e.trans ?_;have p0:∀x y z:Int,(part 3 #[Value.int .i64 x,.int .i64 y,.int .i64 z] (0*1)).run Tryz.prog w= .ok (.int .i64 x) w:=λx y z=>bS k3 rfl w
 have p1:∀x y z:Int,(part 3 #[Value.int .i64 x,.int .i64 y,.int .i64 z] (1*1)).run Tryz.prog w= .ok (.int .i64 y) w:=λx y z=>bS k3 rfl w
 have p2:∀x y z:Int,(part 3 #[Value.int .i64 x,.int .i64 y,.int .i64 z] (2*1)).run Tryz.prog w= .ok (.int .i64 z) w:=λx y z=>bS k3 rfl w
 have dd:decide ((a0,a1,a2)=(b0,b1,b2))=(a0==b0&&(a1==b1&&a2==b2)):=by
  by_cases h0:a0=b0<;>by_cases h1:a1=b1<;>by_cases h2:a2=b2<;>simp[h0,h1,h2]
 rw[dd];simp only[Op.eqItems,Sem.run_bind,p0,Result.andThen_ok,vD];cases h0:a0==b0 with
 | false=>simp
 | true=>
  simp only[Bool.not_true,Mu,if_false,Sem.run_bind,p1,Result.andThen_ok,vD,dH];cases h1:a1==b1 with
  | false=>simp
  | true=>
   simp only[Bool.not_true,Mu,if_false,Sem.run_bind,p2,Result.andThen_ok,vD,dH];cases h2:a2==b2<;>simp
theorem fQg (b:Bool)(a:I3)(n:Nat)(w:World):(Instr.checkKey b (n+2) 242 (bt a)).run Tryz.prog w= .ok () w:=by
 obtain⟨i,hi⟩:=Mz.1 (show(Tryz.prog.info? 3).isSome=true by kernel_rfl);have p0:∀x y z:Int,(part 3 #[Value.int .i64 x,.int .i64 y,.int .i64 z] 0).run Tryz.prog w= .ok (.int .i64 x) w:=λx y z=>bS k3 rfl w
 have p1:∀x y z:Int,(part 3 #[Value.int .i64 x,.int .i64 y,.int .i64 z] 1).run Tryz.prog w= .ok (.int .i64 y) w:=λx y z=>bS k3 rfl w
 have p2:∀x y z:Int,(part 3 #[Value.int .i64 x,.int .i64 y,.int .i64 z] 2).run Tryz.prog w= .ok (.int .i64 z) w:=λx y z=>bS k3 rfl w
 have hz:(sizeOf 3).run Tryz.prog w= .ok 1 w:=by rw[<-zX];exact Go.run_sizeOf w hi
 simp[Instr.checkKey,ZL Tryz.underlying242,ZL Tryz.underlying3,hz,p0,p1,p2,Std.Legacy.Range.forIn_eq_forIn_range',Std.Legacy.Range.size,List.range'_succ]
theorem zY:KeyQ Tryz.prog 242 bt:=
 mQ1 Tryz.underlying242 (λa b w=>fQf a b 9998 w) (λb a w=>fQg b a 9998 w) (λa=>by simp[Instr.sameBits])
structure CP where
 ox:Nat
 ob:Nat
 mx:Nat
 lx:Nat
 ax:Nat
 bx:Nat
 pb:Nat
 km:Nat
 mm:Nat
 F:Nat
 D:AD
def CP.caps (p:CP):List Value:=[VP.ptr p.ox,VP.ptr p.mx,VP.ptr p.lx,VP.ptr p.ax,VP.ptr p.bx]
def CP.clo (p:CP):Value:=.func (.func 188) #[] #[VP.ptr p.ox,VP.ptr p.mx,VP.ptr p.lx,VP.ptr p.ax,VP.ptr p.bx]
def CP.lC (p:CP):List Value:=[.slice p.D.A p.D.n p.D.c,.int .i64 p.D.ra,.slice p.D.B p.D.m p.D.d,.int .i64 p.D.rb,.slice none 0 0,.int .i64 0]
structure CK (w:World) (base:Nat) (p:CP):Prop where
 hF:vC p.F p.D.op
 oxb:Blk w p.ox 205 [.func (.func 129) #[] #[VP.ptr p.ob]]
 obb:Blk w p.ob 139 [.func (.func p.F) #[] #[]]
 mxb:Blk w p.mx 272 [.map (some p.mm)]
 lxb:Blk w p.lx 204 p.lC
 axb:Blk w p.ax 273 [p.clo]
 bxb:Blk w p.bx 174 [VP.ptr p.pb]
 as_:SB w p.D.A p.D.n p.D.c p.D.a
 bs:SB w p.D.B p.D.m p.D.d p.D.b
 off:∀k,k=p.ox∨k=p.ob∨k=p.mx∨k=p.lx∨k=p.ax∨k=p.bx->k<base/\k≠p.pb/\k≠p.km/\k≠p.mm
 rowA:∀ad,p.D.A=some ad->0<p.D.n->ad.block<base/\ad.block≠p.pb/\ad.block≠p.km/\ad.block≠p.mm
 rowB:∀ad,p.D.B=some ad->0<p.D.m->ad.block<base/\ad.block≠p.pb/\ad.block≠p.km/\ad.block≠p.mm
def CS (p:CP)(NA:Option Addr):Nat->Prop:=λk=>k=p.mm∨BS p.pb p.km NA k
theorem CS.moved {w:World}{p:CP}{A A':Option Addr}(h:Moved w A A'):∀k,CS p A' k->CS p A k∨w.heap.size<=k:=by
 rintro k (rfl | hk)
 ·exact .inl (.inl rfl)
 ·rcases BS.moved h k hk with h | h
  ·exact .inl (.inr h)
  ·exact .inr h
theorem CS.trans {w w1 w2:World}{p:CP}{A A1:Option Addr}(hm:Mod (CS p A) w w1)(hv:Moved w A A1)(h:Mod (CS p A1) w1 w2):Mod (CS p A) w w2:=hm.trans h (CS.moved hv)
theorem CS.no {p:CP}{base:Nat}{NA:Option Addr}(hr:∀i,Qj NA i->base<=i){k:Nat}(h:k<base/\k≠p.pb/\k≠p.km/\k≠p.mm):¬CS p NA k:=λe=>by
 obtain⟨h1,h2,h3,h4⟩:=h;rcases e with e | e | e | e
 ·exact h4 e
 ·exact h2 e
 ·exact h3 e
 ·have:=hr k e;omega
theorem CK.mod {w w':World}{base:Nat}{p:CP}{NA:Option Addr}(h:CK w base p)(hr:∀i,Qj NA i->base<=i)(hm:Mod (CS p NA) w w'):CK w' base p:=by
 have k:=λk hk=>CS.no (p:=p) hr (h.off k hk)
 refine⟨h.hF,h.oxb.mod hm (k _ (by simp)),h.obb.mod hm (k _ (by simp)),h.mxb.mod hm (k _ (by simp)),h.lxb.mod hm (k _ (by simp)),h.axb.mod hm (k _ (by simp)),h.bxb.mod hm (k _ (by simp)),⟨h.as_.1.modS hm ?_,h.as_.2⟩,⟨h.bs.1.modS hm ?_,h.bs.2⟩,h.off,h.rowA,h.rowB⟩
 ·rintro h0 i ⟨ad,e,rfl⟩;exact CS.no hr (h.rowA ad e h0)
 ·rintro h0 i ⟨ad,e,rfl⟩;exact CS.no hr (h.rowB ad e h0)
theorem CK.ext {w w':World}{base:Nat}{p:CP}(h:CK w base p)(k:Ext w w'):CK w' base p:=
 h.mod (NA:=none) (λi hi=>by obtain⟨_,e,_⟩:=hi;cases e) (Mod.of_ext _ k)
def iK (l:List Tr3)(x y:Int):Option Value:=(l.find? (λt=>decide (t.1=x/\t.2.1=y))).map λt=>.int .i64 t.2.2
structure CSt (w:World) (base:Nat) (p:CP) (NA:Option Addr) (nc:Nat) (st:List Br×List Tr3):Prop where
 bd:Bd w base p.pb p.km NA nc st.1
 memo:∃m,MapQ bt w p.mm m/\∀x y:Int,Xv ((x,y,0):I3) m=iK st.2 x y
 lt:p.mm<base/\p.mm≠p.pb/\p.mm≠p.km
theorem CSt.ext {w w':World}{base:Nat}{p:CP}{NA:Option Addr}{nc:Nat}{st:List Br×List Tr3}(h:CSt w base p NA nc st)(k:Ext w w'):CSt w' base p NA nc st:=
 ⟨h.bd.ext k,let ⟨m,h1,h2⟩:=h.memo;⟨m,h1.ext k,h2⟩,h.lt⟩
def CTo (w:World)(base:Nat)(p:CP)(NA:Option Addr)(st:List Br×List Tr3)(w':World):Prop:=∃NA' nc',CSt w' base p NA' nc' st/\Mod (CS p NA) w w'/\Moved w NA NA'
theorem Pj {op x y:Int}(x0:0<=x)(x1:x<2)(y0:0<=y)(y1:y<2):cT op x y=if Ki op (decide (x=1)) (decide (y=1))then 1 else 0:=by
 have h1:=OF (op:=op) x0 x1 y0 y1;have h2:=EG (op:=op) x0 x1 y0 y1;rw[<-h1];by_cases h:cT op x y=1
 ·rw[XR h];exact h
 ·rw[X4 h];show cT op x y=0;omega
theorem sH {a b:List Br}(ha:Vo a)(hb:Vo b)(op:Int):∀(f:Nat)(x y:Int)(st:List Br×List Tr3),0<=x->0<=y->x<a.length+2->y<b.length+2->
  ∀t∈(Xp a b op f x y st).2.2,t∈st.2∨t.1+t.2.1<=x+y
 | 0,x,y,st,_,_,_,_=>λt ht=>.inl ht
 | f+1,x,y,st,x0,y0,hx,hy=>by
  by_cases Xr:x<2/\y<2
  ·rw[jV Xr];exactλt ht=>.inl ht
  cases k:st.2.find? (λt=>decide (t.1=x/\t.2.1=y))with
  | some t=>rw[jW Xr k];exactλt ht=>.inl ht
  | none=>
   have Zv:min (Ql a x) (Ql b y)<64:=by
    by_cases c:x<2
    ·have:=W4 hb (n:=y) (λc2=>Xr ⟨c,c2⟩) (by omega);rw[ZW];split<;>omega
    ·have:=W4 ha (n:=x) c (by omega);rw[ZW];split<;>omega
   rw[jX Xr k _ rfl];generalize min (Ql a x) (Ql b y)=v at*;obtain⟨s1,s2,s3,s4,s5⟩:=Y7 ha (n:=x) x0 Zv;obtain⟨t1,t2,t3,t4,t5⟩:=Y7 hb (n:=y) y0 Zv;have j1:=sH ha hb op f _ _ st s1 t1 (by omega) (by omega);generalize (Xp a b op f (Qm a x v).1 (Qm b y v).1 st)=r0 at*;have j2:=sH ha hb op f _ _ r0.2 s3 t3 (by omega) (by omega);generalize (Xp a b op f (Qm a x v).2 (Qm b y v).2 r0.2)=r1 at*;intro t ht;simp only[Xw,QL] at ht;rcases ht with ht | rfl
   ·rcases j2 t ht with h1 | h1
    ·rcases j1 t h1 with h2 | h2
     ·exact .inl h2
     ·exact .inr (by omega)
    ·exact .inr (by omega)
   ·exact .inr (by simp only;omega)
theorem Pk (base:Nat)(p:CP)(ha:Vo p.D.a)(hb:Vo p.D.b)(dD:p.D.n<=1000000000000/\p.D.m<=1000000000000):∀(m:Nat)(x y:Int)(st:List Br×List Tr3)(NA:Option Addr)(nc:Nat)(w:World),
  CK w base p->CSt w base p NA nc st->0<=x->0<=y->x+y<m->x<p.D.n+2->y<p.D.m+2->(Xp p.D.a p.D.b p.D.op m x y st).2.1.length<=100000000000->
  Fn Tryz.prog 188 (bt (x,y,0)::p.caps) w (λv w'=>v= .int .i64 (Xp p.D.a p.D.b p.D.op m x y st).1/\CTo w base p NA (Xp p.D.a p.D.b p.D.op m x y st).2 w')
 | 0,x,y,st,NA,nc,w,_,_,x0,y0,hm,_,_,_=>by omega
 | m+1,x,y,st,NA,nc,w,hK,hS,x0,y0,hm,hx,hy,Xy=>by
  have ih:=Pk base p ha hb dD m;have KU:p.D.a.length=p.D.n:=hK.as_.2;have eU:p.D.b.length=p.D.m:=hK.bs.2;have lv:=hS.bd.top;have Lp:∀i,Qj NA i->base<=i:=λi hi=>(hS.bd.own.rows i hi).1
  refine QD (c:={Ny with cuts:=[1]}) Qa Tryz.func188 rfl rfl rfl ?_;refine new (λw1 Qd Q3 Qh=>?_)
  replace Qh:Blk w1 w.heap.size 242 (cZ (x,y,0)):=Qh;have J8:=hK.ext Qd;have KR:=hS.ext Qd;have oB:w.heap.size<w1.heap.size:=by omega
  refine iD [] Qa [] (λ_:Unit=>[]) (λ_ w'=>w1=w'/\¬(x<2/\y<2)) ?_ ?_
  ·refine index (j:=0) (by decide) ?_;refine Qp Qh rfl ?_;refine Qy (λc1=>?_) (λc1=>?_)
   ·refine index (j:=1) (by decide) ?_;refine Qp Qh rfl ?_;refine Qy (λc2=>?_) (λc2=>?_)
    ·refine index (j:=2) (by decide) ?_;refine Qp Qh rfl ?_;refine XH (show(0:Int)<2 by decide) ?_;refine Qx J8.oxb rfl ?_;refine index (j:=0) (by decide) ?_;refine Qp Qh rfl ?_;refine index (j:=1) (by decide) ?_;refine Qp Qh rfl ?_;refine index (j:=2) (by decide) ?_;refine Qp Qh rfl ?_;rw[jV ⟨c1,c2⟩,Pj x0 c1 y0 c2];refine call (fQe hK.hF p.ob (decide (x=1)) (decide (y=1)) (decide ((0:Int)=1)) w1 J8.obb) ?_;rintro v _ ⟨rfl,rfl⟩;cases Ki p.D.op (decide (x=1)) (decide (y=1))with
     | true=>
      refine Xa rfl ?_;exact⟨rfl,NA,nc,KR,Mod.of_ext _ Qd,Moved.refl _ _⟩
     | false=>
      refine Q5 rfl ?_;exact⟨rfl,NA,nc,KR,Mod.of_ext _ Qd,Moved.refl _ _⟩
    ·exact⟨(),rfl,rfl,λhh=>c2 hh.2⟩
   ·exact⟨(),rfl,rfl,λhh=>c1 hh.1⟩
  rintro⟨⟩ _ ⟨rfl,Xr⟩;obtain⟨mq,dC,K7⟩:=KR.memo;refine Qx J8.mxb rfl ?_;refine Qs Qh rfl ?_;refine En (kv:=bt) (a:=((x,y,0):I3)) Qa rfl rfl rfl rfl zY rfl rfl dC ?_;cases k:st.2.find? (λt=>decide (t.1=x/\t.2.1=y))with
  | some t=>
   have dE:Xv ((x,y,0):I3) mq=some (.int .i64 t.2.2):=by rw[K7,iK,k]<;>rfl
   refine Xa (by rw[dE];rfl) ?_;rw[jW Xr k];exact⟨by rw[dE];rfl,NA,nc,KR,Mod.of_ext _ Qd,Moved.refl _ _⟩
  | none=>
  have dE:Xv ((x,y,0):I3) mq=none:=by rw[K7,iK,k]<;>rfl
  refine Q5 (by rw[dE];rfl) ?_;have Zv:min (Ql p.D.a x) (Ql p.D.b y)<64:=by
   by_cases c:x<2
   ·have:=W4 hb (n:=y) (λc2=>Xr ⟨c,c2⟩) (by omega);rw[ZW];split<;>omega
   ·have:=W4 ha (n:=x) c (by omega);rw[ZW];split<;>omega
  have Lq:SB w1 none 0 0 []:=SlS.nil _;have qL:∀w',Ext w1 w'->∀(j:Nat) (v:Value),p.lC[j]? =some v->w'.cell? ((⟨p.lx,0,none⟩:Addr).add j)=some v:=λw' Qb j v hj=>by rw[(J8.lxb.ext Qb).cell];exact hj
  have qN:∀w',Ext w1 w'->∀(j:Nat) (v:Value),(cZ (x,y,0))[j]? =some v->w'.cell? ((⟨w.heap.size,0,none⟩:Addr).add j)=some v:=λw' Qb j v hj=>by rw[(Qh.ext Qb).cell];exact hj
  refine XC Qa (Ext w1) 17 [(true,0),(true,1),(true,2),(true,3),(true,5),(true,6),(true,7),(true,8),(true,10),(true,11),(true,12),(true,13),(false,4),(false,9),(false,14),(true,15),(true,16)] (by kernel_rfl) (Ext.drew w1) ?_;refine JO (j:=0) (by decide) ?_;refine Xq (vs:=[.slice p.D.A p.D.n p.D.c,.int .i64 p.D.ra]) rfl (λw' Qb j v hj=>by
   rw[add_add,(J8.lxb.ext Qb).cell]
   match j,hj with
   | 0,hj=>exact hj
   | 1,hj=>exact hj) ?_
  refine index (j:=0) (by decide) ?_;refine QH (v:=.int .i64 x) (λw' Qb=>qN w' Qb 0 _ rfl) ?_;refine JO (j:=1) (by decide) ?_;refine Xq (vs:=[.slice p.D.B p.D.m p.D.d,.int .i64 p.D.rb]) rfl (λw' Qb j v hj=>by
   rw[add_add,(J8.lxb.ext Qb).cell]
   match j,hj with
   | 0,hj=>exact hj
   | 1,hj=>exact hj) ?_
  refine index (j:=1) (by decide) ?_;refine QH (v:=.int .i64 y) (λw' Qb=>qN w' Qb 1 _ rfl) ?_;refine JO (j:=2) (by decide) ?_;refine Xq (vs:=[.slice none 0 0,.int .i64 0]) rfl (λw' Qb j v hj=>by
   rw[add_add,(J8.lxb.ext Qb).cell]
   match j,hj with
   | 0,hj=>exact hj
   | 1,hj=>exact hj) ?_
  refine index (j:=2) (by decide) ?_;refine QH (v:=.int .i64 0) (λw' Qb=>qN w' Qb 2 _ rfl) ?_;refine call (cS p.D.A p.D.n p.D.c p.D.ra x p.D.a _ (J8.as_.ext (Ext.drew w1)) (by omega)) ?_;rintro u w2 ⟨rfl,Qg⟩;have Xs:=(Ext.drew w1).trans Qg;refine⟨Xs,?_⟩;refine call (cS p.D.B p.D.m p.D.d p.D.rb y p.D.b _ (J8.bs.ext Xs) (by omega)) ?_;rintro u w3 ⟨rfl,Qk⟩;have XK:=Xs.trans Qk;refine⟨XK,?_⟩;refine call (cS none 0 0 0 0 [] _ (Lq.ext XK) (by simp)) ?_;rintro u w4 ⟨rfl,Qq⟩;have J7:=XK.trans Qq;refine⟨J7,?_⟩;have wy:Ql [] 0=64:=rfl;rw[wy];have Lt: -9223372036854775808<=min (Ql p.D.a x) (Ql p.D.b y):=by
   have pos:∀{d:List Br},Vo d->∀{n:Int},n<d.length+2->0<=Ql d n:=λ{d} hd {n} hn=>by
    by_cases h2:n<2
    ·rw[gl h2];omega
    ·obtain⟨z,hz⟩:=Y8 h2 hn;rw[cW h2 hz];exact(hd.2 _ _ hz).1
   have p1:=pos ha (n:=x) (by omega);have p2:=pos hb (n:=y) (by omega);rw[ZW];split<;>omega
  have G0:(if(64:Int)<(if Ql p.D.b y<Ql p.D.a x then Ql p.D.b y else Ql p.D.a x)then 64 else(if Ql p.D.b y<Ql p.D.a x then Ql p.D.b y else Ql p.D.a x))=min (Ql p.D.a x) (Ql p.D.b y):=by
   rw[ZW] at Zv ⊢;split at Zv<;>split<;>split<;>omega
  refine norm (m:=min (Ql p.D.a x) (Ql p.D.b y)) G0 ?_;rw[jX Xr k _ rfl] at Xy ⊢;generalize xS:min (Ql p.D.a x) (Ql p.D.b y)=v at*;have Q4:=Qh.ext J7;have VL:=J8.ext J7;have WG:=KR.ext J7;have XL:=Qd.trans J7;have G3:=J7.size;refine new (λw5 Qv KJ G4=>?_);refine new (λw6 Xh em G5=>?_);have Xz:=Qv.trans Xh;have G6:=G4.ext Xh;have Xo:=Q4.ext Xz;have bE:=VL.ext Xz;have i6:=WG.ext Xz;have XM:=XL.trans Xz;obtain⟨s1,s2,s3,s4,s5⟩:=Y7 ha (n:=x) x0 Zv;obtain⟨t1,t2,t3,t4,t5⟩:=Y7 hb (n:=y) y0 Zv;refine loop Qa [64] (λs:Nat=>[.int .i64 s]) (λs w'=>Mod (λi=>i=w4.heap.size∨i=w5.heap.size) w6 w'/\s<=3/\Blk w' w4.heap.size 242 (cZ (if 0<s then(Qm p.D.a x v).1 else 0,if 1<s then(Qm p.D.b y v).1 else 0,0))/\Blk w' w5.heap.size 242 (cZ (if 0<s then(Qm p.D.a x v).2 else 0,if 1<s then(Qm p.D.b y v).2 else 0,0))) (λs _=>3-s) 0 rfl ⟨Mod.refl _ _,XJ _,G6,G5⟩ ?_;rintro s w7 ⟨Xb,pY,ew,cr⟩;have hbz:base<=w4.heap.size:=by have:=Qd.size;omega
  have TF:w5.heap.size=w4.heap.size+1:=KJ;have xT:w.heap.size<w4.heap.size:=by omega
  have xU:∀k,k<w4.heap.size->¬(k=w4.heap.size∨k=w5.heap.size):=λk hk e=>by omega
  have hlx:=hK.off p.lx (by simp);have Q2:Ext w w7:=Xb.ext XM (λi hi=>by omega);have tG:Ext w1 w7:=Xb.ext (J7.trans Xz) (λi hi=>by omega);have V7:Ext w4 w7:=Xb.ext Xz (λi hi=>by omega);have Q6:=Q4.ext V7;have WI:=VL.ext V7;have XX:=WG.ext V7;have WJ:=Xb.size;have nLX:=xU p.lx (by omega);have nB:=xU w.heap.size xT;have h0:Qm [] 0 v=(0,0):=by unfold Qm;rw[Qf (show Ql [] 0≠v by rw[wy];omega)]
  by_cases hs:s<3
  ·rcases(show s=0∨s=1∨s=2 by omega)with rfl | rfl | rfl
   ·refine XH (show((0:Nat):Int)<3 by decide) ?_;refine XC Qa (Mod (λi=>i=w4.heap.size∨i=w5.heap.size) w7) 17 [(true,0),(true,1),(true,2),(true,3),(true,4),(true,5),(true,6),(true,7),(true,8),(false,9),(true,10),(true,11),(true,12),(true,13),(false,14),(true,15),(false,16)] (by kernel_rfl) (Mod.of_ext _ (Ext.drew w7)) ?_;refine JO (j:=0) (by decide) ?_;refine Xq (vs:=[.slice p.D.A p.D.n p.D.c,.int .i64 p.D.ra]) rfl (λw' Qb j v hj=>by
     rw[add_add,(WI.lxb.mod Qb nLX).cell]
     match j,hj with
     | 0,hj=>exact hj
     | 1,hj=>exact hj) ?_
    refine index (j:=0) (by decide) ?_;refine QH (v:=.int .i64 x) (λw' Qb=>by rw[(Q6.mod Qb nB).cell];rfl) ?_;refine call (iJ p.D.A p.D.n p.D.c p.D.ra x v p.D.a _ (WI.as_.ext (Ext.drew w7)) (by omega) Zv) ?_;rintro u w8 ⟨rfl,Q0⟩;have Kg:=(Ext.drew w7).trans Q0;refine⟨Mod.of_ext _ Kg,?_⟩;refine index (j:=0) (by decide) ?_;refine XP (ew.ext Kg) (by simp) (λw9 Ze gN=>?_);have K5:Mod (λi=>i=w4.heap.size∨i=w5.heap.size) w7 w9:=(Mod.of_ext _ Kg).trans Ze (λi hi=>.inl (.inl hi));refine⟨K5,?_⟩;have et:=K5.size;refine index (j:=0) (by decide) ?_;refine XP (((cr.ext Kg).mod Ze (by show¬w5.heap.size=w4.heap.size;omega))) (by simp) (λQJ Zp ez=>?_);have WM:Mod (λi=>i=w4.heap.size∨i=w5.heap.size) w7 QJ:=K5.trans Zp (λi hi=>.inl (.inr hi));refine⟨WM,?_⟩;have eA:=gN.mod Zp (by show¬w4.heap.size=w5.heap.size;omega);refine Qi ((1:Nat):Int) (by decide) (by decide) ?_;exact⟨1,rfl,⟨Xb.trans WM (λi hi=>.inl hi),by decide,eA,ez⟩,by show 3-1<3-0;decide⟩
   ·refine XH (show((1:Nat):Int)<3 by decide) ?_;refine XC Qa (Mod (λi=>i=w4.heap.size∨i=w5.heap.size) w7) 17 [(true,0),(true,1),(true,2),(true,3),(true,4),(true,5),(true,6),(true,7),(true,8),(false,9),(true,10),(true,11),(true,12),(true,13),(false,14),(true,15),(false,16)] (by kernel_rfl) (Mod.of_ext _ (Ext.drew w7)) ?_;refine JO (j:=1) (by decide) ?_;refine Xq (vs:=[.slice p.D.B p.D.m p.D.d,.int .i64 p.D.rb]) rfl (λw' Qb j v hj=>by
     rw[add_add,(WI.lxb.mod Qb nLX).cell]
     match j,hj with
     | 0,hj=>exact hj
     | 1,hj=>exact hj) ?_
    refine index (j:=1) (by decide) ?_;refine QH (v:=.int .i64 y) (λw' Qb=>by rw[(Q6.mod Qb nB).cell];rfl) ?_;refine call (iJ p.D.B p.D.m p.D.d p.D.rb y v p.D.b _ (WI.bs.ext (Ext.drew w7)) (by omega) Zv) ?_;rintro u w8 ⟨rfl,Q0⟩;have Kg:=(Ext.drew w7).trans Q0;refine⟨Mod.of_ext _ Kg,?_⟩;refine index (j:=1) (by decide) ?_;refine XP (ew.ext Kg) (by simp) (λw9 Ze gN=>?_);have K5:Mod (λi=>i=w4.heap.size∨i=w5.heap.size) w7 w9:=(Mod.of_ext _ Kg).trans Ze (λi hi=>.inl (.inl hi));refine⟨K5,?_⟩;have et:=K5.size;refine index (j:=1) (by decide) ?_;refine XP (((cr.ext Kg).mod Ze (by show¬w5.heap.size=w4.heap.size;omega))) (by simp) (λQJ Zp ez=>?_);have WM:Mod (λi=>i=w4.heap.size∨i=w5.heap.size) w7 QJ:=K5.trans Zp (λi hi=>.inl (.inr hi));refine⟨WM,?_⟩;have eA:=gN.mod Zp (by show¬w4.heap.size=w5.heap.size;omega);refine Qi ((2:Nat):Int) (by decide) (by decide) ?_;exact⟨2,rfl,⟨Xb.trans WM (λi hi=>.inl hi),by decide,eA,ez⟩,by show 3-2<3-1;decide⟩
   ·refine XH (show((2:Nat):Int)<3 by decide) ?_;refine XC Qa (Mod (λi=>i=w4.heap.size∨i=w5.heap.size) w7) 17 [(true,0),(true,1),(true,2),(true,3),(true,4),(true,5),(true,6),(true,7),(true,8),(false,9),(true,10),(true,11),(true,12),(true,13),(false,14),(true,15),(false,16)] (by kernel_rfl) (Mod.of_ext _ (Ext.drew w7)) ?_;refine JO (j:=2) (by decide) ?_;refine Xq (vs:=[.slice none 0 0,.int .i64 0]) rfl (λw' Qb j v hj=>by
     rw[add_add,(WI.lxb.mod Qb nLX).cell]
     match j,hj with
     | 0,hj=>exact hj
     | 1,hj=>exact hj) ?_
    refine index (j:=2) (by decide) ?_;refine QH (v:=.int .i64 0) (λw' Qb=>by rw[(Q6.mod Qb nB).cell];rfl) ?_;refine call (iJ none 0 0 0 0 v [] _ (SlS.nil _) (by decide) Zv) ?_;rintro u w8 ⟨rfl,Q0⟩;have Kg:=(Ext.drew w7).trans Q0;refine⟨Mod.of_ext _ Kg,?_⟩;refine index (j:=2) (by decide) ?_;refine XP (ew.ext Kg) (by simp) (λw9 Ze gN=>?_);have K5:Mod (λi=>i=w4.heap.size∨i=w5.heap.size) w7 w9:=(Mod.of_ext _ Kg).trans Ze (λi hi=>.inl (.inl hi));refine⟨K5,?_⟩;have et:=K5.size;refine index (j:=2) (by decide) ?_;refine XP (((cr.ext Kg).mod Ze (by show¬w5.heap.size=w4.heap.size;omega))) (by simp) (λQJ Zp ez=>?_);have WM:Mod (λi=>i=w4.heap.size∨i=w5.heap.size) w7 QJ:=K5.trans Zp (λi hi=>.inl (.inr hi));refine⟨WM,?_⟩;have eA:=gN.mod Zp (by show¬w4.heap.size=w5.heap.size;omega);refine Qi ((3:Nat):Int) (by decide) (by decide) ?_;rw[h0] at eA ez;exact⟨3,rfl,⟨Xb.trans WM (λi hi=>.inl hi),by decide,eA,ez⟩,by show 3-3<3-2;decide⟩
  ·have:s=3:=by omega
   subst this;refine Q9 (show¬((3:Nat):Int)<3 by decide) ?_
   replace ew:Blk w7 w4.heap.size 242 (cZ ((Qm p.D.a x v).1,(Qm p.D.b y v).1,0)):=ew
   replace cr:Blk w7 w5.heap.size 242 (cZ ((Qm p.D.a x v).2,(Qm p.D.b y v).2,0)):=cr;have eV:Ql p.D.a x=v∨Ql p.D.b y=v:=by rw[<-xS,ZW];split<;>simp
   have dec:(Qm p.D.a x v).1+(Qm p.D.b y v).1<x+y/\(Qm p.D.a x v).2+(Qm p.D.b y v).2<x+y:=by
    rcases eV with e | e
    ·have:=s5 e;omega
    ·have:=t5 e;omega
   have G7:=sH ha hb p.D.op m (Qm p.D.a x v).1 (Qm p.D.b y v).1 st s1 t1 (by omega) (by omega);have G8:=sH ha hb p.D.op m (Qm p.D.a x v).2 (Qm p.D.b y v).2 (Xp p.D.a p.D.b p.D.op m (Qm p.D.a x v).1 (Qm p.D.b y v).1 st).2 s3 t3 (by omega) (by omega);have mo2:=mj p.D.a p.D.b p.D.op m (Qm p.D.a x v).2 (Qm p.D.b y v).2 (Xp p.D.a p.D.b p.D.op m (Qm p.D.a x v).1 (Qm p.D.b y v).1 st).2;have c1:=ih (Qm p.D.a x v).1 (Qm p.D.b y v).1 st NA nc w7 WI XX s1 t1 (by omega) (by omega) (by omega);have c2:=λN1 n1 w' h1 h2=>ih (Qm p.D.a x v).2 (Qm p.D.b y v).2 (Xp p.D.a p.D.b p.D.op m (Qm p.D.a x v).1 (Qm p.D.b y v).1 st).2 N1 n1 w' h1 h2 s3 t3 (by omega) (by omega) (by omega)
   generalize (Xp p.D.a p.D.b p.D.op m (Qm p.D.a x v).1 (Qm p.D.b y v).1 st)=r0 at*;generalize (Xp p.D.a p.D.b p.D.op m (Qm p.D.a x v).2 (Qm p.D.b y v).2 r0.2)=r1 at*;have ul:=vj ⟨v,r0.1,r1.1⟩ r1.2.1;have ul2:(ZR ⟨v,r0.1,r1.1⟩ r1.2.1).1.length<=r1.2.1.length+1:=by
    unfold ZR;split
    ·exact yL _
    ·split
     ·exact yL _
     ·simp
   simp only at Xy;refine Qx WI.axb rfl ?_;refine Qs ew rfl ?_;refine call (c1 (by omega)) ?_;rintro _ QG ⟨rfl,N1,n1,p7,ZV,wz⟩;have G9:=cr.lt;have i7:=hS.bd.own.rows;obtain⟨l1,l2,l3⟩:=hS.lt;obtain⟨b1,b2,b3⟩:=hS.bd.lt;have new:∀k,w.heap.size<=k->¬CS p NA k:=λk hk e=>by
    rcases e with e | e | e | e
    ·omega
    ·omega
    ·omega
    ·have:=(i7 k e).2;omega
   have eB:=WI.mod Lp ZV;have Ha:=cr.mod ZV (new _ (by omega));have ZZ:=Q6.mod ZV (new _ (QC _));have bA:∀i,Qj N1 i->base<=i:=λi hi=>(p7.bd.own.rows i hi).1
   have wA:∀k,w.heap.size<=k->k<w7.heap.size->¬CS p N1 k:=λk hk h7 e=>by
    rcases CS.moved wz k e with e | e
    ·exact new k hk e
    ·omega
   have tH:=ZV.size;have Lu:=Q6.lt;refine XC Qa (Mod (CS p N1) QG) 8 [(true,0),(true,1),(true,2),(true,3),(true,4),(false,5),(false,6),(true,7)] (by kernel_rfl) (Mod.of_ext _ (Ext.drew QG)) ?_;have nof:=λk hk=>CS.no (p:=p) bA (eB.off k hk)
   refine QH (v:=VP.ptr p.pb) (λw' Qb=>by rw[(eB.bxb.mod Qb (nof _ (by simp))).cell0];rfl) ?_;refine QH (v:=p.clo) (λw' Qb=>by rw[(eB.axb.mod Qb (nof _ (by simp))).cell0];rfl) ?_;refine Xq (vs:=cZ ((Qm p.D.a x v).2,(Qm p.D.b y v).2,0)) rfl (λw' Qb j v hj=>by rw[(Ha.mod Qb (wA _ (by omega) G9)).cell];exact hj) ?_;refine call (c2 N1 n1 _ (eB.ext (Ext.drew QG)) (p7.ext (Ext.drew QG)) (by omega)) ?_;rintro _ Xg ⟨rfl,N2,n2,aL,Vr,tC⟩;have kP:Mod (CS p N1) QG Xg:=(Mod.of_ext _ (Ext.drew QG)).trans Vr (λi hi=>.inl hi);have wB:Moved QG N1 N2:=tC.back (Ext.drew QG).size;refine⟨kP,?_⟩;have ah:∀i,Qj N2 i->base<=i:=λi hi=>(aL.bd.own.rows i hi).1
   refine call (Ph base p.pb p.km N2 n2 r1.2.1 ⟨v,r0.1,r1.1⟩ Xg aL.bd (by omega)) ?_;rintro _ X2 ⟨rfl,N3,n3,ct,Kf,Hd⟩;have He:Mod (CS p N2) Xg X2:=Kf.mono (λi hi=>.inl (.inr hi));have kQ:Mod (CS p N1) QG X2:=CS.trans kP wB He;refine⟨kQ,?_⟩;have jQC:=eB.mod bA kP;have Hf:=eB.mod bA kQ;have K2:=ZZ.mod kQ (wA _ (QC _) Lu);obtain⟨Hg,wi,Hh⟩:=aL.memo;have Hi:MapQ bt X2 p.mm Hg:=wi.mod Kf (λe=>by
    rcases e with e | e | e
    ·exact l2 e
    ·exact l3 e
    ·have:=ah _ e;omega)
   refine Qx Hf.mxb rfl ?_;refine Qs K2 rfl ?_;refine rT (kv:=bt) (a:=((x,y,0):I3)) Qa rfl rfl rfl rfl zY rfl rfl rfl Hi (λZi KP jQD Hj=>?_);have ZQ:∀k,k≠p.mm->¬(k=p.mm):=λk h=>h
   obtain⟨d1,d2,d3⟩:=ct.lt;have Hk:∀i,Qj N3 i->base<=i:=λi hi=>(ct.own.rows i hi).1
   obtain⟨kq,Lv,xV⟩:=ct.known;have Hl:Bd Zi base p.pb p.km N3 n3 (ZR ⟨v,r0.1,r1.1⟩ r1.2.1).1:=⟨ct.blk.mod KP (λe=>l2 e.symm),ct.own.mod KP (λi hi e=>by have:=Hk i hi;have e':i=p.mm:=e;omega),⟨kq,Lv.mod KP (λe=>l3 e.symm),xV⟩,ct.lt,Zf ct.top KP.size⟩
   have Hm:Mod (CS p NA) w w7:=Mod.of_ext _ Q2;have jQE:Moved w NA NA:=Moved.refl _ _;have wC:Mod (CS p NA) w QG:=Hm.trans ZV (λi hi=>.inl hi);have wD:Moved w NA N1:=wz.back Q2.size;have Ho:Mod (CS p NA) w X2:=CS.trans wC wD kQ;have m7:Mod (CS p NA) w Zi:=Ho.trans KP (λi hi=>.inl (.inl hi));have Hp:Moved w NA N3:=wD.trans (wB.trans Hd kP.size) wC.size;refine⟨rfl,N3,n3,⟨Hl,⟨_,Hj,λx' y'=>?_⟩,hS.lt⟩,m7,Hp⟩;have Xf:r1.2.2.find? (λt=>decide (t.1=x/\t.2.1=y))=none:=by
    rw[uC];intro t ht hh;simp only[Vl] at hh;rcases G8 t ht with h1 | h1
    ·rcases G7 t h1 with h2 | h2
     ·have:=uC.1 k t h2;simp only[Vl] at this;exact this hh
     ·omega
    ·omega
   rw[aC,Hh,iK,iK,List.find?_append];by_cases Yc:(x',y')=(x,y)
   ·cases Yc;rw[Qf rfl,Xf];simp
   ·rw[if_neg (λe=>Yc (by cases e;rfl))];have: [(x,y,(ZR ⟨v,r0.1,r1.1⟩ r1.2.1).2)].find? (λt:Tr3=>decide (t.1=x'/\t.2.1=y'))=none:=by
     rw[DI]
     ·rfl
     ·simp only[Vl];exactλe=>Yc (by rw[e.1,e.2])
    rw[this];simp
theorem Pm (w:World):Fn Tryz.prog 187 [] w (λv w'=>v=VP.ptr (w.heap.size+1)/\Ext w w'/\w'.heap.size=w.heap.size+2/\Blk w' (w.heap.size+1) 177 [.slice none 0 0,.map (some w.heap.size)]/\MapQ bX w' w.heap.size []):=by
 refine QD (c:={cQM with cuts:=[]}) Qa Tryz.func187 rfl rfl rfl ?_;refine rS Qa bX rfl ?_;intro w1 Qd Q3 Zo;refine new (λw2 Qg Zb Qw=>?_);rw[Q3] at Qw;exact⟨by rw[Q3];rfl,Qd.trans Qg,by omega,Qw,Zo.ext Qg⟩
theorem fQh (A:Option Addr)(n c:Nat)(a:List Br)(ra:Int)(B:Option Addr)(m d:Nat)(b:List Br)(rb op:Int)(F ob:Nat)(w:World)(hF:vC F op)(h:SB w A n c a)(h':SB w B m d b)(De:Blk w ob 139 [.func (.func F) #[] #[]])(ha:Vo a)(hb:Vo b)(r0:0<=ra)(r1:ra<n+2)(s0:0<=rb)(s1:rb<m+2)(hn:n<=1000000000000)(hm:m<=1000000000000)
  (Xy:(jY a ra b rb op).2.1.length<=100000000000):
  Fn Tryz.prog 128 [.agg #[.slice A n c,.int .i64 ra,.slice B m d,.int .i64 rb,.slice none 0 0,.int .i64 0],.func (.func 129) #[] #[VP.ptr ob]] w (vh w (VE a ra b rb op)):=by
 have KU:=h.2;have eU:=h'.2;have mQG:=De.lt;refine QD (c:={Nw with cuts:=[]}) Qa Tryz.func128 rfl rfl rfl ?_;refine new (λw1 Qd Q3 Qh=>?_);refine new (λw2 Qg Zb Qw=>?_);refine new (λw3 Qk JI Qt=>?_);refine call (Pm w3) ?_;rintro _ w4 ⟨rfl,Qq,KY,Q4,kR⟩;refine new (λw5 Qv KJ QK=>?_);refine XP (j:=0) QK (by decide) (λw6 KZ Xo=>?_);have Xz:Ext w4 w6:=KZ.ext Qv (λi hi=>by omega);refine rS Qa bt rfl ?_;intro w7 Q2 WJ Hq;refine new (λw8 Q0 VJ Xt=>?_);refine XP (j:=0) Xt (by decide) (λw9 Ze JT=>?_);have Yn:Ext w7 w9:=Ze.ext Q0 (λi hi=>by omega);refine new (λQJ ZJ wv Km=>?_);refine XP (j:=0) Km (by decide) (λQG ZV ZZ=>?_);have z6:=KZ.size;have z9:=Ze.size;have Bk:=ZV.size;have fI:Ext w9 QG:=ZV.ext ZJ (λi hi=>by omega);have kS:Ext w6 QG:=(Q2.trans Yn).trans fI;have cv:Ext w4 QG:=Xz.trans kS;have KQ:=Qq;have kT:Ext w3 QG:=Qq.trans cv;have YS:Ext w QG:=((Qd.trans Qg).trans Qk).trans kT
 let D:AD:=⟨A,n,c,a,ra,B,m,d,b,rb,op⟩
 let p:CP:=⟨w1.heap.size,ob,w7.heap.size,w.heap.size,w9.heap.size,w4.heap.size,w3.heap.size+1,w3.heap.size,w6.heap.size,F,D⟩
 have wF:=ZZ.lt;have hK:CK QG QG.heap.size p:=by
  refine⟨hF,Qw.ext (Qk.trans kT),De.ext YS,JT.ext fI,Qh.ext ((Qg.trans Qk).trans kT),ZZ,Xo.ext kS,h.ext YS,h'.ext YS,λk hk=>?_,λad e h0=>?_,λad e h0=>?_⟩
  ·simp only[p] at hk ⊢;rcases hk with rfl | rfl | rfl | rfl | rfl | rfl<;>omega
  ·have:=SB.lt h ad e h0;simp only[p];omega
  ·have:=SB.lt h' ad e h0;simp only[p];omega
 have hS:CSt QG QG.heap.size p none 0 ([],[]):=by
  refine⟨⟨Q4.ext cv,Own.nil _ _ _ _,⟨[],kR.ext cv,λ_=>rfl⟩,?_,QC _⟩,⟨[],Hq.ext (Yn.trans fI),λ_ _=>rfl⟩,?_⟩
  ·simp only[p];omega
  ·simp only[p];omega
 have Xf:∀i,Qj none i->QG.heap.size<=i:=λi hi=>by obtain⟨_,e,_⟩:=hi;cases e
 have nof:=λk hk=>CS.no (p:=p) Xf (hK.off k hk)
 refine XC Qa (Mod (CS p none) QG) 14 [(true,0),(true,1),(true,2),(true,3),(true,4),(true,5),(true,6),(true,7),(true,8),(true,9),(true,10),(true,11),(false,12),(false,13)] (by kernel_rfl) (Mod.of_ext _ (Ext.drew QG)) ?_;refine QH (v:=VP.ptr p.pb) (λw' Qb=>by rw[(hK.bxb.mod Qb (nof _ (by simp))).cell0];rfl) ?_;refine QH (v:=p.clo) (λw' Qb=>by rw[(hK.axb.mod Qb (nof _ (by simp))).cell0];rfl) ?_;refine JO (j:=0) (by decide) ?_;refine QH (v:=.int .i64 ra) (λw' Qb=>by rw[add_add,(hK.lxb.mod Qb (nof _ (by simp))).cell];rfl) ?_;refine JO (j:=1) (by decide) ?_;refine QH (v:=.int .i64 rb) (λw' Qb=>by rw[add_add,(hK.lxb.mod Qb (nof _ (by simp))).cell];rfl) ?_;refine JO (j:=2) (by decide) ?_;refine QH (v:=.int .i64 0) (λw' Qb=>by rw[add_add,(hK.lxb.mod Qb (nof _ (by simp))).cell];rfl) ?_;have inv:=vl ha hb op (ra.toNat+rb.toNat+1) ra rb ([],[]) ⟨λj x hx=>by simp at hx,λt ht=>by simp at ht⟩ r0 s0 (by omega) (by omega);refine call (Pk QG.heap.size p ha hb ⟨hn,hm⟩ (ra.toNat+rb.toNat+1) ra rb ([],[]) none 0 _ (hK.ext (Ext.drew QG)) (hS.ext (Ext.drew QG)) r0 s0 (by omega) r1 s1 Xy) ?_;rintro _ Xg ⟨rfl,NA,nc,aL,Ht,tC⟩;have Vr:Mod (CS p none) QG Xg:=(Mod.of_ext _ (Ext.drew QG)).trans Ht (λi hi=>.inl hi);refine⟨Vr,?_⟩;have jQF:(Xp a b op (ra.toNat+rb.toNat+1) ra rb ([],[])).2.1.length<=100000000000:=Xy;have wG:SB Xg NA _ nc _:=⟨aL.bd.own.sl,rfl⟩
 refine call (ED p.pb (.map (some p.km)) NA _ nc _ _ Xg aL.bd.blk wG inv.1.1 (by show(Xp a b op (ra.toNat+rb.toNat+1) ra rb ([],[])).2.1.length<=_;omega) inv.2.1 inv.2.2 (SB.lt wG)) ?_;rintro _ X2 ⟨OA,k,oc,rfl,XK,wI,gJ⟩;have Kf:Mod (CS p none) QG X2:=Vr.trans (Mod.of_ext (CS p none) XK) (λi hi=>.inl hi);refine⟨Kf,?_⟩;have nres:¬CS p none w2.heap.size:=CS.no (p:=p) Xf (by simp only[p];omega);have K2:=(Qt.ext kT).mod Kf nres;refine Qz K2 rfl (sc rfl) (λZi ep _ JU=>?_);have KP:Mod (·=w2.heap.size) X2 Zi:=mQW ep rfl;refine Qs JU rfl ?_;have p8:Ext w X2:=Kf.ext YS (λi hi=>by
  rcases hi with e | e | e | ⟨_,e,_⟩
  ·simp only[p] at e;omega
  ·simp only[p] at e;omega
  ·simp only[p] at e;omega
  ·cases e)
 have TG:=Vr.size;have nr:∀i,Qj OA i->¬i=w2.heap.size:=λi hi e=>by have:=gJ i hi;omega
 refine⟨OA,k,oc,rfl,KP.ext p8 (λi hi=>by omega),⟨wI.1.modS KP (λ_ i hi=>nr i hi),wI.2⟩,λi hi=>by have:=gJ i hi;have:=YS.size;omega⟩
theorem E5 (A:Option Addr)(n c:Nat)(a:List Br)(ra:Int)(B:Option Addr)(m d:Nat)(b:List Br)(rb op:Int)(F:Nat)(w:World)(hF:vC F op)(h:SB w A n c a)(h':SB w B m d b):
  Fn Tryz.prog 82 [Xm A n c ra,Xm B m d rb,.func (.func F) #[] #[]] w (pj w (dR a ra b rb op)):=by
 have KU:=h.2;have eU:=h'.2;refine QD (c:={c82 with cuts:=[]}) Qa Tryz.func82 rfl rfl rfl ?_;refine new (λw1 Qd Q3 Qh=>?_);refine new (λw2 Qg Zb Qw=>?_);refine new (λw3 Qk JI Qt=>?_);refine new (λw4 Qq KY Q4=>?_);have Jj:=Qk.trans Qq;have XL:=(Qd.trans Qg).trans Jj;have JU:=(Qh.ext Qg).ext Jj;have kU:=Qw.ext Jj;have iY:=Qt.ext Qq;refine Qs JU rfl ?_;refine Qs kU rfl ?_;refine XI Qa [(⟨A,n,c,a,ra⟩:DV).cells,(⟨B,m,d,b,rb⟩:DV).cells] rfl rfl rfl rfl rfl ⟨rfl,rfl,rfl,rfl,⟨⟩⟩ rfl (λcs h=>by simp only[QZ,Jf,Jn] at h;rcases h with rfl | rfl<;>rfl) rfl (by decide) (by decide) ?_;intro w5 Qv KJ QK;have JV:=XL.trans Qv;have hL:SlS DV.cells 2 w5 (some ⟨w4.heap.size,0,none⟩) 2 2 [⟨A,n,c,a,ra⟩,⟨B,m,d,b,rb⟩]:=⟨Sl.own (sz:=2) (n:=2) QK (QC _) (by decide) (by simp[DV.cells]),rfl⟩
 refine call (zW _ 2 2 _ w5 hL (λx hx=>by
  simp only[QZ,Jf,Jn] at hx;rcases hx with rfl | rfl
  ·exact h.ext JV
  ·exact h'.ext JV)) ?_
 rintro v w6 ⟨rfl,Xh⟩;have Xz:=Qv.trans Xh;have XM:=XL.trans Xz;have jQG:=Q4.ext Xz;have lQQ:=Xz.size;have ef:bY [(⟨A,n,c,a,ra⟩:DV),⟨B,m,d,b,rb⟩]=if XG a ra≠0 then XG a ra else if XG b rb≠0 then XG b rb else 0:=rfl
 refine bg (λc1=>?_) (λc1=>?_)
 ·have e:dR a ra b rb op=(([],0),bY [(⟨A,n,c,a,ra⟩:DV),⟨B,m,d,b,rb⟩]):=by
   rw[ef] at c1 ⊢;unfold dR;split
   ·rfl
   ·rename_i hh;rw[if_neg hh] at c1;split
    ·rfl
    ·rename_i kO;rw[if_neg kO] at c1;exact Q8 rfl c1
  rw[e];refine Qz jQG rfl (sc rfl) (λw7 Zu _ Q6=>?_);have Xb:Mod (·=w3.heap.size) w6 w7:=mQW Zu rfl;refine Qs Q6 rfl ?_;exact⟨none,0,0,rfl,Xb.ext XM (λi hi=>by omega),SlS.nil _,λi ⟨_,e,_⟩=>by cases e⟩
 ·rw[ef] at c1;have ca:XG a ra=0:=by
   by_cases hh:XG a ra=0
   ·exact hh
   ·rw[Qf hh] at c1;exact c1
  have cb:XG b rb=0:=by
   rw[if_neg (λhh=>hh ca)] at c1;by_cases hh:XG b rb=0
   ·exact hh
   ·rw[Qf hh] at c1;exact c1
  obtain⟨sa,va⟩:=fw.1 ca;obtain⟨sb,vb⟩:=fw.1 cb;have e:dR a ra b rb op=iI (VE a ra b rb op):=by unfold dR;rw[if_neg (λhh=>hh ca),if_neg (λhh=>hh cb)]
  rw[e];have hb2:=EO va vb op;have xW:(a.length+2)*(b.length+2)<=4098*4098:=Nat.mul_le_mul (by omega) (by omega);refine Qs (JU.ext Xz) rfl ?_;refine Qs (kU.ext Xz) rfl ?_;have De:Blk w6 w2.heap.size 139 [.func (.func F) #[] #[]]:=iY.ext Xz;refine call (fQh A n c a ra B m d b rb op F w2.heap.size w6 hF (h.ext XM) (h'.ext XM) De va.dok vb.dok va.2.1 (by have:=va.2.2.1;omega) vb.2.1 (by have:=vb.2.2.1;omega) (by omega) (by omega) (by omega)) ?_;rintro v w7 ⟨OA,k,oc,rfl,Q2,tI,Kt⟩;have V7:=Xz.trans Q2;have K4:=XL.trans V7;have TH:=XM.size;refine call (Pi OA k oc _ _ w4 w7 tI (λi hi=>by have:=Kt i hi;omega) V7) ?_;rintro v w8 ⟨PA,q,pc,rfl,Q0,wJ,nh⟩;refine Qz (Q4.ext Q0) rfl (sc rfl) (λw9 eC _ JT=>?_);have Ze:Mod (·=w3.heap.size) w8 w9:=mQW eC rfl;refine Qs JT rfl ?_;refine⟨PA,q,pc,rfl,Ze.ext (XL.trans Q0) (λi hi=>by omega),⟨wJ.1.modS Ze (λ_ i hi e=>by have:=nh i hi;omega),wJ.2⟩,λi hi=>by have:=nh i hi;omega⟩
theorem vE (A:Option Addr)(n c:Nat)(a:List Br)(ra:Int)(B:Option Addr)(m d:Nat)(b:List Br)(rb:Int)(w:World)(h:SB w A n c a)(h':SB w B m d b):
  Fn Tryz.prog 36 [Xm A n c ra,Xm B m d rb] w (pj w (dR a ra b rb 0)):=by
 refine QD (c:={c36 with cuts:=[]}) Qa Tryz.func36 rfl rfl rfl ?_;refine new (λw1 Qd Q3 Qh=>?_);refine new (λw2 Qg Zb Qw=>?_);refine new (λw3 Qk JI Qt=>?_);have QW:=(Qd.trans Qg).trans Qk;refine Qs ((Qh.ext Qg).ext Qk) rfl ?_;refine Qs (Qw.ext Qk) rfl ?_;refine call (E5 A n c a ra B m d b rb 0 84 w3 (.inl ⟨rfl,rfl⟩) (h.ext QW) (h'.ext QW)) ?_;rintro v w4 ⟨PA,q,pc,rfl,Qq,d9,bC⟩;refine Qz (Qt.ext Qq) rfl (sc rfl) (λw5 Jw _ QK=>?_);have Z1:Mod (·=w2.heap.size) w4 w5:=mQW Jw rfl;refine Qs QK rfl ?_;obtain⟨g1,g2,g3⟩:=EW (r:=dR a ra b rb 0) (QW.trans Qq) Z1 (by omega) d9 (λi hi=>by have:=bC i hi;omega);exact⟨PA,q,pc,rfl,g1,g2,g3⟩
theorem Po (A:Option Addr)(n c:Nat)(a:List Br)(ra:Int)(B:Option Addr)(m d:Nat)(b:List Br)(rb:Int)(w:World)(h:SB w A n c a)(h':SB w B m d b):
  Fn Tryz.prog 101 [Xm A n c ra,Xm B m d rb] w (pj w (dR a ra b rb 1)):=by
 refine QD (c:={bQW with cuts:=[]}) Qa Tryz.func101 rfl rfl rfl ?_;refine new (λw1 Qd Q3 Qh=>?_);refine new (λw2 Qg Zb Qw=>?_);refine new (λw3 Qk JI Qt=>?_);have QW:=(Qd.trans Qg).trans Qk;refine Qs ((Qh.ext Qg).ext Qk) rfl ?_;refine Qs (Qw.ext Qk) rfl ?_;refine call (E5 A n c a ra B m d b rb 1 155 w3 (.inr (.inl ⟨rfl,rfl⟩)) (h.ext QW) (h'.ext QW)) ?_;rintro v w4 ⟨PA,q,pc,rfl,Qq,d9,bC⟩;refine Qz (Qt.ext Qq) rfl (sc rfl) (λw5 Jw _ QK=>?_);have Z1:Mod (·=w2.heap.size) w4 w5:=mQW Jw rfl;refine Qs QK rfl ?_;obtain⟨g1,g2,g3⟩:=EW (r:=dR a ra b rb 1) (QW.trans Qq) Z1 (by omega) d9 (λi hi=>by have:=bC i hi;omega);exact⟨PA,q,pc,rfl,g1,g2,g3⟩
theorem E6 (A:Option Addr)(n c:Nat)(a:List Br)(ra:Int)(w:World)(h:SB w A n c a):
  Fn Tryz.prog 35 [Xm A n c ra] w (pj w (dR a ra [] 0 3)):=by
 refine QD (c:={c35 with cuts:=[]}) Qa Tryz.func35 rfl rfl rfl ?_;refine new (λw1 Qd Q3 Qh=>?_);refine new (λw2 Qg Zb Qw=>?_);have Q7:=Qd.trans Qg;refine Qs (Qh.ext Qg) rfl ?_;refine call (E5 A n c a ra none 0 0 [] 0 3 83 w2 (.inr (.inr ⟨rfl,rfl⟩)) (h.ext Q7) (SlS.nil _)) ?_;rintro v w4 ⟨PA,q,pc,rfl,Qq,d9,bC⟩;refine Qz (Qw.ext Qq) rfl (sc rfl) (λw5 Jw _ QK=>?_);have Z1:Mod (·=w1.heap.size) w4 w5:=mQW Jw rfl;refine Qs QK rfl ?_;obtain⟨g1,g2,g3⟩:=EW (r:=dR a ra [] 0 3) (Q7.trans Qq) Z1 (by omega) d9 (λi hi=>by have:=bC i hi;omega);exact⟨PA,q,pc,rfl,g1,g2,g3⟩
end
section
section
variable {α:Type} {f:α->List Value} {sz:Nat}
theorem Pp (hf:∀x,(f x).length=sz):∀(l:List α)(j:Nat),(l.flatMap f).take (j*sz)=(l.take j).flatMap f
 | [],j=>by simp
 | x::l,0=>by simp
 | x::l,j+1=>by
  rw[cK,jx,cK,<-Pp hf l j,rx];rw[Jm (by rw[hf,jw];omega),hf,show(j+1)*sz-sz=j*sz by rw[jw];omega]
theorem Pq (hf:∀x,(f x).length=sz):∀(l:List α)(j:Nat),(l.flatMap f).drop (j*sz)=(l.drop j).flatMap f
 | [],j=>by simp
 | x::l,0=>by simp
 | x::l,j+1=>by
  rw[cK,Mx,<-Pq hf l j,List.drop_append];rw[ry (by rw[hf,jw];omega),hf,show(j+1)*sz-sz=j*sz by rw[jw];omega];rfl
theorem zZ (hf:∀x,(f x).length=sz)(l:List α){j:Nat}(x:α)(hj:j<l.length):KV (j*sz) (f x) (l.flatMap f)=(l.set j x).flatMap f:=by
 have ZO:(j+1)*sz<=l.length*sz:=Y1 _ hj;rw[jw] at ZO;rw[iF _ _ _ (by rw[hf,cQ hf];exact ZO),hf,Pp hf,<-jw,Pq hf,List.set_eq_take_append_cons_drop,Qf hj];simp
theorem fQi (hf:∀x,(f x).length=sz)(h0:0<sz){z:α}{zc:Array Value}(hz:zc.toList=f z)(n:Nat):(madeCells zc (n*sz)).toList=(List.replicate n z).flatMap f:=by
 have C4:zc.size=sz:=by rw[<-Array.length_toList,hz,hf]
 apply DB;intro i;by_cases hi:i<n*sz
 ·have hd:i/sz<n:=Nat.div_lt_of_lt_mul (by rw[uD];exact hi);have hr:i % sz<sz:=oJ _ h0;have Df:i/sz*sz+i % sz=i:=by rw[uD];exact Nat.div_add_mod i sz
  have g1:(List.replicate n z)[i/sz]? =some z:=by rw[List.getElem?_replicate,Qf hd]
  have g2:=Xn (l:=f z) (i:=i % sz) (by rw[hf];exact hr);have g3:=fm hf _ _ _ _ _ g1 g2;rw[Df] at g3;rw[g3];have e:zc[i % zc.size]! =(f z)[i % sz]'(by rw[hf];exact hr):=by
   have h1:zc[i % sz]? =some ((f z)[i % sz]'(by rw[hf];exact hr)):=by rw[<-Array.getElem?_toList,hz];exact g2
   rw[C4,Array.getElem!_eq_getD,Array.getD_eq_getD_getElem?,h1]<;>rfl
  simp[madeCells,hi,e]
 ·rw[lM (by simp[madeCells];omega),lM (by rw[cQ hf];simp;omega)]
theorem fQj (hf:∀x,(f x).length=sz)(h0:0<sz)(z:α){c:Cx}(hg:c.g.Ok){o:Oper}{S:Env}{w:World}{K:Env->World->Prop}{Q:Zg}{t e:Nat}{x y:Operand}{n:Nat}{r re:TyRow}(ho:o.op= .makeSlice t x y)(hr:QU c.g.tys t=some r)(hd:r.d= .slice e)(X7:QU c.g.tys e=some re)(hz:re.z.cells.toList=f z)
  (hs:re.sz=sz) (hx:S.ev x=some (.int .i64 n)) (hy:S.ev y=some (.int .i64 n)) (hb:re.by_*n<=281474976710656) (hn:n<=maxLen)
  (k:∀w1,Ext w w1->w1.heap.size=w.heap.size+1->Blk w1 w.heap.size e ((List.replicate n z).flatMap f)->Xk c S o.dst (.v (.slice (some ⟨w.heap.size,0,none⟩) n n)) (λS=>K S w1)):X8 c o S w K Q:=by
 obtain⟨_,i,hi,Xu,bK,bL⟩:=hg.row X7;have Q1:=(hg.row hr).1;rw[hd] at Q1;have bA:=run_make (P:=c.g.P) w t e i re.z Q1 hi bL .i64 .i64 n n (by omega) (by omega) (by rw[bK];omega) (by unfold maxLen at hn;omega);have hm:=fQi hf h0 hz n;rw[Xu,hs] at bA;simp only[fc] at bA;refine Js (w':=w.alloc (.cells (madeCells re.z.cells (n*sz)) e)) (v:=.slice (some ⟨w.heap.size,0,none⟩) n n) (λa hf=>?_) (k _ (Ext.alloc w _) (by simp) ?_)
 ·have e1:=hf.ev hx;have e2:=hf.ev hy;simp only[execOp,ho,e1,e2];simp at bA ⊢;rw[bA]<;>rfl
 ·rw[<-hm];simpa using Blk.new w e (madeCells re.z.cells (n*sz)).toList
end
end
end Go.Proofs.YtjabbbcdgmlojaaGreatDoor
