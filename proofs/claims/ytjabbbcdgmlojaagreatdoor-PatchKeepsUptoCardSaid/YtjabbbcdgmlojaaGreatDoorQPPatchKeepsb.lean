/-
  What PPatchKeeps rests on, part 2 (wip/shake.py).
  Conditions: none.
-/
import Derived.Test.YtjabbbcdgmlojaaGreatDoorQPPatchKeepsa
set_option linter.all false
set_option linter.deprecated false
set_option maxHeartbeats 12800000
namespace Go.Proofs.YtjabbbcdgmlojaaGreatDoor
open Go Go.RowKit
noncomputable section
section
def Zl (o:Int):Int:=if o=0∨o=1∨o=2 then 0 else if o=3 then 1 else if o=4∨o=5 then 2 else -1
theorem sj (o:Int):((o=0∨o=1∨o=2)/\Zl o=0)∨(o=3/\Zl o=1)∨((o=4∨o=5)/\Zl o=2)∨(Zl o= -1/\o≠0/\o≠1/\o≠2/\o≠3/\o≠4/\o≠5):=by
 unfold Zl;split
 ·left;omega
 ·split
  ·right;left;omega
  ·split
   ·right;right;left;omega
   ·right;right;right;omega
def Vc (x:Fz)(i:Nat):Prop:=0<=Zl x.o/\(if x.o=2 then 0<=x.v/\x.v<64 else x.v=0)/\(if 0<Zl x.o then 0<=x.a/\x.a<i else x.a=0)/\(if 1<Zl x.o then 0<=x.b/\x.b<i else x.b=0)
instance (x:Fz) (i:Nat):Decidable (Vc x i):=by unfold Vc;infer_instance
def YX (x:Fz):Fz:=⟨x.o,if x.o=2 then x.v else 0,if 0<Zl x.o then x.a else 0,if 1<Zl x.o then x.b else 0⟩
theorem OI (a b c d a' b' c' d':Int):(a==a'&&(b==b'&&(c==c'&&(d==d'&&true))))=decide (a=a'/\b=b'/\c=c'/\d=d'):=by
 rw[oT];simp only[Jl,beq_iff_eq,Vm,and_true]
theorem OJ (x:Fz):(x.o=(YX x).o/\x.v=(YX x).v/\x.a=(YX x).a/\x.b=(YX x).b)↔((x.o≠2->x.v=0)/\(Zl x.o<=0->x.a=0)/\(Zl x.o<=1->x.b=0)):=by
 unfold YX;simp only;constructor
 ·rintro⟨_,h1,h2,h3⟩;split at h1<;>split at h2<;>split at h3<;>omega
 ·rintro⟨h1,h2,h3⟩;refine⟨trivial,?_,?_,?_⟩<;>split<;>omega
theorem dQP (x:Fz)(i:Nat)(w:World):Fn Tryz.prog 223 [.agg x.cells.toArray,.int .i64 i] w (λv w'=>v= .int .i64 (if Vc x i then Zl x.o else -1)/\Ext w w'):=by
 refine QF (c:={dQg with cuts:=[3]}) Qa Tryz.func223 rfl rfl rfl ?_;refine new (λw1 Qe Q4 Qh=>?_);refine QD Qh rfl ?_;refine new (λw2 Qg Zb Qx=>?_);refine Qv Qx rfl (sc rfl) (λw3 Z7 _ Qu=>?_);have XC:Mod (·=w1.heap.size) w2 w3:=nQQ Z7 rfl
 replace Qu:Blk w3 w1.heap.size 280 [.int .i64 x.o,.int .i64 0,.int .i64 0,.int .i64 0]:=Qu;have Vg:=(Qh.ext Qg).mod XC (by omega);have Qj:Ext w w3:=XC.ext (Qe.trans Qg) (λi hi=>by omega);refine fO [] Qa [6] (λk:Int=>[.int .i64 k]) (λk w'=>Ext w w'/\Blk w' w.heap.size 280 x.cells/\Blk w' w1.heap.size 280 (YX x).cells/\k=Zl x.o/\0<=Zl x.o/\(x.o=2->0<=x.v/\x.v<64)) ?_ ?_
 ·refine QD Vg rfl ?_;refine X3 (λh=>?_) (λh=>?_)
  ·refine⟨_,rfl,Qj,Vg,?_,?_,?_,?_⟩
   ·rw[show(YX x).cells=[.int .i64 x.o,.int .i64 0,.int .i64 0,.int .i64 0] from by simp[YX,Fz.cells,h,Zl]];exact Qu
   ·rw[h]<;>rfl
   ·rw[h];decide
   ·intro h2;omega
  refine X3 (λh1=>?_) (λh1=>?_)
  ·refine⟨_,rfl,Qj,Vg,?_,?_,?_,?_⟩
   ·rw[show(YX x).cells=[.int .i64 x.o,.int .i64 0,.int .i64 0,.int .i64 0] from by simp[YX,Fz.cells,h1,Zl]];exact Qu
   ·rw[h1]<;>rfl
   ·rw[h1];decide
   ·intro h2;omega
  refine X3 (λh2=>?_) (λh2=>?_)
  ·refine Qo Vg rfl ?_;refine XP Qu (by simp) (λw4 X5 Q7=>?_);have YN:=Vg.mod X5 (by omega);have Qs:=X5.ext Qj (λi hi=>by omega);refine Qo YN rfl ?_;refine Qz (λh3=>?_) (λh3=>?_)
   ·exact⟨by rw[if_neg (λhf=>by have:=hf.2.1;rw[Qf h2] at this;omega)],Qs⟩
   refine Qo YN rfl ?_;refine Qz (λh4=>?_) (λh4=>?_)
   ·exact⟨by rw[if_neg (λhf=>by have:=hf.2.1;rw[Qf h2] at this;omega)],Qs⟩
   refine⟨_,rfl,Qs,YN,?_,?_,?_,?_⟩
   ·rw[show(YX x).cells=[.int .i64 x.o,.int .i64 x.v,.int .i64 0,.int .i64 0] from by simp[YX,Fz.cells,h2,Zl]];exact Q7
   ·rw[h2]<;>rfl
   ·rw[h2];decide
   ·intro _;omega
  refine X3 (λh3=>?_) (λh3=>?_)
  ·refine Qo Vg rfl ?_;refine XP Qu (by simp) (λw4 X5 Q7=>?_);have YN:=Vg.mod X5 (by omega);have Qs:=X5.ext Qj (λi hi=>by omega);refine⟨_,rfl,Qs,YN,?_,?_,?_,?_⟩
   ·rw[show(YX x).cells=[.int .i64 x.o,.int .i64 0,.int .i64 x.a,.int .i64 0] from by simp[YX,Fz.cells,h3,Zl]];exact Q7
   ·rw[h3]<;>rfl
   ·rw[h3];decide
   ·intro _;omega
  have two:(x.o=4∨x.o=5)->∀w4,Mod (·=w1.heap.size) w3 w4->Blk w4 w1.heap.size 280 [.int .i64 x.o,.int .i64 0,.int .i64 x.a,.int .i64 x.b]->Ext w w4/\Blk w4 w.heap.size 280 x.cells/\Blk w4 w1.heap.size 280 (YX x).cells/\(2:Int)=Zl x.o/\0<=Zl x.o/\(x.o=2->0<=x.v/\x.v<64):=λho w4 X5 Q7=>by
   have e:Zl x.o=2:=by rcases ho with h | h<;>rw[h]<;>rfl
   refine⟨X5.ext Qj (λi hi=>by omega),Vg.mod X5 (by omega),?_,e.symm,by omega,by omega⟩;rw[show(YX x).cells=[.int .i64 x.o,.int .i64 0,.int .i64 x.a,.int .i64 x.b] from by simp[YX,Fz.cells,h2,e]];exact Q7
  refine X3 (λh4=>?_) (λh4=>?_)
  ·refine Qo Vg rfl ?_;refine XP Qu (by simp) (λw4 X5 Q7=>?_);have YN:=Vg.mod X5 (by omega);refine Qo YN rfl ?_;refine XP Q7 (by simp) (λw5 XS QG=>?_);exact⟨_,rfl,two (.inl h4) w5 (X5.trans XS (λi hi=>.inl hi)) QG⟩
  refine X3 (λh5=>?_) (λh5=>?_)
  ·refine Qo Vg rfl ?_;refine XP Qu (by simp) (λw4 X5 Q7=>?_);have YN:=Vg.mod X5 (by omega);refine Qo YN rfl ?_;refine XP Q7 (by simp) (λw5 XS QG=>?_);exact⟨_,rfl,two (.inr h5) w5 (X5.trans XS (λi hi=>.inl hi)) QG⟩
  ·have Zt:Zl x.o= -1:=by rcases sj x.o with h | h | h | h<;>omega
   exact⟨by rw[if_neg (λhf=>by have:=hf.1;omega)],Qj⟩
 rintro k w4 ⟨Qs,YN,eM,rfl,h0,hv⟩;have no:¬Vc x i->∀w',Ext w w'->(Value.int .i64 (-1))= .int .i64 (if Vc x i then Zl x.o else -1)/\Ext w w':=λh w' hE=>⟨by rw[if_neg h],hE⟩
 have yes:Vc x i->∀w',Ext w w'->(Value.int .i64 (Zl x.o))= .int .i64 (if Vc x i then Zl x.o else -1)/\Ext w w':=λh w' hE=>⟨by rw[Qf h],hE⟩
 have XY:=sj x.o;refine Qt YN rfl ?_;refine Qt eM rfl ?_;by_cases hp:x.o=(YX x).o/\x.v=(YX x).v/\x.a=(YX x).a/\x.b=(YX x).b
 rotate_left
 ·refine Q8 (by rw[OI,Zq hp];rfl) ?_;refine no (λhf=>hp ((OJ x).2 ?_)) _ Qs;obtain⟨f1,f2,f3,f4⟩:=hf;split at f2<;>split at f3<;>split at f4<;>omega
 refine Q3 (by rw[OI,Zy hp];rfl) ?_;have hq:=(OJ x).1 hp;have bad:(x.a<0∨x.b<0∨(0<Zl x.o/\(i<=x.a∨i<=x.b)))->¬Vc x i:=λhb hf=>by
  obtain⟨f1,f2,f3,f4⟩:=hf;split at f3<;>split at f4<;>omega
 refine Qo YN rfl ?_;refine Qz (λh1=>?_) (λh1=>?_)
 ·exact no (bad (.inl h1)) _ Qs
 refine Qo YN rfl ?_;refine Qz (λh2=>?_) (λh2=>?_)
 ·exact no (bad (.inr (.inl h2))) _ Qs
 refine Qz (λh3=>?_) (λh3=>?_)
 ·refine Qo YN rfl ?_;refine Qo YN rfl ?_;refine norm (m:=max x.a x.b) (by rw[Int.max_def];split<;>split<;>omega) ?_;refine Qz (λh4=>?_) (λh4=>?_)
  ·refine no (bad (.inr (.inr ⟨h3,?_⟩))) _ Qs;rw[Int.max_def] at h4;split at h4<;>omega
  ·rw[Int.max_def] at h4;refine yes ⟨h0,?_,?_,?_⟩ _ Qs
   ·split
    ·rename_i h;exact hv h
    ·rename_i h;exact hq.1 h
   ·rw[Qf h3];split at h4<;>omega
   ·split
    ·split at h4<;>omega
    ·exact hq.2.2 (by omega)
 ·refine yes ⟨h0,?_,?_,?_⟩ _ Qs
  ·split
   ·rename_i h;exact hv h
   ·rename_i h;exact hq.1 h
  ·rw[if_neg h3];exact hq.2.1 (by omega)
  ·rw[if_neg (by omega)];exact hq.2.2 (by omega)
end
section
def YY (l:List Bool):List Value:=l.map .bool
theorem vr {l:List Bool}{j:Nat}{b:Bool}(h:l[j]? =some b):(YY l)[j]? =some (.bool b):=by simp[YY,h]
theorem dQQ (l:List Bool):(YY l).length=l.length:=by simp[YY]
theorem OK (l:List Bool)(i:Nat)(b:Bool):YY (l.set i b)=(YY l).set i (.bool b):=by simp[YY,List.map_set]
def YH (x:Fz):List Nat:=if Zl x.o=2 then [x.a.toNat,x.b.toNat] else if Zl x.o=1 then [x.a.toNat] else []
def JJ (f:List Fz):List Nat:=f.flatMap YH
def FV (f:List Fz):Prop:=f.length<=512/\0<f.length/\(∀i x,f[i]? =some x->Vc x i)/\∀i,i+1<f.length->(JJ f).count i=1
open Classical in
def sk (f:List Fz):Int:=if FV f then 0 else 30
theorem zF {f:List Fz}(h:FV f):sk f=0:=Qf h
theorem zG {f:List Fz}(h:¬FV f):sk f=30:=if_neg h
theorem dQR {f:List Fz}:sk f=0↔FV f:=by
 constructor
 ·intro h;unfold sk at h;split at h
  ·assumption
  ·cases h
 ·exact zF
theorem dQS (d:List Fz){i:Nat}{x:Fz}(h:d[i]? =some x):JJ (d.take (i+1))=JJ (d.take i)++YH x:=by
 simp[JJ,K9,h]
theorem dQT {x:Fz}{i:Nat}(h:Vc x i):∀j∈YH x,j<i:=by
 intro j hj;obtain⟨_,_,h3,h4⟩:=h;unfold YH at hj;split at hj
 ·rename_i h2;rw[Qf (by omega)] at h3 h4;simp at hj;omega
 ·split at hj
  ·rename_i h2;rw[Qf (by omega)] at h3;simp at hj;omega
  ·simp at hj
theorem dQU {d:List Fz}{i:Nat}(h:∀j x,j<i->d[j]? =some x->Vc x j):∀j∈JJ (d.take i),j+1<i:=by
 intro j hj;simp only[JJ,WE] at hj;obtain⟨x,hx,hk⟩:=hj;obtain⟨m,hm,VC⟩:=DS.1 hx;have QY:m<i:=by simp at hm;omega
 have Hj:d[m]? =some x:=by
  rw[List.getElem_take] at VC;rw[<-VC];exact Xp _
 have:=dQT (h m x QY Hj) j hk;omega
def eA (l:List Nat)(n:Nat):List Bool:=(List.range n).map λj=>decide (j∈l)
theorem OL (l:List Nat)(n j:Nat)(hj:j<n):(eA l n)[j]? =some (decide (j∈l)):=by simp[eA,hj]
theorem dQV (l:List Nat)(n:Nat):(eA l n).length=n:=by simp[eA]
theorem dQW (l:List Nat)(n k:Nat):(eA l n).set k true=eA (l++ [k]) n:=by
 unfold eA;apply List.ext_getElem
 ·simp
 ·intro i h1 h2;simp at h1;simp only[List.getElem_set,List.getElem_map,List.getElem_range,XM,QN];split
  ·rename_i h;subst h;simp
  ·rename_i h;have:¬i=k:=λe=>h e.symm
   simp[this]
theorem dQX (n:Nat):eA [] n=List.replicate n false:=by
 apply List.ext_getElem
 ·simp[eA]
 ·intro i h1 h2;simp[eA]
theorem dQY {d:List Fz}{s:Nat}{x:Fz}(hx:d[s]? =some x)(h:¬Vc x s):¬FV d:=λhv=>h (hv.2.2.1 s x hx)
theorem dQZ {d:List Fz}{s:Nat}(hnd:∀j x,j<s->d[j]? =some x->Vc x j)(hs:s<=d.length)(h:¬(JJ (d.take s)).Nodup):¬FV d:=λhv=>by
 apply h;rw[List.nodup_iff_count];intro a;by_cases ha:a∈JJ (d.take s)
 ·have h1:=dQU hnd a ha;have h2:=hv.2.2.2 a (by omega);rw[<-h2];have jH:(JJ (d.take s)).Sublist (JJ d):=by
   have:JJ d=JJ (d.take s)++JJ (d.drop s):=by
    unfold JJ;rw[<-WF,lQ]
   rw[this];exact List.sublist_append_left _ _
  exact jH.count_le a
 ·rw[List.count_eq_zero.2 ha];omega
theorem dQ0 {d:List Fz}(h1:d.length<=512)(h2:0<d.length)(hnd:∀j x,j<d.length->d[j]? =some x->Vc x j)(hn:(JJ d).Nodup)(hu:∀j,j+1<d.length->j∈JJ d):FV d:=
 ⟨h1,h2,λi x hx=>hnd i x (ZY.1 hx).1 hx,λi hi=>by
  have h3:=List.nodup_iff_count.1 hn i;have h4:=List.count_pos_iff.2 (hu i hi);omega⟩
theorem dQ1 {w:World}{t:TypeId}{cs cs':List Value}{K:Addr->World->Prop}(h:cs=cs')(k:∀w1,Ext w w1->w1.heap.size=w.heap.size+1->Blk w1 w.heap.size t cs'->K ⟨w.heap.size,0,none⟩ w1):pf w t cs K:=by
 subst h;exact new k
abbrev SF (w:World)(A:Option Addr)(n c:Nat)(f:List Fz):Prop:=SlS Fz.cells 4 w A n c f
def j9 (x:Fz):List Int:=[x.a,x.b].take (Zl x.o).toNat
theorem dQ2 {x:Fz}{i:Nat}(h:Vc x i):(j9 x).length=(Zl x.o).toNat/\∀j:Nat,∀a:Int,(j9 x)[j]? =some a->0<=a/\a<i/\(YH x)[j]? =some a.toNat:=by
 obtain⟨h1,_,h3,h4⟩:=h;unfold j9 YH;rcases sj x.o with⟨_,e⟩ | ⟨_,e⟩ | ⟨_,e⟩ | ⟨e,_⟩
 ·rw[e];simp
 ·rw[e] at h3 ⊢;simp at h3;simp;intro j a ha;cases j with
  | zero=>simp at ha;subst ha;simp;omega
  | succ j=>simp at ha
 ·rw[e] at h3 h4 ⊢;simp at h3 h4;simp;intro j a ha
  match j,ha with
  | 0,ha=>simp at ha;subst ha;simp;omega
  | 1,ha=>simp at ha;subst ha;simp;omega
  | j+2,ha=>simp at ha
 ·rw[e] at h1;omega
theorem dQ3 (x:Fz)(_:0<=Zl x.o):(YH x).length=(Zl x.o).toNat:=by
 unfold YH;rcases sj x.o with⟨_,e⟩ | ⟨_,e⟩ | ⟨_,e⟩ | ⟨e,_⟩<;>rw[e]<;>first | rfl | omega
end
section
theorem OM (A:Option Addr)(n c:Nat)(f:List Fz)(w:World)(h:SF w A n c f):
  Fn Tryz.prog 193 [.slice A n c] w (λv w'=>v= .int .i64 (sk f)/\Ext w w'):=by
 have QY:=h.2;refine QF (c:={cQY with cuts:=[4]}) Qa Tryz.func193 rfl rfl rfl ?_;refine X3 (λh1=>?_) (λh1=>?_)
 ·exact⟨by rw[zG (λhv=>by have:=hv.2.1;omega)],Ext.refl w⟩
 refine Qz (λh2=>?_) (λh2=>?_)
 ·exact⟨by rw[zG (λhv=>by have:=hv.1;omega)],Ext.refl w⟩
 refine dQ1 (cs':=YY (List.replicate 512 false)) (by kernel_rfl) (λw1 Qe Q4 Qh=>?_);rw[<-dQX] at Qh;refine fO [] Qa [] (λ_:Unit=>[]) (λ_ w'=>Ext w w'/\Blk w' w.heap.size 297 (YY (eA (JJ f) 512))/\(∀j x,j<n->f[j]? =some x->Vc x j)/\(JJ f).Nodup) ?_ ?_
 ·refine loop Qa [20] (λs:Nat=>[.int .i64 s]) (λs w'=>Ext w w'/\Blk w' w.heap.size 297 (YY (eA (JJ (f.take s)) 512))/\s<=n/\(∀j x,j<s->f[j]? =some x->Vc x j)/\(JJ (f.take s)).Nodup) (λs _=>n-s) 0 rfl ⟨Qe,Qh,Xr _,λj x hj=>Xn hj (by omega),by simp[JJ]⟩ ?_;rintro s w2 ⟨Qg,m7,hs,hnd,fm⟩;refine Qz (λh3=>?_) (λh3=>?_)
  ·refine Zv zD (h.ext Qg) rfl (by omega) (λp x hx hc=>?_);refine Kn (vs:=x.cells) rfl hc ?_;refine new (λw3 Qj JC Qu=>?_);refine Qv Qu rfl (sc rfl) (λw4 cT KO Q7=>?_);have J1:Ext w2 w4:=X9 Qj Qu cT;have Qs:=Qg.trans J1;have hU4:=m7.ext J1;refine Qt Q7 rfl ?_;refine call (dQP x s w4) ?_;rintro v w5 ⟨rfl,Qw⟩;have QG:=Q7.ext Qw;have bad:¬(Vc x s/\(JJ (f.take (s+1))).Nodup)->sk f=30:=λXi=>by
    refine zG ?_;by_cases eN:Vc x s
    ·refine dQZ (s:=s+1) (λj y hj hy=>?_) (by omega) (λh=>Xi ⟨eN,h⟩);by_cases YP:j<s
     ·exact hnd j y YP hy
     ·have:j=s:=by omega
      subst this;rw[Option.some.inj (hy.symm.trans hx)];exact eN
    ·exact dQY hx eN
   by_cases om:¬Vc x s
   ·refine Zh (by rw[if_neg om];decide) ?_;exact⟨by rw[bad (λhh=>om hh.1)],Qs.trans Qw⟩
   replace om:=Decidable.not_not.1 om;have h0:=om.1;have e5:(if Vc x s then Zl x.o else -1)=((Zl x.o).toNat:Int):=by rw[Qf om];omega
   rw[e5];refine XD (by omega) ?_;refine Qo QG rfl ?_;refine Qo QG rfl ?_;refine rX Qa rfl rfl rfl rfl rfl rfl rfl rfl rfl rfl (λw6 QO dX Q9=>?_);have xX:(Zl x.o).toNat<=2:=by rcases sj x.o with h | h | h | h<;>omega
   refine iX Qa rfl rfl rfl rfl rfl rfl xX ?_;have Zw:=Qw.trans QO;have Hk:=hU4.ext Zw;have XR:=Qs.trans Zw;obtain⟨ol,ok⟩:=dQ2 om;have ZT:=dQ3 x h0;have LT:Sl w6 1 (some ⟨w5.heap.size,0,none⟩) (Zl x.o).toNat 2 ((j9 x).map (Value.int .i64)):=by
    have:=Sl.own (sz:=1) (n:=(Zl x.o).toNat) (c:=2) Q9 xX (by decide) (by simpa using xX);rw[YT] at this;simpa [j9,List.map_take] using this
   have hkz:JJ (f.take (s+1))=JJ (f.take s)++YH x:=dQS f hx;refine loop Qa [38] (λt:Nat=>[.int .i64 t]) (λt w'=>Mod (·=w.heap.size) w6 w'/\Blk w' w.heap.size 297 (YY (eA (JJ (f.take s)++(YH x).take t) 512))/\t<=(Zl x.o).toNat/\(JJ (f.take s)++(YH x).take t).Nodup) (λt _=>(Zl x.o).toNat-t) 0 rfl ⟨Mod.refl _ _,by simpa using Hk,Xr _,by simpa using fm⟩ ?_;rintro t w7 ⟨Kc,Bl,ht,Hl⟩;have Xb:Ext w w7:=Kc.ext XR (λi hi=>by omega);refine Qz (λh7=>?_) (λh7=>?_)
   ·have Wc:t<(j9 x).length:=by omega
    have dm:(j9 x)[t]? =some (j9 x)[t]:=Xp Wc;generalize (j9 x)[t]=a at dm;obtain⟨a0,ai,ak⟩:=ok t a dm;refine KC LT (by omega) (λad u hA hu Xq=>?_);simp only[aL,dm,uK] at hu;cases hu;have jQS:w7.cell? (ad.add t)=some (.int .i64 a):=World.grownBy.cell (Kc.grown (row:=some w.heap.size) (λi hi=>by rw[hi])) Xq (by
     rw[pw];cases hA;intro e;have:=(Option.some.inj e)
     have:=Qs.size;have:=Qw.size;have:=Qe.size;have:=m7.lt;simp only at*;omega)
    refine load jQS ?_;have KV:a.toNat<512:=by omega
    refine zB (j:=a.toNat) (by omega) KV ?_;refine Qo Bl (vr (OL _ _ _ KV)) ?_;have Wd:(YH x).take (t+1)=(YH x).take t++ [a.toNat]:=by rw[K9,ak]<;>rfl
    refine Qz (λh8=>?_) (λh8=>?_)
    ·refine⟨?_,Xb⟩;rw[bad];rintro⟨_,Ue⟩;rw[hkz] at Ue;have jH:(JJ (f.take s)++(YH x).take (t+1)).Nodup:=Ue.sublist ((List.Sublist.refl _).append (List.take_sublist _ _));rw[Wd,<-J7,MW] at jH;exact jH.2.2 _ h8 _ (by simp) rfl
    ·refine zB (j:=a.toNat) (by omega) KV ?_;refine XP Bl (by rw[dQQ,dQV];exact KV) (λw8 JB Xw=>?_);rw[<-OK,dQW,J7,<-Wd] at Xw;refine Qi ((t+1:Nat):Int) (by omega) (by omega) ?_;refine⟨t+1,rfl,⟨Kc.trans JB (λi hi=>.inl hi),Xw,by omega,?_⟩,by show(Zl x.o).toNat-(t+1)<(Zl x.o).toNat-t;omega⟩;rw[Wd,<-J7,MW];refine⟨Hl,by simp,λu hu v hv e=>?_⟩;simp only[QN] at hv;subst hv;subst e;exact h8 hu
   ·have e:(YH x).take t=YH x:=Jc (by omega);rw[e,<-hkz] at Bl Hl;refine Qi ((s+1:Nat):Int) (by omega) (by omega) ?_;refine⟨s+1,rfl,⟨Xb,Bl,by omega,λj y hj hy=>?_,Hl⟩,by show n-(s+1)<n-s;omega⟩;by_cases YP:j<s
    ·exact hnd j y YP hy
    ·have:j=s:=by omega
     subst this;rw[Option.some.inj (hy.symm.trans hx)];exact om
  ·have:s=n:=by omega
   subst this;rw[Jc (by omega)] at m7 fm;exact⟨(),rfl,Qg,m7,hnd,fm⟩
 rintro⟨⟩ w2 ⟨Qg,m7,hnd,fm⟩;refine Qi ((n-1:Nat):Int) (by omega) (by omega) ?_;refine iX Qa rfl rfl rfl rfl rfl rfl (by have:=h.1.le;omega) ?_;refine loop Qa [55] (λs:Nat=>[.int .i64 s]) (λs w'=>w2=w'/\s<=n-1/\∀j,j<s->j∈JJ f) (λs _=>n-s) 0 rfl ⟨rfl,Xr _,λj hj=>Xn hj (by omega)⟩ ?_;rintro s _ ⟨rfl,hs,hu⟩;refine Qz (λh3=>?_) (λh3=>?_)
 ·refine index (by omega) ?_;refine Qo m7 (vr (OL _ _ s (by omega))) ?_;refine l6 (Qz (λhm=>?_) (λhm=>?_))
  ·refine Qi ((s+1:Nat):Int) (by omega) (by omega) ?_;refine⟨s+1,rfl,⟨rfl,by omega,λj hj=>?_⟩,by show n-(s+1)<n-s;omega⟩;by_cases YP:j<s
   ·exact hu j YP
   ·have:j=s:=by omega
    rw[this];exact hm
  ·refine⟨?_,Qg⟩;rw[zG (λhv=>?_)];have:=hv.2.2.2 s (by omega);rw[List.count_eq_zero.2 hm] at this;cases this
 ·exact⟨by rw[zF (dQ0 (by omega) (by omega) (λj x hj hx=>hnd j x (by omega) hx) fm (λj hj=>hu j (by omega)))],Qg⟩
end
section
inductive Fm where
 | c (b:Bool)
 | v (n:Nat)
 | not (a:Fm)
 | and (a b:Fm)
 | or (a b:Fm)
deriving DecidableEq
def RepF (f:List Fz):Fm->Nat->Prop
 | .c b,i=>f[i]? =some ⟨if b then 1 else 0,0,0,0⟩
 | .v n,i=>f[i]? =some ⟨2,(n:Nat),0,0⟩
 | .not a,i=>∃j:Nat,j<i/\f[i]? =some ⟨3,0,(j:Nat),0⟩/\RepF f a j
 | .and a b,i=>∃j k:Nat,j<i/\k<i/\f[i]? =some ⟨4,0,(j:Nat),(k:Nat)⟩/\RepF f a j/\RepF f b k
 | .or a b,i=>∃j k:Nat,j<i/\k<i/\f[i]? =some ⟨5,0,(j:Nat),(k:Nat)⟩/\RepF f a j/\RepF f b k
theorem dQ4 {x:Fz}{i:Nat}(h:Vc x i):(x=⟨0,0,0,0⟩)∨(x=⟨1,0,0,0⟩)∨(∃n:Nat,n<64/\x=⟨2,n,0,0⟩)∨(∃j:Nat,j<i/\x=⟨3,0,j,0⟩)∨(∃j k:Nat,j<i/\k<i/\(x=⟨4,0,j,k⟩∨x=⟨5,0,j,k⟩)):=by
 obtain⟨o,v,a,b⟩:=x;obtain⟨h1,h2,h3,h4⟩:=h;simp only at h1 h2 h3 h4;rcases sj o with⟨ho,e⟩ | ⟨ho,e⟩ | ⟨ho,e⟩ | ⟨e,_⟩
 ·rw[if_neg (by omega)] at h3 h4;subst h3;subst h4;rcases ho with rfl | rfl | rfl
  ·rw[if_neg (by omega)] at h2;subst h2;exact .inl rfl
  ·rw[if_neg (by omega)] at h2;subst h2;exact .inr (.inl rfl)
  ·rw[Qf rfl] at h2;refine .inr (.inr (.inl ⟨v.toNat,by omega,?_⟩));rw[DT h2.1]
 ·rw[Qf (by omega)] at h3;rw[if_neg (by omega)] at h4 h2;subst ho;subst h4;subst h2;refine .inr (.inr (.inr (.inl ⟨a.toNat,by omega,?_⟩)));rw[DT h3.1]
 ·rw[Qf (by omega)] at h3 h4;rw[if_neg (by omega)] at h2;subst h2;refine .inr (.inr (.inr (.inr ⟨a.toNat,b.toNat,by omega,by omega,?_⟩)));rw[DT h3.1,DT h4.1];rcases ho with rfl | rfl
  ·exact .inl rfl
  ·exact .inr rfl
 ·omega
theorem ON {f:List Fz}(h:∀i x,f[i]? =some x->Vc x i):∀i,i<f.length->∃t,RepF f t i:=by
 intro i;induction i using Nat.strongRecOn with
 | _ i ih=>
  intro hi;have hx:=Xp hi;rcases dQ4 (h i _ hx)with e | e | ⟨n,_,e⟩ | ⟨j,hj,e⟩ | ⟨j,k,hj,hk,e⟩
  ·exact⟨.c false,by rw[e] at hx;exact hx⟩
  ·exact⟨.c true,by rw[e] at hx;exact hx⟩
  ·exact⟨.v n,by rw[e] at hx;exact hx⟩
  ·obtain⟨a,ha⟩:=ih j hj (by omega);exact⟨.not a,j,hj,by rw[e] at hx;exact hx,ha⟩
  ·obtain⟨a,ha⟩:=ih j hj (by omega);obtain⟨b,hb⟩:=ih k hk (by omega);rcases e with e | e
   ·exact⟨.and a b,j,k,hj,hk,by rw[e] at hx;exact hx,ha,hb⟩
   ·exact⟨.or a b,j,k,hj,hk,by rw[e] at hx;exact hx,ha,hb⟩
theorem RepF.lt {f:List Fz}:∀{t:Fm}{i:Nat},RepF f t i->i<f.length
 | .c _,_,h=>(ZY.1 h).1
 | .v _,_,h=>(ZY.1 h).1
 | .not _,_,⟨_,_,h,_⟩=>(ZY.1 h).1
 | .and _ _,_,⟨_,_,_,_,h,_⟩=>(ZY.1 h).1
 | .or _ _,_,⟨_,_,_,_,h,_⟩=>(ZY.1 h).1
def ZO:Fm->Nat
 | .or _ _=>0
 | .and _ _=>1
 | _=>2
def Yo (b:Bool)(s:List Nat):List Nat:=if b then 40::s++ [41] else s
def Jq (nm:List (List Nat)):Fm->List Nat
 | .c b=>if b then Wn else cC
 | .v n=>nm[n]?.getD []
 | .not a=>33::Yo (decide (ZO a<2)) (Jq nm a)
 | .and a b=>Yo (decide (ZO a<1)) (Jq nm a)++ [32,38,38,32]++Yo (decide (ZO b<2)) (Jq nm b)
 | .or a b=>Yo (decide (ZO a<0)) (Jq nm a)++ [32,124,124,32]++Yo (decide (ZO b<1)) (Jq nm b)
def ZP (nm:List (List Nat))(least:Nat)(t:Fm):List Nat:=Yo (decide (ZO t<least)) (Jq nm t)
def VarsIn (n:Nat):Fm->Prop
 | .c _=>True
 | .v k=>k<n
 | .not a=>VarsIn n a
 | .and a b=>VarsIn n a/\VarsIn n b
 | .or a b=>VarsIn n a/\VarsIn n b
theorem dQ5 (o:Int)(w:World):Fn Tryz.prog 224 [.int .i64 o] w (λv w'=>v= .int .i64 (if o=5 then 0 else if o=4 then 1 else 2)/\w=w'):=by
 refine QF (c:=dQh) Qa Tryz.func224 rfl rfl rfl ?_;refine X3 (λh=>?_) (λh=>?_)
 ·exact⟨by rw[Qf h],rfl⟩
 refine X3 (λh1=>?_) (λh1=>?_)
 ·exact⟨by rw[if_neg h,Qf h1],rfl⟩
 ·exact⟨by rw[if_neg h,if_neg h1],rfl⟩
theorem sm (u:FrameMode)(base g t:Nat)(rest:List Value)(A:Option Addr)(c:Nat)(out:List Nat)(b:Nat)(w:World)(hl:pA t (rest.length+2))(hb:Bld w base g t rest A c out)(hs:out.length+1<=140737488355328):
  CallsD Tryz.prog 225 [.pointer (some ⟨g,0,none⟩),.int .u8 b].toArray u w (λe u' w'=>u'=u/\∃v,e= .returned v/\(λ_ w'=>∃A' c',Bld w' base g t rest A' c' (out++ [b])/\Mod (BldS g A) w w'/\Moved w A A') v w'):=by
 refine dQL (c:=N6) Qa u Tryz.func225 rfl rfl rfl ?_;obtain⟨pa,Jb,hB⟩:=hb.blk;refine call (EC g t pa _ rest w hl Jb hB) ?_;rintro v w1 ⟨Zt,Qh⟩;have VQ:=hb.own.rows;have eK:=hb.g1;have lD:=hb.top;have hn:¬Qk A g:=λh=>by have:=(VQ g h).1;omega
 have p7:=hb.own.mod Zt (λk hk e=>hn (e▸hk));refine Qo Qh rfl ?_;refine NI Qa rfl rfl rfl rfl rfl rfl rfl rfl ?_;intro w7 Xb jQO Q2;have g9:Sl w7 1 (some ⟨w1.heap.size,0,none⟩) 1 1 [.int .u8 (b:Int)]:=Sl.own' Q2 rfl (by simp[maxLen]);have jQP:=Zt.size;have jQQ:=Xb.size;refine Z4 Qa rfl rfl rfl rfl rfl (by decide) rfl rfl ⟨_,rfl⟩ rfl rfl (p7.ext Xb) g9 (by simp[JG]) (by unfold maxLen;omega) (by show _*1<=_;omega) (by omega) ?_;intro A' c' w2 XQ dU mW;refine XP ((Qh.ext Xb).mod XQ hn) (by simp) (λw3 XC Qu=>?_);have p8:=dU.rows;refine⟨A',c',⟨eK,by have:=XQ.size;have:=XC.size;omega,⟨_,.inr rfl,by rw[Qq];exact Qu⟩,?_⟩,?_,mW.back (by omega)⟩
 ·rw[Qq,zz];exact dU.mod XC (λk hk e=>by have:=(p8 k hk).1;omega)
 ·exact(((Zt.mono (S':=BldS g A) (λi hi=>.inl (.inl hi))).trans (Mod.of_ext (λ_=>False) Xb) (λi hi=>hi.elim)).trans XQ (λi hi=>.inl (.inr hi))).trans XC (λi hi=>.inl (.inl hi))
end
section
theorem sn (a b:Value):(#[]++ [a,b].toArray)++ #[]=[a,b].toArray:=by simp
theorem WM:pA 109 2:=by unfold pA;kernel_rfl
def Wr (base g:Nat)(W:World)(A1:Option Addr)(out xs:List Nat)(w':World):Prop:=∃A' c',Bld w' base g 109 [] A' c' (out++xs)/\Mod (BldS g A1) W w'/\Moved W A1 A'
theorem Wr.trans {base g:Nat}{W w1 w2:World}{A1 A':Option Addr}{out xs ys:List Nat}(hm:Mod (BldS g A1) W w1)(hv:Moved W A1 A')(k:Wr base g w1 A' (out++xs) ys w2):Wr base g W A1 out (xs++ys) w2:=by
 obtain⟨A2,c2,hb2,XQ,Kb⟩:=k;exact⟨A2,c2,by rw[<-J7];exact hb2,hm.trans XQ (BldS.moved hv),hv.trans Kb hm.size⟩
theorem nQT {base g:Nat}{w w2 w':World}{A:Option Addr}{out xs:List Nat}(h:Wr base g w2 A out xs w')(hE:Ext w w2):Wr base g w A out xs w':=by
 obtain⟨A2,c2,hb2,XQ,Kb⟩:=h;exact⟨A2,c2,hb2,(Mod.of_ext _ hE).trans XQ (λi hi=>.inl hi),Kb.back hE.size⟩
theorem BldS.kept {base g:Nat}{w0 W:World}{A:Option Addr}{c:Nat}{out:List Nat}(h:Bld W base g 109 [] A c out)(hg:w0.heap.size<=g):∀i,BldS g A i->w0.heap.size<=i:=λi hi=>by
 have:=h.g1;rcases hi with rfl | hi
 ·exact hg
 ·have:=(h.own.rows i hi).1;omega
def QE:Fm->Nat
 | .c _=>1
 | .v _=>1
 | .not a=>QE a+1
 | .and a b=>QE a+QE b+1
 | .or a b=>QE a+QE b+1
def VY:Fm->Int
 | .c b=>if b then 1 else 0
 | .v _=>2
 | .not _=>3
 | .and _ _=>4
 | .or _ _=>5
theorem dQ6 (t:Fm):(if VY t=5 then(0:Int)else if VY t=4 then 1 else 2)=(ZO t:Nat):=by
 cases t with
 | c b=>cases b<;>rfl
 | _=>rfl
theorem RepF.node {f:List Fz}{t:Fm}{i:Nat}(h:RepF f t i):∃x,f[i]? =some x/\x.o=VY t:=by
 cases t with
 | c b=>exact⟨_,h,rfl⟩
 | v n=>exact⟨_,h,rfl⟩
 | not a=>obtain⟨j,_,h,_⟩:=h;exact⟨_,h,rfl⟩
 | and a b=>obtain⟨j,k,_,_,h,_⟩:=h;exact⟨_,h,rfl⟩
 | or a b=>obtain⟨j,k,_,_,h,_⟩:=h;exact⟨_,h,rfl⟩
def zH (base g:Nat)(w0:World)(NA:Option Addr)(nn nc:Nat)(nm:List (List Nat))(FA:Option Addr)(nf cf:Nat)(f:List Fz)(t:Fm):Prop:=
 ∀(i least:Nat) (A:Option Addr) (c:Nat) (out:List Nat) (w:World),Ext w0 w->Bld w base g 109 [] A c out->RepF f t i->VarsIn nn t->out.length+(ZP nm least t).length<=140737488355328->least<=2->
  Fn Tryz.prog 194 [.pointer (some ⟨g,0,none⟩),.slice NA nn nc,.slice FA nf cf,.int .i64 i,.int .i64 least] w (λ_ w'=>Wr base g w A out (ZP nm least t) w')
theorem dQ7 (base g:Nat)(w0:World)(NA:Option Addr)(nn nc:Nat)(nm:List (List Nat))(FA:Option Addr)(nf cf:Nat)(f:List Fz)(hN:Sl w0 1 NA nn nc (XB nm))(VR:Ku nm)(hF:SF w0 FA nf cf f)(wC:w0.heap.size<=g)(t:Fm)(ih:∀u:Fm,QE u<QE t->zH base g w0 NA nn nc nm FA nf cf f u):zH base g w0 NA nn nc nm FA nf cf f t:=by
 intro i least A c out w hE hb hr hv hl Zz;have ZT:=hF.2;have Kl:nm.length=nn:=by have:=hN.len;rw[aU] at this;omega
 have hi:=hr.lt;obtain⟨x,hx,xY⟩:=hr.node;refine vq (c:={cQZ with cuts:=[]}) Qa Tryz.func194 rfl rfl rfl ?_;refine ZN (ZA Qa ?_);refine Zv zD (hF.ext hE) rfl (by omega) (λp y hy hc=>?_);have iE:y=x:=Option.some.inj (hy.symm.trans hx);subst iE;refine Kn (vs:=y.cells) rfl hc ?_;refine new (λw1 Qe Q4 Qh=>?_);refine Qv Qh rfl (sc rfl) (λw2 cU Zb Kw=>?_);have Xv:Ext w w2:=X9 Qe Qh cU;have Q5:=hE.trans Xv;have hb2:=hb.grow Xv;have lD:=hb.top;have eK:=hb.g1;have iG:¬BldS g A w.heap.size:=λe=>by
  rcases e with e | e
  ·omega
  ·have:=(hb.own.rows _ e).2;omega
 refine ZN (ZA Qa ?_);refine QD Kw rfl ?_;refine call (dQ5 y.o w2) ?_;rintro v _ ⟨rfl,rfl⟩;rw[xY,dQ6];have JE:(ZP nm least t).length=(Jq nm t).length+(if ZO t<least then 2 else 0):=by
  unfold ZP Yo;split
  ·rename_i h;rw[Qf (by simpa using h)];simp
  ·rename_i h;rw[if_neg (by simpa using h)]<;>rfl
 have tC:∀A' c' out' W w',Bld W base g 109 [] A' c' out'->Mod (BldS g A') W w'->Ext w0 W->Ext w0 w':=λA' c' out' W w' hb hm hE=>hm.ext hE (BldS.kept hb wC)
 refine ZN ?_;refine ZN (ZA Qa ?_);by_cases hd:ZO t<least
 ·rw[Qf hd] at JE;have fo:ZP nm least t=[40]++(Jq nm t++ [41]):=by unfold ZP Yo;rw[Qf (by simpa using hd)];simp
  refine dQJ rfl (Zy (by omega)) (ZN (ZA Qa ?_));refine call (ED base g _ [] _ _ _ 40 w2 WM hb2 (by omega)) ?_;rintro v w3 ⟨A3,c3,nh,XC,aA⟩;generalize dY:out++ [40]=oo at nh;have Vg:=Kw.mod XC iG;have QX:=tC _ _ _ _ _ hb2 XC Q5;have tD:¬BldS g A3 w.heap.size:=λe=>(BldS.moved aA _ e).elim iG (λh=>by omega)
  refine vp Qa rfl rfl rfl rfl ⟨_,_,_,_,rfl,rfl,?_⟩;have XE:oo.length+(Jq nm t).length<=140737488355327:=by rw[<-dY,Qq];simp only[Q6,Jn];omega
  have JZ:=XE
  replace XE:oo.length+(Jq nm t).length<=140737488355328:=by omega
  have rh:∀w',Mod (BldS g A3) w3 w'->Blk w' w.heap.size 280 y.cells/\Ext w0 w':=λw' hm=>⟨Vg.mod hm tD,tC _ _ _ _ _ nh hm QX⟩
  refine ZN (ZA Qa ?_);refine QD Vg rfl ?_;refine ZA Qa ?_;rw[xY] at*;cases t with
  | c b=>
   cases b with
   | false=>
    refine Jp rfl ?_;refine call (i9 base g _ [] _ _ _ _ w3 WM nh (by have:(Jq nm (.c false)).length=5:=rfl;rw[this] at XE;exact XE)) ?_;rintro v w9 h9
    replace h9:Wr base g w3 A3 _ (Jq nm (.c false)) w9:=h9;obtain⟨A9,c9,ia,eO,ib⟩:=h9;refine fT (fU Qa rfl rfl (.inr rfl) (sn _ _) ((sm .returning base g _ [] A9 c9 _ 41 w9 WM ia (by rw[Qq];omega)).mono ?_));rintro e u' Qy ⟨rfl,v,rfl,XN⟩;refine⟨v,rfl,rfl,?_⟩;show Wr base g w A out (ZP nm least _) Qy;rw[fo];exact nQT (Wr.trans XC aA (by rw[dY];exact Wr.trans eO ib XN)) Xv
   | true=>
    refine Xy (by decide) ?_;refine Jp rfl ?_;refine call (i9 base g _ [] _ _ _ _ w3 WM nh (by have:(Jq nm (.c true)).length=4:=rfl;rw[this] at XE;exact XE)) ?_;rintro v w9 h9
    replace h9:Wr base g w3 A3 _ (Jq nm (.c true)) w9:=h9;obtain⟨A9,c9,ia,eO,ib⟩:=h9;refine fT (fU Qa rfl rfl (.inr rfl) (sn _ _) ((sm .returning base g _ [] A9 c9 _ 41 w9 WM ia (by rw[Qq];omega)).mono ?_));rintro e u' Qy ⟨rfl,v,rfl,XN⟩;refine⟨v,rfl,rfl,?_⟩;show Wr base g w A out (ZP nm least _) Qy;rw[fo];exact nQT (Wr.trans XC aA (by rw[dY];exact Wr.trans eO ib XN)) Xv
  | v n=>
   have hy:y=⟨2,(n:Nat),0,0⟩:=Option.some.inj (hx.symm.trans hr);subst hy;refine Xy (by show(2:Int)≠_;decide) ?_;refine Xy (by show(2:Int)≠_;decide) ?_;refine Jp rfl ?_;refine Qo Vg rfl ?_;have hn:n<nn:=hv;have ri:nm[n]? =some nm[n]:=Xp (by omega);have uu:Jq nm (.v n)=nm[n]:=by show nm[n]?.getD []=_;rw[ri]<;>rfl
   rw[uu] at XE;generalize nm[n]=s at*;refine KC (hN.ext QX) (by omega) (λad u hA hu Xq=>?_);rw[j8 ri] at hu;cases hu;refine load Xq ?_;refine call (i9 base g _ [] _ _ _ _ w3 WM nh (by rw[Xe];exact XE)) ?_;rintro v w9 h9;rw[WJ (VR s (Xm ri)).1] at h9;rw[<-uu] at h9;obtain⟨A9,c9,ia,eO,ib⟩:=h9;refine fT (fU Qa rfl rfl (.inr rfl) (sn _ _) ((sm .returning base g _ [] A9 c9 _ 41 w9 WM ia (by rw[Qq];omega)).mono ?_));rintro e u' Qy ⟨rfl,v,rfl,XN⟩;refine⟨v,rfl,rfl,?_⟩;show Wr base g w A out (ZP nm least _) Qy;rw[fo];exact nQT (Wr.trans XC aA (by rw[dY];exact Wr.trans eO ib XN)) Xv
  | not a=>
   obtain⟨j,hj,hy,We⟩:=hr;have hy:=Option.some.inj (hx.symm.trans hy);subst hy;refine Xy (by show(3:Int)≠_;decide) ?_;refine Xy (by show(3:Int)≠_;decide) ?_;refine Xy (by show(3:Int)≠_;decide) ?_;refine Jp rfl ?_;have Jb:Jq nm (.not a)=[33]++ZP nm 2 a:=rfl;rw[Jb,Qq] at XE;simp only[Q6,Jn] at XE;refine call (ED base g _ [] _ _ _ 33 w3 WM nh (by omega)) ?_;rintro v w7 ⟨A7,c7,ig,Kc,KI⟩;obtain⟨wD,Xb⟩:=rh w7 Kc;refine Qo wD rfl ?_;refine call (ih a (by simp only[QE];omega) j 2 A7 c7 _ w7 Xb ig We hv (by rw[Qq];simp only[Q6,Jn];omega) (QB _)) ?_;rintro v w9 h9
   replace h9:=Wr.trans Kc KI h9;rw[<-Jb] at h9;obtain⟨A9,c9,ia,eO,ib⟩:=h9;refine fT (fU Qa rfl rfl (.inr rfl) (sn _ _) ((sm .returning base g _ [] A9 c9 _ 41 w9 WM ia (by rw[Qq];omega)).mono ?_));rintro e u' Qy ⟨rfl,v,rfl,XN⟩;refine⟨v,rfl,rfl,?_⟩;show Wr base g w A out (ZP nm least _) Qy;rw[fo];exact nQT (Wr.trans XC aA (by rw[dY];exact Wr.trans eO ib XN)) Xv
  | and a b=>
   obtain⟨j,k,hj,hk,hy,We,fp⟩:=hr;have hy:=Option.some.inj (hx.symm.trans hy);subst hy;refine Xy (by show(4:Int)≠_;decide) ?_;refine Xy (by show(4:Int)≠_;decide) ?_;refine Xy (by show(4:Int)≠_;decide) ?_;refine Xy (by show(4:Int)≠_;decide) ?_;have Jb:Jq nm (.and a b)=(ZP nm 1 a++ [32,38,38,32])++ZP nm 2 b:=rfl;rw[Jb,Qq,Qq] at XE;simp only[Q6,Jn] at XE;refine Qo Vg rfl ?_;refine call (ih a (by simp only[QE];omega) j 1 _ _ _ w3 QX nh We hv.1 (by omega) (by omega)) ?_;rintro v w7 ⟨A7,c7,ig,Kc,KI⟩;refine rX Qa rfl rfl rfl rfl rfl rfl rfl rfl rfl rfl (λw8 Xl Yw Xw=>?_);refine index (j:=1) (by decide) ?_;refine Qo Xw rfl ?_;have JB:=Kc.trans (Mod.of_ext (BldS g A7) Xl) (BldS.moved KI);refine call (i9 base g _ [] _ _ _ _ w8 WM (ig.grow Xl) (by rw[Qq,show(⟨#[32,38,38,32]⟩:ByteArray).size=4 from rfl];omega)) ?_;rintro v w5 h5
   replace h5:=Wr.trans JB KI (show Wr base g w8 A7 _ [32,38,38,32] w5 from (by obtain⟨A5,c5,WW,XS,Yc⟩:=h5;exact⟨A5,c5,WW,XS,Yc⟩));obtain⟨A5,c5,WW,XS,Yc⟩:=h5;obtain⟨Kx,Qw⟩:=rh w5 XS;refine Qo Kx rfl ?_;refine Qi 2 (by show(1:Int)+1=2;decide) (by decide) ?_;refine call (ih b (by simp only[QE];omega) k 2 A5 c5 _ w5 Qw WW fp hv.2 (by rw[Qq,Qq];simp only[Q6,Jn];omega) (by omega)) ?_;rintro v w9 h9
   replace h9:=Wr.trans XS Yc h9;rw[<-Jb] at h9;obtain⟨A9,c9,ia,eO,ib⟩:=h9;refine fT (fU Qa rfl rfl (.inr rfl) (sn _ _) ((sm .returning base g _ [] A9 c9 _ 41 w9 WM ia (by rw[Qq];omega)).mono ?_));rintro e u' Qy ⟨rfl,v,rfl,XN⟩;refine⟨v,rfl,rfl,?_⟩;show Wr base g w A out (ZP nm least _) Qy;rw[fo];exact nQT (Wr.trans XC aA (by rw[dY];exact Wr.trans eO ib XN)) Xv
  | or a b=>
   obtain⟨j,k,hj,hk,hy,We,fp⟩:=hr;have hy:=Option.some.inj (hx.symm.trans hy);subst hy;refine Xy (by show(5:Int)≠_;decide) ?_;refine Xy (by show(5:Int)≠_;decide) ?_;refine Xy (by show(5:Int)≠_;decide) ?_;refine Xy (by show(5:Int)≠_;decide) ?_;have Jb:Jq nm (.or a b)=(ZP nm 0 a++ [32,124,124,32])++ZP nm 1 b:=rfl;rw[Jb,Qq,Qq] at XE;simp only[Q6,Jn] at XE;refine Qo Vg rfl ?_;refine call (ih a (by simp only[QE];omega) j 0 _ _ _ w3 QX nh We hv.1 (by omega) (by omega)) ?_;rintro v w7 ⟨A7,c7,ig,Kc,KI⟩;refine rX Qa rfl rfl rfl rfl rfl rfl rfl rfl rfl rfl (λw8 Xl Yw Xw=>?_);refine index (j:=0) (by decide) ?_;refine Qo Xw rfl ?_;have JB:=Kc.trans (Mod.of_ext (BldS g A7) Xl) (BldS.moved KI);refine call (i9 base g _ [] _ _ _ _ w8 WM (ig.grow Xl) (by rw[Qq,show(⟨#[32,124,124,32]⟩:ByteArray).size=4 from rfl];omega)) ?_;rintro v w5 h5
   replace h5:=Wr.trans JB KI (show Wr base g w8 A7 _ [32,124,124,32] w5 from (by obtain⟨A5,c5,WW,XS,Yc⟩:=h5;exact⟨A5,c5,WW,XS,Yc⟩));obtain⟨A5,c5,WW,XS,Yc⟩:=h5;obtain⟨Kx,Qw⟩:=rh w5 XS;refine Qo Kx rfl ?_;refine Qi 1 (by show(0:Int)+1=1;decide) (by decide) ?_;refine call (ih b (by simp only[QE];omega) k 1 A5 c5 _ w5 Qw WW fp hv.2 (by rw[Qq,Qq];simp only[Q6,Jn];omega) (by omega)) ?_;rintro v w9 h9
   replace h9:=Wr.trans XS Yc h9;rw[<-Jb] at h9;obtain⟨A9,c9,ia,eO,ib⟩:=h9;refine fT (fU Qa rfl rfl (.inr rfl) (sn _ _) ((sm .returning base g _ [] A9 c9 _ 41 w9 WM ia (by rw[Qq];omega)).mono ?_));rintro e u' Qy ⟨rfl,v,rfl,XN⟩;refine⟨v,rfl,rfl,?_⟩;show Wr base g w A out (ZP nm least _) Qy;rw[fo];exact nQT (Wr.trans XC aA (by rw[dY];exact Wr.trans eO ib XN)) Xv
 ·rw[if_neg hd] at JE;have fo:ZP nm least t=Jq nm t:=by unfold ZP Yo;rw[if_neg (by simpa using hd)]
  refine dQK rfl (Zq (by omega)) (ZA Qa ?_);have XE:out.length+(Jq nm t).length<=140737488355328:=by omega
  have rh:∀w',Mod (BldS g A) w2 w'->Blk w' w.heap.size 280 y.cells/\Ext w0 w':=λw' hm=>⟨Kw.mod hm iG,tC _ _ _ _ _ hb2 hm Q5⟩
  refine ZN (ZA Qa ?_);refine QD Kw rfl ?_;refine ZA Qa ?_;rw[xY] at*;cases t with
  | c b=>
   cases b with
   | false=>
    refine Jp rfl ?_;refine call (i9 base g _ [] _ _ _ _ w2 WM hb2 (by have:(Jq nm (.c false)).length=5:=rfl;rw[this] at XE;exact XE)) ?_;rintro v w9 h9
    replace h9:Wr base g w2 A _ (Jq nm (.c false)) w9:=h9;refine fT (ja Qa rfl (.inr rfl) ?_);show Wr base g w A out (ZP nm least _) w9;rw[fo];exact nQT h9 Xv
   | true=>
    refine Xy (by decide) ?_;refine Jp rfl ?_;refine call (i9 base g _ [] _ _ _ _ w2 WM hb2 (by have:(Jq nm (.c true)).length=4:=rfl;rw[this] at XE;exact XE)) ?_;rintro v w9 h9
    replace h9:Wr base g w2 A _ (Jq nm (.c true)) w9:=h9;refine fT (ja Qa rfl (.inr rfl) ?_);show Wr base g w A out (ZP nm least _) w9;rw[fo];exact nQT h9 Xv
  | v n=>
   have hy:y=⟨2,(n:Nat),0,0⟩:=Option.some.inj (hx.symm.trans hr);subst hy;refine Xy (by show(2:Int)≠_;decide) ?_;refine Xy (by show(2:Int)≠_;decide) ?_;refine Jp rfl ?_;refine Qo Kw rfl ?_;have hn:n<nn:=hv;have ri:nm[n]? =some nm[n]:=Xp (by omega);have uu:Jq nm (.v n)=nm[n]:=by show nm[n]?.getD []=_;rw[ri]<;>rfl
   rw[uu] at XE;generalize nm[n]=s at*;refine KC (hN.ext Q5) (by omega) (λad u hA hu Xq=>?_);rw[j8 ri] at hu;cases hu;refine load Xq ?_;refine call (i9 base g _ [] _ _ _ _ w2 WM hb2 (by rw[Xe];exact XE)) ?_;rintro v w9 h9;rw[WJ (VR s (Xm ri)).1] at h9;rw[<-uu] at h9;refine fT (ja Qa rfl (.inr rfl) ?_);show Wr base g w A out (ZP nm least _) w9;rw[fo];exact nQT h9 Xv
  | not a=>
   obtain⟨j,hj,hy,We⟩:=hr;have hy:=Option.some.inj (hx.symm.trans hy);subst hy;refine Xy (by show(3:Int)≠_;decide) ?_;refine Xy (by show(3:Int)≠_;decide) ?_;refine Xy (by show(3:Int)≠_;decide) ?_;refine Jp rfl ?_;have Jb:Jq nm (.not a)=[33]++ZP nm 2 a:=rfl;rw[Jb,Qq] at XE;simp only[Q6,Jn] at XE;refine call (ED base g _ [] _ _ _ 33 w2 WM hb2 (by omega)) ?_;rintro v w7 ⟨A7,c7,ig,Kc,KI⟩;obtain⟨wD,Xb⟩:=rh w7 Kc;refine Qo wD rfl ?_;refine call (ih a (by simp only[QE];omega) j 2 A7 c7 _ w7 Xb ig We hv (by rw[Qq];simp only[Q6,Jn];omega) (QB _)) ?_;rintro v w9 h9
   replace h9:=Wr.trans Kc KI h9;rw[<-Jb] at h9;refine fT (ja Qa rfl (.inr rfl) ?_);show Wr base g w A out (ZP nm least _) w9;rw[fo];exact nQT h9 Xv
  | and a b=>
   obtain⟨j,k,hj,hk,hy,We,fp⟩:=hr;have hy:=Option.some.inj (hx.symm.trans hy);subst hy;refine Xy (by show(4:Int)≠_;decide) ?_;refine Xy (by show(4:Int)≠_;decide) ?_;refine Xy (by show(4:Int)≠_;decide) ?_;refine Xy (by show(4:Int)≠_;decide) ?_;have Jb:Jq nm (.and a b)=(ZP nm 1 a++ [32,38,38,32])++ZP nm 2 b:=rfl;rw[Jb,Qq,Qq] at XE;simp only[Q6,Jn] at XE;refine Qo Kw rfl ?_;refine call (ih a (by simp only[QE];omega) j 1 _ _ _ w2 Q5 hb2 We hv.1 (by omega) (by omega)) ?_;rintro v w7 ⟨A7,c7,ig,Kc,KI⟩;refine rX Qa rfl rfl rfl rfl rfl rfl rfl rfl rfl rfl (λw8 Xl Yw Xw=>?_);refine index (j:=1) (by decide) ?_;refine Qo Xw rfl ?_;have JB:=Kc.trans (Mod.of_ext (BldS g A7) Xl) (BldS.moved KI);refine call (i9 base g _ [] _ _ _ _ w8 WM (ig.grow Xl) (by rw[Qq,show(⟨#[32,38,38,32]⟩:ByteArray).size=4 from rfl];omega)) ?_;rintro v w5 h5
   replace h5:=Wr.trans JB KI (show Wr base g w8 A7 _ [32,38,38,32] w5 from (by obtain⟨A5,c5,WW,XS,Yc⟩:=h5;exact⟨A5,c5,WW,XS,Yc⟩));obtain⟨A5,c5,WW,XS,Yc⟩:=h5;obtain⟨Kx,Qw⟩:=rh w5 XS;refine Qo Kx rfl ?_;refine Qi 2 (by show(1:Int)+1=2;decide) (by decide) ?_;refine call (ih b (by simp only[QE];omega) k 2 A5 c5 _ w5 Qw WW fp hv.2 (by rw[Qq,Qq];simp only[Q6,Jn];omega) (by omega)) ?_;rintro v w9 h9
   replace h9:=Wr.trans XS Yc h9;rw[<-Jb] at h9;refine fT (ja Qa rfl (.inr rfl) ?_);show Wr base g w A out (ZP nm least _) w9;rw[fo];exact nQT h9 Xv
  | or a b=>
   obtain⟨j,k,hj,hk,hy,We,fp⟩:=hr;have hy:=Option.some.inj (hx.symm.trans hy);subst hy;refine Xy (by show(5:Int)≠_;decide) ?_;refine Xy (by show(5:Int)≠_;decide) ?_;refine Xy (by show(5:Int)≠_;decide) ?_;refine Xy (by show(5:Int)≠_;decide) ?_;have Jb:Jq nm (.or a b)=(ZP nm 0 a++ [32,124,124,32])++ZP nm 1 b:=rfl;rw[Jb,Qq,Qq] at XE;simp only[Q6,Jn] at XE;refine Qo Kw rfl ?_;refine call (ih a (by simp only[QE];omega) j 0 _ _ _ w2 Q5 hb2 We hv.1 (by omega) (by omega)) ?_;rintro v w7 ⟨A7,c7,ig,Kc,KI⟩;refine rX Qa rfl rfl rfl rfl rfl rfl rfl rfl rfl rfl (λw8 Xl Yw Xw=>?_);refine index (j:=0) (by decide) ?_;refine Qo Xw rfl ?_;have JB:=Kc.trans (Mod.of_ext (BldS g A7) Xl) (BldS.moved KI);refine call (i9 base g _ [] _ _ _ _ w8 WM (ig.grow Xl) (by rw[Qq,show(⟨#[32,124,124,32]⟩:ByteArray).size=4 from rfl];omega)) ?_;rintro v w5 h5
   replace h5:=Wr.trans JB KI (show Wr base g w8 A7 _ [32,124,124,32] w5 from (by obtain⟨A5,c5,WW,XS,Yc⟩:=h5;exact⟨A5,c5,WW,XS,Yc⟩));obtain⟨A5,c5,WW,XS,Yc⟩:=h5;obtain⟨Kx,Qw⟩:=rh w5 XS;refine Qo Kx rfl ?_;refine Qi 1 (by show(0:Int)+1=1;decide) (by decide) ?_;refine call (ih b (by simp only[QE];omega) k 1 A5 c5 _ w5 Qw WW fp hv.2 (by rw[Qq,Qq];simp only[Q6,Jn];omega) (by omega)) ?_;rintro v w9 h9
   replace h9:=Wr.trans XS Yc h9;rw[<-Jb] at h9;refine fT (ja Qa rfl (.inr rfl) ?_);show Wr base g w A out (ZP nm least _) w9;rw[fo];exact nQT h9 Xv
theorem dQ8 (base g:Nat)(w0:World)(NA:Option Addr)(nn nc:Nat)(nm:List (List Nat))(FA:Option Addr)(nf cf:Nat)(f:List Fz)(hN:Sl w0 1 NA nn nc (XB nm))(VR:Ku nm)(hF:SF w0 FA nf cf f)(wC:w0.heap.size<=g)(t:Fm):zH base g w0 NA nn nc nm FA nf cf f t:=by
 have key:∀(n:Nat) (t:Fm),QE t<n->zH base g w0 NA nn nc nm FA nf cf f t:=by
  intro n;induction n with
  | zero=>intro t h;omega
  | succ n ih=>intro t _;exact dQ7 base g w0 NA nn nc nm FA nf cf f hN VR hF wC t (λu hu=>ih u (by omega))
 exact key _ t (er _)
end
section
theorem zI {o v a b o' v' a' b':Int}(h:(⟨o,v,a,b⟩:Fz)=⟨o',v',a',b'⟩):o=o'/\v=v'/\a=a'/\b=b':=by cases h;exact⟨rfl,rfl,rfl,rfl⟩
theorem nQS {f:List Fz}:∀{t t':Fm}{i:Nat},RepF f t i->RepF f t' i->t=t':=by
 intro t;induction t with
 | c b=>
  intro t' i h h';obtain⟨x,hx,ho⟩:=RepF.node h;obtain⟨x',VC,Ke⟩:=RepF.node h';have e:=Option.some.inj (hx.symm.trans VC);rw[<-e,ho] at Ke;cases t' with
  | c b'=>cases b<;>cases b'<;>first | rfl | (simp[VY] at Ke)
  | v n=>cases b<;>simp[VY] at Ke
  | not a=>cases b<;>simp[VY] at Ke
  | and a c=>cases b<;>simp[VY] at Ke
  | or a c=>cases b<;>simp[VY] at Ke
 | v n=>
  intro t' i h h';obtain⟨x',VC,Ke⟩:=RepF.node h';have e:=Option.some.inj (VC.symm.trans h);rw[e] at Ke;cases t' with
  | c b'=>cases b'<;>simp[VY] at Ke
  | v n'=>
   have:=zI (Option.some.inj (h.symm.trans h'));congr 1;omega
  | not a=>simp[VY] at Ke
  | and a c=>simp[VY] at Ke
  | or a c=>simp[VY] at Ke
 | not a iha=>
  intro t' i h h';obtain⟨j,hj,hx,ha⟩:=h;obtain⟨x',VC,Ke⟩:=RepF.node h';have e:=Option.some.inj (VC.symm.trans hx);rw[e] at Ke;cases t' with
  | c b'=>cases b'<;>simp[VY] at Ke
  | v n'=>simp[VY] at Ke
  | not a'=>
   obtain⟨j',oq,xZ,x9⟩:=h';have:=zI (Option.some.inj (hx.symm.trans xZ));have ej:j=j':=by omega
   subst ej;rw[iha ha x9]
  | and a c=>simp[VY] at Ke
  | or a c=>simp[VY] at Ke
 | and a b iha ihb=>
  intro t' i h h';obtain⟨j,k,hj,hk,hx,ha,hb⟩:=h;obtain⟨x',VC,Ke⟩:=RepF.node h';have e:=Option.some.inj (VC.symm.trans hx);rw[e] at Ke;cases t' with
  | c b'=>cases b'<;>simp[VY] at Ke
  | v n'=>simp[VY] at Ke
  | not a'=>simp[VY] at Ke
  | and a' b'=>
   obtain⟨j',k',oq,YB,xZ,x9,hb'⟩:=h';have:=zI (Option.some.inj (hx.symm.trans xZ));have ej:j=j':=by omega
   have ek:k=k':=by omega
   subst ej;subst ek;rw[iha ha x9,ihb hb hb']
  | or a c=>simp[VY] at Ke
 | or a b iha ihb=>
  intro t' i h h';obtain⟨j,k,hj,hk,hx,ha,hb⟩:=h;obtain⟨x',VC,Ke⟩:=RepF.node h';have e:=Option.some.inj (VC.symm.trans hx);rw[e] at Ke;cases t' with
  | c b'=>cases b'<;>simp[VY] at Ke
  | v n'=>simp[VY] at Ke
  | not a'=>simp[VY] at Ke
  | and a c=>simp[VY] at Ke
  | or a' b'=>
   obtain⟨j',k',oq,YB,xZ,x9,hb'⟩:=h';have:=zI (Option.some.inj (hx.symm.trans xZ));have ej:j=j':=by omega
   have ek:k=k':=by omega
   subst ej;subst ek;rw[iha ha x9,ihb hb hb']
open Classical in
def fV (f:List Fz):Fm:=if h:∃t,RepF f t (f.length-1)then h.choose else .c false
theorem EV {f:List Fz}{t:Fm}(h:RepF f t (f.length-1)):fV f=t:=by
 have jC:∃t,RepF f t (f.length-1):=⟨t,h⟩
 unfold fV;rw[dif_pos jC];exact nQS jC.choose_spec h
theorem dQ9 {f:List Fz}(h:FV f):RepF f (fV f) (f.length-1):=by
 obtain⟨t,ht⟩:=ON h.2.2.1 (f.length-1) (by have:=h.2.1;omega);rw[EV ht];exact ht
def mi (n:Nat)(f:List Fz):Prop:=∀x∈f,x.o=2->x.v<n
theorem sr {n:Nat}{f:List Fz}(h:mi n f):∀{t:Fm}{i:Nat},RepF f t i->VarsIn n t
 | .c _,_,_=>trivial
 | .v k,_,hr=>by have:=h _ (Xm hr) rfl;simp only at this;show k<n;omega
 | .not a,_,⟨_,_,_,ha⟩=>show VarsIn n a from sr h ha
 | .and a b,_,⟨_,_,_,_,_,ha,hb⟩=>⟨show VarsIn n a from sr h ha,show VarsIn n b from sr h hb⟩
 | .or a b,_,⟨_,_,_,_,_,ha,hb⟩=>⟨show VarsIn n a from sr h ha,show VarsIn n b from sr h hb⟩
open Classical in
def kc (names:List (List Nat))(f:List Fz):List Nat×Int:=if ZF names then if FV f/\mi names.length f then(ZP names 0 (fV f),0)else([],30)else([],1)
theorem eQa {names:List (List Nat)}{f:List Fz}(h:ZF names=false):kc names f=([],1):=by unfold kc;rw[h]<;>rfl
theorem OO {names:List (List Nat)}{f:List Fz}(h:ZF names=true)(hv:FV f)(ho:mi names.length f):kc names f=(ZP names 0 (fV f),0):=by unfold kc;rw[Qf h,Qf ⟨hv,ho⟩]
theorem OP {names:List (List Nat)}{f:List Fz}(h:ZF names=true)(hv:¬(FV f/\mi names.length f)):kc names f=([],30):=by unfold kc;rw[Qf h,if_neg hv]
def OQ (w:World)(r:List Nat×Int)(v:Value)(w':World):Prop:=v= .tuple #[.string (Qd r.1),.int .i64 r.2]/\Ext w w'
theorem eQb {nm:List (List Nat)}(hn:Ku nm):∀(t:Fm),∀x∈Jq nm t,x<256:=by
 have par:∀(b:Bool) (s:List Nat),(∀x∈s,x<256)->∀x∈Yo b s,x<256:=by
  intro b s h x hx;unfold Yo at hx;split at hx
  ·simp only[XM,Q1,Jo,Jw,YF] at hx;rcases hx with rfl | hx | rfl
   ·decide
   ·exact h x hx
   ·decide
  ·exact h x hx
 intro t;induction t with
 | c b=>
  cases b
  ·show∀x∈cC,x<256;decide
  ·show∀x∈Wn,x<256;decide
 | v n=>
  intro x hx;unfold Jq at hx;cases h:nm[n]? with
  | none=>rw[h] at hx;cases hx
  | some s=>rw[h] at hx;exact(hn s (Xm h)).1 x hx
 | not a ih=>
  intro x hx;unfold Jq at hx;simp only[Q1] at hx;rcases hx with rfl | hx
  ·decide
  ·exact par _ _ ih x hx
 | and a b iha ihb=>
  intro x hx;unfold Jq at hx;simp only[XM,Q1,Jo,Jw] at hx;rcases hx with(hx | hx) | hx
  ·exact par _ _ iha x hx
  ·omega
  ·exact par _ _ ihb x hx
 | or a b iha ihb=>
  intro x hx;unfold Jq at hx;simp only[XM,Q1,Jo,Jw] at hx;rcases hx with(hx | hx) | hx
  ·exact par _ _ iha x hx
  ·omega
  ·exact par _ _ ihb x hx
theorem eQc (names:List (List Nat))(A FA:Option Addr)(n c nf cf:Nat)(f:List Fz)(w:World)(h:Sl w 1 A n c (XB names))(hb:Ku names)(hF:SF w FA nf cf f)(hl:FV f->mi names.length f->(ZP names 0 (fV f)).length<=140737488355328):
  Fn Tryz.prog 134 [.slice A n c,.slice FA nf cf] w (OQ w (kc names f)):=by
 have ZT:=hF.2;have Kl:names.length=n:=by have:=h.len;rw[aU] at this;omega
 refine QF (c:={cQm with cuts:=[6]}) Qa Tryz.func134 rfl rfl rfl ?_;refine call (EL names A n c w h hb) ?_;rintro v w1 ⟨v1,rfl,Qe,_⟩;cases X0:ZF names with
 | false=>
  refine Q8 rfl ?_;exact⟨by rw[eQa X0];rfl,Qe⟩
 | true=>
  refine Q3 rfl ?_;refine call (OM FA nf cf f w1 (hF.ext Qe)) ?_;rintro v w2 ⟨rfl,Qg⟩;have Q5:=Qe.trans Qg;refine bI (λh1=>?_) (λh1=>?_)
  ·exact⟨by rw[OP X0 (λhh=>h1 (zF hh.1))];rfl,Q5⟩
  have hv:=dQR.1 h1;refine fO [] Qa [] (λ_:Unit=>[]) (λ_ w'=>Ext w w'/\mi names.length f) ?_ ?_
  ·refine loop Qa [23] (λs:Nat=>[.int .i64 s]) (λs w'=>Ext w w'/\s<=nf/\∀j x,j<s->f[j]? =some x->x.o=2->x.v<n) (λs _=>nf-s) 0 rfl ⟨Q5,Xr _,λj x hj=>Xn hj (by omega)⟩ ?_;rintro s w3 ⟨Qj,hs,hall⟩;refine Qz (λh3=>?_) (λh3=>?_)
   ·refine Zv zD (hF.ext Qj) rfl (by omega) (λp x hx hc=>?_);refine Kn (vs:=x.cells) rfl hc ?_;refine new (λw4 Qs KO Q7=>?_);refine Qv Q7 rfl (sc rfl) (λw5 JH KP QG=>?_);have Yd:Ext w3 w5:=X9 Qs Q7 JH;have Qw:=Qj.trans Yd;have next:(x.o=2->x.v<n)->∀j y,j<s+1->f[j]? =some y->y.o=2->y.v<n:=λhq j y hj hy ho=>by
     by_cases YP:j<s
     ·exact hall j y YP hy ho
     ·have:j=s:=by omega
      subst this;have e:=Option.some.inj (hy.symm.trans hx);subst e;exact hq ho
    refine QD QG rfl ?_;refine X3 (λh4=>?_) (λh4=>?_)
    ·refine Qo QG rfl ?_;refine Qz (λh5=>?_) (λh5=>?_)
     ·refine⟨?_,Qw⟩;rw[OP X0 (λhh=>by have:=hh.2 x (Xm hx) h4;omega)];rfl
     ·refine Qi ((s+1:Nat):Int) (by omega) (by have:=hv.1;omega) ?_;exact⟨s+1,rfl,⟨Qw,by omega,next (λ_=>by omega)⟩,by show nf-(s+1)<nf-s;omega⟩
    ·refine Qi ((s+1:Nat):Int) (by omega) (by have:=hv.1;omega) ?_;exact⟨s+1,rfl,⟨Qw,by omega,next (λho=>Xn ho h4)⟩,by show nf-(s+1)<nf-s;omega⟩
   ·refine⟨(),rfl,Qj,λx hx ho=>?_⟩;obtain⟨j,hj,rfl⟩:=DS.1 hx;rw[Kl];exact hall j _ (by omega) (Xp hj) ho
  rintro⟨⟩ w3 ⟨Qj,ya⟩;have ht:=dQ9 hv;have W6:=hv.2.1;refine new (λw4 Qs KO Q7=>?_);have hb4:Bld w4 w4.heap.size w3.heap.size 109 [] none 0 []:=⟨by omega,QB _,⟨_,.inl rfl,Q7⟩,Own.nil _ _ _ _⟩
  refine Qi ((nf-1:Nat):Int) (by omega) (by have:=hv.1;omega) ?_;have co:=hl hv ya;rw[ZT] at ht;refine call (dQ8 w4.heap.size w3.heap.size w3 A n c names FA nf cf f (h.ext Qj) hb (hF.ext Qj) (QB _) (fV f) (nf-1) 0 none 0 [] w4 Qs hb4 ht (by rw[<-Kl];exact sr ya ht) (by rw[Jn];omega) (by omega)) ?_;rintro v w5 ⟨A5,c5,WW,XS,Yc⟩;rw[bF] at WW;have Qw:Ext w w5:=XS.ext (Qj.trans Qs) (λi hi=>by
   rcases hi with rfl | ⟨_,e,_⟩
   ·exact Qj.size
   ·cases e)
  have h8:∀x∈ZP names 0 (fV f),x<256:=by
   unfold ZP Yo;rw[if_neg (by simp)];exact eQb hb _
  refine call (dQo w4.heap.size w3.heap.size _ [] A5 c5 _ w5 WW h8 co) ?_;rintro v w6 ⟨rfl,K2⟩;refine⟨by rw[OO X0 hv ya],K2.ext Qw (λi hi=>?_)⟩;have:=(WW.own.rows i hi).1;have:=Qj.size;omega
end
section
structure Br where
 v:Int
 l:Int
 h:Int
deriving DecidableEq
def Br.cells (x:Br):List Value:=[.int .i64 x.v,.int .i64 x.l,.int .i64 x.h]
theorem ah (x:Br):x.cells.length=3:=rfl
abbrev SB (w:World)(A:Option Addr)(n c:Nat)(d:List Br):Prop:=SlS Br.cells 3 w A n c d
def Xk (A:Option Addr)(n c:Nat)(r:Int):Value:=.agg #[.slice A n c,.int .i64 r]
def Ql (d:List Br)(n:Int):Int:=if n<2 then 64 else(d[(n-2).toNat]?.map (·.v)).getD 64
def Zd (nd:List Br):Nat->Int->List Br×List Nat->Int×(List Br×List Nat)
 | 0,n,st=>(n,st)
 | m+1,n,st=>if n<2 then(n,st)else
   if 0<st.2[(n-2).toNat]?.getD 0 then((st.2[(n-2).toNat]?.getD 0:Nat),st)else
    match nd[(n-2).toNat]? with
    | none=>(n,st)
    | some x=>
     let a:=Zd nd m x.l st
     let b:=Zd nd m x.h a.2
     (((b.2.1.length+2:Nat):Int),(b.2.1++ [⟨x.v,a.1,b.1⟩],b.2.2.set (n-2).toNat (b.2.1.length+2)))
def bM (nd:List Br)(r:Int):List Br×Int:=let a:=Zd nd (r.toNat+1) r ([],List.replicate nd.length 0);(a.2.1,a.1)
def aj (nd:List Br):Prop:=∀(j:Nat)(x:Br),nd[j]? =some x->0<=x.l/\x.l<j+2/\0<=x.h/\x.h<j+2
def gJ (nd:List Br)(j:Nat)(b:Br):Prop:=0<=b.v/\b.v<=63/\0<=b.l/\b.l<j+2/\0<=b.h/\b.h<j+2/\b.l≠b.h/\b∉nd.take j/\b.v<Ql nd b.l/\b.v<Ql nd b.h
def VD (nd:List Br)(r:Int):Prop:=(∀(j:Nat)(b:Br),nd[j]? =some b->gJ nd j b)/\0<=r/\r<nd.length+2/\bM nd r=(nd,r)
open Classical in
def XL (nd:List Br)(r:Int):Int:=if 4096<nd.length then 2 else if VD nd r then 0 else 20
theorem eQd {nd:List Br}{r:Int}(h:4096<nd.length):XL nd r=2:=Qf h
theorem EW {nd:List Br}{r:Int}(h:¬4096<nd.length)(k:VD nd r):XL nd r=0:=(if_neg h).trans (Qf k)
theorem zJ {nd:List Br}{r:Int}(h:¬4096<nd.length)(k:¬VD nd r):XL nd r=20:=(if_neg h).trans (if_neg k)
theorem gK {nd:List Br}{r:Int}:XL nd r=0↔¬4096<nd.length/\VD nd r:=by
 constructor
 ·intro h;unfold XL at h;split at h
  ·cases h
  ·split at h
   ·exact⟨by assumption,by assumption⟩
   ·cases h
 ·exactλh=>EW h.1 h.2
theorem VD.wf {nd:List Br}{r:Int}(h:VD nd r):aj nd:=λj x hx=>by
 obtain⟨_,_,h1,h2,h3,h4,_⟩:=h.1 j x hx;exact⟨h1,h2,h3,h4⟩
theorem dJ (A:Option Addr)(n c:Nat)(r m:Int)(nd:List Br)(w:World)(h:SB w A n c nd)(hm:m<n+2):
  Fn Tryz.prog 103 [Xk A n c r,.int .i64 m] w (λv w'=>v= .int .i64 (Ql nd m)/\Ext w w'):=by
 have QY:=h.2;refine QF (c:={bQ3 with cuts:=[]}) Qa Tryz.func103 rfl rfl rfl ?_;refine new (λw1 Qe Q4 Qh=>?_);refine Qz (λh1=>?_) (λh1=>?_)
 ·exact⟨by unfold Ql;rw[Qf h1],Qe⟩
 ·refine QD Qh rfl ?_;refine Qi (((m-2).toNat:Nat):Int) (by omega) (by have:=h.1.le;have:=h.1.cap;simp only[maxLen] at this;omega) ?_;refine Zv ah (h.ext Qe) rfl (by omega) (λp x hx hc=>?_);refine load (hc 0 _ rfl) ?_;exact⟨by unfold Ql;rw[if_neg h1,hx];rfl,Qe⟩
theorem pE (a b c a' b' c':Int):(a==a'&&(b==b'&&(c==c'&&true)))=decide (a=a'/\b=b'/\c=c'):=by
 rw[oT];simp only[Jl,beq_iff_eq,Vm,and_true]
theorem pF {x y:Br}:x=y↔x.v=y.v/\x.l=y.l/\x.h=y.h:=by
 constructor
 ·rintro rfl;exact⟨rfl,rfl,rfl⟩
 ·obtain⟨a,b,c⟩:=x;obtain⟨d,e,f⟩:=y;rintro⟨rfl,rfl,rfl⟩;rfl
theorem eQe {α:Type}{l l':List α}{j:Nat}{x y:α}(hx:l[j]? =some x)(hy:l'[j]? =some y)(h:x≠y):l≠l':=λe=>by subst e;exact h (Option.some.inj (hx.symm.trans hy))
theorem eQf {α:Type}{l l':List α}{n:Nat}(h1:l.length=n)(h2:l'.length=n)(h:∀j,j<n->l[j]? =l'[j]?):l=l':=by
 apply yR;intro j;by_cases hj:j<n
 ·exact h j hj
 ·rw[oX (by omega),oX (by omega)]
theorem eQg (A B:Option Addr)(n c m e:Nat)(l l':List Br)(w:World)(h:SB w A n c l)(h':SB w B m e l'):
  Fn Tryz.prog 158 [.slice A n c,.slice B m e] w (λv w'=>v= .bool (decide (l=l'))/\Ext w w'):=by
 have hl:=h.2;have di:=h'.2;refine QF (c:={cQG with cuts:=[]}) Qa Tryz.func158 rfl rfl rfl ?_;refine bI (λh1=>?_) (λh1=>?_)
 ·exact⟨by rw[Zq (λe=>by subst e;omega)],Ext.refl w⟩
 refine loop Qa [13] (λs:Nat=>[.int .i64 s]) (λs w'=>Ext w w'/\s<=n/\∀j,j<s->l[j]? =l'[j]?) (λs _=>n-s) 0 rfl ⟨Ext.refl w,Xr _,λj hj=>Xn hj (by omega)⟩ ?_;rintro s w1 ⟨Qe,hs,hall⟩;refine Qz (λh2=>?_) (λh2=>?_)
 ·refine XK Qa (Ext w1) 9 [(true,0),(true,1),(true,2),(true,3),(true,4),(true,5),(true,6),(true,7),(true,8)] (by kernel_rfl) (Ext.drew w1) ?_;refine Zv ah (h.ext Qe) rfl (by omega) (λp x hx hc=>?_);refine Xs (vs:=x.cells) rfl (λw' Qb j v hj=>Qb.cell (hc j v hj)) ?_;refine Zv ah (h'.ext Qe) rfl (by omega) (λq y hy Jv=>?_);refine Xs (vs:=y.cells) rfl (λw' Qb j v hj=>Qb.cell (Jv j v hj)) ?_;have dq:=Qe.trans (Ext.drew w1);by_cases Xu:x=y
  ·refine Q3 (by rw[pE,Zy (pF.1 Xu)];rfl) ?_;refine Qi ((s+1:Nat):Int) (by omega) (by have:=h.1.le;have:=h.1.cap;simp only[maxLen] at this;omega) ?_;refine⟨s+1,rfl,⟨dq,by omega,λj hj=>?_⟩,by show n-(s+1)<n-s;omega⟩;by_cases YP:j<s
   ·exact hall j YP
   ·have:j=s:=by omega
    subst this;rw[hx,hy,Xu]
  ·refine Q8 (by rw[pE,Zq (λe=>Xu (pF.2 e))];rfl) ?_;exact⟨by rw[Zq (eQe hx hy Xu)],dq⟩
 ·exact⟨by rw[Zy (eQf hl (by omega) (λj hj=>hall j (by omega)))],Qe⟩
theorem eQh (A B:Option Addr)(n c m e:Nat)(l l':List Br)(r r':Int)(w:World)(h:SB w A n c l)(h':SB w B m e l'):
  Fn Tryz.prog 105 [Xk A n c r,Xk B m e r'] w (λv w'=>v= .bool (decide ((l,r)=(l',r')))/\Ext w w'):=by
 refine QF (c:={bQ5 with cuts:=[]}) Qa Tryz.func105 rfl rfl rfl ?_;refine new (λw1 Qe Q4 Qh=>?_);refine new (λw2 Qg Zb Qx=>?_);have Vh:=Qh.ext Qg;have Q5:=Qe.trans Qg;refine Qo Vh rfl ?_;refine Qo Qx rfl ?_;refine X3 (λh1=>?_) (λh1=>?_)
 ·refine QD Vh rfl ?_;refine QD Qx rfl ?_;refine call (eQg A B n c m e l l' w2 (h.ext Q5) (h'.ext Q5)) ?_;rintro v w3 ⟨rfl,Qj⟩;refine⟨?_,Q5.trans Qj⟩;congr 1;exact uS.2 ⟨λe=>by rw[e,h1],λe=>by cases e;rfl⟩
 ·exact⟨by rw[Zq (λe=>h1 (by cases e;rfl))],Q5⟩
end
section
theorem OR {α:Type} [DecidableEq α]{kv:α->Value}{c:Cx}{o:Oper}{S:Env}{w:World}{K:Env->World->Prop}{Q:Zg}{t ke e:Nat}{r rk:TyRow}{x y:Operand}{q:Nat}{m:List (α×Value)}{a:α}{v:Value}{z:Operand}(hg:c.g.Ok)
  (ho:o.op= .insert t x y z) (iD:o.dst=none) (hr:QT c.g.tys t=some r) (hd:r.d= .map ke e) (bw:QT c.g.tys ke=some rk) (hk:KeyV rk.d kv)
  (hx:S.ev x=some (.map (some q))) (hy:S.ev y=some (kv a)) (hz:S.ev z=some v) (hm:MapAt kv w q m)
  (k:∀w1,w.grownBy w1 (some q)->w1.heap.size=w.heap.size->MapAt kv w1 q (Ze a v m)->K S w1):X8 c o S w K Q:=by
 have h:X8 c {o with op:=.mapUpdate t x y z} S w K Q:=j7 hg rfl iD hr hd bw hk hx hy hz hm k;unfold X8 at*;intro b hf;have h1:=h b hf;unfold Oper.wp at*;have e:(execOp b.eval o).run c.g.P w=(execOp b.eval {o with op:=.mapUpdate t x y z}).run c.g.P w:=by simp only[execOp,ho]
 rw[e];generalize (execOp b.eval {o with op:=.mapUpdate t x y z}).run c.g.P w=r at*;cases r with
 | ok n w'=>cases n<;>simp only[Oper.upon] at h1 ⊢ <;> exact h1
 | halt x w'=>cases x<;>simp only[Oper.upon] at h1 ⊢ <;> exact h1
theorem eQi {l:List Nat}{j v:Nat}(h:l[j]? =some 0)(hv:0<v):(l.set j v).count 0+1=l.count 0:=by
 induction l generalizing j with
 | nil=>simp at h
 | cons x l ih=>
  cases j with
  | zero=>
   simp at h;subst h;rw[DU,List.count_cons_of_ne (by omega),List.count_cons_self]
  | succ j=>
   simp at h;have:=ih h;rw[List.set_cons_succ,yT,yT];omega
theorem kf {nd:List Br}{m:Nat}{n:Int}{st:List Br×List Nat}(h:n<2):Zd nd (m+1) n st=(n,st):=by rw[Zd,Qf h]
theorem kg {nd:List Br}{m:Nat}{n:Int}{st:List Br×List Nat}(h:¬n<2)(k:0<st.2[(n-2).toNat]?.getD 0):Zd nd (m+1) n st=(((st.2[(n-2).toNat]?.getD 0:Nat):Int),st):=by rw[Zd,if_neg h,Qf k]
theorem mj {nd:List Br}{m:Nat}{n:Int}{st:List Br×List Nat}{x:Br}(h:¬n<2)(k:¬0<st.2[(n-2).toNat]?.getD 0)(hx:nd[(n-2).toNat]? =some x):
  Zd nd (m+1) n st=((((Zd nd m x.h (Zd nd m x.l st).2).2.1.length+2:Nat):Int),((Zd nd m x.h (Zd nd m x.l st).2).2.1++ [⟨x.v,(Zd nd m x.l st).1,(Zd nd m x.h (Zd nd m x.l st).2).1⟩],(Zd nd m x.h (Zd nd m x.l st).2).2.2.set (n-2).toNat ((Zd nd m x.h (Zd nd m x.l st).2).2.1.length+2))):=by
 rw[Zd,if_neg h,if_neg k,hx]
structure VisF (nd:List Br) (n:Int) (st W7:List Br×List Nat):Prop where
 len:W7.2.length=nd.length
 keep:∀k:Nat,n<(k:Int)+2->W7.2[k]? =st.2[k]?
 cnt:W7.1.length+W7.2.count 0<=st.1.length+st.2.count 0
 ge:st.1.length<=W7.1.length
theorem kh {nd:List Br}(hw:aj nd):∀(m:Nat)(n:Int)(st:List Br×List Nat),0<=n->n<m->n<nd.length+2->st.2.length=nd.length->VisF nd n st (Zd nd m n st).2
 | 0,n,st,h0,hm,_,_=>by omega
 | m+1,n,st,h0,hm,hn,hl=>by
  by_cases h1:n<2
  ·rw[kf h1];exact⟨hl,λ_ _=>rfl,QB _,QB _⟩
  by_cases h2:0<st.2[(n-2).toNat]?.getD 0
  ·rw[kg h1 h2];exact⟨hl,λ_ _=>rfl,QB _,QB _⟩
  have hj:(n-2).toNat<nd.length:=by omega
  have hx:=Xp hj;obtain⟨w1,w2,w3,w4⟩:=hw _ _ hx;rw[mj h1 h2 hx];have f1:=kh hw m nd[(n-2).toNat].l st w1 (by omega) (by omega) hl;have f2:=kh hw m nd[(n-2).toNat].h _ w3 (by omega) (by omega) f1.len;generalize (Zd nd m nd[(n-2).toNat].l st)=a at*;generalize (Zd nd m nd[(n-2).toNat].h a.2)=b at*;have hz:st.2[(n-2).toNat]? =some 0:=by
   have:st.2[(n-2).toNat]? =some st.2[(n-2).toNat]:=Xp (by omega);rw[this] at h2 ⊢;simp only[fG] at h2;congr 1;omega
  have Zb:b.2.2[(n-2).toNat]? =some 0:=by rw[f2.keep _ (by omega),f1.keep _ (by omega),hz]
  have hc:=eQi (v:=b.2.1.length+2) Zb (by omega);have c1:=f1.cnt;have c2:=f2.cnt;have g1:=f1.ge;have g2:=f2.ge;refine⟨by rw[fB];exact f2.len,λk hk=>?_,?_,?_⟩
  ·rw[fH (by omega),f2.keep k (by omega),f1.keep k (by omega)]
  ·rw[Qq];simp only[Q6,Jn];omega
  ·rw[Qq];omega
abbrev aV:Int->Value:=λn=>.int .i64 n
def MapOk (num:List Nat)(m:List (Int×Value)):Prop:=∀n:Int,0<=n->Xz n m=if n<2 then some (.int .i64 n)else if 0<num[(n-2).toNat]?.getD 0 then some (.int .i64 (num[(n-2).toNat]?.getD 0:Nat))else none
theorem MapOk.set {num:List Nat}{m:List (Int×Value)}(h:MapOk num m){n:Int}(h2:¬n<2)(hl:(n-2).toNat<num.length){v:Nat}(hv:0<v):MapOk (num.set (n-2).toNat v) (Ze n (.int .i64 (v:Nat)) m):=by
 intro k hk;rw[aS];by_cases e:k=n
 ·subst e;rw[Qf rfl,if_neg h2,iQ hl];simp only[fG];rw[Qf hv]
 ·rw[if_neg e,h k hk];by_cases VM:k<2
  ·rw[Qf VM,Qf VM]
  ·rw[if_neg VM,if_neg VM,fH (by omega)]
theorem eQj (n:Nat):MapOk (List.replicate n 0) (Ze 1 (.int .i64 1) (Ze 0 (.int .i64 0) [])):=by
 intro k hk;rw[aS,aS];by_cases h1:k=1
 ·subst h1;rfl
 ·rw[if_neg h1];by_cases h0:k=0
  ·subst h0;rfl
  ·rw[if_neg h0,if_neg (by omega),if_neg]
   ·rfl
   ·cases h:(List.replicate n 0)[(k-2).toNat]? with
    | none=>simp
    | some x=>
     have:=yU (Xm h);rw[this];simp
end
section
def ki (l:List Br):List Value:=l.flatMap Br.cells
theorem zK (l:List Br)(x:Br):ki (l++ [x])=ki l++x.cells:=by simp[ki]
structure VP where
 mb:Nat
 q:Nat
 bb:Nat
 bp:Nat
 fb:Nat
 ob:Nat
def VP.ptr (i:Nat):Value:=.pointer (some ⟨i,0,none⟩)
def VP.clo (p:VP):Value:=.func (.func 157) #[] #[VP.ptr p.mb,VP.ptr p.bb,VP.ptr p.fb,VP.ptr p.ob]
structure VK (w:World) (base:Nat) (p:VP) (NA:Option Addr) (nn nc:Nat) (nd:List Br):Prop where
 mbx:Blk w p.mb 238 [.map (some p.q)]
 bbx:Blk w p.bb 174 [VP.ptr p.bp]
 bpx:∃kv,Blk w p.bp 177 [.slice NA nn nc,kv]
 fbx:Blk w p.fb 215 [p.clo]
 nds:SB w NA nn nc nd
 lt:p.q<base/\p.ob<base
 ne:p.q≠p.ob/\p.q≠p.mb/\p.q≠p.bb/\p.q≠p.bp/\p.q≠p.fb/\p.ob≠p.mb/\p.ob≠p.bb/\p.ob≠p.bp/\p.ob≠p.fb
 lt2:p.mb<base/\p.bb<base/\p.bp<base/\p.fb<base
 row:∀ad,NA=some ad->0<nn->ad.block<base/\ad.block≠p.q/\ad.block≠p.ob
def VS (p:VP)(A:Option Addr):Nat->Prop:=λk=>k=p.q∨k=p.ob∨Qk A k
theorem VS.moved {w:World}{p:VP}{A A':Option Addr}(h:Moved w A A'):∀k,VS p A' k->VS p A k∨w.heap.size<=k:=by
 rintro k (rfl | rfl | hk)
 ·exact .inl (.inl rfl)
 ·exact .inl (.inr (.inl rfl))
 ·rcases h.rows k hk with h | h
  ·exact .inl (.inr (.inr h))
  ·exact .inr h
theorem Mod.cell {S:Nat->Prop}{w w':World}(k:Mod S w w'){a:Addr}{v:Value}(h:w.cell? a=some v)(hn:¬S a.block):w'.cell? a=some v:=by
 have Xc:=World.block_lt_of_cell? w a h;have e:=k.block a.block Xc hn;unfold World.cell? at h ⊢;rw[e];exact h
theorem Sl.modS {S:Nat->Prop}{w w':World}{sz n c:Nat}{A:Option Addr}{cs:List Value}(h:Sl w sz A n c cs)(k:Mod S w w')(hn:0<n->∀i,Qk A i->¬S i):Sl w' sz A n c cs:=
 ⟨h.len,h.le,h.cap,λh0=>by
  obtain⟨ad,rfl,hc⟩:=h.at_ h0;exact⟨ad,rfl,λj u hu=>k.cell (hc j u hu) (hn h0 _ ⟨ad,rfl,(pw ad j).symm⟩)⟩⟩
theorem EX {α:Type} [DecidableEq α]{kv:α->Value}{c:Cx}{o:Oper}{S:Env}{w:World}{K:Env->World->Prop}{Q:Zg}{t ke e:Nat}{r rk re:TyRow}{x y:Operand}{q:Nat}{m:List (α×Value)}{a:α}{v:Value}(hg:c.g.Ok)
  (ho:o.op= .lookup t x y false) (hr:QT c.g.tys t=some r) (hd:r.d= .map ke e) (bw:QT c.g.tys ke=some rk) (X2:QT c.g.tys e=some re) (hk:KeyV rk.d kv)
  (hx:S.ev x=some (.map (some q))) (hy:S.ev y=some (kv a)) (hm:MapAt kv w q m) (hv:(Xz a m).getD re.z=v) (k:Xd c S o.dst (.v v) (λS=>K S w)):X8 c o S w K Q:=by
 subst hv;exact bQU hg ho hr hd bw X2 hk hx hy hm k
theorem VK.mod {w w':World}{base:Nat}{p:VP}{NA OA:Option Addr}{nn nc:Nat}{nd:List Br}(h:VK w base p NA nn nc nd)(hr:∀i,Qk OA i->base<=i)(hm:Mod (VS p OA) w w'):VK w' base p NA nn nc nd:=by
 obtain⟨n1,n2,n3,n4,n5,n6,n7,n8,n9⟩:=h.ne;obtain⟨l1,l2,l3,l4⟩:=h.lt2;have key:∀i,i<base->i≠p.q->i≠p.ob->¬VS p OA i:=λi hi hq ho e=>by
  rcases e with e | e | e
  ·exact hq e
  ·exact ho e
  ·have:=hr i e;omega
 obtain⟨kv,LU⟩:=h.bpx;refine⟨h.mbx.mod hm (key _ l1 n2.symm n6.symm),h.bbx.mod hm (key _ l2 n3.symm n7.symm),⟨kv,LU.mod hm (key _ l3 n4.symm n8.symm)⟩,h.fbx.mod hm (key _ l4 n5.symm n9.symm),⟨h.nds.1.modS hm ?_,h.nds.2⟩,h.lt,h.ne,h.lt2,h.row⟩;rintro h0 i ⟨ad,rfl,rfl⟩;obtain⟨r1,r2,r3⟩:=h.row ad rfl h0;exact key _ r1 r2 r3
structure VSt (w:World) (base:Nat) (p:VP) (r0:Int) (OA:Option Addr) (oc:Nat) (st:List Br×List Nat):Prop where
 own:Own w base 105 3 OA st.1.length oc (ki st.1)
 obx:Blk w p.ob 32 [.slice OA st.1.length oc,.int .i64 r0]
 mp:∃mm,MapAt aV w p.q mm/\MapOk st.2 mm
 top:base<=w.heap.size
theorem VSt.ext {w w':World}{base:Nat}{p:VP}{r0:Int}{OA:Option Addr}{oc:Nat}{st:List Br×List Nat}(h:VSt w base p r0 OA oc st)(k:Ext w w'):VSt w' base p r0 OA oc st:=
 ⟨h.own.ext k,h.obx.ext k,let ⟨mm,h1,h2⟩:=h.mp;⟨mm,h1.ext k,h2⟩,Zc h.top k.size⟩
def VTo (w:World)(base:Nat)(p:VP)(r0:Int)(OA:Option Addr)(st:List Br×List Nat)(w':World):Prop:=∃OA' oc',VSt w' base p r0 OA' oc' st/\Mod (VS p OA) w w'/\Moved w OA OA'
theorem OS (base:Nat)(p:VP)(r0:Int)(NA:Option Addr)(nn nc:Nat)(nd:List Br)(Wy:aj nd)(fm:nn<=1000000000000):∀(m:Nat)(n:Int)(st:List Br×List Nat)(OA:Option Addr)(oc:Nat)(w:World),
  VK w base p NA nn nc nd->VSt w base p r0 OA oc st->0<=n->n<m->n<nn+2->st.2.length=nn->st.1.length+st.2.count 0<=1000000000000->
  Fn Tryz.prog 157 [.int .i64 n,VP.ptr p.mb,VP.ptr p.bb,VP.ptr p.fb,VP.ptr p.ob] w (λv w'=>v= .int .i64 (Zd nd m n st).1/\VTo w base p r0 OA (Zd nd m n st).2 w')
 | 0,n,st,OA,oc,w,_,_,h0,hm,_,_,_=>by omega
 | m+1,n,st,OA,oc,w,hK,hS,h0,hm,hn,hl,hc=>by
  have ih:=OS base p r0 NA nn nc nd Wy fm m;have Kl:nd.length=nn:=hK.nds.2;obtain⟨mm,uv,hmo⟩:=hS.mp;have VQ:=hS.own.rows;have nQt:=uv.lt;have nQu:=hS.obx.lt;refine QF (c:={cQF with cuts:=[]}) Qa Tryz.func157 rfl rfl rfl ?_;refine QD hK.mbx rfl ?_;have W5:=hmo n h0;by_cases h1:n<2
  ·rw[Qf h1] at W5;refine vn (kv:=aV) (a:=n) (v:=.int .i64 n) (b:=true) Qa rfl rfl rfl rfl rfl (KeyV.int .i64) rfl rfl uv (by rw[W5];rfl) (by rw[W5];rfl) ?_;refine Q8 rfl ?_;refine⟨by rw[kf h1],OA,oc,?_,Mod.refl _ _,Moved.refl _ _⟩;rw[kf h1];exact hS
  rw[if_neg h1] at W5;by_cases h2:0<st.2[(n-2).toNat]?.getD 0
  ·rw[Qf h2] at W5;refine vn (kv:=aV) (a:=n) (v:=.int .i64 (st.2[(n-2).toNat]?.getD 0:Nat)) (b:=true) Qa rfl rfl rfl rfl rfl (KeyV.int .i64) rfl rfl uv (by rw[W5];rfl) (by rw[W5];rfl) ?_;refine Q8 rfl ?_;refine⟨by rw[kg h1 h2],OA,oc,?_,Mod.refl _ _,Moved.refl _ _⟩;rw[kg h1 h2];exact hS
  rw[if_neg h2] at W5;refine vn (kv:=aV) (a:=n) (v:=.int .i64 0) (b:=false) Qa rfl rfl rfl rfl rfl (KeyV.int .i64) rfl rfl uv (by rw[W5];rfl) (by rw[W5];rfl) ?_;refine Q3 rfl ?_;have hj:(n-2).toNat<nd.length:=by omega
  have hx:=Xp hj;generalize nd[(n-2).toNat]=x at hx;obtain⟨x1,x2,x3,x4⟩:=Wy _ _ hx;obtain⟨kv,LU⟩:=hK.bpx;refine QD hK.bbx rfl ?_;refine QD LU rfl ?_;refine Qi (((n-2).toNat:Nat):Int) (by omega) (by omega) ?_;refine Zv ah hK.nds rfl (by omega) (λad y hy fq=>?_);have iE:y=x:=Option.some.inj (hy.symm.trans hx);subst iE;refine Kn (vs:=y.cells) rfl fq ?_;refine new (λw1 Qe Q4 Qh=>?_);refine Qv Qh rfl (sc rfl) (λw2 cU Zb Kw=>?_);have Qg:Ext w w2:=X9 Qe Qh cU;have Bm:Mod (VS p OA) w w2:=Mod.of_ext _ Qg;have Hm:=hK.mod (λi hi=>(VQ i hi).1) Bm;have Ho:=hS.ext Qg;have iG:¬VS p OA w.heap.size:=λe=>by
   rcases e with e | e | e
   ·omega
   ·omega
   ·have:=(VQ _ e).2;omega
  refine QD Hm.fbx rfl ?_;refine Qo Kw rfl ?_;have f1:=kh Wy m y.l st x1 (by omega) (by omega) (by omega);refine call (ih y.l st OA oc w2 Hm Ho x1 (by omega) (by omega) hl hc) ?_;rintro v w3 ⟨rfl,OA3,Hp,tE,Z1,kW⟩;have eP:=Hm.mod (λi hi=>(VQ i hi).1) Z1;have Vg:=Kw.mod Z1 iG;have Hd:=tE.own.rows;have tD:¬VS p OA3 w.heap.size:=λe=>(VS.moved kW _ e).elim iG (λh=>by omega)
  refine QD eP.fbx rfl ?_;refine Qo Vg rfl ?_;have f2:=kh Wy m y.h _ x3 (by omega) (by omega) f1.len;have c1:=f1.cnt;have c2:=f2.cnt;refine call (ih y.h _ OA3 Hp w3 eP tE x3 (by omega) (by omega) (by rw[f1.len];exact Kl) (by omega)) ?_;rintro v w4 ⟨rfl,OA4,Uf,bi,KH,qa⟩;have YN:=Vg.mod KH tD;have qd:=bi.own.rows;have kX:=Z1.trans KH (VS.moved kW);have Hq:=kW.trans qa Z1.size;have wE:Mod (VS p OA) w w4:=Bm.trans kX (λi hi=>.inl hi);have wF:=Hq.back Qg.size;have VN:=eP.mod (λi hi=>(Hd i hi).1) KH;have uw:=mj (m:=m) h1 h2 hx;rw[uw];generalize (Zd nd m y.l st)=a at*;generalize (Zd nd m y.h a.2)=b at*;have lQO:¬Qk OA4 p.ob:=λe=>by have:=(qd _ e).1;have:=hK.lt.2;omega
  have hnq:¬Qk OA4 p.q:=λe=>by have:=(qd _ e).1;have:=hK.lt.1;omega
  refine QD bi.obx rfl ?_;refine QD YN rfl ?_;refine Xh Qa [(⟨y.v,a.1,b.1⟩:Br).cells] rfl rfl rfl rfl rfl ⟨rfl,rfl,⟨⟩⟩ rfl (λcs h=>by simp only[QN] at h;subst h;rfl) rfl (by decide) (by decide) ?_;intro w5 Qw KP QG;have dZ:=bi.ext Qw;have kY:Sl w5 3 (some ⟨w4.heap.size,0,none⟩) 1 1 (⟨y.v,a.1,b.1⟩:Br).cells:=Sl.own (sz:=3) (n:=1) QG (QB _) (by decide) (by simp[Br.cells]);refine Z4 Qa rfl rfl rfl rfl rfl (by decide) rfl rfl ⟨_,rfl⟩ rfl rfl dZ.own kY (by intro u hu;simp[Br.cells] at hu;rcases hu with rfl | rfl | rfl<;>rfl) (by unfold maxLen;omega) (by show _*24<=_;omega) dZ.top ?_;intro OA6 Bn w6 K4 wG wH;refine KD (dZ.obx.mod K4 lQO) (by simp) (λw7 Xf Q2=>?_);have tF:Mod (VS p OA4) w4 w7:=((Mod.of_ext (VS p OA4) Qw).trans K4 (λi hi=>.inl (.inr (.inr hi)))).trans Xf (λi hi=>.inl (.inr (.inl hi)));have WX:=VN.mod (λi hi=>(qd i hi).1) tF;obtain⟨m4,jQT,jQU⟩:=bi.mp;have jQV:MapAt aV w7 p.q m4:=((jQT.ext Qw).mod K4 hnq).mod Xf hK.ne.1;have QY:b.2.2.length=nd.length:=f2.len;refine QD WX.mbx rfl ?_;refine QD Q2 rfl ?_;refine Qi ((b.2.1.length+2:Nat):Int) (by omega) (by omega) ?_;refine j7 (kv:=aV) (a:=n) Qa rfl rfl rfl rfl rfl (KeyV.int .i64) rfl rfl rfl jQV (λw8 Y5 _ Ug=>?_);have ZL:Mod (·=p.q) w7 w8:=nQQ Y5 rfl;have jQW:=jQU.set h1 (by omega) (v:=b.2.1.length+2) (by omega);have jQX:Xz n (Ze n (.int .i64 ((b.2.1.length+2:Nat):Int)) m4)=some (.int .i64 ((b.2.1.length+2:Nat):Int)):=by rw[aS,Qf rfl]
  have qe:Mod (VS p OA4) w4 w8:=tF.trans ZL (λi hi=>.inl (.inl hi));have hK8:=VN.mod (λi hi=>(qd i hi).1) qe;refine QD hK8.mbx rfl ?_;refine EX (kv:=aV) (a:=n) (v:=.int .i64 ((b.2.1.length+2:Nat):Int)) Qa rfl rfl rfl rfl rfl (KeyV.int .i64) rfl rfl Ug (by rw[jQX];rfl) ?_;have wI:=wG.rows;have el:(b.2.1++ [(⟨y.v,a.1,b.1⟩:Br)]).length=b.2.1.length+1:=by simp
  refine⟨rfl,OA6,Bn,⟨?_,?_,⟨_,Ug,jQW⟩,?_⟩,wE.trans qe (VS.moved wF),?_⟩
  ·rw[el,zK];refine(wG.mod Xf (λi hi e=>?_)).mod ZL (λi hi e=>?_)
   ·have:=(wI i hi).1;have:=hK.lt.2;omega
   ·have:=(wI i hi).1;have:=hK.lt.1;omega
  ·rw[el];exact Q2.mod ZL (λe=>hK.ne.1 e.symm)
  ·have:=bi.top;have:=qe.size;omega
  ·exact wF.trans (wH.back Qw.size) wE.size
end
section
def vt (w:World)(r:List Br×Int)(v:Value)(w':World):Prop:=∃A n c,v=Xk A n c r.2/\Ext w w'/\SB w' A n c r.1/\∀i,Qk A i->w.heap.size<=i
theorem EY (bp:Nat)(kv:Value)(NA:Option Addr)(nn nc:Nat)(nd:List Br)(root:Int)(w:World)(hb:Blk w bp 177 [.slice NA nn nc,kv])(hN:SB w NA nn nc nd)(Wy:aj nd)(fm:nn<=1000000000000)(h0:0<=root)(hr:root<nn+2)
  (jG:∀ad,NA=some ad->0<nn->ad.block<w.heap.size):
  Fn Tryz.prog 104 [.pointer (some ⟨bp,0,none⟩),.int .i64 root] w (vt w (bM nd root)):=by
 have Kl:nd.length=nn:=hN.2;have fu:=hb.lt;refine QF (c:={bQ4 with cuts:=[]}) Qa Tryz.func104 rfl rfl rfl ?_;refine new (λw1 Qe Q4 Qh=>?_);refine new (λw2 Qg Zb Qx=>?_);refine new (λw3 Qj JC Qu=>?_);refine Qv Qu rfl (sc rfl) (λw4 cT KO Q7=>?_);have KH:Mod (·=w2.heap.size) w3 w4:=nQQ cT rfl;refine vi Qa aV rfl ?_;intro w5 Qw KP XS;refine OR (kv:=aV) (a:=0) Qa rfl rfl rfl rfl rfl (KeyV.int .i64) rfl rfl rfl XS (λw6 Y4 dX K2=>?_);refine OR (kv:=aV) (a:=1) Qa rfl rfl rfl rfl rfl (KeyV.int .i64) rfl rfl rfl K2 (λw7 ZB Wu Kc=>?_);have jQY:Mod (·=w4.heap.size) w5 w7:=(nQQ (S:=(·=w4.heap.size)) Y4 rfl).trans (nQQ (S:=(·=w4.heap.size)) ZB rfl) (λi hi=>.inl hi);refine new (λw8 Xl Yw Xw=>?_);refine KD Xw (by simp[JR]) (λw9 Zj JD=>?_);refine new (λQy XT wJ JM=>?_);refine KD JM (by simp[JR]) (λQH Z2 Z8=>?_);have z9:=Zj.size;have Bo:=Z2.size;have q1:Ext w w4:=KH.ext ((Qe.trans Qg).trans Qj) (λi hi=>by omega);have q2:Ext w4 w7:=jQY.ext Qw (λi hi=>by omega);have q3:Ext w7 w9:=Zj.ext Xl (λi hi=>by omega);have q4:Ext w9 QH:=Z2.ext XT (λi hi=>by omega);have Bp:Ext w QH:=((q1.trans q2).trans q3).trans q4
 let p:VP:=⟨w7.heap.size,w4.heap.size,w.heap.size,bp,w9.heap.size,w2.heap.size⟩
 have G6:Blk QH w.heap.size 174 [VP.ptr bp]:=(((Qh.ext (Qg.trans Qj)).mod KH (by omega)).ext q2).ext (q3.trans q4);have jQZ:Blk QH w1.heap.size 32 [.slice none 0 0,.int .i64 0]:=(((Qx.ext Qj).mod KH (by omega)).ext q2).ext (q3.trans q4);have Ht:Blk QH w2.heap.size 32 [.slice none 0 0,.int .i64 0]:=(Q7.ext q2).ext (q3.trans q4);have jQ0:Blk QH w7.heap.size 238 [.map (some w4.heap.size)]:=JD.ext q4;have jQ1:MapAt aV QH w4.heap.size _:=((Kc.ext Xl).mod Zj (by omega)).ext q4;have hK:VK QH QH.heap.size p NA nn nc nd:=by
  refine⟨jQ0,G6,⟨kv,hb.ext Bp⟩,Z8,hN.ext Bp,⟨?_,?_⟩,⟨?_,?_,?_,?_,?_,?_,?_,?_,?_⟩,⟨?_,?_,?_,?_⟩,λad e hn=>?_⟩
  all_goals try (show(_:Nat)≠_;simp only[p];omega)
  all_goals try (show(_:Nat)<_;simp only[p];omega)
  have:=jG ad e hn;refine⟨by omega,?_,?_⟩<;>(simp only[p];omega)
 have hS:VSt QH QH.heap.size p 0 none 0 ([],List.replicate nd.length 0):=⟨Own.nil _ _ _ _,Ht,⟨_,jQ1,eQj _⟩,QB _⟩
 refine QD Z8 rfl ?_;refine call (OS QH.heap.size p 0 NA nn nc nd Wy fm (root.toNat+1) root ([],List.replicate nd.length 0) none 0 QH hK hS h0 (by omega) hr (by simp[Kl]) (by simp;omega)) ?_;rintro v Xa ⟨rfl,OA,oc,bj,Vs,tG⟩;have ut:∀i,i≠w4.heap.size->i≠w2.heap.size->¬VS p none i:=λi h1 h2 e=>by
  rcases e with e | e | ⟨_,e,_⟩
  ·exact h1 e
  ·exact h2 e
  ·cases e
 have Hu:=jQZ.mod Vs (ut _ (by omega) (by omega));have VQ:=bj.own.rows;refine XP bj.obx (by simp) (λX6 Kj K5=>?_);have ii:=Hu.mod Kj (by show¬w1.heap.size=w2.heap.size;omega);refine Qt K5 rfl ?_;refine Qv ii rfl (sc rfl) (λZk eQ _ J2=>?_);have KQ:Mod (·=w1.heap.size) X6 Zk:=nQQ eQ rfl;refine Qt J2 rfl ?_;have Xv:Ext w Xa:=Vs.ext Bp (λi hi=>by
  rcases hi with e | e | ⟨_,e,_⟩
  ·simp only[p] at e;omega
  ·simp only[p] at e;omega
  ·cases e)
 have JN:Ext w Zk:=KQ.ext (Kj.ext Xv (λi hi=>by have rj:i=w2.heap.size:=hi;omega)) (λi hi=>by omega);refine⟨OA,_,oc,rfl,JN,⟨?_,rfl⟩,λi hi=>Zc Bp.size (VQ i hi).1⟩;have:∀i,Qk OA i->QH.heap.size<=i:=λi hi=>(VQ i hi).1
 exact((bj.own.mod Kj (λi hi e=>by have:=this i hi;have e':i=w2.heap.size:=e;omega)).mod KQ (λi hi e=>by have:=this i hi;omega)).sl
end
section
theorem eQk {P:Program}{t:TypeId}{fs:Array Field}{ks:List Nat}{xs ys:Array Value}{b:Bool}{w:World}(hu:P.underlying t=some (.struct fs))(hh:P.stoodInHeld t=false)(hf:o8 P 0 fs.toList ks=true)(h:dy ks xs.toList ys.toList=some b)(n:Nat):
  (Op.equalIn (n+2) t (.agg xs) (.agg ys)).run P w= .ok b w:=by
 have ZR:P.fieldsOf t=fs:=by simp[Program.fieldsOf,hu]
 rw[run_equalIn_struct w (n+1) t xs ys (by rw[ZR];exact hu) hh,ZR];exact Eg fs.toList ks 0 _ _ b hf h (λj=>by simp) (λj=>by simp) n w
theorem k3:et (Tryz.prog.underlying 3)<3:=by rw[Tryz.underlying3];decide
abbrev cE:Br->Value:=λb=>.agg b.cells.toArray
theorem eQl (a b:Br)(n:Nat)(w:World):(Op.equalIn (n+2) 105 (cE a) (cE b)).run Tryz.prog w= .ok (decide (a=b)) w:=by
 refine eQk (ks:=[0,0,0]) Tryz.underlying105 (by kernel_rfl) (by kernel_rfl) ?_ n;rw[show dy [0,0,0] a.cells.toArray.toList b.cells.toArray.toList=some (a.v==b.v&&(a.l==b.l&&(a.h==b.h&&true))) from rfl,pE];congr 1;exact uS.2 pF.symm
theorem eQm (b:Bool)(a:Br)(n:Nat)(w:World):(Instr.checkKey b (n+2) 105 (cE a)).run Tryz.prog w= .ok () w:=by
 simp[Instr.checkKey,ZU Tryz.underlying105,ZU Tryz.underlying3,cE,Br.cells,cy k3 (cs:= #[Value.int IntKind.i64 a.v,Value.int IntKind.i64 a.l,Value.int IntKind.i64 a.h]) (n:=0) rfl,cy k3 (cs:= #[Value.int IntKind.i64 a.v,Value.int IntKind.i64 a.l,Value.int IntKind.i64 a.h]) (n:=1) rfl,cy k3 (cs:= #[Value.int IntKind.i64 a.v,Value.int IntKind.i64 a.l,Value.int IntKind.i64 a.h]) (n:=2) rfl]
theorem zL:KeyQ Tryz.prog 105 cE:=
 nQ4 Tryz.underlying105 (λa b w=>eQl a b 9998 w) (λb a w=>eQm b a 9998 w) (λa=>by simp[Br.cells,Instr.sameBits])
theorem EZ {α:Type} [DecidableEq α]{kv:α->Value}{c:Cx}{o:Oper}{S:Env}{w:World}{K:Env->World->Prop}{Q:Zg}{t ke e:Nat}{r re:TyRow}{x y:Operand}{q:Nat}{m:List (α×Value)}{a:α}(hg:c.g.Ok)(ho:o.op= .lookup t x y false)(hr:QT c.g.tys t=some r)(hd:r.d= .map ke e)(X2:QT c.g.tys e=some re)(hk:KeyQ c.g.P ke kv)
  (hx:S.ev x=some (.map (some q))) (hy:S.ev y=some (kv a)) (hm:MapQ kv w q m) {v:Value} (hv:(Xz a m).getD re.z=v)
  (k:Xd c S o.dst (.v v) (λS=>K S w)):X8 c o S w K Q:=by
 refine Jx (w':=w) (λb hf=>?_) k;have e1:=hf.ev hx;have e2:=hf.ev hy;have:=Om (w:=w) (a:=a) hg hr hd X2 hk hm false;simp only[hv] at this;simp only[execOp,ho,e1,e2];simp only[Sem.run_bind,this,Result.andThen_ok];simp
theorem SB.lt {w:World}{A:Option Addr}{n c:Nat}{d:List Br}(h:SB w A n c d):∀ad,A=some ad->0<n->ad.block<w.heap.size:=by
 intro ad e hn;obtain⟨ad',e',hc⟩:=h.1.at_ hn;cases e.symm.trans e';have hl:=h.1.len;cases XY:d.flatMap Br.cells with
 | nil=>rw[XY] at hl;simp at hl;omega
 | cons u us=>
  rw[XY] at hc;have:=World.block_lt_of_cell? w _ (hc 0 u rfl);rw[pw] at this;exact this
end
section
theorem zM (A:Option Addr)(n c:Nat)(nd:List Br)(root:Int)(w:World)(h:SB w A n c nd):
  Fn Tryz.prog 52 [Xk A n c root] w (λv w'=>v= .int .i64 (XL nd root)/\Ext w w'):=by
 have QY:=h.2;refine QF (c:={c52 with cuts:=[4]}) Qa Tryz.func52 rfl rfl rfl ?_;refine new (λw1 Qe Q4 Qh=>?_);refine QD Qh rfl ?_;refine Qz (λh1=>?_) (λh1=>?_)
 ·exact⟨by rw[eQd (by omega)],Qe⟩
 have gu:¬4096<nd.length:=by omega
 refine r7 Qa cE rfl ?_;intro w2 Qg Zb XQ;have Q5:=Qe.trans Qg;have Qx:=Qh.ext Qg;refine fO [] Qa [] (λ_:Unit=>[]) (λ_ w'=>Mod (·=w1.heap.size) w2 w'/\∀(j:Nat) (b:Br),j<n->nd[j]? =some b->gJ nd j b) ?_ ?_
 ·refine QD Qx rfl ?_;refine loop Qa [15] (λs:Nat=>[.int .i64 s]) (λs w'=>Mod (·=w1.heap.size) w2 w'/\s<=n/\(∀(j:Nat) (b:Br),j<s->nd[j]? =some b->gJ nd j b)/\∃m,MapQ cE w' w1.heap.size m/\∀b,(Xz b m).getD (.bool false)= .bool (decide (b∈nd.take s))) (λs _=>n-s) 0 rfl ⟨Mod.refl _ _,Xr _,λj b hj=>Xn hj (by omega),[],XQ,λb=>by simp[Xz]⟩ ?_;rintro s w3 ⟨Z1,hs,hall,m,XC,YC⟩;have Qj:Ext w w3:=Z1.ext Q5 (λi hi=>by have:=Qe.size;omega);have Qu:=Qx.mod Z1 (by omega);refine Qz (λh2=>?_) (λh2=>?_)
  ·refine Zv ah (h.ext Qj) rfl (by omega) (λp x hx hc=>?_);refine Kn (vs:=x.cells) rfl hc ?_;refine new (λw4 Qs KO Q7=>?_);refine Qv Q7 rfl (sc rfl) (λw5 JH KP Kx=>?_);have Yd:Ext w3 w5:=X9 Qs Q7 JH;have Qw:=Qj.trans Yd;have XS:=XC.ext Yd;have QG:=Qu.ext Yd;have bad:¬gJ nd s x->∀w',Ext w w'->(Value.int .i64 20= .int .i64 (XL nd root))/\Ext w w':=λXi w' hE=>⟨by rw[zJ gu (λhv=>Xi (hv.1 s x hx))],hE⟩
   refine QD Kx rfl ?_;refine Qz (λc1=>?_) (λc1=>?_)
   ·exact bad (λhb=>by have:=hb.1;omega) _ Qw
   refine QD Kx rfl ?_;refine Qz (λc2=>?_) (λc2=>?_)
   ·exact bad (λhb=>by have:=hb.2.1;omega) _ Qw
   refine Qo Kx rfl ?_;refine Qz (λc3=>?_) (λc3=>?_)
   ·exact bad (λhb=>by have:=hb.2.2.1;omega) _ Qw
   refine Qo Kx rfl ?_;refine Qz (λc4=>?_) (λc4=>?_)
   ·exact bad (λhb=>by have:=hb.2.2.2.2.1;omega) _ Qw
   refine Qo Kx rfl ?_;refine Qi ((s:Int)+1) rfl (by omega) ?_;refine Qz (λc5=>?_) (λc5=>?_)
   ·exact bad (λhb=>by have:=hb.2.2.2.1;omega) _ Qw
   refine Qo Kx rfl ?_;refine Qi ((s:Int)+1) rfl (by omega) ?_;refine Qz (λc6=>?_) (λc6=>?_)
   ·exact bad (λhb=>by have:=hb.2.2.2.2.2.1;omega) _ Qw
   refine Qo Kx rfl ?_;refine Qo Kx rfl ?_;refine X3 (λc7=>?_) (λc7=>?_)
   ·exact bad (λhb=>hb.2.2.2.2.2.2.1 c7) _ Qw
   refine Qt Kx rfl ?_;refine EZ (kv:=cE) (a:=x) Qa rfl rfl rfl rfl zL rfl rfl XS (YC x) ?_;refine Qz (λc8=>?_) (λc8=>?_)
   ·exact bad (λhb=>hb.2.2.2.2.2.2.2.1 c8) _ Qw
   refine XK Qa (Ext w5) 16 [(true,0),(true,1),(true,2),(true,4),(true,5),(false,3),(true,6),(true,7),(true,8),(true,9),(true,10),(true,12),(true,13),(false,11),(true,14),(true,15)] (by kernel_rfl) (Ext.drew w5) ?_;have qB:∀w',Ext w5 w'->∀(j:Nat) (v:Value),[Value.slice A n c,.int .i64 root][j]? =some v->w'.cell? ((⟨w.heap.size,0,none⟩:Addr).add j)=some v:=λw' Qb j v hj=>by rw[(QG.ext Qb).cell];exact hj
   have qX:∀w',Ext w5 w'->∀(j:Nat) (v:Value),x.cells[j]? =some v->w'.cell? ((⟨w3.heap.size,0,none⟩:Addr).add j)=some v:=λw' Qb j v hj=>by rw[(Kx.ext Qb).cell];exact hj
   have wK:∀w',Ext w5 w'->w'.cell? (⟨w3.heap.size,0,none⟩:Addr)=some (.int .i64 x.v):=λw' Qb=>by have:=qX w' Qb 0 _ rfl;simpa [Addr.add] using this
   refine Xs (vs:=[.slice A n c,.int .i64 root]) rfl (λw' Qb j v hj=>by have:=qB w' Qb j v hj;simpa [Addr.add] using this) ?_;refine QK (v:=.int .i64 x.l) (λw' Qb=>qX w' Qb 1 _ rfl) ?_;refine QK (v:=.int .i64 x.v) (λw' Qb=>wK w' Qb) ?_;refine call (dJ A n c root x.l nd _ (h.ext (Qw.trans (Ext.drew w5))) (by omega)) ?_;rintro v w6 ⟨rfl,QO⟩;have Zw:=(Ext.drew w5).trans QO;refine⟨Zw,?_⟩;refine Qz (λc9=>?_) (λc9=>?_)
   ·exact bad (λhb=>by have:=hb.2.2.2.2.2.2.2.2.1;omega) _ (Qw.trans Zw)
   refine Xs (vs:=[.slice A n c,.int .i64 root]) rfl (λw' Qb j v hj=>by have:=qB w' Qb j v hj;simpa [Addr.add] using this) ?_;refine QK (v:=.int .i64 x.h) (λw' Qb=>qX w' Qb 2 _ rfl) ?_;refine QK (v:=.int .i64 x.v) (λw' Qb=>wK w' Qb) ?_;refine call (dJ A n c root x.h nd _ (h.ext (Qw.trans Zw)) (by omega)) ?_;rintro v w7 ⟨rfl,Xb⟩;have JI:=Zw.trans Xb;refine⟨JI,?_⟩;refine Qz (λr6=>?_) (λr6=>?_)
   ·exact bad (λhb=>by have:=hb.2.2.2.2.2.2.2.2.2;omega) _ (Qw.trans JI)
   have X0:gJ nd s x:=⟨by omega,by omega,by omega,by omega,by omega,by omega,c7,c8,by omega,by omega⟩
   refine Qt (Kx.ext JI) rfl ?_;refine r8 (kv:=cE) (a:=x) Qa rfl rfl rfl rfl zL rfl rfl rfl (XS.ext JI) (λw8 ZL Yw JB=>?_);refine Qi ((s+1:Nat):Int) (by omega) (by omega) ?_;refine⟨s+1,rfl,⟨(Z1.trans (Mod.of_ext (·=w1.heap.size) (Yd.trans JI)) (λi hi=>.inl hi)).trans ZL (λi hi=>.inl hi),by omega,λj b hj hb=>?_,_,JB,λb=>?_⟩,by show n-(s+1)<n-s;omega⟩
   ·by_cases YP:j<s
    ·exact hall j b YP hb
    ·have:j=s:=by omega
     subst this;rw[Option.some.inj (hb.symm.trans hx)];exact X0
   ·rw[aS,K9,hx];by_cases lF:b=x
    ·subst lF;simp
    ·rw[if_neg lF,YC b];simp[lF]
  ·have:s=n:=by omega
   subst this;exact⟨(),rfl,Z1,hall⟩
 rintro⟨⟩ w3 ⟨Z1,hall⟩;have Qj:Ext w w3:=Z1.ext Q5 (λi hi=>by have:=Qe.size;omega);have Qu:=Qx.mod Z1 (by omega);refine Qo Qu rfl ?_;refine Qz (λc1=>?_) (λc1=>?_)
 ·exact⟨by rw[zJ gu (λhv=>by have:=hv.2.1;omega)],Qj⟩
 refine Qo Qu rfl ?_;refine QD Qu rfl ?_;refine Qi ((n:Int)+1) rfl (by omega) ?_;refine Qz (λc2=>?_) (λc2=>?_)
 ·exact⟨by rw[zJ gu (λhv=>by have:=hv.2.2.1;omega)],Qj⟩
 have Wy:aj nd:=λj x hx=>by
  obtain⟨_,_,h1,h2,h3,h4,_⟩:=hall j x (by have:=(ZY.1 hx).1;omega) hx;exact⟨h1,h2,h3,h4⟩
 refine QD Qu rfl ?_;refine new (λw4 Qs KO Q7=>?_);have XG:=Qj.trans Qs;have jt:=Qu.ext Qs;refine Qo jt rfl ?_;refine call (EY w3.heap.size (.map none) A n c nd root w4 Q7 (h.ext XG) Wy (by omega) (by omega) (by omega) (SB.lt (h.ext XG))) ?_;rintro v w5 ⟨OA,m,oc,rfl,Qw,bm,_⟩;refine new (λw6 QO dX Q9=>?_);refine Qv Q9 rfl (sc rfl) (λw7 ZB Wu wD=>?_);have JI:Ext w5 w7:=X9 QO Q9 ZB;have Vt:=(XG.trans Qw).trans JI;refine Qt wD rfl ?_;refine Qt ((jt.ext Qw).ext JI) rfl ?_;refine call (eQh OA A m oc n c _ nd _ root w7 (bm.ext JI) (h.ext Vt)) ?_;rintro v w8 ⟨rfl,Xl⟩;have Y6:=Vt.trans Xl;refine l6 (Qz (λc3=>?_) (λc3=>?_))
 ·exact⟨by rw[EW gu ⟨λj b hb=>hall j b (by have:=(ZY.1 hb).1;omega) hb,by omega,by omega,c3⟩],Y6⟩
 ·exact⟨by rw[zJ gu (λhv=>c3 hv.2.2.2)],Y6⟩
end
section
theorem Blk.cell0 {w:World}{g t:Nat}{cs:List Value}(h:Blk w g t cs):w.cell? ⟨g,0,none⟩=cs[0]? :=by have:=h.cell 0;simpa [Addr.add] using this
theorem vu (A:Option Addr)(n c:Nat)(r m:Int)(nd:List Br)(w:World)(h:SB w A n c nd)(hm:m<n+2):
  Fn Tryz.prog 161 [Xk A n c r,.int .i64 m] w (λv w'=>v= .int .i64 (Ql nd m)/\Ext w w'):=by
 have QY:=h.2;refine QF (c:={cQI with cuts:=[]}) Qa Tryz.func161 rfl rfl rfl ?_;refine new (λw1 Qe Q4 Qh=>?_);refine Qz (λh1=>?_) (λh1=>?_)
 ·exact⟨by unfold Ql;rw[Qf h1],Qe⟩
 ·refine QD Qh rfl ?_;refine Qi (((m-2).toNat:Nat):Int) (by omega) (by have:=h.1.le;have:=h.1.cap;simp only[maxLen] at this;omega) ?_;refine Zv ah (h.ext Qe) rfl (by omega) (λp x hx hc=>?_);refine load (hc 0 _ rfl) ?_;exact⟨by unfold Ql;rw[if_neg h1,hx];rfl,Qe⟩
theorem mQt (A:Option Addr)(n c:Nat)(r:Int)(s:Nat)(nd:List Br)(x:Br)(w:World)(h:SB w A n c nd)(hx:nd[s]? =some x)(bz:n<=1000000000000):
  Fn Tryz.prog 212 [Xk A n c r,.int .i64 s] w (λv w'=>∃b,v= .bool b/\(b=true↔gJ nd s x)/\Ext w w'):=by
 have QY:=h.2;have hs:s<nd.length:=(ZY.1 hx).1;refine QF (c:={dQb with cuts:=[]}) Qa Tryz.func212 rfl rfl rfl ?_;refine new (λw1 Qe Q4 Qh=>?_);refine QD Qh rfl ?_;refine Zv ah (h.ext Qe) rfl (by omega) (λp y hy hc=>?_);have iE:y=x:=Option.some.inj (hy.symm.trans hx);subst iE;refine Kn (vs:=y.cells) rfl hc ?_;refine new (λw4 Qs KO Q7=>?_);refine Qv Q7 rfl (sc rfl) (λw5 JH KP Kx=>?_);have Jm:Ext w1 w5:=X9 Qs Q7 JH;have Qw:=Qe.trans Jm;have QG:=Qh.ext Jm;have bad:¬gJ nd s y->∀w',Ext w w'->∃b,(Value.bool false:Value)= .bool b/\(b=true↔gJ nd s y)/\Ext w w':=λXi w' hE=>⟨false,rfl,by simp[Xi],hE⟩
 refine QD Kx rfl ?_;refine Qz (λc1=>?_) (λc1=>?_)
 ·exact bad (λhb=>by have:=hb.1;omega) _ Qw
 refine QD Kx rfl ?_;refine Qz (λc2=>?_) (λc2=>?_)
 ·exact bad (λhb=>by have:=hb.2.1;omega) _ Qw
 refine Qo Kx rfl ?_;refine Qz (λc3=>?_) (λc3=>?_)
 ·exact bad (λhb=>by have:=hb.2.2.1;omega) _ Qw
 refine Qo Kx rfl ?_;refine Qz (λc4=>?_) (λc4=>?_)
 ·exact bad (λhb=>by have:=hb.2.2.2.2.1;omega) _ Qw
 refine Qo Kx rfl ?_;refine Qi ((s:Int)+2) rfl (by omega) ?_;refine Qz (λc5=>?_) (λc5=>?_)
 ·exact bad (λhb=>by have:=hb.2.2.2.1;omega) _ Qw
 refine Qo Kx rfl ?_;refine Qi ((s:Int)+2) rfl (by omega) ?_;refine Qz (λc6=>?_) (λc6=>?_)
 ·exact bad (λhb=>by have:=hb.2.2.2.2.2.1;omega) _ Qw
 refine Qo Kx rfl ?_;refine Qo Kx rfl ?_;refine X3 (λc7=>?_) (λc7=>?_)
 ·exact bad (λhb=>hb.2.2.2.2.2.2.1 c7) _ Qw
 have qB:∀w',Ext w5 w'->∀(j:Nat) (v:Value),[Value.slice A n c,.int .i64 r][j]? =some v->w'.cell? ((⟨w.heap.size,0,none⟩:Addr).add j)=some v:=λw' Qb j v hj=>by rw[(QG.ext Qb).cell];exact hj
 have qX:∀w',Ext w5 w'->∀(j:Nat) (v:Value),y.cells[j]? =some v->w'.cell? ((⟨w1.heap.size,0,none⟩:Addr).add j)=some v:=λw' Qb j v hj=>by rw[(Kx.ext Qb).cell];exact hj
 have wK:∀w',Ext w5 w'->w'.cell? (⟨w1.heap.size,0,none⟩:Addr)=some (.int .i64 y.v):=λw' Qb=>by rw[(Kx.ext Qb).cell0]<;>rfl
 refine XK Qa (Ext w5) 16 [(true,0),(true,1),(true,2),(true,4),(true,5),(false,3),(true,6),(true,7),(true,8),(true,9),(true,10),(true,12),(true,13),(false,11),(true,14),(true,15)] (by kernel_rfl) (Ext.drew w5) ?_;refine Xs (vs:=[.slice A n c,.int .i64 r]) rfl (λw' Qb j v hj=>by have:=qB w' Qb j v hj;simpa [Addr.add] using this) ?_;refine QK (v:=.int .i64 y.l) (λw' Qb=>qX w' Qb 1 _ rfl) ?_;refine QK (v:=.int .i64 y.v) (λw' Qb=>wK w' Qb) ?_;refine call (vu A n c r y.l nd _ (h.ext (Qw.trans (Ext.drew w5))) (by omega)) ?_;rintro v w6 ⟨rfl,QO⟩;have Zw:=(Ext.drew w5).trans QO;refine⟨Zw,?_⟩;refine Qz (λc9=>?_) (λc9=>?_)
 ·exact bad (λhb=>by have:=hb.2.2.2.2.2.2.2.2.1;omega) _ (Qw.trans Zw)
 refine Xs (vs:=[.slice A n c,.int .i64 r]) rfl (λw' Qb j v hj=>by have:=qB w' Qb j v hj;simpa [Addr.add] using this) ?_;refine QK (v:=.int .i64 y.h) (λw' Qb=>qX w' Qb 2 _ rfl) ?_;refine QK (v:=.int .i64 y.v) (λw' Qb=>wK w' Qb) ?_;refine call (vu A n c r y.h nd _ (h.ext (Qw.trans Zw)) (by omega)) ?_;rintro v w7 ⟨rfl,Xb⟩;have JI:=Zw.trans Xb;refine⟨JI,?_⟩;refine Qz (λr6=>?_) (λr6=>?_)
 ·exact bad (λhb=>by have:=hb.2.2.2.2.2.2.2.2.2;omega) _ (Qw.trans JI)
 have Vt:=Qw.trans JI;refine loop Qa [6] (λt:Nat=>[.int .i64 t]) (λt w'=>Ext w7 w'/\t<=s/\y∉nd.take t) (λt _=>s-t) 0 rfl ⟨Ext.refl w7,Xr _,by simp⟩ ?_;rintro t w8 ⟨Xl,ht,Xi⟩;have Xw:=(QG.ext JI).ext Xl;have hX8:=(Kx.ext JI).ext Xl;have Y6:=Vt.trans Xl;refine Qz (λh8=>?_) (λh8=>?_)
 ·refine XK Qa (Ext w8) 7 [(true,0),(true,1),(true,2),(true,3),(true,4),(true,5),(true,6)] (by kernel_rfl) (Ext.drew w8) ?_;refine QK (v:=.slice A n c) (λw' Qb=>by rw[(Xw.ext Qb).cell];rfl) ?_;refine Zv ah (h.ext Y6) rfl (by omega) (λp z hz hc=>?_);refine Xs (vs:=z.cells) rfl (λw' Qb j v hj=>Qb.cell (hc j v hj)) ?_;refine Xs (vs:=y.cells) rfl (λw' Qb j v hj=>by have:=(hX8.ext Qb).cell j;simp[Addr.add] at this;rw[<-hj];simpa [Addr.add] using this) ?_;have dq:=Xl.trans (Ext.drew w8);by_cases Dj:z=y
  ·refine Q8 (by rw[pE,Zy (pF.1 Dj)]) ?_;refine bad (λhb=>hb.2.2.2.2.2.2.2.1 ?_) _ (Vt.trans dq);subst Dj;exact Xm (i:=t) (by rw[oZ (by omega)];exact hz)
  ·refine Q3 (by rw[pE,Zq (λe=>Dj (pF.2 e))]) ?_;refine Qi ((t+1:Nat):Int) (by omega) (by omega) ?_;refine⟨t+1,rfl,⟨dq,by omega,?_⟩,by show s-(t+1)<s-t;omega⟩;rw[K9,hz];simp only[DW,XM,QN,not_or];exact⟨Xi,λe=>Dj e.symm⟩
 ·have:t=s:=by omega
  subst this;exact⟨true,rfl,by simp only[true_iff];exact⟨by omega,by omega,by omega,by omega,by omega,by omega,c7,Xi,by omega,by omega⟩,Y6⟩
end
section
def kj (l:List Nat):List Value:=l.map λ(x:Nat)=>.int .i64 (x:Int)
theorem OT {l:List Nat}{j x:Nat}(h:l[j]? =some x):(kj l)[j]? =some (.int .i64 (x:Int)):=by simp[kj,h]
theorem eQn (l:List Nat):(kj l).length=l.length:=by simp[kj]
theorem eQo (l:List Nat)(i x:Nat):kj (l.set i x)=(kj l).set i (.int .i64 (x:Int)):=by simp[kj,List.map_set]
def WS (x pg:Nat)(A:Option Addr):Nat->Prop:=λk=>k=x∨k=pg∨Qk A k
theorem WS.moved {w:World}{x pg:Nat}{A A':Option Addr}(h:Moved w A A'):∀k,WS x pg A' k->WS x pg A k∨w.heap.size<=k:=by
 rintro k (rfl | rfl | hk)
 ·exact .inl (.inl rfl)
 ·exact .inl (.inr (.inl rfl))
 ·rcases h.rows k hk with h | h
  ·exact .inl (.inr (.inr h))
  ·exact .inr h
structure Wk (w:World) (base x pg:Nat) (NA:Option Addr) (nn nc:Nat) (nd:List Br) (OA:Option Addr) (oc:Nat) (st:List Br×List Nat):Prop where
 blk:Blk w x 249 [.slice NA nn nc,.slice (some ⟨pg,0,none⟩) nn nn,.slice OA st.1.length oc]
 num:Blk w pg 3 (kj st.2)
 own:Own w base 105 3 OA st.1.length oc (ki st.1)
 lt:x<base/\pg<base/\x≠pg
 top:base<=w.heap.size
 nds:SB w NA nn nc nd
 row:∀ad,NA=some ad->0<nn->ad.block<base/\ad.block≠x/\ad.block≠pg
 len:st.2.length=nn
theorem Wk.ext {w w':World}{base x pg:Nat}{NA:Option Addr}{nn nc:Nat}{nd:List Br}{OA:Option Addr}{oc:Nat}{st:List Br×List Nat}(h:Wk w base x pg NA nn nc nd OA oc st)(k:Ext w w'):Wk w' base x pg NA nn nc nd OA oc st:=
 ⟨h.blk.ext k,h.num.ext k,h.own.ext k,h.lt,Zc h.top k.size,h.nds.ext k,h.row,h.len⟩
theorem Wk.keep {w w':World}{base x pg:Nat}{NA:Option Addr}{nn nc:Nat}{nd:List Br}{OA:Option Addr}{oc:Nat}{st:List Br×List Nat}(h:Wk w base x pg NA nn nc nd OA oc st)(hm:Mod (WS x pg OA) w w'):SB w' NA nn nc nd:=by
 refine⟨h.nds.1.modS hm ?_,h.nds.2⟩;rintro h0 i ⟨ad,rfl,rfl⟩ hi;obtain⟨r1,r2,r3⟩:=h.row ad rfl h0;rcases hi with hi | hi | hi
 ·exact r2 hi
 ·exact r3 hi
 ·have:=(h.own.rows _ hi).1;omega
def WTo (w:World)(base x pg:Nat)(NA:Option Addr)(nn nc:Nat)(nd:List Br)(OA:Option Addr)(st:List Br×List Nat)(w':World):Prop:=∃OA' oc',Wk w' base x pg NA nn nc nd OA' oc' st/\Mod (WS x pg OA) w w'/\Moved w OA OA'
theorem OU (base x pg:Nat)(NA:Option Addr)(nn nc:Nat)(nd:List Br)(Wy:aj nd)(fm:nn<=1000000000000):∀(m:Nat)(n:Int)(st:List Br×List Nat)(OA:Option Addr)(oc:Nat)(w:World),
  Wk w base x pg NA nn nc nd OA oc st->0<=n->n<m->n<nn+2->st.1.length+st.2.count 0<=1000000000000->
  Fn Tryz.prog 164 [.pointer (some ⟨x,0,none⟩),.int .i64 n] w (λv w'=>v= .int .i64 (Zd nd m n st).1/\WTo w base x pg NA nn nc nd OA (Zd nd m n st).2 w')
 | 0,n,st,OA,oc,w,_,h0,hm,_,_=>by omega
 | m+1,n,st,OA,oc,w,hK,h0,hm,hn,hc=>by
  have ih:=OU base x pg NA nn nc nd Wy fm m;have Kl:nd.length=nn:=hK.nds.2;have hl:=hK.len;have VQ:=hK.own.rows;have nQv:=hK.blk.lt;have nQw:=hK.num.lt;obtain⟨lx,lp,lxp⟩:=hK.lt;refine QF (c:={cQL with cuts:=[]}) Qa Tryz.func164 rfl rfl rfl ?_;by_cases h1:n<2
  ·refine Zh h1 ?_;rw[kf h1];exact⟨rfl,OA,oc,hK,Mod.refl _ _,Moved.refl _ _⟩
  refine XD h1 ?_;have hj:(n-2).toNat<nn:=by omega
  have hz:st.2[(n-2).toNat]? =some st.2[(n-2).toNat]:=Xp (by omega);refine Qo hK.blk rfl ?_;refine Qi (((n-2).toNat:Nat):Int) (by omega) (by omega) ?_;refine index (by omega) ?_;refine Qo hK.num (OT hz) ?_;have hd:st.2[(n-2).toNat]?.getD 0=st.2[(n-2).toNat]:=by rw[hz]<;>rfl
  by_cases h2:0<st.2[(n-2).toNat]?.getD 0
  ·rw[kg h1 h2];rw[hd] at h2 ⊢;refine Zh (by omega) ?_;refine Qo hK.blk rfl ?_;refine Qi (((n-2).toNat:Nat):Int) (by omega) (by omega) ?_;refine index (by omega) ?_;refine Qo hK.num (OT hz) ?_;exact⟨rfl,OA,oc,hK,Mod.refl _ _,Moved.refl _ _⟩
  refine XD (by rw[hd] at h2;omega) ?_;have hx:=Xp (show(n-2).toNat<nd.length by omega);generalize nd[(n-2).toNat]=b at hx;obtain⟨x1,x2,x3,x4⟩:=Wy _ _ hx;rw[mj h1 h2 hx];refine QD hK.blk rfl ?_;refine Qi (((n-2).toNat:Nat):Int) (by omega) (by omega) ?_;refine Zv ah hK.nds rfl (by omega) (λad y hy fq=>?_);have iE:y=b:=Option.some.inj (hy.symm.trans hx);subst iE;refine Kn (vs:=y.cells) rfl fq ?_;refine new (λw1 Qe Q4 Qh=>?_);refine Qv Qh rfl (sc rfl) (λw2 cU Zb Kw=>?_);have Qg:Ext w w2:=X9 Qe Qh cU;have Bm:Mod (WS x pg OA) w w2:=Mod.of_ext _ Qg;have iG:¬WS x pg OA w.heap.size:=λe=>by
   rcases e with e | e | e
   ·omega
   ·omega
   ·have:=(VQ _ e).2;omega
  refine Qo Kw rfl ?_;have f1:=kh Wy m y.l st x1 (by omega) (by omega) (by omega);refine call (ih y.l st OA oc w2 (hK.ext Qg) x1 (by omega) (by omega) hc) ?_;rintro v w3 ⟨rfl,OA3,Hp,eP,Z1,kW⟩;have Vg:=Kw.mod Z1 iG;have tD:¬WS x pg OA3 w.heap.size:=λe=>(WS.moved kW _ e).elim iG (λh=>by omega)
  refine Qo Vg rfl ?_;have f2:=kh Wy m y.h _ x3 (by omega) (by omega) f1.len;have c1:=f1.cnt;have c2:=f2.cnt;refine call (ih y.h _ OA3 Hp w3 eP x3 (by omega) (by omega) (by omega)) ?_;rintro v w4 ⟨rfl,OA4,Uf,VN,KH,qa⟩;have YN:=Vg.mod KH tD;have jQ2:¬WS x pg OA4 w.heap.size:=λe=>(WS.moved qa _ e).elim tD (λh=>by have:=Z1.size;omega)
  have kX:=Z1.trans KH (WS.moved kW);have Hq:=kW.trans qa Z1.size;have wE:Mod (WS x pg OA) w w4:=Bm.trans kX (λi hi=>.inl hi);have wF:=Hq.back Qg.size;generalize (Zd nd m y.l st)=a at*;generalize (Zd nd m y.h a.2)=b at*;have qd:=VN.own.rows;have dh:¬Qk OA4 x:=λe=>by have:=(qd _ e).1;omega
  have hnp:¬Qk OA4 pg:=λe=>by have:=(qd _ e).1;omega
  refine XK Qa (Mod (Qk OA4) w4) 12 [(true,0),(true,1),(true,2),(true,3),(true,4),(true,5),(true,6),(true,7),(true,8),(true,9),(false,10),(false,11)] (by kernel_rfl) (Mod.of_ext _ (Ext.drew w4)) ?_;refine QK (v:=.slice OA4 b.2.1.length Uf) (λw' Qb=>by rw[(VN.blk.mod Qb dh).cell];rfl) ?_;refine QK (v:=.int .i64 y.v) (λw' Qb=>by rw[(YN.mod Qb (λe=>jQ2 (.inr (.inr e)))).cell];rfl) ?_;refine Xh Qa [(⟨y.v,a.1,b.1⟩:Br).cells] rfl rfl rfl rfl rfl ⟨rfl,rfl,⟨⟩⟩ rfl (λcs h=>by simp only[QN] at h;subst h;rfl) rfl (by decide) (by decide) ?_;intro w5 Qw KP QG;have aB:=(Ext.drew w4).trans Qw;have ju:=VN.ext aB;refine⟨Mod.of_ext _ aB,?_⟩;have kY:Sl w5 3 (some ⟨w4.drew.heap.size,0,none⟩) 1 1 (⟨y.v,a.1,b.1⟩:Br).cells:=Sl.own (sz:=3) (n:=1) QG (QB _) (by decide) (by simp[Br.cells]);refine Z4 Qa rfl rfl rfl rfl rfl (by decide) rfl rfl ⟨_,rfl⟩ rfl rfl ju.own kY (by intro u hu;simp[Br.cells] at hu;rcases hu with rfl | rfl | rfl<;>rfl) (by unfold maxLen;omega) (by show _*24<=_;omega) ju.top ?_;intro OA6 Bn w6 K4 wG wH;have ni:Mod (Qk OA4) w4 w6:=(Mod.of_ext (Qk OA4) aB).trans K4 (λi hi=>.inl hi);refine⟨ni,?_⟩;refine XP (VN.blk.mod ni dh) (by simp) (λw7 Xf Q2=>?_);have hN7:=(VN.num.mod ni hnp).mod Xf (λe=>lxp e.symm);have QY:b.2.2.length=nn:=VN.len;refine XK Qa (Ext w7) 13 [(true,0),(true,1),(true,2),(true,3),(true,4),(true,5),(true,6),(true,7),(true,8),(true,9),(true,10),(true,11),(true,12)] (by kernel_rfl) (Ext.drew w7) ?_;refine QK (v:=.slice (some ⟨pg,0,none⟩) nn nn) (λw' Qb=>by rw[(Q2.ext Qb).cell];rfl) ?_;refine Qi (((n-2).toNat:Nat):Int) (by omega) (by omega) ?_;refine QK (v:=.slice OA6 (b.2.1.length+1) Bn) (λw' Qb=>by rw[(Q2.ext Qb).cell];rfl) ?_;refine Qi ((b.2.1.length+2:Nat):Int) (by omega) (by omega) ?_;refine index (by omega) ?_;refine XP (hN7.ext (Ext.drew w7)) (by rw[eQn];omega) (λw8 ZL Xw=>?_);rw[<-eQo] at Xw;have wL:=(Q2.ext (Ext.drew w7)).mod ZL lxp;refine Qo wL rfl ?_;refine Qi ((b.2.1.length+2:Nat):Int) (by omega) (by omega) ?_;have qe:Mod (WS x pg OA4) w4 w8:=(((ni.mono (λi hi=>.inl (.inr (.inr hi)))).trans Xf (λi hi=>.inl (.inl hi))).trans (Mod.of_ext (WS x pg OA4) (Ext.drew w7)) (λi hi=>.inl hi)).trans ZL (λi hi=>.inl (.inr (.inl hi)));have wI:=wG.rows;have el:(b.2.1++ [(⟨y.v,a.1,b.1⟩:Br)]).length=b.2.1.length+1:=by simp
  refine⟨rfl,OA6,Bn,⟨?_,?_,?_,hK.lt,?_,VN.keep qe,hK.row,?_⟩,wE.trans qe (WS.moved wF),?_⟩
  ·rw[el];exact wL
  ·exact Xw
  ·rw[el,zK];refine((wG.mod Xf (λi hi e=>?_)).ext (Ext.drew w7)).mod ZL (λi hi e=>?_)
   ·have:=(wI i hi).1;omega
   ·have:=(wI i hi).1;omega
  ·have:=VN.top;have:=qe.size;omega
  ·rw[fB];exact QY
  ·exact wF.trans (wH.back aB.size) wE.size
theorem eQp (NA:Option Addr)(nn nc:Nat)(nd:List Br)(root:Int)(w:World)(hN:SB w NA nn nc nd)(Wy:aj nd)(fm:nn<=1000000000000)(h0:0<=root)(hr:root<nn+2):
  Fn Tryz.prog 108 [.slice NA nn nc,.int .i64 root] w (vt w (bM nd root)):=by
 have Kl:nd.length=nn:=hN.2;have jG:=SB.lt hN;refine QF (c:={bQ7 with cuts:=[]}) Qa Tryz.func108 rfl rfl rfl ?_;refine new (λw1 Qe Q4 Qh=>?_);refine zv Qa rfl rfl rfl rfl rfl rfl rfl rfl (by show 8*nn<=_;omega) (by unfold maxLen;omega) (λw2 Qg Zb Qx=>?_);refine new (λw3 Qj JC Qu=>?_);have QX:=(Qe.trans Qg).trans Qj;have hW:Wk w3 w3.heap.size w2.heap.size w1.heap.size NA nn nc nd none 0 ([],List.replicate nd.length 0):=by
  refine⟨Qu,?_,Own.nil _ _ _ _,⟨by omega,by omega,by omega⟩,QB _,hN.ext QX,λad e hn=>?_,by simp[Kl]⟩
  ·have:=Qx.ext Qj;rw[Kl];simpa [kj] using this
  ·have:=jG ad e hn;exact⟨by omega,by omega,by omega⟩
 refine call (OU w3.heap.size w2.heap.size w1.heap.size NA nn nc nd Wy fm (root.toNat+1) root _ none 0 w3 hW h0 (by omega) hr (by simp;omega)) ?_;rintro v w4 ⟨rfl,OA,oc,hK,KH,qa⟩;refine Qo hK.blk rfl ?_;have bW:=((Qh.ext Qg).ext Qj).mod KH (λe=>by
  rcases e with e | e | ⟨_,e,_⟩
  ·omega
  ·omega
  ·cases e)
 refine Qv bW rfl (sc rfl) (λw5 JH _ QG=>?_);have Je:Mod (·=w.heap.size) w4 w5:=nQQ JH rfl;refine Qt QG rfl ?_;have Qs:Ext w w4:=KH.ext QX (λi hi=>by
  rcases hi with e | e | ⟨_,e,_⟩
  ·omega
  ·omega
  ·cases e)
 exact⟨OA,_,oc,rfl,Je.ext Qs (λi hi=>by omega),⟨(hK.own.mod Je (λi hi e=>by have:=(hK.own.rows i hi).1;omega)).sl,rfl⟩,λi hi=>Zc QX.size (hK.own.rows i hi).1⟩
end
section
def KE (b:Br):List Br->Option Nat
 | []=>none
 | x::l=>if x=b then some 0 else(KE b l).map (·+1)
theorem OV {b:Br}:∀{l:List Br}{s:Nat},(∀j,j<s->l[j]? ≠some b)->l[s]? =some b->KE b l=some s
 | [],s,_,h=>by simp at h
 | x::l,0,_,h=>by simp at h;simp[KE,h]
 | x::l,s+1,hn,h=>by
  have hx:x≠b:=λe=>hn 0 (by omega) (by simp[e])
  have:=OV (l:=l) (s:=s) (λj hj=>by have:=hn (j+1) (by omega);simpa using this) (by simpa using h);simp[KE,hx,this]
theorem OW {b:Br}:∀{l:List Br},(∀j,j<l.length->l[j]? ≠some b)->KE b l=none
 | [],_=>rfl
 | x::l,hn=>by
  have hx:x≠b:=λe=>hn 0 (by simp) (by simp[e])
  have:=OW (l:=l) (λj hj=>by have:=hn (j+1) (by simpa using hj);simpa using this);simp[KE,hx,this]
def ZZ (b:Br)(l:List Br):List Br×Int:=if b.l=b.h then(l,b.l)else match KE b l with
 | some i=>(l,((i+2:Nat):Int))
 | none=>(l++ [b],((l.length+2:Nat):Int))
theorem vv (b:Br)(l:List Br):l.length<=(ZZ b l).1.length:=by
 unfold ZZ;split
 ·exact QB _
 ·split
  ·exact QB _
  ·simp
def dK (op x y:Int):Int:=if op=0 then x*y else if op=1 then max x y else if op=3 then 1-x else if op=4 then(1-x)*y else(x+y) % 2
def Qm (d:List Br)(n v:Int):Int×Int:=if Ql d n≠v then(n,n)else match d[(n-2).toNat]? with
 | some b=>(b.l,b.h)
 | none=>(n,n)
abbrev Tr3:=Int×Int×Int
def Xo (a b:List Br)(op:Int):Nat->Int->Int->List Br×List Tr3->Int×(List Br×List Tr3)
 | 0,_,_,st=>(0,st)
 | m+1,x,y,st=>if x<2/\y<2 then(dK op x y,st)else
   match st.2.find? (λt=>decide (t.1=x/\t.2.1=y))with
   | some t=>(t.2.2,st)
   | none=>
    let v:=min (Ql a x) (Ql b y)
    let r0:=Xo a b op m (Qm a x v).1 (Qm b y v).1 st
    let r1:=Xo a b op m (Qm a x v).2 (Qm b y v).2 r0.2
    let u:=ZZ ⟨v,r0.1,r1.1⟩ r1.2.1
    (u.2,(u.1,r1.2.2++ [(x,y,u.2)]))
theorem kn {a b:List Br}{op:Int}{m:Nat}{x y:Int}{st:List Br×List Tr3}(h:x<2/\y<2):Xo a b op (m+1) x y st=(dK op x y,st):=by rw[Xo,Qf h]
theorem ko {a b:List Br}{op:Int}{m:Nat}{x y:Int}{st:List Br×List Tr3}{t:Tr3}(h:¬(x<2/\y<2))(k:st.2.find? (λt=>decide (t.1=x/\t.2.1=y))=some t):Xo a b op (m+1) x y st=(t.2.2,st):=by rw[Xo,if_neg h,k]
theorem kr {a b:List Br}{op:Int}{m:Nat}{x y:Int}{st:List Br×List Tr3}(h:¬(x<2/\y<2))(k:st.2.find? (λt=>decide (t.1=x/\t.2.1=y))=none)(v:Int)(hv:min (Ql a x) (Ql b y)=v):
  Xo a b op (m+1) x y st=((ZZ ⟨v,(Xo a b op m (Qm a x v).1 (Qm b y v).1 st).1,(Xo a b op m (Qm a x v).2 (Qm b y v).2 (Xo a b op m (Qm a x v).1 (Qm b y v).1 st).2).1⟩ (Xo a b op m (Qm a x v).2 (Qm b y v).2 (Xo a b op m (Qm a x v).1 (Qm b y v).1 st).2).2.1).2,
   ((
    ZZ ⟨v,(Xo a b op m (Qm a x v).1 (Qm b y v).1 st).1,(Xo a b op m (Qm a x v).2 (Qm b y v).2 (Xo a b op m (Qm a x v).1 (Qm b y v).1 st).2).1⟩ (Xo a b op m (Qm a x v).2 (Qm b y v).2 (Xo a b op m (Qm a x v).1 (Qm b y v).1 st).2).2.1).1,
    (Xo a b op m (Qm a x v).2 (Qm b y v).2 (Xo a b op m (Qm a x v).1 (Qm b y v).1 st).2).2.2++ [(x,y,(ZZ ⟨v,(Xo a b op m (Qm a x v).1 (Qm b y v).1 st).1,(Xo a b op m (Qm a x v).2 (Qm b y v).2 (Xo a b op m (Qm a x v).1 (Qm b y v).1 st).2).1⟩ (Xo a b op m (Qm a x v).2 (Qm b y v).2 (Xo a b op m (Qm a x v).1 (Qm b y v).1 st).2).2.1).2)])):=by
 subst hv;rw[Xo,if_neg h,k]
theorem mo (a b:List Br)(op:Int):∀(m:Nat)(x y:Int)(st:List Br×List Tr3),st.1.length<=(Xo a b op m x y st).2.1.length/\st.2.length<=(Xo a b op m x y st).2.2.length
 | 0,x,y,st=>⟨QB _,QB _⟩
 | m+1,x,y,st=>by
  by_cases h:x<2/\y<2
  ·rw[kn h];exact⟨QB _,QB _⟩
  cases k:st.2.find? (λt=>decide (t.1=x/\t.2.1=y))with
  | some t=>rw[ko h k];exact⟨QB _,QB _⟩
  | none=>
   rw[kr h k _ rfl];have h1:=mo a b op m (Qm a x (min (Ql a x) (Ql b y))).1 (Qm b y (min (Ql a x) (Ql b y))).1 st;have h2:=mo a b op m (Qm a x (min (Ql a x) (Ql b y))).2 (Qm b y (min (Ql a x) (Ql b y))).2 (Xo a b op m (Qm a x (min (Ql a x) (Ql b y))).1 (Qm b y (min (Ql a x) (Ql b y))).1 st).2;refine⟨Zc (Zc h1.1 h2.1) (vv _ _),?_⟩;simp only[Qq];omega
def Vp (nd:List Br):Prop:=aj nd/\∀(j:Nat)(b:Br),nd[j]? =some b->0<=b.v/\b.v<=63
theorem VD.dok {nd:List Br}{r:Int}(h:VD nd r):Vp nd:=⟨h.wf,λj b hb=>⟨(h.1 j b hb).1,(h.1 j b hb).2.1⟩⟩
theorem Wp {nd:List Br}(h:Vp nd){n v:Int}(h0:0<=n)(eS:v<64):0<=(Qm nd n v).1/\(Qm nd n v).1<=n/\0<=(Qm nd n v).2/\(Qm nd n v).2<=n/\(Ql nd n=v->(Qm nd n v).1<n/\(Qm nd n v).2<n):=by
 unfold Qm;split
 ·rename_i hv;exact⟨h0,lS _,h0,lS _,λe=>Xn e hv⟩
 ·rename_i hv;have hv:=Decidable.not_not.1 hv;have ux:¬n<2:=λh2=>by
   unfold Ql at hv;rw[Qf h2] at hv;omega
  cases hx:nd[(n-2).toNat]? with
  | none=>
   unfold Ql at hv;rw[if_neg ux,hx] at hv;simp at hv;omega
  | some b=>
   obtain⟨h1,h2,h3,h4⟩:=h.1 _ _ hx;exact⟨h1,by simp only;omega,h3,by simp only;omega,λ_=>⟨by simp only;omega,by simp only;omega⟩⟩
theorem am {nd:List Br}(h:Vp nd){n:Int}(h2:¬n<2)(hn:n<nd.length+2):Ql nd n<64:=by
 unfold Ql;have hx:=Xp (show(n-2).toNat<nd.length by omega);rw[if_neg h2,hx];have:=(h.2 _ _ hx).2;simp only[uK,fG];omega
theorem eQq (base:Nat)(A:Option Addr)(n c:Nat)(l:List Br)(b:Br)(w:World)(h:Own w base 105 3 A n c (ki l))(hn:l.length=n)(hb:base<=w.heap.size)(hl:n+1<=1000000000000):
  Fn Tryz.prog 163 [.slice A n c,.agg b.cells.toArray] w (λv w'=>∃A' c',v= .tuple #[.slice A' (ZZ b l).1.length c',.int .i64 (ZZ b l).2]/\Own w' base 105 3 A' (ZZ b l).1.length c' (ki (ZZ b l).1)/\Mod (Qk A) w w'/\Moved w A A'):=by
 have hsb:SB w A n c l:=⟨h.sl,hn⟩
 refine QF (c:={cQK with cuts:=[]}) Qa Tryz.func163 rfl rfl rfl ?_;refine new (λw1 Qe Q4 Qh=>?_);have eL:Mod (Qk A) w w1:=Mod.of_ext _ Qe;refine Qo Qh rfl ?_;refine Qo Qh rfl ?_;refine X3 (λh1=>?_) (λh1=>?_)
 ·have e:ZZ b l=(l,b.l):=by unfold ZZ;rw[Qf h1]
  rw[e];refine XK Qa (Ext w1) 5 [(true,0),(true,1),(true,2),(true,3),(true,4)] (by kernel_rfl) (Ext.drew w1) ?_;refine QK (v:=.int .i64 b.l) (λw' Qb=>by rw[(Qh.ext Qb).cell];rfl) ?_;have dq:=Qe.trans (Ext.drew w1);rw[hn];exact⟨A,c,rfl,h.ext dq,Mod.of_ext _ dq,Moved.refl _ _⟩
 have e0:ZZ b l=match KE b l with
  | some i=>(l,((i+2:Nat):Int))
  | none=>(l++ [b],((l.length+2:Nat):Int)):=by unfold ZZ;rw[if_neg h1]
 refine loop Qa [6] (λs:Nat=>[.int .i64 s]) (λs w'=>Ext w1 w'/\s<=n/\∀j,j<s->l[j]? ≠some b) (λs _=>n-s) 0 rfl ⟨Ext.refl _,Xr _,λj hj=>Xn hj (by omega)⟩ ?_;rintro s w2 ⟨Qg,hs,Xi⟩;have Q5:=Qe.trans Qg;have Qx:=Qh.ext Qg;refine Qz (λh3=>?_) (λh3=>?_)
 ·refine XK Qa (Ext w2) 6 [(true,0),(true,1),(true,2),(true,3),(true,4),(true,5)] (by kernel_rfl) (Ext.drew w2) ?_;refine Zv ah (hsb.ext Q5) rfl (by omega) (λp z hz hc=>?_);refine Xs (vs:=z.cells) rfl (λw' Qb j v hj=>Qb.cell (hc j v hj)) ?_;refine Xs (vs:=b.cells) rfl (λw' Qb j v hj=>by rw[(Qx.ext Qb).cell];exact hj) ?_;have dq:=Qg.trans (Ext.drew w2);by_cases ov:z=b
  ·refine Q8 (by rw[pE,Zy (pF.1 ov)]) ?_;subst ov;rw[OV Xi hz] at e0;simp only at e0;rw[e0];refine Qi ((s+2:Nat):Int) (by omega) (by omega) ?_;rw[hn];exact⟨A,c,rfl,h.ext (Qe.trans dq),Mod.of_ext _ (Qe.trans dq),Moved.refl _ _⟩
  ·refine Q3 (by rw[pE,Zq (λe=>ov (pF.2 e))]) ?_;refine Qi ((s+1:Nat):Int) (by omega) (by omega) ?_;refine⟨s+1,rfl,⟨dq,by omega,λj hj=>?_⟩,by show n-(s+1)<n-s;omega⟩;by_cases YP:j<s
   ·exact Xi j YP
   ·have:j=s:=by omega
    subst this;rw[hz];exactλe=>ov (Option.some.inj e)
 ·have:s=n:=by omega
  subst this;rw[OW (by rw[hn];exact Xi)] at e0;simp only at e0;rw[e0];refine Qt Qx rfl ?_;refine Xh Qa [b.cells] rfl rfl rfl rfl rfl ⟨rfl,rfl,⟨⟩⟩ rfl (λcs h=>by simp only[QN] at h;subst h;rfl) rfl (by decide) (by decide) ?_;intro w3 Qj JC Qu;have QX:=Q5.trans Qj;have qf:Sl w3 3 (some ⟨w2.heap.size,0,none⟩) 1 1 b.cells:=Sl.own (sz:=3) (n:=1) Qu (QB _) (by decide) (by simp[Br.cells]);refine Z4 Qa rfl rfl rfl rfl rfl (by decide) rfl rfl ⟨_,rfl⟩ rfl rfl (h.ext QX) qf (by intro u hu;simp[Br.cells] at hu;rcases hu with rfl | rfl | rfl<;>rfl) (by unfold maxLen;omega) (by show _*24<=_;omega) (Zc hb QX.size) ?_;intro A' c' w4 KH qg qa;refine Qi ((s+2:Nat):Int) (by omega) (by omega) ?_;have el:(l++ [b]).length=s+1:=by rw[Qq,hn]<;>rfl
  rw[el,hn];refine⟨A',c',rfl,?_,(Mod.of_ext (Qk A) QX).trans KH (λi hi=>.inl hi),qa.back QX.size⟩;rw[zK];exact qg
end
section
theorem eQr (pb:Nat)(cs:List Value)(op x y:Int)(w:World)(h:Blk w pb 183 cs)(hc:cs[4]? =some (.int .i64 op))(x0:0<=x)(x1:x<2)(y0:0<=y)(y1:y<2)(ho:op≠3/\op≠4):
  Fn Tryz.prog 160 [.pointer (some ⟨pb,0,none⟩),.int .i64 x,.int .i64 y] w (λv w'=>v= .int .i64 (dK op x y)/\w=w'):=by
 refine QF (c:={cQH with cuts:=[]}) Qa Tryz.func160 rfl rfl rfl ?_;refine Qo h hc ?_;refine X3 (λc0=>?_) (λc0=>?_)
 ·have:0<=x*y/\x*y<=1:=by
   rcases(by omega:x=0∨x=1)with rfl | rfl<;>rcases(by omega:y=0∨y=1)with rfl | rfl<;>decide
  refine Qi (x*y) rfl (by omega) ?_;exact⟨by unfold dK;rw[Qf c0],rfl⟩
 refine X3 (λc1=>?_) (λc1=>?_)
 ·refine norm (m:=max x y) (by rw[Int.max_def];split<;>split<;>omega) ?_;exact⟨by unfold dK;rw[if_neg c0,Qf c1],rfl⟩
 ·refine Qi (x+y) rfl (by omega) ?_;refine normIf (m:=(x+y) % 2) (by decide) (Int.tmod_eq_emod_of_nonneg (by omega)) ?_;exact⟨by unfold dK;rw[if_neg c0,if_neg c1,if_neg ho.1,if_neg ho.2],rfl⟩
theorem OX (A:Option Addr)(n c:Nat)(r m v:Int)(nd:List Br)(w:World)(h:SB w A n c nd)(hm:m<n+2)(eS:v<64):
  Fn Tryz.prog 162 [Xk A n c r,.int .i64 m,.int .i64 v] w (λu w'=>u= .tuple #[.int .i64 (Qm nd m v).1,.int .i64 (Qm nd m v).2]/\Ext w w'):=by
 have QY:=h.2;have bz:n<=9223372036854775807:=by have:=h.1.le;have:=h.1.cap;simp only[maxLen] at this;omega
 refine QF (c:={cQJ with cuts:=[]}) Qa Tryz.func162 rfl rfl rfl ?_;refine new (λw1 Qe Q4 Qh=>?_);refine Qt Qh rfl ?_;refine call (vu A n c r m nd w1 (h.ext Qe) hm) ?_;rintro u w2 ⟨rfl,Qg⟩;have Q5:=Qe.trans Qg;have Qx:=Qh.ext Qg;refine bI (λc1=>?_) (λc1=>?_)
 ·exact⟨by unfold Qm;rw[Qf c1],Q5⟩
 ·have ux:¬m<2:=λh2=>by
   unfold Ql at c1;rw[Qf h2] at c1;omega
  have hx:=Xp (show(m-2).toNat<nd.length by omega);generalize nd[(m-2).toNat]=b at hx;have e:Qm nd m v=(b.l,b.h):=by unfold Qm;rw[if_neg (by omega),hx]
  rw[e];refine XK Qa (Ext w2) 16 [(true,0),(true,1),(true,2),(true,3),(true,4),(true,5),(true,6),(true,7),(true,8),(true,9),(true,10),(true,11),(true,12),(true,13),(true,14),(true,15)] (by kernel_rfl) (Ext.drew w2) ?_;refine QK (v:=.slice A n c) (λw' Qb=>by rw[(Qx.ext Qb).cell];rfl) ?_;refine Qi (((m-2).toNat:Nat):Int) (by omega) (by omega) ?_;refine Zv ah (h.ext Q5) rfl (by omega) (λp z hz hc=>?_);have ov:z=b:=Option.some.inj (hz.symm.trans hx);subst ov;refine QK (v:=.int .i64 z.l) (λw' Qb=>Qb.cell (hc 1 _ rfl)) ?_;refine QK (v:=.slice A n c) (λw' Qb=>by rw[(Qx.ext Qb).cell];rfl) ?_;refine Qi (((m-2).toNat:Nat):Int) (by omega) (by omega) ?_;refine Zv ah (h.ext Q5) rfl (by omega) (λp' z' W0 Jv=>?_);have LV:z'=z:=Option.some.inj (W0.symm.trans hx);subst LV;refine QK (v:=.int .i64 z'.h) (λw' Qb=>Qb.cell (Jv 2 _ rfl)) ?_;exact⟨rfl,Q5.trans (Ext.drew w2)⟩
def Tr3.cells (t:Tr3):List Value:=[.int .i64 t.1,.int .i64 t.2.1,.int .i64 t.2.2]
theorem E0 (t:Tr3):(Tr3.cells t).length=3:=rfl
def vw (l:List Tr3):List Value:=l.flatMap Tr3.cells
theorem eQs (l:List Tr3)(x:Tr3):vw (l++ [x])=vw l++Tr3.cells x:=by simp[vw]
def AS (pb:Nat)(NA SA:Option Addr):Nat->Prop:=λk=>k=pb∨Qk NA k∨Qk SA k
theorem AS.moved {w:World}{pb:Nat}{NA NA' SA SA':Option Addr}(h:Moved w NA NA')(h':Moved w SA SA'):∀k,AS pb NA' SA' k->AS pb NA SA k∨w.heap.size<=k:=by
 rintro k (rfl | hk | hk)
 ·exact .inl (.inl rfl)
 ·rcases h.rows k hk with h | h
  ·exact .inl (.inr (.inl h))
  ·exact .inr h
 ·rcases h'.rows k hk with h | h
  ·exact .inl (.inr (.inr h))
  ·exact .inr h
structure AD where
 A:Option Addr
 n:Nat
 c:Nat
 a:List Br
 ra:Int
 B:Option Addr
 m:Nat
 d:Nat
 b:List Br
 rb:Int
 op:Int
structure Ap (w0 w:World) (base pb:Nat) (D:AD) (NA:Option Addr) (nc:Nat) (SA:Option Addr) (sc:Nat) (st:List Br×List Tr3):Prop where
 e0:Ext w0 w
 as_:SB w0 D.A D.n D.c D.a
 bs:SB w0 D.B D.m D.d D.b
 p0:w0.heap.size<=pb
 blk:Blk w pb 183 [.slice D.A D.n D.c,.int .i64 D.ra,.slice D.B D.m D.d,.int .i64 D.rb,.int .i64 D.op,.slice NA st.1.length nc,.slice SA st.2.length sc]
 nown:Own w base 105 3 NA st.1.length nc (ki st.1)
 sown:Own w base 242 3 SA st.2.length sc (vw st.2)
 apart:∀i,Qk NA i->¬Qk SA i
 lt:pb<base
 top:base<=w.heap.size
def ATo (w0 w:World)(base pb:Nat)(D:AD)(NA SA:Option Addr)(st:List Br×List Tr3)(w':World):Prop:=∃NA' nc' SA' sc',Ap w0 w' base pb D NA' nc' SA' sc' st/\Mod (AS pb NA SA) w w'/\Moved w NA NA'/\Moved w SA SA'
theorem Ap.grow {w0 w w':World}{base pb:Nat}{D:AD}{NA:Option Addr}{nc:Nat}{SA:Option Addr}{sc:Nat}{st:List Br×List Tr3}(h:Ap w0 w base pb D NA nc SA sc st)(k:Ext w w'):Ap w0 w' base pb D NA nc SA sc st:=
 ⟨h.e0.trans k,h.as_,h.bs,h.p0,h.blk.ext k,h.nown.ext k,h.sown.ext k,h.apart,h.lt,Zc h.top k.size⟩
theorem Ap.kept {w0 w:World}{base pb:Nat}{D:AD}{NA:Option Addr}{nc:Nat}{SA:Option Addr}{sc:Nat}{st:List Br×List Tr3}(h:Ap w0 w base pb D NA nc SA sc st):∀i,AS pb NA SA i->w0.heap.size<=i:=by
 have:=h.p0;have:=h.lt;rintro i (rfl | hi | hi)
 ·omega
 ·have:=(h.nown.rows i hi).1;omega
 ·have:=(h.sown.rows i hi).1;omega
theorem eQt {l:List Tr3}{x y:Int}:∀{s:Nat}{t:Tr3},(∀j u,j<s->l[j]? =some u->¬(u.1=x/\u.2.1=y))->l[s]? =some t->t.1=x/\t.2.1=y->l.find? (λt=>decide (t.1=x/\t.2.1=y))=some t:=by
 induction l with
 | nil=>intro s t _ h;simp at h
 | cons u l ih=>
  intro s t hn h ht;cases s with
  | zero=>simp at h;subst h;rw[List.find?_cons_of_pos (by simp[ht])]
  | succ s=>
   rw[MZ (by have:=hn 0 u (by omega) rfl;simpa using this)];exact ih (s:=s) (λj v hj hv=>hn (j+1) v (by omega) (by simpa using hv)) (by simpa using h) ht
theorem eQu {l:List Tr3}{x y:Int}(h:∀j u,j<l.length->l[j]? =some u->¬(u.1=x/\u.2.1=y)):l.find? (λt=>decide (t.1=x/\t.2.1=y))=none:=by
 rw[uL];intro u hu;obtain⟨j,hj,rfl⟩:=DS.1 hu;simpa using h j _ hj (Xp hj)
end
section
theorem OY (w0:World)(base pb:Nat)(D:AD)(ha:Vp D.a)(hb:Vp D.b)(eo:D.n<=1000000000000/\D.m<=1000000000000)(ho:D.op≠3/\D.op≠4):∀(m:Nat)(x y:Int)(st:List Br×List Tr3)(NA SA:Option Addr)(nc sc:Nat)(w:World),
  Ap w0 w base pb D NA nc SA sc st->0<=x->0<=y->x+y<m->x<D.n+2->y<D.m+2->(Xo D.a D.b D.op m x y st).2.1.length<=100000000000->(Xo D.a D.b D.op m x y st).2.2.length<=100000000000->
  Fn Tryz.prog 107 [.pointer (some ⟨pb,0,none⟩),.int .i64 x,.int .i64 y] w (λv w'=>v= .int .i64 (Xo D.a D.b D.op m x y st).1/\ATo w0 w base pb D NA SA (Xo D.a D.b D.op m x y st).2 w')
 | 0,x,y,st,NA,SA,nc,sc,w,_,x0,y0,hm,_,_,_,_=>by omega
 | m+1,x,y,st,NA,SA,nc,sc,w,h,x0,y0,hm,hx,hy,XE,JZ=>by
  have ih:=OY w0 base pb D ha hb eo ho m;have nQx:=mo D.a D.b D.op (m+1) x y st;have KV:D.a.length=D.n:=h.as_.2;have fu:D.b.length=D.m:=h.bs.2;refine QF (c:={bQ6 with cuts:=[1]}) Qa Tryz.func107 rfl rfl rfl ?_;refine fO [] Qa [] (λ_:Unit=>[]) (λ_ w'=>w=w'/\¬(x<2/\y<2)) ?_ ?_
  ·refine Qz (λc1=>?_) (λc1=>?_)
   ·refine Qz (λc2=>?_) (λc2=>?_)
    ·rw[kn ⟨c1,c2⟩];refine call (eQr pb _ D.op x y w h.blk rfl x0 c1 y0 c2 ho) ?_;rintro v _ ⟨rfl,rfl⟩;exact⟨rfl,NA,nc,SA,sc,h,Mod.refl _ _,Moved.refl _ _,Moved.refl _ _⟩
    ·exact⟨(),rfl,rfl,λhh=>c2 hh.2⟩
   ·exact⟨(),rfl,rfl,λhh=>c1 hh.1⟩
  rintro⟨⟩ _ ⟨rfl,Xu⟩;have LW:SlS Tr3.cells 3 w SA st.2.length sc st.2:=⟨h.sown.sl,rfl⟩
  refine loop Qa [7] (λs:Nat=>[.int .i64 s]) (λs w'=>w=w'/\s<=st.2.length/\∀(j:Nat) (u:Tr3),j<s->st.2[j]? =some u->¬(u.1=x/\u.2.1=y)) (λs _=>st.2.length-s) 0 rfl ⟨rfl,Xr _,λj u hj=>Xn hj (by omega)⟩ ?_;rintro s _ ⟨rfl,hs,Xi⟩;refine Qo h.blk rfl ?_;refine Qz (λh3=>?_) (λh3=>?_)
  ·have again:∀t:Tr3,st.2[s]? =some t->¬(t.1=x/\t.2.1=y)->∀(j:Nat) (u:Tr3),j<s+1->st.2[j]? =some u->¬(u.1=x/\u.2.1=y):=λt ht hn j u hj hu=>by
    by_cases YP:j<s
    ·exact Xi j u YP hu
    ·have:j=s:=by omega
     subst this;rw[Option.some.inj (hu.symm.trans ht)];exact hn
   refine Qo h.blk rfl ?_;refine Zv E0 LW rfl (by omega) (λp t ht hc=>?_);refine index (j:=0) (by decide) ?_;refine load (hc 0 _ rfl) ?_;refine X3 (λe1=>?_) (λe1=>?_)
   ·refine Qo h.blk rfl ?_;refine Zv E0 LW rfl (by omega) (λp' t' ht' Jv=>?_);have yb:t'=t:=Option.some.inj (ht'.symm.trans ht);subst yb;refine index (j:=1) (by decide) ?_;refine load (Jv 1 _ rfl) ?_;refine X3 (λe2=>?_) (λe2=>?_)
    ·refine Qo h.blk rfl ?_;refine Zv E0 LW rfl (by omega) (λp2 t2 kZ Yx=>?_);have jQ3:t2=t':=Option.some.inj (kZ.symm.trans ht);subst jQ3;refine index (j:=2) (by decide) ?_;refine load (Yx 2 _ rfl) ?_;rw[ko Xu (eQt Xi ht ⟨e1,e2⟩)];exact⟨rfl,NA,nc,SA,sc,h,Mod.refl _ _,Moved.refl _ _,Moved.refl _ _⟩
    ·refine Qi ((s+1:Nat):Int) (by omega) (by omega) ?_;exact⟨s+1,rfl,⟨rfl,by omega,again t' ht (λhh=>e2 hh.2)⟩,by show st.2.length-(s+1)<st.2.length-s;omega⟩
   ·refine Qi ((s+1:Nat):Int) (by omega) (by omega) ?_;exact⟨s+1,rfl,⟨rfl,by omega,again t ht (λhh=>e1 hh.1)⟩,by show st.2.length-(s+1)<st.2.length-s;omega⟩
  have iH:s=st.2.length:=by omega
  subst iH;have LX:=eQu Xi;have Bq:=h.e0;refine XK Qa (Ext w) 13 [(true,0),(true,1),(true,2),(true,3),(true,4),(true,6),(true,7),(true,8),(true,9),(true,10),(false,5),(false,11),(true,12)] (by kernel_rfl) (Ext.drew w) ?_;refine Xs (vs:=[.slice D.A D.n D.c,.int .i64 D.ra]) rfl (λw' Qb j v hj=>by
   rw[add_add,(h.blk.ext Qb).cell]
   match j,hj with
   | 0,hj=>exact hj
   | 1,hj=>exact hj) ?_
  refine Xs (vs:=[.slice D.B D.m D.d,.int .i64 D.rb]) rfl (λw' Qb j v hj=>by
   rw[add_add,(h.blk.ext Qb).cell]
   match j,hj with
   | 0,hj=>exact hj
   | 1,hj=>exact hj) ?_
  refine call (vu D.A D.n D.c D.ra x D.a _ (h.as_.ext (Bq.trans (Ext.drew w))) hx) ?_;rintro v w1 ⟨rfl,Qe⟩;have Hv:=(Ext.drew w).trans Qe;refine⟨Hv,?_⟩;refine call (vu D.B D.m D.d D.rb y D.b w1 (h.bs.ext (Bq.trans Hv)) hy) ?_;rintro v w2 ⟨rfl,Qg⟩;have Q5:=Hv.trans Qg;refine⟨Q5,?_⟩;refine norm (m:=min (Ql D.a x) (Ql D.b y)) (by rw[Z3];split<;>split<;>omega) ?_;have ZC:min (Ql D.a x) (Ql D.b y)<64:=by
   by_cases c:x<2
   ·have:=am hb (n:=y) (λc2=>Xu ⟨c,c2⟩) (by omega);rw[Z3];split<;>omega
   ·have:=am ha (n:=x) c (by omega);rw[Z3];split<;>omega
  have cq:Ql D.a x=min (Ql D.a x) (Ql D.b y)∨Ql D.b y=min (Ql D.a x) (Ql D.b y):=by rw[Z3];split<;>simp
  have uw:=kr (a:=D.a) (b:=D.b) (op:=D.op) (m:=m) Xu LX _ rfl;rw[uw] at XE JZ ⊢;generalize min (Ql D.a x) (Ql D.b y)=v at*;obtain⟨s1,s2,s3,s4,s5⟩:=Wp ha (n:=x) x0 ZC;obtain⟨t1,t2,t3,t4,t5⟩:=Wp hb (n:=y) y0 ZC;have dec:(Qm D.a x v).1+(Qm D.b y v).1<m/\(Qm D.a x v).2+(Qm D.b y v).2<m:=by
   rcases cq with e | e
   ·have:=s5 e;omega
   ·have:=t5 e;omega
  have h2:=h.grow Q5;refine Kn (vs:=[.slice D.A D.n D.c,.int .i64 D.ra]) rfl (λj v hj=>by
   rw[add_add,h2.blk.cell]
   match j,hj with
   | 0,hj=>exact hj
   | 1,hj=>exact hj) ?_
  refine call (OX D.A D.n D.c D.ra x v D.a w2 (h2.as_.ext h2.e0) hx ZC) ?_;rintro _ w3 ⟨rfl,Qj⟩;have mU:=h2.grow Qj;refine Kn (vs:=[.slice D.B D.m D.d,.int .i64 D.rb]) rfl (λj v hj=>by
   rw[add_add,mU.blk.cell]
   match j,hj with
   | 0,hj=>exact hj
   | 1,hj=>exact hj) ?_
  refine call (OX D.B D.m D.d D.rb y v D.b w3 (mU.bs.ext mU.e0) hy ZC) ?_;rintro _ w4 ⟨rfl,Qs⟩;have XG:=(Q5.trans Qj).trans Qs;have h4:=mU.grow Qs;have mQy:=mo D.a D.b D.op m (Qm D.a x v).1 (Qm D.b y v).1 st;have mQz:=mo D.a D.b D.op m (Qm D.a x v).2 (Qm D.b y v).2 (Xo D.a D.b D.op m (Qm D.a x v).1 (Qm D.b y v).1 st).2;simp only[Qq,Q6,Jn] at XE JZ;have ulen:=vv ⟨v,(Xo D.a D.b D.op m (Qm D.a x v).1 (Qm D.b y v).1 st).1,(Xo D.a D.b D.op m (Qm D.a x v).2 (Qm D.b y v).2 (Xo D.a D.b D.op m (Qm D.a x v).1 (Qm D.b y v).1 st).2).1⟩ (Xo D.a D.b D.op m (Qm D.a x v).2 (Qm D.b y v).2 (Xo D.a D.b D.op m (Qm D.a x v).1 (Qm D.b y v).1 st).2).2.1;refine call (ih _ _ st NA SA nc sc w4 h4 s1 t1 dec.1 (by omega) (by omega) (by omega) (by omega)) ?_;rintro _ w5 ⟨rfl,NA5,nc5,SA5,sc5,h5,Je,Hw,Hx⟩;refine call (ih _ _ _ NA5 SA5 nc5 sc5 w5 h5 s3 t3 dec.2 (by omega) (by omega) (by omega) (by omega)) ?_;rintro _ w6 ⟨rfl,NA6,nc6,SA6,sc6,h6,K4,wH,Hk⟩;have ni:=Je.trans K4 (AS.moved Hw Hx);have Uh:=Hw.trans wH Je.size;have Ui:=Hx.trans Hk Je.size;generalize (Xo D.a D.b D.op m (Qm D.a x v).1 (Qm D.b y v).1 st)=r0 at*;generalize (Xo D.a D.b D.op m (Qm D.a x v).2 (Qm D.b y v).2 r0.2)=r1 at*;have jQ4:=h6.nown.rows;have jQ5:=h6.sown.rows;have mQA:=h6.lt;have mQB:=h6.top;refine Qo h6.blk rfl ?_;refine call (eQq base NA6 _ nc6 r1.2.1 ⟨v,r0.1,r1.1⟩ w6 h6.nown rfl h6.top (by omega)) ?_;rintro _ w7 ⟨NA7,nc7,rfl,tH,Xf,Uj⟩;have Q2:=h6.blk.mod Xf (λe=>by have:=(jQ4 _ e).1;omega);have Vu:=h6.sown.mod Xf (λi hi e=>h6.apart i e hi);generalize ZZ ⟨v,r0.1,r1.1⟩ r1.2.1=u at*;refine XP Q2 (by simp) (λw8 ZL Xw=>?_);have jQ6:=tH.mod ZL (λi hi e=>by have:=(tH.rows i hi).1;omega);have la:=Vu.mod ZL (λi hi e=>by have:=(Vu.rows i hi).1;omega);refine Qo Xw rfl ?_;refine Xh Qa [Tr3.cells (x,y,u.2)] rfl rfl rfl rfl rfl ⟨rfl,rfl,⟨⟩⟩ rfl (λcs h=>by simp only[QN] at h;subst h;rfl) rfl (by decide) (by decide) ?_;intro w9 Xt eT JD;have Hi:Sl w9 3 (some ⟨w8.heap.size,0,none⟩) 1 1 (Tr3.cells (x,y,u.2)):=Sl.own (sz:=3) (n:=1) JD (QB _) (by decide) (by simp[Tr3.cells]);have z7:=Xf.size;have z8:=ZL.size;have z9:=Xt.size;refine Z4 Qa rfl rfl rfl rfl rfl (by decide) rfl rfl ⟨_,rfl⟩ rfl rfl (la.ext Xt) Hi (by intro u hu;simp[Tr3.cells] at hu;rcases hu with rfl | rfl | rfl<;>rfl) (by unfold maxLen;omega) (by show _*24<=_;omega) (by omega) ?_;intro SA10 Hy Qy Zo Uk Ul;have jQ7:=la.rows;refine XP ((Xw.ext Xt).mod Zo (λe=>by have:=(jQ7 _ e).1;omega)) (by simp) (λQH Z2 Z8=>?_);have Um:∀i,Qk NA7 i->¬Qk SA6 i:=λi hi e=>by
   rcases Uj.rows i hi with hh | hh
   ·exact h6.apart i hh e
   ·have:=(jQ5 i e).2;omega
  have jQ8:∀i,Qk NA7 i->¬Qk SA10 i:=λi hi e=>by
   rcases Ul.rows i e with hh | hh
   ·exact Um i hi hh
   ·have:=(tH.rows i hi).2;omega
  have jQ9:=((jQ6.ext Xt).mod Zo (λi hi e=>Um i hi e)).mod Z2 (λi hi e=>by have:=(tH.rows i hi).1;omega);have qh:=Uk.mod Z2 (λi hi e=>by have:=(Uk.rows i hi).1;omega);have Un:Mod (AS pb NA6 SA6) w6 QH:=((((Xf.mono (λi hi=>.inl (.inr (.inl hi)))).trans ZL (λi hi=>.inl (.inl hi))).trans (Mod.of_ext (AS pb NA6 SA6) Xt) (λi hi=>.inl hi)).trans Zo (λi hi=>.inl (.inr (.inr hi)))).trans Z2 (λi hi=>.inl (.inl hi));have lQP:=ni.trans Un (AS.moved Uh Ui);have el:(r1.2.2++ [((x,y,u.2):Tr3)]).length=r1.2.2.length+1:=by simp
  refine⟨rfl,NA7,nc7,SA10,Hy,⟨Un.ext h6.e0 h6.kept,h.as_,h.bs,h.p0,?_,jQ9,?_,jQ8,h.lt,?_⟩,(Mod.of_ext (AS pb NA SA) XG).trans lQP (λi hi=>.inl hi),?_,?_⟩
  ·show Blk QH pb _ [_,_,_,_,_,_,.slice SA10 (r1.2.2++ [((x,y,u.2):Tr3)]).length Hy];rw[el];exact Z8
  ·show Own QH base _ 3 SA10 (r1.2.2++ [((x,y,u.2):Tr3)]).length Hy (vw (r1.2.2++ [((x,y,u.2):Tr3)]));rw[el,eQs];exact qh
  ·have:=Zo.size;have:=Z2.size;omega
  ·exact(Uh.back XG.size).trans Uj (by have:=XG.size;have:=ni.size;omega)
  ·exact(Ui.back XG.size).trans (Ul.back (by omega)) (by have:=XG.size;have:=ni.size;omega)
end
section
def OZ (st:List Br×List Tr3):Prop:=aj st.1/\∀t∈st.2,0<=t.2.2/\t.2.2<st.1.length+2
theorem eQv {b:Br}{l:List Br}(hw:aj l)(h1:0<=b.l)(h2:b.l<l.length+2)(h3:0<=b.h)(h4:b.h<l.length+2):aj (ZZ b l).1/\0<=(ZZ b l).2/\(ZZ b l).2<(ZZ b l).1.length+2:=by
 have idx:∀{l:List Br} {i:Nat},KE b l=some i->i<l.length:=by
  intro l;induction l with
  | nil=>intro i h;cases h
  | cons x l ih=>
   intro i h;unfold KE at h;split at h
   ·cases h;simp
   ·cases hf:KE b l with
    | none=>rw[hf] at h;cases h
    | some k=>rw[hf] at h;cases h;have:=ih hf;simp;omega
 unfold ZZ;split
 ·exact⟨hw,h1,h2⟩
 ·split
  ·rename_i i hi;have:=idx hi;exact⟨hw,by omega,by simp only;omega⟩
  ·refine⟨λj x hx=>?_,by omega,by simp only[Qq,Q6,Jn];omega⟩;by_cases hj:j<l.length
   ·rw[fD hj] at hx;exact hw j x hx
   ·rw[WC (by omega)] at hx;have mV:j-l.length=0:=by
     cases hk:j-l.length with
     | zero=>rfl
     | succ k=>rw[hk] at hx;simp at hx
    rw[mV] at hx;simp at hx;subst hx;omega
theorem E1 {op x y:Int}(x0:0<=x)(x1:x<2)(y0:0<=y)(y1:y<2):0<=dK op x y/\dK op x y<2:=by
 unfold dK;rcases(by omega:x=0∨x=1)with rfl | rfl<;>rcases(by omega:y=0∨y=1)with rfl | rfl<;>(split<;>first | decide | (split<;>first | decide | (split<;>first | decide | (split<;>decide))))
theorem vx {a b:List Br}(ha:Vp a)(hb:Vp b)(op:Int):∀(m:Nat)(x y:Int)(st:List Br×List Tr3),OZ st->0<=x->0<=y->x<a.length+2->y<b.length+2->
  OZ (Xo a b op m x y st).2/\0<=(Xo a b op m x y st).1/\(Xo a b op m x y st).1<(Xo a b op m x y st).2.1.length+2
 | 0,x,y,st,h,_,_,_,_=>⟨h,lS _,by show(0:Int)<st.1.length+2;omega⟩
 | m+1,x,y,st,h,x0,y0,hx,hy=>by
  by_cases Xu:x<2/\y<2
  ·rw[kn Xu];have:=E1 (op:=op) x0 Xu.1 y0 Xu.2;exact⟨h,this.1,by simp only;omega⟩
  cases k:st.2.find? (λt=>decide (t.1=x/\t.2.1=y))with
  | some t=>
   rw[ko Xu k];have:=h.2 t (aQ7 k);exact⟨h,this.1,this.2⟩
  | none=>
   have ZC:min (Ql a x) (Ql b y)<64:=by
    by_cases c:x<2
    ·have:=am hb (n:=y) (λc2=>Xu ⟨c,c2⟩) (by omega);rw[Z3];split<;>omega
    ·have:=am ha (n:=x) c (by omega);rw[Z3];split<;>omega
   rw[kr Xu k _ rfl];generalize min (Ql a x) (Ql b y)=v at*;obtain⟨s1,s2,s3,s4,s5⟩:=Wp ha (n:=x) x0 ZC;obtain⟨t1,t2,t3,t4,t5⟩:=Wp hb (n:=y) y0 ZC;have i1:=vx ha hb op m (Qm a x v).1 (Qm b y v).1 st h s1 t1 (by omega) (by omega);have m2:=mo a b op m (Qm a x v).2 (Qm b y v).2 (Xo a b op m (Qm a x v).1 (Qm b y v).1 st).2;generalize (Xo a b op m (Qm a x v).1 (Qm b y v).1 st)=r0 at*;have i2:=vx ha hb op m (Qm a x v).2 (Qm b y v).2 r0.2 i1.1 s3 t3 (by omega) (by omega);generalize (Xo a b op m (Qm a x v).2 (Qm b y v).2 r0.2)=r1 at*;have hu:=eQv (b:=⟨v,r0.1,r1.1⟩) (l:=r1.2.1) i2.1.1 i1.2.1 (by have:=i1.2.2;simp only;omega) i2.2.1 i2.2.2;have hul:=vv ⟨v,r0.1,r1.1⟩ r1.2.1;generalize ZZ ⟨v,r0.1,r1.1⟩ r1.2.1=u at*;refine⟨⟨hu.1,λt ht=>?_⟩,hu.2.1,hu.2.2⟩;simp only[XM,QN] at ht;rcases ht with ht | rfl
   ·have:=i2.1.2 t ht;exact⟨this.1,by simp only;omega⟩
   ·exact⟨hu.2.1,hu.2.2⟩
def kt (a:List Br)(ra:Int)(b:List Br)(rb op:Int):Int×(List Br×List Tr3):=Xo a b op (ra.toNat+rb.toNat+1) ra rb ([],[])
def VF (a:List Br)(ra:Int)(b:List Br)(rb op:Int):List Br×Int:=bM (kt a ra b rb op).2.1 (kt a ra b rb op).1
def jb (d:List Br×Int):(List Br×Int)×Int:=if 4096<d.1.length then(([],0),2)else(d,0)
def eB (a:List Br)(ra:Int)(b:List Br)(rb op:Int):(List Br×Int)×Int:=if XL a ra≠0 then(([],0),XL a ra)else if XL b rb≠0 then(([],0),XL b rb)else jb (VF a ra b rb op)
def pG (w:World)(r:(List Br×Int)×Int)(v:Value)(w':World):Prop:=∃A n c,v= .tuple #[Xk A n c r.1.2,.int .i64 r.2]/\Ext w w'/\SB w' A n c r.1.1/\∀i,Qk A i->w.heap.size<=i
theorem eQw (A:Option Addr)(n c:Nat)(a:List Br)(ra:Int)(B:Option Addr)(m d:Nat)(b:List Br)(rb op:Int)(w:World)(h:SB w A n c a)(h':SB w B m d b)(ha:Vp a)(hb:Vp b)(r0:0<=ra)(r1:ra<n+2)(s0:0<=rb)(s1:rb<m+2)(hn:n<=1000000000000)(hm:m<=1000000000000)
  (XE:(kt a ra b rb op).2.1.length<=100000000000) (JZ:(kt a ra b rb op).2.2.length<=100000000000) (ho:op≠3/\op≠4):
  Fn Tryz.prog 58 [Xk A n c ra,Xk B m d rb,.int .i64 op] w (vt w (VF a ra b rb op)):=by
 have KV:=h.2;have fu:=h'.2;refine QF (c:={c58 with cuts:=[]}) Qa Tryz.func58 rfl rfl rfl ?_;refine new (λw1 Qe Q4 Qh=>?_);refine new (λw2 Qg Zb Qx=>?_);refine new (λw3 Qj JC Qu=>?_);have QX:=(Qe.trans Qg).trans Qj;have K5:=(Qh.ext Qg).ext Qj;have nj:=Qx.ext Qj;refine Qt K5 rfl ?_;refine Qt nj rfl ?_;refine new (λw4 Qs KO Q7=>?_);have XG:=QX.trans Qs
 let D:AD:=⟨A,n,c,a,ra,B,m,d,b,rb,op⟩
 have hA:Ap w3 w4 w4.heap.size w3.heap.size D none 0 none 0 ([],[]):=⟨Qs,h.ext QX,h'.ext QX,QB _,Q7,Own.nil _ _ _ _,Own.nil _ _ _ _,(λi hi=>by obtain⟨_,e,_⟩:=hi;cases e),(by omega),QB _⟩
 refine Qo (K5.ext Qs) rfl ?_;refine Qo (nj.ext Qs) rfl ?_;have inv:=vx ha hb op (ra.toNat+rb.toNat+1) ra rb ([],[]) ⟨λj x hx=>by simp at hx,λt ht=>by simp at ht⟩ r0 s0 (by omega) (by omega);refine call (OY w3 w4.heap.size w3.heap.size D ha hb ⟨hn,hm⟩ ho (ra.toNat+rb.toNat+1) ra rb ([],[]) none none 0 0 w4 hA r0 s0 (by omega) r1 s1 XE JZ) ?_;rintro v w5 ⟨rfl,NA,nc,SA,sc1,Hz,Je,Hw,Hx⟩;have Qw:Ext w3 w5:=Hz.e0;have J3:=QX.trans Qw;refine Qo Hz.blk rfl ?_;refine call (eQp NA _ nc _ _ w5 ⟨Hz.nown.sl,rfl⟩ inv.1.1 (by have:(kt a ra b rb op).2.1.length<=100000000000:=XE;exact Zc this (by decide)) inv.2.1 inv.2.2) ?_;rintro v w6 ⟨OA,k,oc,rfl,QO,gg,hZ⟩;refine Qv ((Qu.ext Qw).ext QO) rfl (sc rfl) (λw7 ZB _ Q2=>?_);have Xf:Mod (·=w2.heap.size) w6 w7:=nQQ ZB rfl;refine Qt Q2 rfl ?_;have z5:=Qw.size;have nr:∀i,Qk OA i->¬i=w2.heap.size:=λi hi e=>by have:=hZ i hi;omega
 refine⟨OA,k,oc,rfl,Xf.ext (J3.trans QO) (λi hi=>by have:=Qe.size;have:=Qg.size;omega),⟨gg.1.modS Xf (λ_ i hi=>nr i hi),gg.2⟩,λi hi=>by have:=hZ i hi;have:=J3.size;omega⟩
theorem eQx (k:Int)(w:World)(h0:0<=k)(h1:k<=63):Fn Tryz.prog 30 [.int .i64 k] w (pG w (([⟨k,0,1⟩],2),0)):=by
 refine QF (c:={c30 with cuts:=[]}) Qa Tryz.func30 rfl rfl rfl ?_;refine new (λw1 Qe Q4 Qh=>?_);refine XD (by omega) ?_;refine XD (by omega) ?_;refine Xh Qa [(⟨k,0,1⟩:Br).cells] rfl rfl rfl rfl rfl ⟨rfl,rfl,⟨⟩⟩ rfl (λcs h=>by simp only[QN] at h;subst h;rfl) rfl (by decide) (by decide) ?_;intro w2 Qg Zb Qx;refine Qv (Qh.ext Qg) rfl (sc rfl) (λw3 Z7 _ Qu=>?_);have Z1:Mod (·=w.heap.size) w2 w3:=nQQ Z7 rfl;refine Qt Qu rfl ?_;refine⟨some ⟨w1.heap.size,0,none⟩,1,1,rfl,Z1.ext (Qe.trans Qg) (λi hi=>by omega),⟨Sl.own (sz:=3) (n:=1) (Qx.mod Z1 (by omega)) (QB _) (by decide) (by simp[Br.cells]),rfl⟩,λi ⟨ad,e,hi⟩=>by cases e;simp only at hi;omega⟩
end
section
structure DV where
 A:Option Addr
 n:Nat
 c:Nat
 nd:List Br
 r:Int
def DV.cells (x:DV):List Value:=[.slice x.A x.n x.c,.int .i64 x.r]
theorem dL (x:DV):x.cells.length=2:=rfl
def cH:List DV->Int
 | []=>0
 | x::l=>if XL x.nd x.r≠0 then XL x.nd x.r else cH l
theorem eQy {l:List DV}:∀{s:Nat}{x:DV},(∀j y,j<s->l[j]? =some y->XL y.nd y.r=0)->l[s]? =some x->XL x.nd x.r≠0->cH l=XL x.nd x.r:=by
 induction l with
 | nil=>intro s x _ h;simp at h
 | cons y l ih=>
  intro s x hn h hx;cases s with
  | zero=>simp at h;subst h;rw[cH,Qf hx]
  | succ s=>
   rw[cH,if_neg (λhh=>hh (hn 0 y (by omega) rfl))];exact ih (s:=s) (λj z hj hz=>hn (j+1) z (by omega) (by simpa using hz)) (by simpa using h) hx
theorem eQz {l:List DV}(h:∀j y,j<l.length->l[j]? =some y->XL y.nd y.r=0):cH l=0:=by
 induction l with
 | nil=>rfl
 | cons y l ih=>
  rw[cH,if_neg (λhh=>hh (h 0 y (by simp) rfl))];exact ih (λj z hj hz=>h (j+1) z (by simpa using hj) (by simpa using hz))
end
end
section
section
def dM (nd:List Br):Nat->Int->(Nat->Bool)->Bool
 | 0,n,_=>decide (n=1)
 | m+1,n,e=>if n<2 then decide (n=1)else match nd[(n-2).toNat]? with
  | none=>false
  | some b=>if e b.v.toNat then dM nd m b.h e else dM nd m b.l e
def ev (nd:List Br)(n:Int)(e:Nat->Bool):Bool:=dM nd n.toNat n e
theorem ku {nd:List Br}{m:Nat}{n:Int}{e:Nat->Bool}(h:n<2):dM nd m n e=decide (n=1):=by
 cases m with
 | zero=>rfl
 | succ m=>rw[dM,Qf h]
theorem zN {nd:List Br}(hw:aj nd):∀(m m':Nat)(n:Int)(e:Nat->Bool),n<=m->n<=m'->dM nd m n e=dM nd m' n e
 | 0,m',n,e,h,_=>by rw[ku (by omega),ku (by omega)]
 | m+1,0,n,e,_,h=>by rw[ku (by omega),ku (by omega)]
 | m+1,m'+1,n,e,h,h'=>by
  by_cases hn:n<2
  ·rw[ku hn,ku hn]
  ·rw[dM,dM,if_neg hn,if_neg hn];cases hb:nd[(n-2).toNat]? with
   | none=>rfl
   | some b=>
    obtain⟨h1,h2,h3,h4⟩:=hw _ _ hb;simp only;rw[zN hw m m' b.h e (by omega) (by omega),zN hw m m' b.l e (by omega) (by omega)]
theorem JT {nd:List Br}{n:Int}{e:Nat->Bool}(h:n<2):ev nd n e=decide (n=1):=ku h
theorem dN {nd:List Br}(hw:aj nd){n:Int}{e:Nat->Bool}{b:Br}(h:¬n<2)(hb:nd[(n-2).toNat]? =some b):ev nd n e=if e b.v.toNat then ev nd b.h e else ev nd b.l e:=by
 obtain⟨h1,h2,h3,h4⟩:=hw _ _ hb;unfold ev;obtain⟨k,hk⟩:∃k,n.toNat=k+1:=⟨n.toNat-1,by omega⟩
 rw[hk,dM,if_neg h,hb];simp only;rw[zN hw k b.h.toNat b.h e (by omega) (by omega),zN hw k b.l.toNat b.l e (by omega) (by omega)]
def Rd0 (nd:List Br):Prop:=∀(j:Nat)(b:Br),nd[j]? =some b->gJ nd j b
theorem Rd0.wf {nd:List Br}(h:Rd0 nd):aj nd:=λj x hx=>by
 obtain⟨_,_,h1,h2,h3,h4,_⟩:=h j x hx;exact⟨h1,h2,h3,h4⟩
theorem VD.rd0 {nd:List Br}{r:Int}(h:VD nd r):Rd0 nd:=h.1
theorem dO {nd:List Br}{n:Int}{b:Br}(h:¬n<2)(hb:nd[(n-2).toNat]? =some b):Ql nd n=b.v:=by unfold Ql;rw[if_neg h,hb]<;>rfl
def Yp (e:Nat->Bool)(v:Nat)(x:Bool):Nat->Bool:=λk=>if k=v then x else e k
theorem Wq {nd:List Br}{n:Int}(h:¬n<2)(hn:n<nd.length+2):∃b,nd[(n-2).toNat]? =some b:=⟨_,Xp (by omega)⟩
theorem dP {nd:List Br}(h:Rd0 nd)(v:Nat)(x:Bool)(e:Nat->Bool):∀(m:Nat)(n:Int),n.toNat<m->n<nd.length+2->(v:Int)<Ql nd n->ev nd n (Yp e v x)=ev nd n e
 | 0,n,hm,_,_=>by omega
 | m+1,n,hm,hn,hv=>by
  by_cases h2:n<2
  ·rw[JT h2,JT h2]
  obtain⟨b,hb⟩:=Wq h2 hn;obtain⟨b1,b2,b3,b4,b5,b6,b7,b8,b9,bX⟩:=h _ _ hb;rw[dO h2 hb] at hv;rw[dN h.wf h2 hb,dN h.wf h2 hb,dP h v x e m b.h (by omega) (by omega) (by omega),dP h v x e m b.l (by omega) (by omega) (by omega)];have:Yp e v x b.v.toNat=e b.v.toNat:=by unfold Yp;rw[if_neg (by omega)]
  rw[this]
def Eqv (nd:List Br)(n:Int)(X1:List Br)(n':Int):Prop:=∀e,ev nd n e=ev X1 n' e
theorem Eqv.symm {nd X1:List Br}{n n':Int}(h:Eqv nd n X1 n'):Eqv X1 n' nd n:=λe=>(h e).symm
theorem Eqv.trans {nd X1 jv:List Br}{n n' n2:Int}(h:Eqv nd n X1 n')(k:Eqv X1 n' jv n2):Eqv nd n jv n2:=λe=>(h e).trans (k e)
def zO (nd:List Br)(m:Nat):Prop:=∀(n n':Int),0<=n->0<=n'->n<m->n'<m->n<nd.length+2->n'<nd.length+2->Eqv nd n nd n'->n=n'
theorem vy {nd:List Br}(h:Rd0 nd){n:Int}{b:Br}(h2:¬n<2)(hb:nd[(n-2).toNat]? =some b)(hn:n<nd.length+2)(e:Nat->Bool):ev nd n (Yp e b.v.toNat true)=ev nd b.h e/\ev nd n (Yp e b.v.toNat false)=ev nd b.l e:=by
 obtain⟨b1,b2,b3,b4,b5,b6,b7,b8,b9,bX⟩:=h _ _ hb;have e1:Yp e b.v.toNat true b.v.toNat=true:=by unfold Yp;rw[Qf rfl]
 have e2:Yp e b.v.toNat false b.v.toNat=false:=by unfold Yp;rw[Qf rfl]
 rw[dN h.wf h2 hb,dN h.wf h2 hb,e1,e2,Qf rfl,if_neg (by decide)];exact⟨dP h _ _ _ (b.h.toNat+1) _ (by omega) (by omega) (by omega),dP h _ _ _ (b.l.toNat+1) _ (by omega) (by omega) (by omega)⟩
theorem dep {nd:List Br}(h:Rd0 nd){n:Int}{m:Nat}{b:Br}(hi:zO nd m)(h2:¬n<2)(hb:nd[(n-2).toNat]? =some b)(hn:n<nd.length+2)(hm:n<=m):∃e,ev nd n (Yp e b.v.toNat true)≠ev nd n (Yp e b.v.toNat false):=by
 obtain⟨b1,b2,b3,b4,b5,b6,b7,b8,b9,bX⟩:=h _ _ hb;refine Classical.byContradiction (λQU=>b7 ?_);refine hi b.l b.h b3 b5 (by omega) (by omega) (by omega) (by omega) (λe=>?_);have:=vy h h2 hb hn e;rw[<-this.1,<-this.2];refine Classical.byContradiction (λhh=>QU ⟨e,λh3=>hh h3.symm⟩)
theorem ss {nd X1:List Br}(h:Rd0 nd){n n':Int}{m:Nat}(hi:zO nd m)(hm:n<=m)(hn:n<nd.length+2)(h2:n'<2)(k:Eqv nd n X1 n'):n<2:=by
 refine Classical.byContradiction (λhh=>?_);obtain⟨b,hb⟩:=Wq hh hn;obtain⟨e,he⟩:=dep h hi hh hb hn hm;apply he;rw[k,k,JT h2,JT h2]
theorem su {nd X1:List Br}(h:Rd0 nd)(h':Rd0 X1){n n':Int}{m:Nat}{b b':Br}(hi:zO nd m)(hm:n<=m)(hn:n<nd.length+2)(Kq:n'<X1.length+2)(h2:¬n<2)(Jt:¬n'<2)(hb:nd[(n-2).toNat]? =some b)(hb':X1[(n'-2).toNat]? =some b')(k:Eqv nd n X1 n'):b'.v<=b.v:=by
 refine Classical.byContradiction (λhh=>?_);obtain⟨e,he⟩:=dep h hi h2 hb hn hm;apply he;obtain⟨b1,_⟩:=h _ _ hb;rw[k,k,dP h' _ _ _ (n'.toNat+1) _ (by omega) Kq (by rw[dO Jt hb'];omega),dP h' _ _ _ (n'.toNat+1) _ (by omega) Kq (by rw[dO Jt hb'];omega)]
theorem O0 {nd X1:List Br}(h:Rd0 nd)(h':Rd0 X1){n n':Int}{b b':Br}(hn:n<nd.length+2)(Kq:n'<X1.length+2)(h2:¬n<2)(Jt:¬n'<2)(hb:nd[(n-2).toNat]? =some b)(hb':X1[(n'-2).toNat]? =some b')(k:Eqv nd n X1 n')(hv:b.v=b'.v):Eqv nd b.l X1 b'.l/\Eqv nd b.h X1 b'.h:=by
 refine⟨λe=>?_,λe=>?_⟩
 ·rw[<-(vy h h2 hb hn e).2,<-(vy h' Jt hb' Kq e).2,k,hv]
 ·rw[<-(vy h h2 hb hn e).1,<-(vy h' Jt hb' Kq e).1,k,hv]
theorem sw {nd:List Br}(h:Rd0 nd):∀m,zO nd m
 | 0=>λn n' h0 _ hm _ _ _ _=>by omega
 | m+1=>λn n' h0 tI hm Dk hn Kq k=>by
  have ih:=sw h m;by_cases h2:n<2
  ·have Jt:n'<2:=ss h ih (by omega) Kq h2 k.symm;have:=k (λ_=>true);rw[JT h2,JT Jt,uS] at this;omega
  by_cases Jt:n'<2
  ·exact Xn (ss h ih (by omega) hn Jt k) h2
  obtain⟨b,hb⟩:=Wq h2 hn;obtain⟨b',hb'⟩:=Wq Jt Kq;have hv:b.v=b'.v:=Int.le_antisymm (su h h ih (by omega) Kq hn Jt h2 hb' hb k.symm) (su h h ih (by omega) hn Kq h2 Jt hb hb' k);obtain⟨k1,k2⟩:=O0 h h hn Kq h2 Jt hb hb' k hv;obtain⟨b1,b2,b3,b4,b5,b6,b7,b8,b9,bX⟩:=h _ _ hb;obtain⟨c1,c2,c3,c4,c5,c6,c7,c8,c9,r6⟩:=h _ _ hb';have el:=ih b.l b'.l b3 c3 (by omega) (by omega) (by omega) (by omega) k1;have eh:=ih b.h b'.h b5 c5 (by omega) (by omega) (by omega) (by omega) k2;have ebb:b=b':=by cases b;cases b';simp_all
  subst ebb;rcases Int.lt_trichotomy n n' with Xc | heq | hgt
  ·exact Xn (Xm (i:=(n-2).toNat) (by rw[oZ (by omega)];exact hb)) c8
  ·exact heq
  ·exact Xn (Xm (i:=(n'-2).toNat) (by rw[oZ (by omega)];exact hb')) b8
theorem inj {nd:List Br}(h:Rd0 nd){n n':Int}(h0:0<=n)(tI:0<=n')(hn:n<nd.length+2)(Kq:n'<nd.length+2)(k:Eqv nd n nd n'):n=n':=
 sw h (nd.length+2) n n' h0 tI (by omega) (by omega) hn Kq k
structure Twin (nd X1:List Br) (st W7:List Br×List Nat):Prop where
 out:st.1=W7.1
 len:st.2.length=nd.length
 len':W7.2.length=X1.length
 num:∀(n n':Int),¬n<2->¬n'<2->n<nd.length+2->n'<X1.length+2->Eqv nd n X1 n'->st.2[(n-2).toNat]? =W7.2[(n'-2).toNat]?
theorem E2 {nd X1:List Br}(h:Rd0 nd)(h':Rd0 X1):∀(m m':Nat)(n n':Int)(st W7:List Br×List Nat),0<=n->0<=n'->n<m->n'<m'->n<nd.length+2->n'<X1.length+2->Eqv nd n X1 n'->Twin nd X1 st W7->
  (Zd nd m n st).1=(Zd X1 m' n' W7).1/\Twin nd X1 (Zd nd m n st).2 (Zd X1 m' n' W7).2
 | 0,m',n,n',st,W7,h0,_,hm,_,_,_,_,_=>by omega
 | m+1,0,n,n',st,W7,_,h0,_,hm,_,_,_,_=>by omega
 | m+1,m'+1,n,n',st,W7,h0,tI,hm,Dk,hn,Kq,k,T=>by
  have I:=sw h (nd.length+2);have I':=sw h' (X1.length+2);by_cases h2:n<2
  ·have Jt:n'<2:=ss h' I' (by omega) Kq h2 k.symm;rw[kf h2,kf Jt];have:=k (λ_=>true);rw[JT h2,JT Jt,uS] at this;exact⟨by simp only;omega,T⟩
  have Jt:¬n'<2:=λhh=>h2 (ss h I (by omega) hn hh k)
  obtain⟨b,hb⟩:=Wq h2 hn;obtain⟨b',hb'⟩:=Wq Jt Kq;have LY:=T.num n n' h2 Jt hn Kq k;by_cases h3:0<st.2[(n-2).toNat]?.getD 0
  ·rw[kg h2 h3,kg Jt (by rw[<-LY];exact h3)];exact⟨by simp only;rw[LY],T⟩
  have mU:¬0<W7.2[(n'-2).toNat]?.getD 0:=by rw[<-LY];exact h3
  have hv:b.v=b'.v:=Int.le_antisymm (su h' h I' (by omega) Kq hn Jt h2 hb' hb k.symm) (su h h' I (by omega) hn Kq h2 Jt hb hb' k);obtain⟨k1,k2⟩:=O0 h h' hn Kq h2 Jt hb hb' k hv;obtain⟨b1,b2,b3,b4,b5,b6,b7,b8,b9,bX⟩:=h _ _ hb;obtain⟨c1,c2,c3,c4,c5,c6,c7,c8,c9,r6⟩:=h' _ _ hb';rw[mj h2 h3 hb,mj Jt mU hb'];obtain⟨e1,T1⟩:=E2 h h' m m' b.l b'.l st W7 b3 c3 (by omega) (by omega) (by omega) (by omega) k1 T;generalize (Zd nd m b.l st)=p at*;generalize (Zd X1 m' b'.l W7)=p' at*;obtain⟨e2,T2⟩:=E2 h h' m m' b.h b'.h p.2 p'.2 b5 c5 (by omega) (by omega) (by omega) (by omega) k2 T1;generalize (Zd nd m b.h p.2)=q at*;generalize (Zd X1 m' b'.h p'.2)=q' at*;have rm:=T2.out;refine⟨by simp only;rw[rm],by simp only;rw[rm,hv,e1,e2],by rw[fB];exact T2.len,by rw[fB];exact T2.len',λi i' j2 j2' hi rj kk=>?_⟩;have l1:=T2.len;have l2:=T2.len';by_cases QZ:i=n
  ·subst QZ;have:i'=n':=inj h' (by omega) tI rj Kq (kk.symm.trans k);subst this;simp only;rw[iQ (by omega),iQ (by omega),rm]
  ·have nQy:i'≠n':=λe=>by
    subst e;exact QZ (inj h (by omega) h0 hi hn (kk.trans k.symm))
   simp only;rw[fH (by omega),fH (by omega)];exact T2.num i i' j2 j2' hi rj kk
theorem eQA (nd X1:List Br):Twin nd X1 ([],List.replicate nd.length 0) ([],List.replicate X1.length 0):=
 ⟨rfl,by simp,by simp,λn n' h2 Jt hn Kq _=>by simp only;rw[List.getElem?_replicate_of_lt (by omega),List.getElem?_replicate_of_lt (by omega)]⟩
theorem O1 {nd X1:List Br}(h:Rd0 nd)(h':Rd0 X1){n n':Int}(h0:0<=n)(tI:0<=n')(hn:n<nd.length+2)(Kq:n'<X1.length+2)(k:Eqv nd n X1 n'):bM nd n=bM X1 n':=by
 obtain⟨e,T⟩:=E2 h h' (n.toNat+1) (n'.toNat+1) n n' _ _ h0 tI (by omega) (by omega) hn Kq k (eQA nd X1);unfold bM;simp only;rw[e,T.out]
theorem VD.eqv {nd X1:List Br}{r r':Int}(h:VD nd r)(h':VD X1 r')(k:Eqv nd r X1 r'):(nd,r)=(X1,r'):=by
 rw[<-h.2.2.2,<-h'.2.2.2];exact O1 h.1 h'.1 h.2.1 h'.2.1 h.2.2.1 h'.2.2.1 k
theorem E3 {nd:List Br}(hw:aj nd)(l:List Br):∀(m:Nat)(n:Int)(e:Nat->Bool),n<nd.length+2->dM (nd++l) m n e=dM nd m n e
 | 0,n,e,_=>rfl
 | m+1,n,e,hn=>by
  by_cases h2:n<2
  ·rw[ku h2,ku h2]
  ·obtain⟨b,hb⟩:=Wq h2 hn;obtain⟨h1,Jt,h3,h4⟩:=hw _ _ hb;rw[dM,dM,if_neg h2,if_neg h2,fD (by omega),hb];simp only;rw[E3 hw l m b.h e (by omega),E3 hw l m b.l e (by omega)]
theorem mr {nd:List Br}(hw:aj nd)(l:List Br){n:Int}(hn:n<nd.length+2)(e:Nat->Bool):ev (nd++l) n e=ev nd n e:=E3 hw l _ n e hn
theorem sA {nd:List Br}(l:List Br){n:Int}(hn:n<nd.length+2):Ql (nd++l) n=Ql nd n:=by
 unfold Ql;by_cases h2:n<2
 ·rw[Qf h2,Qf h2]
 ·rw[if_neg h2,if_neg h2,fD (by omega)]
theorem gL {nd:List Br}{n:Int}(h:n<2):Ql nd n=64:=Qf h
theorem O2 {nd X1:List Br}(h:Rd0 nd)(h':Rd0 X1){n n':Int}(hn:n<nd.length+2)(Kq:n'<X1.length+2)(k:Eqv nd n X1 n'):Ql nd n=Ql X1 n':=by
 have I:=sw h (nd.length+2);have I':=sw h' (X1.length+2);by_cases h2:n<2
 ·rw[gL h2,gL (ss h' I' (by omega) Kq h2 k.symm)]
 have Jt:¬n'<2:=λhh=>h2 (ss h I (by omega) hn hh k)
 obtain⟨b,hb⟩:=Wq h2 hn;obtain⟨b',hb'⟩:=Wq Jt Kq;rw[dO h2 hb,dO Jt hb'];exact Int.le_antisymm (su h' h I' (by omega) Kq hn Jt h2 hb' hb k.symm) (su h h' I (by omega) hn Kq h2 Jt hb hb' k)
theorem Rd0.snoc {nd:List Br}(h:Rd0 nd){b:Br}(hb:gJ (nd++ [b]) nd.length b):Rd0 (nd++ [b]):=by
 intro j x hx;by_cases hj:j<nd.length
 ·rw[fD hj] at hx;obtain⟨b1,b2,b3,b4,b5,b6,b7,b8,b9,bX⟩:=h _ _ hx;exact⟨b1,b2,b3,b4,b5,b6,b7,by rw[DX (by omega)];exact b8,by rw[sA _ (by omega)];exact b9,by rw[sA _ (by omega)];exact bX⟩
 ·have hl:=(ZY.1 hx).1;simp at hl;have:j=nd.length:=by omega
  subst this;rw[WC (QB _)] at hx;simp at hx;subst hx;exact hb
theorem O3 {nd:List Br}{b:Br}(b1:0<=b.v)(b2:b.v<=63)(b3:0<=b.l)(b4:b.l<nd.length+2)(b5:0<=b.h)(b6:b.h<nd.length+2)(b7:b.l≠b.h)(b8:b∉nd)(b9:b.v<Ql nd b.l)(bX:b.v<Ql nd b.h):gJ (nd++ [b]) nd.length b:=
 ⟨b1,b2,b3,b4,b5,b6,b7,by rw[DX (QB _),lR];exact b8,by rw[sA _ b4];exact b9,by rw[sA _ b6];exact bX⟩
structure Wi (nd:List Br) (st:List Br×List Nat):Prop where
 rd:Rd0 st.1
 len:st.2.length=nd.length
 num:∀k m:Nat,st.2[k]? =some m->0<m->2<=m/\m<st.1.length+2/\Eqv st.1 (m:Int) nd ((k:Int)+2)
 sur:∀j:Nat,j<st.1.length->∃k:Nat,st.2[k]? =some (j+2)
theorem Wi.start (nd:List Br):Wi nd ([],List.replicate nd.length 0):=
 ⟨λj b hb=>by simp at hb,by simp,λk m hk hm=>by
  have:=yU (Xm hk);omega,λj hj=>by simp at hj⟩
theorem E4 {nd:List Br}(h:Rd0 nd):∀(m:Nat)(n:Int)(st:List Br×List Nat),0<=n->n<m->n<nd.length+2->Wi nd st->
  Wi nd (Zd nd m n st).2/\0<=(Zd nd m n st).1/\(Zd nd m n st).1<(Zd nd m n st).2.1.length+2/\Eqv (Zd nd m n st).2.1 (Zd nd m n st).1 nd n/\∃l,(Zd nd m n st).2.1=st.1++l
 | 0,n,st,h0,hm,_,_=>by omega
 | m+1,n,st,h0,hm,hn,W=>by
  by_cases h2:n<2
  ·rw[kf h2];exact⟨W,h0,by simp only;omega,λe=>by rw[JT h2,JT h2],[],by simp⟩
  have Xc:(n-2).toNat<st.2.length:=by have:=W.len;omega
  by_cases h3:0<st.2[(n-2).toNat]?.getD 0
  ·rw[kg h2 h3];have hg:=Xp Xc;rw[hg] at h3 ⊢;simp only[fG] at h3 ⊢;obtain⟨q1,q2,q3⟩:=W.num _ _ hg h3;have en:(((n-2).toNat:Nat):Int)+2=n:=by omega
   rw[en] at q3;exact⟨W,by omega,by omega,q3,[],by simp⟩
  obtain⟨b,hb⟩:=Wq h2 hn;obtain⟨b1,b2,b3,b4,b5,b6,b7,b8,b9,bX⟩:=h _ _ hb;have f1:=kh h.wf m b.l st b3 (by omega) (by omega) W.len;rw[mj h2 h3 hb];obtain⟨W1,p1,p2,p3,l1,p4⟩:=E4 h m b.l st b3 (by omega) (by omega) W;generalize (Zd nd m b.l st)=p at*;have f2:=kh h.wf m b.h p.2 b5 (by omega) (by omega) W1.len;obtain⟨W2,q1,q2,q3,l2,q4⟩:=E4 h m b.h p.2 b5 (by omega) (by omega) W1;generalize (Zd nd m b.h p.2)=q at*;have hz:q.2.2[(n-2).toNat]? =some 0:=by
   rw[f2.keep _ (by omega),f1.keep _ (by omega)];have hg:=Xp Xc;rw[hg] at h3 ⊢;simp only[fG] at h3;congr 1;omega
  have hR:=W2.rd;have HB:p.1<q.2.1.length+2:=by rw[q4,Qq];omega
  have HC:Eqv q.2.1 p.1 nd b.l:=λe=>by rw[q4,mr W1.rd.wf l2 p2];exact p3 e
  have QU:p.1≠q.1:=λe=>b7 (inj h b3 b5 (by omega) (by omega) (HC.symm.trans (by rw[e];exact q3)))
  have XE:=O2 hR h HB (by omega) HC;have JZ:=O2 hR h q2 (by omega) q3;have mean:∀jv,Rd0 jv->∀(i:Int),¬i<2->jv[(i-2).toNat]? =some ⟨b.v,p.1,q.1⟩->(∀e,ev jv p.1 e=ev q.2.1 p.1 e)->(∀e,ev jv q.1 e=ev q.2.1 q.1 e)->Eqv jv i nd n:=λjv hR2 i hi hx u1 u2 e=>by
   rw[dN hR2.wf hi hx,dN h.wf h2 hb];simp only;rw[u1,u2,HC e,q3 e]
  have lB:(⟨b.v,p.1,q.1⟩:Br)∉q.2.1:=λQZ=>by
   obtain⟨j,hj,hjx⟩:=DS.1 QZ;obtain⟨k,hk⟩:=W2.sur j hj;obtain⟨_,_,r3⟩:=W2.num k _ hk (by omega);have XQ:=mean q.2.1 hR ((j+2:Nat):Int) (by omega) (by rw[show(((j+2:Nat):Int)-2).toNat=j by omega,Xp hj,hjx]) (λ_=>rfl) (λ_=>rfl);have VM:=(ZY.1 hk).1;have Bs:=W2.len;have:=inj h (n:=(k:Int)+2) (n':=n) (by omega) h0 (by omega) hn (r3.symm.trans XQ);have Xj:(n-2).toNat=k:=by omega
   rw[Xj,hk] at hz;cases hz
  have np:Rd0 (q.2.1++ [⟨b.v,p.1,q.1⟩]):=hR.snoc (O3 b1 b2 p1 HB q1 q2 QU lB (by rw[XE];exact b9) (by rw[JZ];exact bX));have uw:Eqv (q.2.1++ [⟨b.v,p.1,q.1⟩]) ((q.2.1.length+2:Nat):Int) nd n:=mean _ np _ (by omega) (by
   rw[show(((q.2.1.length+2:Nat):Int)-2).toNat=q.2.1.length by omega,WC (QB _)];simp) (λe=>mr hR.wf _ HB e) (λe=>mr hR.wf _ q2 e)
  refine⟨⟨np,by rw[fB];exact W2.len,λk mm hk ZI=>?_,λj hj=>?_⟩,by omega,by simp only[Qq,Q6,Jn];omega,uw,l1++(l2++ [⟨b.v,p.1,q.1⟩]),by simp only;rw[q4,p4];simp⟩
  ·simp only at hk ⊢;by_cases Xj:(n-2).toNat=k
   ·subst Xj;rw[iQ (by have:=W2.len;omega)] at hk;cases hk;refine⟨by omega,by simp,?_⟩;rw[show(((n-2).toNat:Nat):Int)+2=n by omega];exact uw
   ·rw[fH Xj] at hk;obtain⟨r1,r2,r3⟩:=W2.num k mm hk ZI;exact⟨r1,by simp;omega,λe=>by rw[mr hR.wf _ (by omega)];exact r3 e⟩
  ·simp only[Qq,Q6,Jn] at hj;by_cases W4:j<q.2.1.length
   ·obtain⟨k,hk⟩:=W2.sur j W4;refine⟨k,?_⟩;simp only;rw[fH (λe=>by rw[e,hk] at hz;cases hz)];exact hk
   ·have:j=q.2.1.length:=by omega
    subst this;exact⟨(n-2).toNat,by simp only;rw[iQ (by have:=W2.len;omega)]⟩
theorem eQB {nd:List Br}(h:Rd0 nd){r:Int}(h0:0<=r)(hr:r<nd.length+2):VD (bM nd r).1 (bM nd r).2/\Eqv (bM nd r).1 (bM nd r).2 nd r/\(bM nd r).1.length<=nd.length:=by
 obtain⟨W,w1,w2,w3,_⟩:=E4 h (r.toNat+1) r _ h0 (by omega) hr (Wi.start nd);have f:=(kh h.wf (r.toNat+1) r _ h0 (by omega) hr (Wi.start nd).len).cnt;have e1:(bM nd r).1=(Zd nd (r.toNat+1) r ([],List.replicate nd.length 0)).2.1:=rfl;have e2:(bM nd r).2=(Zd nd (r.toNat+1) r ([],List.replicate nd.length 0)).1:=rfl;rw[<-e1] at w3 w2 f;rw[<-e2] at w3 w2 w1;have hR:Rd0 (bM nd r).1:=W.rd;refine⟨⟨hR,w1,w2,?_⟩,w3,?_⟩
 ·rw[O1 hR h w1 h0 w2 hr w3]
 ·have:=List.count_le_length (a:=0) (l:=List.replicate nd.length 0);simp at this f;omega
end
section
theorem O4 {b:Br}:∀{l:List Br}{i:Nat},KE b l=some i->l[i]? =some b
 | [],i,h=>by cases h
 | x::l,i,h=>by
  unfold KE at h;split at h
  ·rename_i hx;cases h;simp[hx]
  ·cases hf:KE b l with
   | none=>rw[hf] at h;cases h
   | some k=>rw[hf] at h;cases h;simpa using O4 hf
theorem O5 {b:Br}:∀{l:List Br},KE b l=none->b∉l
 | [],_=>by simp
 | x::l,h=>by
  unfold KE at h;split at h
  ·cases h
  ·rename_i hx;cases hf:KE b l with
   | some k=>rw[hf] at h;cases h
   | none=>simp only[Q1,not_or];exact⟨λe=>hx e.symm,O5 hf⟩
structure UniqOk (nd:List Br) (b:Br) (r:List Br×Int):Prop where
 rd:Rd0 r.1
 pos:0<=r.2
 lt:r.2<r.1.length+2
 mean:∀e,ev r.1 r.2 e=if e b.v.toNat then ev nd b.h e else ev nd b.l e
 lvl:b.v<=Ql r.1 r.2
 ext:∃l,r.1=nd++l
theorem eQC {nd:List Br}(h:Rd0 nd){b:Br}(b1:0<=b.v)(b2:b.v<=63)(b3:0<=b.l)(b4:b.l<nd.length+2)(b5:0<=b.h)(b6:b.h<nd.length+2)(b9:b.v<Ql nd b.l)(bX:b.v<Ql nd b.h):UniqOk nd b (ZZ b nd):=by
 unfold ZZ;split
 ·rename_i he;exact⟨h,b3,b4,λe=>by simp only;rw[<-he];split<;>rfl,by simp only;omega,[],by simp⟩
 ·rename_i QU;split
  ·rename_i i hi;have hx:=O4 hi;have Xc:=(ZY.1 hx).1;have VC:nd[(((i+2:Nat):Int)-2).toNat]? =some b:=by rw[show(((i+2:Nat):Int)-2).toNat=i by omega];exact hx
   have h2:¬(((i+2:Nat):Int)<2):=by omega
   exact⟨h,by simp only;omega,by simp only;omega,λe=>dN h.wf h2 VC,by simp only;rw[dO h2 VC];exact lS _,[],by simp⟩
  ·rename_i hn;have X0:=O3 b1 b2 b3 b4 b5 b6 QU (O5 hn) b9 bX;have hR:=h.snoc X0;have VC:(nd++ [b])[(((nd.length+2:Nat):Int)-2).toNat]? =some b:=by
    rw[show(((nd.length+2:Nat):Int)-2).toNat=nd.length by omega,WC (QB _)];simp
   have h2:¬(((nd.length+2:Nat):Int)<2):=by omega
   exact⟨hR,by simp only;omega,by simp only[Qq,Q6,Jn];omega,λe=>by simp only;rw[dN hR.wf h2 VC,mr h.wf _ b6,mr h.wf _ b4],by simp only;rw[dO h2 VC];exact lS _,[b],rfl⟩
theorem Rd0.dok {nd:List Br}(h:Rd0 nd):Vp nd:=⟨h.wf,λj b hb=>⟨(h j b hb).1,(h j b hb).2.1⟩⟩
theorem sB {nd:List Br}(h:Rd0 nd){n v:Int}(_:0<=n)(hn:n<nd.length+2)(hv:v<=Ql nd n)(eS:v<64):
  (∀e,ev nd n e=if e v.toNat then ev nd (Qm nd n v).2 e else ev nd (Qm nd n v).1 e)/\v<Ql nd (Qm nd n v).1/\v<Ql nd (Qm nd n v).2/\(Qm nd n v).1<nd.length+2/\(Qm nd n v).2<nd.length+2:=by
 unfold Qm;split
 ·rename_i QU;exact⟨λe=>by simp,by simp only;omega,by simp only;omega,hn,hn⟩
 ·rename_i he;have he:=Decidable.not_not.1 he;have h2:¬n<2:=λhh=>by rw[gL hh] at he;omega
  obtain⟨b,hb⟩:=Wq h2 hn;obtain⟨b1,b2,b3,b4,b5,b6,b7,b8,b9,bX⟩:=h _ _ hb;have Vj:=dO h2 hb;simp only[hb];exact⟨λe=>by rw[dN h.wf h2 hb,show v=b.v by omega],by omega,by omega,by omega,by omega⟩
def Kv (op:Int)(x y:Bool):Bool:=if op=0 then x&&y else if op=1 then x||y else if op=3 then !x else if op=4 then !x&&y else x !=y
theorem O6 {op x y:Int}(x0:0<=x)(x1:x<2)(y0:0<=y)(y1:y<2):decide (dK op x y=1)=Kv op (decide (x=1)) (decide (y=1)):=by
 unfold dK Kv;rcases(by omega:x=0∨x=1)with rfl | rfl<;>rcases(by omega:y=0∨y=1)with rfl | rfl<;>(split<;>first | rfl | (split<;>first | rfl | (split<;>first | rfl | (split<;>rfl))))
structure At2I (a b:List Br) (op:Int) (st:List Br×List Tr3):Prop where
 rd:Rd0 st.1
 seen:∀t∈st.2,0<=t.2.2/\t.2.2<st.1.length+2/\(∀e,ev st.1 t.2.2 e=Kv op (ev a t.1 e) (ev b t.2.1 e))/\min (Ql a t.1) (Ql b t.2.1)<=Ql st.1 t.2.2
structure At2R (a b:List Br) (op:Int) (x y:Int) (st:List Br×List Tr3) (r:Int×(List Br×List Tr3)):Prop where
 inv:At2I a b op r.2
 pos:0<=r.1
 lt:r.1<r.2.1.length+2
 mean:∀e,ev r.2.1 r.1 e=Kv op (ev a x e) (ev b y e)
 lvl:min (Ql a x) (Ql b y)<=Ql r.2.1 r.1
 ext:∃l,r.2.1=st.1++l
theorem At2I.ext {a b:List Br}{op:Int}{nd:List Br}{s:List Tr3}(h:At2I a b op (nd,s)){X1:List Br}(hr:Rd0 X1)(he:∃l,X1=nd++l):At2I a b op (X1,s):=by
 obtain⟨l,rfl⟩:=he;refine⟨hr,λt ht=>?_⟩;obtain⟨h1,h2,h3,h4⟩:=h.seen t ht;exact⟨h1,by simp only at h2 ⊢;rw[Qq];omega,λe=>by rw[mr h.rd.wf l h2];exact h3 e,by rw[sA l h2];exact h4⟩
theorem E5 {a b:List Br}(ha:Rd0 a)(hb:Rd0 b)(op:Int):∀(m:Nat)(x y:Int)(st:List Br×List Tr3),At2I a b op st->0<=x->0<=y->x+y<m->x<a.length+2->y<b.length+2->At2R a b op x y st (Xo a b op m x y st)
 | 0,x,y,st,_,_,_,hm,_,_=>by omega
 | m+1,x,y,st,h,x0,y0,hm,hx,hy=>by
  by_cases Xu:x<2/\y<2
  ·rw[kn Xu];have hc:=E1 (op:=op) x0 Xu.1 y0 Xu.2;refine⟨h,hc.1,by simp only;omega,λe=>?_,?_,[],by simp⟩
   ·simp only;rw[JT hc.2,JT Xu.1,JT Xu.2];exact O6 x0 Xu.1 y0 Xu.2
   ·simp only;rw[gL hc.2,gL Xu.1];omega
  cases k:st.2.find? (λt=>decide (t.1=x/\t.2.1=y))with
  | some t=>
   rw[ko Xu k];have hk:=List.find?_some k;simp only[Vm] at hk;obtain⟨rfl,rfl⟩:=hk;obtain⟨h1,h2,h3,h4⟩:=h.seen t (aQ7 k);exact⟨h,h1,h2,h3,h4,[],by simp⟩
  | none=>
   have ZC:min (Ql a x) (Ql b y)<64:=by
    by_cases c:x<2
    ·have:=am hb.dok (n:=y) (λc2=>Xu ⟨c,c2⟩) (by omega);rw[Z3];split<;>omega
    ·have:=am ha.dok (n:=x) c (by omega);rw[Z3];split<;>omega
   have eU:0<=min (Ql a x) (Ql b y):=by
    have pos:∀{d:List Br},Rd0 d->∀{n:Int},n<d.length+2->0<=Ql d n:=λ{d} hd {n} hn=>by
     by_cases h2:n<2
     ·rw[gL h2];omega
     ·obtain⟨z,hz⟩:=Wq h2 hn;rw[dO h2 hz];exact(hd _ _ hz).1
    have p1:=pos ha hx;have p2:=pos hb hy;rw[Z3];split<;>omega
   rw[kr Xu k _ rfl];have cq:Ql a x=min (Ql a x) (Ql b y)∨Ql b y=min (Ql a x) (Ql b y):=by rw[Z3];split<;>simp
   have kQa:min (Ql a x) (Ql b y)<=Ql a x:=Int.min_le_left _ _;have Uo:min (Ql a x) (Ql b y)<=Ql b y:=Int.min_le_right _ _;have nX:At2I a b op st->min (Ql a x) (Ql b y)<=min (Ql a x) (Ql b y):=λ_=>lS _
   generalize hv:min (Ql a x) (Ql b y)=v at*;obtain⟨s1,s2,s3,s4,s5⟩:=Wp ha.dok (n:=x) x0 ZC;obtain⟨t1,t2,t3,t4,t5⟩:=Wp hb.dok (n:=y) y0 ZC;obtain⟨u1,u2,u3,u4,u5⟩:=sB ha x0 hx kQa ZC;obtain⟨z1,z2,z3,z4,z5⟩:=sB hb y0 hy Uo ZC;have dec:(Qm a x v).1+(Qm b y v).1<m/\(Qm a x v).2+(Qm b y v).2<m:=by
    rcases cq with e | e
    ·have:=s5 e;omega
    ·have:=t5 e;omega
   have i1:=E5 ha hb op m _ _ st h s1 t1 dec.1 u4 z4;generalize (Xo a b op m (Qm a x v).1 (Qm b y v).1 st)=r0 at*;have i2:=E5 ha hb op m _ _ r0.2 i1.inv s3 t3 dec.2 u5 z5;generalize (Xo a b op m (Qm a x v).2 (Qm b y v).2 r0.2)=r1 at*;obtain⟨l1,XE⟩:=i1.ext;obtain⟨l2,JZ⟩:=i2.ext;have r0lt:r0.1<r1.2.1.length+2:=by rw[JZ,Qq];have:=i1.lt;omega
   have r0m:∀e,ev r1.2.1 r0.1 e=ev r0.2.1 r0.1 e:=λe=>by rw[JZ,mr i1.inv.rd.wf l2 i1.lt]
   have r0l:Ql r1.2.1 r0.1=Ql r0.2.1 r0.1:=by rw[JZ,sA l2 i1.lt]
   have g1:v<Ql r1.2.1 r0.1:=by rw[r0l];have:=i1.lvl;rw[Z3] at this;split at this<;>omega
   have g2:v<Ql r1.2.1 r1.1:=by have:=i2.lvl;rw[Z3] at this;split at this<;>omega
   have U:=eQC i2.inv.rd (b:=⟨v,r0.1,r1.1⟩) eU (by simp only;omega) i1.pos r0lt i2.pos i2.lt g1 g2;have hu3:=U.ext;have hI:=At2I.ext (s:=r1.2.2) i2.inv U.rd U.ext;generalize ZZ ⟨v,r0.1,r1.1⟩ r1.2.1=u at*;have XQ:∀e,ev u.1 u.2 e=Kv op (ev a x e) (ev b y e):=λe=>by
    rw[U.mean e,u1 e,z1 e];simp only;split
    ·exact i2.mean e
    ·rw[r0m e];exact i1.mean e
   refine⟨⟨U.rd,λt ht=>?_⟩,U.pos,U.lt,XQ,by rw[hv];exact U.lvl,?_⟩
   ·simp only[XM,QN] at ht;rcases ht with ht | rfl
    ·exact hI.seen t ht
    ·exact⟨U.pos,U.lt,XQ,by rw[hv];exact U.lvl⟩
   ·obtain⟨l3,hl3⟩:=hu3;exact⟨l1++(l2++l3),by simp only;rw[hl3,JZ,XE];simp⟩
theorem O7:∀(N:Nat)(l:List Nat),l.Nodup->(∀x∈l,x<N)->l.length<=N
 | 0,l,_,h=>by
  cases l with
  | nil=>simp
  | cons x l=>have:=h x (by simp);omega
 | N+1,l,hn,h=>by
  have h1:=O7 N (l.filter (λx=>decide (x≠N))) (hn.filter _) (λx hx=>by
   rw[VU,Vm] at hx;have:=h x hx.1;omega)
  have h2:l.length=(l.filter (λx=>decide (x≠N))).length+l.count N:=by
   clear h h1 hn;induction l with
   | nil=>rfl
   | cons x l ih=>
    by_cases e:x=N
    ·subst e;rw[List.filter_cons_of_neg (by simp),List.count_cons_self,Q6];omega
    ·rw[List.filter_cons_of_pos (by simpa using e),List.count_cons_of_ne e,Q6,Q6];omega
  have h3:=List.nodup_iff_count.1 hn N;omega
def E6 (M:Nat)(t:Tr3):Nat:=t.1.toNat*M+t.2.1.toNat
structure At2B (n m:Nat) (st:List Br×List Tr3):Prop where
 rng:∀t∈st.2,0<=t.1/\t.1<n/\0<=t.2.1/\t.2.1<m
 nod:(st.2.map (E6 m)).Nodup
 le:st.1.length<=st.2.length
theorem At2B.bound {n m:Nat}{st:List Br×List Tr3}(h:At2B n m st):st.2.length<=n*m/\st.1.length<=n*m:=by
 have:=O7 (n*m) _ h.nod (λx hx=>by
  simp only[X7] at hx;obtain⟨t,ht,rfl⟩:=hx;obtain⟨h1,h2,h3,h4⟩:=h.rng t ht;unfold E6;have:(t.1.toNat+1)*m<=n*m:=bG _ (by omega);rw[oW] at this;omega)
 rw[JF] at this;exact⟨this,Zc h.le this⟩
theorem eQD {m:Nat}{x y x' y':Nat}(hy:y<m)(lG:y'<m)(h:x*m+y=x'*m+y'):x=x'/\y=y':=by
 have hx:x=x':=by
  have e1:(x*m+y)/m=x:=by rw[uM,Nat.mul_add_div (by omega),Nat.div_eq_of_lt hy]<;>rfl
  have e2:(x'*m+y')/m=x':=by rw[uM,Nat.mul_add_div (by omega),Nat.div_eq_of_lt lG]<;>rfl
  rw[<-e1,<-e2,h]
 subst hx;exact⟨rfl,by omega⟩
theorem E7 {a b:List Br}(ha:Vp a)(hb:Vp b)(op:Int):∀(f:Nat)(x y:Int)(st:List Br×List Tr3),At2B (a.length+2) (b.length+2) st->0<=x->0<=y->x+y<f->x<a.length+2->y<b.length+2->
  At2B (a.length+2) (b.length+2) (Xo a b op f x y st).2/\(∀t∈(Xo a b op f x y st).2.2,t∈st.2∨t.1+t.2.1<=x+y)
 | 0,x,y,st,_,_,_,hm,_,_=>by omega
 | f+1,x,y,st,h,x0,y0,hm,hx,hy=>by
  by_cases Xu:x<2/\y<2
  ·rw[kn Xu];exact⟨h,λt ht=>.inl ht⟩
  cases k:st.2.find? (λt=>decide (t.1=x/\t.2.1=y))with
  | some t=>rw[ko Xu k];exact⟨h,λt ht=>.inl ht⟩
  | none=>
   have ZC:min (Ql a x) (Ql b y)<64:=by
    by_cases c:x<2
    ·have:=am hb (n:=y) (λc2=>Xu ⟨c,c2⟩) (by omega);rw[Z3];split<;>omega
    ·have:=am ha (n:=x) c (by omega);rw[Z3];split<;>omega
   rw[kr Xu k _ rfl];have cq:Ql a x=min (Ql a x) (Ql b y)∨Ql b y=min (Ql a x) (Ql b y):=by rw[Z3];split<;>simp
   generalize min (Ql a x) (Ql b y)=v at*;obtain⟨s1,s2,s3,s4,s5⟩:=Wp ha (n:=x) x0 ZC;obtain⟨t1,t2,t3,t4,t5⟩:=Wp hb (n:=y) y0 ZC;have dec:(Qm a x v).1+(Qm b y v).1<x+y/\(Qm a x v).2+(Qm b y v).2<x+y:=by
    rcases cq with e | e
    ·have:=s5 e;omega
    ·have:=t5 e;omega
   obtain⟨i1,j1⟩:=E7 ha hb op f _ _ st h s1 t1 (by omega) (by omega) (by omega);generalize (Xo a b op f (Qm a x v).1 (Qm b y v).1 st)=r0 at*;obtain⟨i2,j2⟩:=E7 ha hb op f _ _ r0.2 i1 s3 t3 (by omega) (by omega) (by omega);generalize (Xo a b op f (Qm a x v).2 (Qm b y v).2 r0.2)=r1 at*;have ul:(ZZ ⟨v,r0.1,r1.1⟩ r1.2.1).1.length<=r1.2.1.length+1:=by
    unfold ZZ;split
    ·exact yV _
    ·split
     ·exact yV _
     ·simp
   have lB:∀t∈r1.2.2,¬(t.1=x/\t.2.1=y):=λt ht hh=>by
    rcases j2 t ht with h1 | h1
    ·rcases j1 t h1 with h2 | h2
     ·have:=uL.1 k t h2;simp at this;exact this hh.1 hh.2
     ·omega
    ·omega
   refine⟨⟨λt ht=>?_,?_,?_⟩,λt ht=>?_⟩
   ·simp only[XM,QN] at ht;rcases ht with ht | rfl
    ·exact i2.rng t ht
    ·exact⟨x0,by simp only;omega,y0,by simp only;omega⟩
   ·simp only[ep,Vl,List.map_nil];rw[MW];refine⟨i2.nod,by simp,λp hp q hq e=>?_⟩;simp only[QN] at hq;subst hq;subst e;simp only[X7] at hp;obtain⟨t,ht,hk⟩:=hp;obtain⟨r1',r2',r3',r4'⟩:=i2.rng t ht;unfold E6 at hk;have:=eQD (m:=b.length+2) (by omega) (by simp only;omega) hk;simp only at this;exact lB t ht ⟨by omega,by omega⟩
   ·simp only[Qq,Q6,Jn];have:=i2.le;omega
   ·simp only[XM,QN] at ht;rcases ht with ht | rfl
    ·rcases j2 t ht with h1 | h1
     ·rcases j1 t h1 with h2 | h2
      ·exact .inl h2
      ·exact .inr (by omega)
     ·exact .inr (by omega)
    ·exact .inr (by simp only;omega)
theorem E8 {a b:List Br}{ra rb:Int}(ha:VD a ra)(hb:VD b rb)(op:Int):(kt a ra b rb op).2.2.length<=(a.length+2)*(b.length+2)/\(kt a ra b rb op).2.1.length<=(a.length+2)*(b.length+2):=
 (E7 ha.dok hb.dok op (ra.toNat+rb.toNat+1) ra rb ([],[]) ⟨λt ht=>by simp at ht,by simp,QB _⟩ ha.2.1 hb.2.1 (by have:=ha.2.1;have:=hb.2.1;omega) ha.2.2.1 hb.2.2.1).1.bound
theorem eQE {a b:List Br}{ra rb:Int}(ha:VD a ra)(hb:VD b rb)(op:Int):VD (VF a ra b rb op).1 (VF a ra b rb op).2/\∀e,ev (VF a ra b rb op).1 (VF a ra b rb op).2 e=Kv op (ev a ra e) (ev b rb e):=by
 have R:=E5 ha.rd0 hb.rd0 op (ra.toNat+rb.toNat+1) ra rb ([],[]) ⟨λj x hx=>by simp at hx,λt ht=>by simp at ht⟩ ha.2.1 hb.2.1 (by have:=ha.2.1;have:=hb.2.1;omega) ha.2.2.1 hb.2.2.1;obtain⟨n1,n2,n3⟩:=eQB R.inv.rd R.pos R.lt;exact⟨n1,λe=>(n2 e).trans (R.mean e)⟩
end
section
def VZ:Nat->List Nat->List (List Nat)×Bool
 | 0,_=>([],true)
 | _+1,[]=>([],true)
 | n+1,b::l=>
  if b=32∨b=9 then VZ n l
  else if b=40∨b=41∨b=33 then([b]::(VZ n l).1,(VZ n l).2)
  else if(b=38∨b=124)/\l.head? =some b then([b,b]::(VZ n l.tail).1,(VZ n l.tail).2)
  else if aT b then((b::l).takeWhile Za::(VZ n ((b::l).dropWhile Za)).1,(VZ n ((b::l).dropWhile Za)).2)
  else([],false)
def XW (l:List Nat):List (List Nat)×Bool:=VZ l.length l
theorem sC {b:Nat}(h:aT b=true):Za b=true:=by unfold Za;rw[h]<;>rfl
theorem zP {b:Nat}{l:List Nat}(h:aT b=true):(b::l).dropWhile Za=l.dropWhile Za:=by rw[oY,Qf (sC h)]
theorem zQ (p:Nat->Bool)(l:List Nat):(l.dropWhile p).length<=l.length:=(List.dropWhile_suffix p).length_le
theorem vC:∀(n m:Nat)(l:List Nat),l.length<=n->l.length<=m->VZ n l=VZ m l
 | n,m,[],_,_=>by cases n<;>cases m<;>rfl
 | 0,_,b::l,h,_=>by simp at h
 | _+1,0,b::l,_,h=>by simp at h
 | n+1,m+1,b::l,h,h'=>by
  simp only[Q6] at h h';have e1:=vC n m l (by omega) (by omega);have e2:=vC n m l.tail (by rw[yW];omega) (by rw[yW];omega);have hd:=zQ Za l;have e3:=vC n m (l.dropWhile Za) (by omega) (by omega);simp only[VZ];split
  ·exact e1
  ·split
   ·rw[e1]
   ·split
    ·rw[e2]
    ·split
     ·rename_i hl;rw[zP hl,e3]
     ·rfl
theorem vD:XW []=([],true):=rfl
theorem vE {b:Nat}{l:List Nat}(h:b=32∨b=9):XW (b::l)=XW l:=by
 show VZ (l.length+1) (b::l)=_;rw[VZ,Qf h]<;>rfl
theorem mt {b:Nat}{l:List Nat}(h:b=40∨b=41∨b=33):XW (b::l)=([b]::(XW l).1,(XW l).2):=by
 show VZ (l.length+1) (b::l)=_;rw[VZ,if_neg (by omega),Qf h]<;>rfl
theorem pH {b:Nat}{l:List Nat}(h:b=38∨b=124):XW (b::b::l)=([b,b]::(XW l).1,(XW l).2):=by
 show VZ ((b::l).length+1) (b::b::l)=_;rw[VZ,if_neg (by omega),if_neg (by omega),Qf ⟨h,rfl⟩];have:=vC (b::l).length l.length l (by simp) (QB _);rw[show(b::l).tail=l from rfl,this]<;>rfl
theorem vF {b:Nat}{l:List Nat}(h:aT b=true):XW (b::l)=((b::l).takeWhile Za::(XW ((b::l).dropWhile Za)).1,(XW ((b::l).dropWhile Za)).2):=by
 have hb:b=95∨(97<=b/\b<=122)∨(65<=b/\b<=90):=by unfold aT at h;simp at h;omega
 show VZ (l.length+1) (b::l)=_;rw[VZ,if_neg (by omega),if_neg (by omega),if_neg (by omega),Qf h,zP h];have:=vC l.length (l.dropWhile Za).length (l.dropWhile Za) (zQ _ _) (QB _);rw[this]<;>rfl
theorem zR {b:Nat}{l:List Nat}(h1:¬(b=32∨b=9))(h2:¬(b=40∨b=41∨b=33))(h3:¬((b=38∨b=124)/\l.head? =some b))(h4:aT b=false):XW (b::l)=([],false):=by
 show VZ (l.length+1) (b::l)=_;rw[VZ,if_neg h1,if_neg h2,if_neg h3,if_neg (by rw[h4];decide)]
theorem pI (l:List Nat):XW (ZE l)=XW l:=by
 induction l with
 | nil=>rfl
 | cons b l ih=>
  unfold ZE at*;rw[oY];split
  ·rename_i h;rw[ih,vE];simpa using h
  ·rfl
theorem vG {l:List Nat}{b:Nat}{r:List Nat}(h:ZE l=b::r):¬(b=32∨b=9):=by
 unfold ZE at h;induction l with
 | nil=>cases h
 | cons x l ih=>
  rw[oY] at h;split at h
  ·exact ih h
  ·rename_i hx;cases h;simpa using hx
theorem E9 {b:Nat}(hb:b=40∨b=41∨b=33)(p:Ps):match Kh [b] p with
  | (true,p')=>XW p.r=([b]::(XW p'.r).1,(XW p'.r).2)/\p'.f=p.f/\p'.u=p.u/\p'.r.length<p.r.length
  | (false,p')=>(XW p.r).1.head? ≠some [b]/\p'={p with r:=ZE p.r}:=by
 have hl:=pI p.r;have Wc:=r9 p.r;rw[vm];cases ht:ZE p.r with
 | nil=>
  rw[ht] at hl;simp only[List.isPrefixOf];refine⟨?_,by simp⟩;rw[<-hl];simp[vD]
 | cons x r=>
  have hx:=vG ht;rw[ht] at hl Wc;by_cases Ji:x=b
  ·subst Ji;simp only[List.isPrefixOf,beq_self_eq_true,cw];refine⟨by rw[<-hl,mt hb];simp,trivial,trivial,by simp at Wc ⊢;omega⟩
  ·have: [b].isPrefixOf (x::r)=false:=by simp[List.isPrefixOf,Ne.symm Ji]
   rw[this];simp only;refine⟨λh=>?_,by simp⟩;rw[<-hl] at h;by_cases h2:x=40∨x=41∨x=33
   ·rw[mt h2] at h;simp at h;exact Ji h
   ·by_cases h3:(x=38∨x=124)/\r.head? =some x
    ·cases r with
     | nil=>simp at h3
     | cons y r=>
      simp at h3;obtain⟨h3,rfl⟩:=h3;rw[pH h3] at h;simp at h
    ·by_cases h4:aT x=true
     ·rw[vF h4,WD,Qf (sC h4)] at h;simp at h;exact Ji h.1
     ·rw[zR hx h2 h3 (by simpa using h4)] at h;simp at h
theorem zS {b:Nat}(hb:b=38∨b=124)(p:Ps):match Kh [b,b] p with
  | (true,p')=>XW p.r=([b,b]::(XW p'.r).1,(XW p'.r).2)/\p'.f=p.f/\p'.u=p.u/\p'.r.length<p.r.length
  | (false,p')=>(XW p.r).1.head? ≠some [b,b]/\p'={p with r:=ZE p.r}:=by
 have hl:=pI p.r;have Wc:=r9 p.r;rw[vm];cases ht:ZE p.r with
 | nil=>
  rw[ht] at hl;simp only[List.isPrefixOf];refine⟨?_,by simp⟩;rw[<-hl];simp[vD]
 | cons x r=>
  have hx:=vG ht;rw[ht] at hl Wc;by_cases Ji:x=b/\r.head? =some b
  ·obtain⟨rfl,hr⟩:=Ji;cases r with
   | nil=>simp at hr
   | cons y r=>
    simp at hr;subst hr;simp only[List.isPrefixOf,beq_self_eq_true,cw];refine⟨by rw[<-hl,pH hb];simp,trivial,trivial,by simp at Wc ⊢;omega⟩
  ·have: [b,b].isPrefixOf (x::r)=false:=by
    rw[<-Bool.not_eq_true];intro h;cases r with
    | nil=>simp[List.isPrefixOf] at h
    | cons y r=>simp[List.isPrefixOf] at h;exact Ji ⟨h.1.symm,by simp[h.2]⟩
   rw[this];simp only;refine⟨λh=>?_,by simp⟩;rw[<-hl] at h;by_cases h2:x=40∨x=41∨x=33
   ·rw[mt h2] at h;simp at h
   ·by_cases h3:(x=38∨x=124)/\r.head? =some x
    ·cases r with
     | nil=>simp at h3
     | cons y r=>
      simp at h3;obtain⟨h3,rfl⟩:=h3;rw[pH h3] at h;simp at h;exact Ji ⟨h,by simp[h]⟩
    ·by_cases h4:aT x=true
     ·have jE:Za b=false:=by rcases hb with rfl | rfl<;>decide
      rw[vF h4,WD,Qf (sC h4)] at h;simp at h;have hi:=sC h4;rw[h.1,jE] at hi;cases hi
     ·rw[zR hx h2 h3 (by simpa using h4)] at h;simp at h
def Yq (op:List Nat)(mk:Fm->Fm->Fm)(opd:List (List Nat)->Option (Fm×Bool×List (List Nat))):Nat->Fm->Bool->List (List Nat)->Option (Fm×Bool×List (List Nat))
 | 0,_,_,_=>none
 | m+1,a,u,ts=>if ts.head? =some op then
   match opd ts.tail with
   | none=>none
   | some (b,v,Jg)=>Yq op mk opd m (mk a b) (u||v) Jg
  else some (a,u,ts)
def YI (op:List Nat)(mk:Fm->Fm->Fm)(opd:List (List Nat)->Option (Fm×Bool×List (List Nat)))(ts:List (List Nat)):Option (Fm×Bool×List (List Nat)):=match opd ts with
 | none=>none
 | some (a,u,Jg)=>Yq op mk opd (Jg.length+1) a u Jg
def Fa (t:List Nat):Bool:=match t with
 | []=>false
 | b::_=>aT b
def kx (ix:List Nat->Option Nat)(t:List Nat):Fm×Bool:=if t=Wn then(.c true,false)else if t=cC then(.c false,false)else(.v ((ix t).getD 0),(ix t).isNone)
def KF (ix:List Nat->Option Nat):Nat->List (List Nat)->Option (Fm×Bool×List (List Nat))
 | 0,_=>none
 | _+1,[]=>none
 | n+1,t::ts=>if t=[33] then
   match KF ix n ts with
   | none=>none
   | some (a,u,Jg)=>some (.not a,u,Jg)
  else if t=[40] then
   match YI [124,124] .or (YI [38,38] .and (KF ix n)) ts with
   | none=>none
   | some (a,u,Jg)=>if Jg.head? =some [41] then some (a,u,Jg.tail)else none
  else if Fa t then some ((kx ix t).1,(kx ix t).2,ts)else none
def sE (ix:List Nat->Option Nat)(n:Nat)(ts:List (List Nat)):Option (Fm×Bool×List (List Nat)):=YI [124,124] .or (YI [38,38] .and (KF ix n)) ts
def X4:Fm->Nat->List Fz
 | .c b,_=>[⟨if b then 1 else 0,0,0,0⟩]
 | .v n,_=>[⟨2,(n:Nat),0,0⟩]
 | .not a,k=>X4 a k++ [⟨3,0,((k+QE a-1:Nat):Int),0⟩]
 | .and a b,k=>X4 a k++X4 b (k+QE a)++ [⟨4,0,((k+QE a-1:Nat):Int),((k+QE a+QE b-1:Nat):Int)⟩]
 | .or a b,k=>X4 a k++X4 b (k+QE a)++ [⟨5,0,((k+QE a-1:Nat):Int),((k+QE a+QE b-1:Nat):Int)⟩]
theorem JU:∀(t:Fm)(k:Nat),(X4 t k).length=QE t
 | .c _,_=>rfl
 | .v _,_=>rfl
 | .not a,k=>by simp[X4,QE,JU a k]
 | .and a b,k=>by simp[X4,QE,JU a k,JU b,jP]
 | .or a b,k=>by simp[X4,QE,JU a k,JU b,jP]
theorem Yr:∀t:Fm,0<QE t
 | .c _=>Nat.one_pos
 | .v _=>Nat.one_pos
 | .not _=>Nat.succ_pos _
 | .and _ _=>Nat.succ_pos _
 | .or _ _=>Nat.succ_pos _
def pJ (p:Ps)(r:Option (Nat×Ps))(rt:Option (Fm×Bool×List (List Nat))):Prop:=match rt with
 | none=>r=none
 | some (t,u,ts)=>∃p',r=some (p.f.length+QE t-1,p')/\p'.f=p.f++X4 t p.f.length/\p'.u=(p.u||u)/\XW p'.r=(ts,(XW p.r).2)/\p'.r.length<p.r.length
def vH (opd:Ps->Option (Nat×Ps))(opt:List (List Nat)->Option (Fm×Bool×List (List Nat))):Prop:=∀p,pJ p (opd p) (opt (XW p.r).1)
def ky (opt:List (List Nat)->Option (Fm×Bool×List (List Nat))):Prop:=∀ts t u Jg,opt ts=some (t,u,Jg)->Jg.length<ts.length
theorem O8 {op:List Nat}{o:Int}{mk:Fm->Fm->Fm}{opd:Ps->Option (Nat×Ps)}{opt:List (List Nat)->Option (Fm×Bool×List (List Nat))}
  (aH:∀p,match Kh op p with
   | (true,p')=>XW p.r=(op::(XW p'.r).1,(XW p'.r).2)/\p'.f=p.f/\p'.u=p.u/\p'.r.length<p.r.length
   | (false,p')=>(XW p.r).1.head? ≠some op/\p'={p with r:=ZE p.r})
  (Dl:∀a b k,X4 (mk a b) k=X4 a k++X4 b (k+QE a)++ [⟨o,0,((k+QE a-1:Nat):Int),((k+QE a+QE b-1:Nat):Int)⟩]) (XJ:∀a b,QE (mk a b)=QE a+QE b+1) (H:vH opd opt) (hl:ky opt):
  ∀(m m':Nat) (a:Fm) (u:Bool) (p0 p:Ps),p.f=p0.f++X4 a p0.f.length->p.u=(p0.u||u)->(XW p.r).2=(XW p0.r).2->p.r.length<p0.r.length->p.r.length<m->(XW p.r).1.length<m'->
   pJ p0 (fS op o opd m (p0.f.length+QE a-1) p) (Yq op mk opt m' a u (XW p.r).1)
 | 0,m',a,u,p0,p,_,_,_,_,h,_=>by omega
 | m+1,0,a,u,p0,p,_,_,_,_,_,h=>by omega
 | m+1,m'+1,a,u,p0,p,hf,hu,JZ,hr,hm,Dk=>by
  have hs:=aH p;unfold fS Yq;cases oy:Kh op p with
  | mk b p1=>
  rw[oy] at hs;cases b with
  | false=>
   obtain⟨h1,rfl⟩:=hs;rw[if_neg h1];refine⟨_,rfl,hf,hu,?_,?_⟩
   ·simp only;rw[pI,<-JZ]
   ·have:=r9 p.r;simp only;omega
  | true=>
   obtain⟨h1,h2,h3,h4⟩:=hs;have hh:=QC Prod.fst h1;have wM:=QC Prod.snd h1;simp only at hh wM;rw[hh,DY,Qf rfl,List.tail_cons];simp only;have hc:=H p1;cases ho:opt (XW p1.r).1 with
   | none=>
    rw[ho] at hc;simp only[pJ] at hc ⊢;rw[hc]
   | some q=>
    obtain⟨t,v,ts⟩:=q;rw[ho] at hc;obtain⟨p2,e1,e2,e3,e4,e5⟩:=hc;rw[e1];simp only;have Xc:=hl _ _ _ _ ho;have pa:=Yr a;have pt:=Yr t;rw[hf] at h2;have ZT:p1.f.length=p0.f.length+QE a:=by rw[h2,Qq,JU]
    have ih:=O8 aH Dl XJ H hl m m' (mk a t) (u||v) p0 {p2 with f:=p2.f++ [⟨o,0,((p0.f.length+QE a-1:Nat):Int),((p1.f.length+QE t-1:Nat):Int)⟩]}
     (by simp only;rw[e2,h2,Dl,Qq,JU];simp) (by simp only;rw[e3,h3,hu,DZ]) (by simp only;rw[e4,<-wM,JZ]) (by simp only;omega) (by simp only;omega)
     (by simp only;rw[e4];simp only;rw[hh] at Dk;simp only[Q6] at Dk;omega)
    simp only[e4] at ih;have hx:p2.f.length=p0.f.length+QE (mk a t)-1:=by rw[e2,Qq,JU,ZT,XJ];omega
    rw[hx];exact ih
theorem zT {op:List Nat}{o:Int}{mk:Fm->Fm->Fm}{opd:Ps->Option (Nat×Ps)}{opt:List (List Nat)->Option (Fm×Bool×List (List Nat))}
  (aH:∀p,match Kh op p with
   | (true,p')=>XW p.r=(op::(XW p'.r).1,(XW p'.r).2)/\p'.f=p.f/\p'.u=p.u/\p'.r.length<p.r.length
   | (false,p')=>(XW p.r).1.head? ≠some op/\p'={p with r:=ZE p.r})
  (Dl:∀a b k,X4 (mk a b) k=X4 a k++X4 b (k+QE a)++ [⟨o,0,((k+QE a-1:Nat):Int),((k+QE a+QE b-1:Nat):Int)⟩]) (XJ:∀a b,QE (mk a b)=QE a+QE b+1) (H:vH opd opt) (hl:ky opt):vH (Vo op o opd) (YI op mk opt):=λp=>by
 have hc:=H p;unfold Vo YI;cases ho:opt (XW p.r).1 with
 | none=>
  rw[ho] at hc;simp only[pJ] at hc ⊢;rw[hc]
 | some q=>
  obtain⟨t,v,ts⟩:=q;rw[ho] at hc;obtain⟨p2,e1,e2,e3,e4,e5⟩:=hc;rw[e1];simp only;have:=O8 aH Dl XJ H hl (p2.r.length+1) (ts.length+1) t v p p2 e2 e3 (by rw[e4]) e5 (by omega) (by rw[e4];exact er _);rw[e4] at this;exact this
theorem O9 {op:List Nat}{mk:Fm->Fm->Fm}{opt:List (List Nat)->Option (Fm×Bool×List (List Nat))}(hl:ky opt):∀(m:Nat)(a:Fm)(u:Bool)(ts:List (List Nat))(t:Fm)(v:Bool)(Jg:List (List Nat)),Yq op mk opt m a u ts=some (t,v,Jg)->Jg.length<=ts.length
 | 0,a,u,ts,t,v,Jg,h=>by cases h
 | m+1,a,u,ts,t,v,Jg,h=>by
  unfold Yq at h;split at h
  ·cases ho:opt ts.tail with
   | none=>rw[ho] at h;cases h
   | some q=>
    obtain⟨b,v2,qi⟩:=q;rw[ho] at h;have h1:=O9 hl m _ _ _ _ _ _ h;have h2:=hl _ _ _ _ ho;rw[yW] at h2;omega
  ·cases h;exact QB _
theorem vI {op:List Nat}{mk:Fm->Fm->Fm}{opt:List (List Nat)->Option (Fm×Bool×List (List Nat))}(hl:ky opt):ky (YI op mk opt):=λts t u Jg h=>by
 unfold YI at h;cases ho:opt ts with
 | none=>rw[ho] at h;cases h
 | some q=>
  obtain⟨b,v2,qi⟩:=q;rw[ho] at h;have h1:=O9 hl _ _ _ _ _ _ _ h;have h2:=hl _ _ _ _ ho;omega
theorem sF (ix:List Nat->Option Nat):∀n,ky (KF ix n)
 | 0=>λts t u Jg h=>by cases h
 | n+1=>λts t u Jg h=>by
  have ih:=sF ix n;cases ts with
  | nil=>cases h
  | cons x ts=>
   unfold KF at h;split at h
   ·cases ho:KF ix n ts with
    | none=>rw[ho] at h;cases h
    | some q=>
     obtain⟨b,v2,qi⟩:=q;rw[ho] at h;have:=ih _ _ _ _ ho;cases h;simp;omega
   ·split at h
    ·cases ho:YI [124,124] .or (YI [38,38] .and (KF ix n)) ts with
     | none=>rw[ho] at h;cases h
     | some q=>
      obtain⟨b,v2,qi⟩:=q;rw[ho] at h;have:=vI (op:=[124,124]) (mk:=.or) (vI (op:=[38,38]) (mk:=.and) ih) _ _ _ _ ho;simp only at h;split at h
      ·cases h;simp[yW];omega
      ·cases h
    ·split at h
     ·cases h;simp
     ·cases h
theorem eQF (p:Nat->Bool)(l:List Nat):l.take (l.takeWhile p).length=l.takeWhile p:=by
 induction l with
 | nil=>rfl
 | cons x l ih=>
  rw[WD];split
  ·rw[Q6,uI,ih]
  ·rfl
theorem eQG (p:Nat->Bool)(l:List Nat):l.drop (l.takeWhile p).length=l.dropWhile p:=by
 induction l with
 | nil=>rfl
 | cons x l ih=>
  rw[WD,oY];split
  ·rw[Q6,M0,ih]
  ·rfl
theorem eQH (l:List Nat):ZE (ZE l)=ZE l:=by
 cases h:ZE l with
 | nil=>rfl
 | cons b r=>
  have:=vG h;unfold ZE;rw[oY,if_neg (by simpa using this)]
theorem Pa {x:Nat}{r:List Nat}(h:Vn (x::r)≠0):aT x=true/\Vn (x::r)=((x::r).takeWhile Za).length:=by
 have e:Vn (x::r)=if isDig x then 0 else((x::r).takeWhile Za).length:=rfl
 rw[e] at h ⊢;split at h
 ·exact Xn rfl h
 ·rename_i hd;rw[if_neg hd];refine⟨?_,rfl⟩;rw[WD] at h;split at h
  ·rename_i hi;unfold Za at hi;rw[Bool.or_eq_true] at hi;exact hi.resolve_right hd
  ·exact Xn rfl h
theorem eQI {x:Nat}{r:List Nat}(h:Vn (x::r)=0):aT x=false:=by
 have e:Vn (x::r)=if isDig x then 0 else((x::r).takeWhile Za).length:=rfl
 rw[e] at h;rw[<-Bool.not_eq_true];intro hl;have hb:x=95∨(97<=x/\x<=122)∨(65<=x/\x<=90):=by unfold aT at hl;simp at hl;omega
 rw[if_neg (by unfold isDig;simp;omega),WD,Qf (sC hl)] at h;simp at h
theorem eQJ {x:Nat}{r:List Nat}(h:aT x=true):Fa ((x::r).takeWhile Za)=true:=by
 rw[WD,Qf (sC h)];exact h
theorem Pb (ix:List Nat->Option Nat):∀n,vH (cB ix n) (KF ix n)
 | 0=>λp=>rfl
 | n+1=>λp=>by
  have ih:=Pb ix n;have eo:=sF ix n;have s1:=E9 (b:=33) (by omega) p;cases hk:Kh [33] p with
  | mk b p1=>
  rw[hk] at s1;cases b with
  | true=>
   obtain⟨h1,h2,h3,h4⟩:=s1;rw[EN ix n hk,h1];have hc:=ih p1;unfold KF;rw[Qf rfl];cases ho:KF ix n (XW p1.r).1 with
   | none=>
    rw[ho] at hc;simp only[pJ] at hc ⊢;rw[hc]
   | some q=>
    obtain⟨t,v,ts⟩:=q;rw[ho] at hc;obtain⟨p2,e1,e2,e3,e4,e5⟩:=hc;rw[e1];have pt:=Yr t;refine⟨(VW ⟨3,0,((p1.f.length+QE t-1:Nat):Int),0⟩ p2).2,?_,?_,?_,?_,?_⟩
    ·simp only[VW];rw[e2,Qq,JU,h2]<;>rfl
    ·simp only[VW];rw[e2,h2];simp[X4]
    ·simp only[VW];rw[e3,h3]
    ·simp only[VW];rw[e4,h1]
    ·simp only[VW];omega
  | false=>
   obtain⟨h1,rfl⟩:=s1;have s2:=E9 (b:=40) (by omega) {p with r:=ZE p.r};cases VM:Kh [40] {p with r:=ZE p.r}with
   | mk b p2=>
   rw[VM] at s2;have Wc:=r9 p.r;cases b with
   | true=>
    obtain⟨h5,h6,h7,h8⟩:=s2;simp only[pI] at h5 h6 h7 h8;rw[EO ix n hk VM,h5];have hc:=zT (op:=[124,124]) (o:=5) (mk:=.or) (λp=>zS (by omega) p) (λa b k=>rfl) (λa b=>rfl) (zT (op:=[38,38]) (o:=4) (mk:=.and) (λp=>zS (by omega) p) (λa b k=>rfl) (λa b=>rfl) ih eo) (vI eo) p2;unfold KF;rw[if_neg (by decide),Qf rfl];unfold gH;cases ho:YI [124,124] Fm.or (YI [38,38] Fm.and (KF ix n)) (XW p2.r).1 with
    | none=>
     rw[ho] at hc;simp only[pJ] at hc ⊢;rw[hc]
    | some q=>
     obtain⟨t,v,ts⟩:=q;rw[ho] at hc;obtain⟨p3,e1,e2,e3,e4,e5⟩:=hc;rw[e1];simp only;have s3:=E9 (b:=41) (by omega) p3;cases jr:Kh [41] p3 with
     | mk b p4=>
     rw[jr] at s3;cases b with
     | true=>
      obtain⟨g1,g2,g3,g4⟩:=s3;have ht:=QC Prod.fst (e4.symm.trans g1);have kZ:=QC Prod.snd (e4.symm.trans g1);simp only at ht kZ;rw[ht,DY,Qf rfl,List.tail_cons];refine⟨_,by rw[h6],by rw[g2,e2,h6],by rw[g3,e3,h7],?_,?_⟩
      ·rw[h5];simp only;rw[kZ]
      ·omega
     | false=>
      obtain⟨g1,rfl⟩:=s3;rw[e4] at g1;simp only at g1;rw[if_neg g1]<;>rfl
   | false=>
    obtain⟨h5,rfl⟩:=s2;simp only[pI] at h5;rw[EQ ix n hk VM];simp only[eQH];have hl:=pI p.r;cases ht:ZE p.r with
    | nil=>
     rw[ht,vD] at hl;rw[<-hl]<;>rfl
    | cons x r=>
     have hx:=vG ht;rw[ht] at hl Wc;rw[<-hl] at h1 h5 ⊢;by_cases jE:Vn (x::r)=0
     ·rw[Qf jE];have h4:=eQI jE;have:KF ix (n+1) (XW (x::r)).1=none:=by
       by_cases h2:x=40∨x=41∨x=33
       ·rw[mt h2] at h1 h5 ⊢;simp only[DY,ne_eq,Option.some.injEq,List.cons.injEq,and_true] at h1 h5;have:x=41:=by omega
        subst this;rfl
       ·by_cases h3:(x=38∨x=124)/\r.head? =some x
        ·cases r with
         | nil=>simp at h3
         | cons y r=>
          simp at h3;obtain⟨h3,rfl⟩:=h3;rw[pH h3];rcases h3 with rfl | rfl<;>rfl
        ·rw[zR hx h2 h3 h4]<;>rfl
      rw[this]<;>rfl
     ·rw[if_neg jE];obtain⟨XE,JZ⟩:=Pa jE;rw[JZ,eQF,eQG];have lQQ:=vF (l:=r) XE;rw[lQQ] at h1 h5 hl ⊢;simp only[DY,ne_eq,Option.some.injEq] at h1 h5;unfold KF;rw[if_neg h1,if_neg h5,Qf (eQJ XE)];have QY:((x::r).dropWhile Za).length<p.r.length:=by
       rw[zP XE];have:=zQ Za r;simp only[Q6] at Wc;omega
      unfold kx;by_cases nt:(x::r).takeWhile Za=Wn
      ·rw[Qf nt,Qf nt];exact⟨_,rfl,rfl,by simp,by simp only;rw[<-hl],QY⟩
      ·rw[if_neg nt,if_neg nt];by_cases kZ:(x::r).takeWhile Za=cC
       ·rw[Qf kZ,Qf kZ];exact⟨_,rfl,rfl,by simp,by simp only;rw[<-hl],QY⟩
       ·rw[if_neg kZ,if_neg kZ];exact⟨_,rfl,rfl,rfl,by simp only;rw[<-hl],QY⟩
theorem eQK (ix:List Nat->Option Nat)(n:Nat):vH (gH ix n) (sE ix n):=
 zT (op:=[124,124]) (o:=5) (mk:=.or) (λp=>zS (by omega) p) (λ_ _ _=>rfl) (λ_ _=>rfl) (zT (op:=[38,38]) (o:=4) (mk:=.and) (λp=>zS (by omega) p) (λ_ _ _=>rfl) (λ_ _=>rfl) (Pb ix n) (sF ix n)) (vI (sF ix n))
theorem eQL (l:List Nat):ZE l=[]↔XW l=([],true):=by
 rw[<-pI l];cases h:ZE l with
 | nil=>simp[vD]
 | cons x r=>
  have hx:=vG h;simp only[reduceCtorEq,false_iff];intro e;by_cases h2:x=40∨x=41∨x=33
  ·rw[mt h2] at e;simp at e
  ·by_cases h3:(x=38∨x=124)/\r.head? =some x
   ·cases r with
    | nil=>simp at h3
    | cons y r=>
     simp at h3;obtain⟨h3,rfl⟩:=h3;rw[pH h3] at e;simp at e
   ·by_cases h4:aT x=true
    ·rw[vF h4] at e;simp at e
    ·rw[zR hx h2 h3 (by simpa using h4)] at e;simp at e
def zU (names:List (List Nat))(s:List Nat):List Fz×Int:=if ZF names then
  if(XW s).2 then match sE (Jd names) (s.length+1) (XW s).1 with
   | none=>([],31)
   | some (t,u,ts)=>if ts≠ [] then([],31)else if u then([],3)else if 512<QE t then([],2)else(X4 t 0,0)
  else([],31)
 else([],1)
theorem Pd (names:List (List Nat))(s:List Nat):dI names s=zU names s:=by
 unfold dI zU;by_cases hn:ZF names=true
 ·rw[Qf hn,Qf hn];have hc:=eQK (Jd names) (s.length+1) ⟨s,[],false⟩;simp only at hc;cases ho:sE (Jd names) (s.length+1) (XW s).1 with
  | none=>
   rw[ho] at hc;simp only[pJ] at hc;rw[hc];simp
  | some q=>
   obtain⟨t,v,ts⟩:=q;rw[ho] at hc;obtain⟨p2,e1,e2,e3,e4,e5⟩:=hc;rw[e1];simp only at e2 e3 e4 ⊢;simp only[bF,Jn,Bool.false_or] at e2 e3;have he:=eQL p2.r;rw[e4] at he;by_cases hf:(XW s).2=true
   ·rw[Qf hf];rw[hf] at he;simp only[Prod.mk.injEq,and_true] at he;rw[e3,e2,JU];by_cases gm:ts=[]
    ·rw[if_neg (λh=>h (he.2 gm)),if_neg (c:=ts≠ []) (λh=>h gm)]
    ·rw[Qf (λh=>gm (he.1 h)),Qf gm]
   ·rw[if_neg hf,Qf (λh=>hf (by have:=QC Prod.snd (he.1 h);simpa using this))]
 ·rw[if_neg hn,if_neg hn]
end
section
def VG (b:Bool)(ts:List (List Nat)):List (List Nat):=if b then [40]::ts++ [[41]] else ts
def Jh (nm:List (List Nat)):Fm->List (List Nat)
 | .c b=>[if b then Wn else cC]
 | .v n=>[nm[n]?.getD []]
 | .not a=>[33]::VG (decide (ZO a<2)) (Jh nm a)
 | .and a b=>VG (decide (ZO a<1)) (Jh nm a)++ [38,38]::VG (decide (ZO b<2)) (Jh nm b)
 | .or a b=>Jh nm a++ [124,124]::VG (decide (ZO b<1)) (Jh nm b)
theorem eQM (nm:List (List Nat)):∀t:Fm,0<(Jh nm t).length
 | .c _=>Nat.one_pos
 | .v _=>Nat.one_pos
 | .not _=>Nat.succ_pos _
 | .and _ _=>by simp only[Jh,Qq,Q6];omega
 | .or _ _=>by simp only[Jh,Qq,Q6];omega
def Stop (l:List Nat):Prop:=∀b r,l=b::r->Za b=false
theorem Stop.nil:Stop []:=λ_ _ h=>by cases h
theorem Stop.cons {b:Nat}{r:List Nat}(h:Za b=false):Stop (b::r):=λ_ _ e=>by cases e;exact h
def mv (w:List Nat):Prop:=(∃b r,w=b::r/\aT b=true)/\∀x∈w,Za x=true
theorem eQN {w rest:List Nat}(h:∀x∈w,Za x=true)(hs:Stop rest):(w++rest).takeWhile Za=w/\(w++rest).dropWhile Za=rest:=by
 induction w with
 | nil=>
  cases rest with
  | nil=>exact⟨rfl,rfl⟩
  | cons b r=>
   have:=hs b r rfl;rw[bF,WD,oY,if_neg (by rw[this];decide),if_neg (by rw[this];decide)];exact⟨rfl,rfl⟩
 | cons x w ih=>
  obtain⟨h1,h2⟩:=ih (λy hy=>h y (by simp[hy]));have hx:=h x (by simp);rw[YF,WD,oY,Qf hx,Qf hx,h1,h2];exact⟨rfl,rfl⟩
theorem eQO {w rest:List Nat}(h:mv w)(hs:Stop rest):XW (w++rest)=(w::(XW rest).1,(XW rest).2):=by
 obtain⟨⟨b,r,rfl,hb⟩,hall⟩:=h;obtain⟨h1,h2⟩:=eQN hall hs;rw[YF] at h1 h2 ⊢;rw[vF hb,h1,h2]
theorem eQP {w:List Nat}(h:mv w):Fa w=true:=by
 obtain⟨⟨b,r,rfl,hb⟩,_⟩:=h;exact hb
theorem Fb {s:List Nat}(h:af s=true):mv s/\s≠Wn/\s≠cC:=by
 unfold af at h;rw[Vm] at h;obtain⟨h1,h2,h3,h4⟩:=h;cases s with
 | nil=>exact Xn rfl h1
 | cons b r=>
  obtain⟨hl,he⟩:=Pa (x:=b) (r:=r) (by rw[h2];simp);rw[he] at h2;refine⟨⟨⟨b,r,rfl,hl⟩,λx hx=>?_⟩,h3,h4⟩;have:(b::r).takeWhile Za=b::r:=(List.takeWhile_prefix Za).eq_of_length h2;rw[<-this] at hx;exact(Ym.1 (List.all_takeWhile (p:=Za) (l:=b::r))) x hx
theorem Pe:mv Wn:=⟨⟨116,_,rfl,by decide⟩,by decide⟩
theorem Pf:mv cC:=⟨⟨102,_,rfl,by decide⟩,by decide⟩
structure NmOk (nm:List (List Nat)) (ix:List Nat->Option Nat):Prop where
 word:∀k,k<nm.length->af (nm[k]?.getD [])=true
 ix:∀k,k<nm.length->ix (nm[k]?.getD [])=some k
def LexS (s:List Nat)(ts:List (List Nat)):Prop:=∀rest,Stop rest->XW (s++rest)=(ts++(XW rest).1,(XW rest).2)
theorem LexS.par {s:List Nat}{ts:List (List Nat)}(h:LexS s ts)(b:Bool):LexS (Yo b s) (VG b ts):=by
 cases b with
 | false=>exact h
 | true=>
  intro rest hs;show XW (40::s++ [41]++rest)=_;rw[YF,YF,mt (by omega),J7,List.singleton_append,h (41::rest) (Stop.cons (by decide)),mt (by omega)];simp[VG]
theorem LexS.word {w:List Nat}(h:mv w):LexS w [w]:=λ_ hs=>eQO h hs
theorem sG {nm:List (List Nat)}{ix:List Nat->Option Nat}(hn:NmOk nm ix):∀(t:Fm),VarsIn nm.length t->LexS (Jq nm t) (Jh nm t)
 | .c b,_=>by
  cases b with
  | true=>exact LexS.word Pe
  | false=>exact LexS.word Pf
 | .v n,h=>LexS.word (Fb (hn.word n h)).1
 | .not a,h=>by
  have ih:=(sG hn a h).par (decide (ZO a<2));intro rest hs;show XW (33::Yo _ _++rest)=_;rw[YF,mt (by omega),ih rest hs]<;>rfl
 | .and a b,h=>by
  have iha:=(sG hn a h.1).par (decide (ZO a<1));have ihb:=(sG hn b h.2).par (decide (ZO b<2));intro rest hs;show XW (Yo _ _++ [32,38,38,32]++Yo _ _++rest)=_;rw[J7,J7,show [32,38,38,32]++(Yo (decide (ZO b<2)) (Jq nm b)++rest)=32::38::38::32::(Yo (decide (ZO b<2)) (Jq nm b)++rest) from rfl];rw[iha _ (Stop.cons (b:=32) (by decide)),vE (by omega),pH (by omega),vE (by omega),ihb rest hs];simp[Jh]
 | .or a b,h=>by
  have iha:=sG hn a h.1;have ihb:=(sG hn b h.2).par (decide (ZO b<1));intro rest hs;show XW (Yo (decide (ZO a<0)) _++ [32,124,124,32]++Yo _ _++rest)=_;rw[show decide (ZO a<0)=false from Zq (by omega)];show XW (Jq nm a++ [32,124,124,32]++Yo _ _++rest)=_;rw[J7,J7,show [32,124,124,32]++(Yo (decide (ZO b<1)) (Jq nm b)++rest)=32::124::124::32::(Yo (decide (ZO b<1)) (Jq nm b)++rest) from rfl];rw[iha _ (Stop.cons (b:=32) (by decide)),vE (by omega),pH (by omega),vE (by omega),ihb rest hs];simp[Jh]
theorem eQQ {nm:List (List Nat)}{ix:List Nat->Option Nat}(hn:NmOk nm ix)(t:Fm)(h:VarsIn nm.length t):XW (ZP nm 0 t)=(Jh nm t,true):=by
 have:=sG hn t h [] Stop.nil;unfold ZP;rw[show decide (ZO t<0)=false from Zq (by omega)];simp only[KW,vD] at this;exact this
theorem Pg {op:List Nat}{mk:Fm->Fm->Fm}{opt:List (List Nat)->Option (Fm×Bool×List (List Nat))}(hl:ky opt):∀(m m':Nat)(a:Fm)(u:Bool)(ts:List (List Nat)),ts.length<m->ts.length<m'->Yq op mk opt m a u ts=Yq op mk opt m' a u ts
 | 0,_,_,_,_,h,_=>by omega
 | _+1,0,_,_,_,_,h=>by omega
 | m+1,m'+1,a,u,ts,h,h'=>by
  unfold Yq;split
  ·cases ho:opt ts.tail with
   | none=>rfl
   | some q=>
    obtain⟨b,v,Jg⟩:=q;have:=hl _ _ _ _ ho;rw[yW] at this;exact Pg hl m m' _ _ Jg (by omega) (by omega)
  ·rfl
theorem zV {op:List Nat}{mk:Fm->Fm->Fm}{opt:List (List Nat)->Option (Fm×Bool×List (List Nat))}{m:Nat}{a:Fm}{u:Bool}{ts:List (List Nat)}(h:ts.head? ≠some op):Yq op mk opt (m+1) a u ts=some (a,u,ts):=by
 unfold Yq;rw[if_neg h]
theorem Ph {op:List Nat}{mk:Fm->Fm->Fm}{opt:List (List Nat)->Option (Fm×Bool×List (List Nat))}(hl:ky opt){m:Nat}{a b:Fm}{u v:Bool}{ts Jg:List (List Nat)}(h:opt ts=some (b,v,Jg)):Yq op mk opt ((op::ts).length+m) a u (op::ts)=Yq op mk opt (Jg.length+1) (mk a b) (u||v) Jg:=by
 have:=hl _ _ _ _ h;have e:Yq op mk opt ((ts.length+m)+1) a u (op::ts)=Yq op mk opt (ts.length+m) (mk a b) (u||v) Jg:=by
  rw[Yq,DY,Qf rfl,List.tail_cons,h]
 rw[Q6,show ts.length+1+m=(ts.length+m)+1 by omega,e];exact Pg hl _ _ _ _ _ (by omega) (by omega)
theorem eQR (ix:List Nat->Option Nat)(b:Bool):kx ix (if b then Wn else cC)=(.c b,false):=by cases b<;>rfl
theorem eQS {nm:List (List Nat)}{ix:List Nat->Option Nat}(hn:NmOk nm ix){n:Nat}(h:n<nm.length):kx ix (nm[n]?.getD [])=(.v n,false):=by
 obtain⟨_,h1,h2⟩:=Fb (hn.word n h);unfold kx;rw[if_neg h1,if_neg h2,hn.ix n h]<;>rfl
theorem eQT {w:List Nat}(h:mv w):w≠ [33]/\w≠ [40]/\w≠ [41]/\w≠ [38,38]/\w≠ [124,124]:=by
 obtain⟨⟨b,r,rfl,hb⟩,_⟩:=h;refine⟨?_,?_,?_,?_,?_⟩<;>(intro e;cases e;exact Xn hb (by decide))
theorem Pi {ix:List Nat->Option Nat}{n:Nat}{w:List Nat}{rest:List (List Nat)}(h:mv w):KF ix (n+1) (w::rest)=some ((kx ix w).1,(kx ix w).2,rest):=by
 have:=eQT h;unfold KF;rw[if_neg this.1,if_neg this.2.1,Qf (eQP h)]
abbrev sH (ix:List Nat->Option Nat)(n:Nat):=YI [38,38] Fm.and (KF ix n)
abbrev Pj (ix:List Nat->Option Nat)(n:Nat):=YI [124,124] Fm.or (sH ix n)
theorem eQU (ix:List Nat->Option Nat)(n:Nat):ky (sH ix n):=vI (sF ix n)
theorem Pk {op:List Nat}{mk:Fm->Fm->Fm}{opt:List (List Nat)->Option (Fm×Bool×List (List Nat))}{ts Jg:List (List Nat)}{a:Fm}{u:Bool}(h:opt ts=some (a,u,Jg)):YI op mk opt ts=Yq op mk opt (Jg.length+1) a u Jg:=by
 unfold YI;rw[h]
def Fc (nm:List (List Nat))(ix:List Nat->Option Nat)(n:Nat):Prop:=∀(t:Fm)(rest:List (List Nat)),VarsIn nm.length t->(VG (decide (ZO t<2)) (Jh nm t)).length<=n->KF ix n (VG (decide (ZO t<2)) (Jh nm t)++rest)=some (t,false,rest)
theorem Pm {nm:List (List Nat)}{ix:List Nat->Option Nat}{n:Nat}(F:Fc nm ix n):∀(t:Fm)(rest:List (List Nat)),VarsIn nm.length t->(VG (decide (ZO t<1)) (Jh nm t)).length<=n->
  sH ix n (VG (decide (ZO t<1)) (Jh nm t)++rest)=Yq [38,38] .and (KF ix n) (rest.length+1) t false rest:=by
 intro t;have base:∀t,decide (ZO t<1)=decide (ZO t<2)->∀rest,VarsIn nm.length t->(VG (decide (ZO t<1)) (Jh nm t)).length<=n->sH ix n (VG (decide (ZO t<1)) (Jh nm t)++rest)=Yq [38,38] .and (KF ix n) (rest.length+1) t false rest:=by
  intro t e rest hv hl;rw[e] at hl ⊢;exact Pk (F t rest hv hl)
 induction t with
 | c b=>exact base _ rfl
 | v k=>exact base _ rfl
 | not a _=>exact base _ rfl
 | or a b _ _=>exact base _ rfl
 | and a b iha _=>
  intro rest hv hl;have e:VG (decide (ZO (.and a b)<1)) (Jh nm (.and a b))=VG (decide (ZO a<1)) (Jh nm a)++ [38,38]::VG (decide (ZO b<2)) (Jh nm b):=rfl;rw[e,Qq,Q6] at hl;rw[e,J7,YF,iha _ hv.1 (by omega)];have hf:=F b rest hv.2 (by omega);exact Ph (sF ix n) (m:=1) hf
theorem Po {nm:List (List Nat)}{ix:List Nat->Option Nat}{n:Nat}(F:Fc nm ix n):∀(t:Fm)(rest:List (List Nat)),VarsIn nm.length t->(Jh nm t).length<=n->rest.head? ≠some [38,38]->
  Pj ix n (Jh nm t++rest)=Yq [124,124] .or (sH ix n) (rest.length+1) t false rest:=by
 intro t;have base:∀t,decide (ZO t<1)=false->∀rest,VarsIn nm.length t->(Jh nm t).length<=n->rest.head? ≠some [38,38]->Pj ix n (Jh nm t++rest)=Yq [124,124] .or (sH ix n) (rest.length+1) t false rest:=by
  intro t e rest hv hl hs;have:=Pm F t rest hv (by rw[e];exact hl);rw[e,zV hs] at this;exact Pk this
 induction t with
 | c b=>exact base _ rfl
 | v k=>exact base _ rfl
 | not a _=>exact base _ rfl
 | and a b _ _=>exact base _ rfl
 | or a b iha _=>
  intro rest hv hl hs;have e:Jh nm (.or a b)=Jh nm a++ [124,124]::VG (decide (ZO b<1)) (Jh nm b):=rfl;rw[e,Qq,Q6] at hl;rw[e,J7,YF,iha _ hv.1 (by omega) (by simp)];have hf:=Pm F b rest hv.2 (by omega);rw[zV hs] at hf;exact Ph (eQU ix n) (m:=1) hf
theorem Pp {nm:List (List Nat)}{ix:List Nat->Option Nat}(hn:NmOk nm ix):∀n,Fc nm ix n
 | 0=>λt rest hv hl=>by
  have:∀(b:Bool),0<(VG b (Jh nm t)).length:=by
   intro b;have:=eQM nm t;cases b with
   | true=>simp[VG]
   | false=>exact this
  have:=this (decide (ZO t<2));omega
 | n+1=>λt rest hv hl=>by
  have F:=Pp hn n;by_cases h2:ZO t<2
  ·rw[Zy h2] at hl ⊢;have e:VG true (Jh nm t)++rest=[40]::(Jh nm t++ [41]::rest):=by simp[VG]
   have di:(Jh nm t).length<=n:=by simp[VG] at hl;omega
   rw[e];have ho:=Po F t ([41]::rest) hv di (by simp);rw[zV (by simp)] at ho;unfold KF;have Ke:YI [124,124] Fm.or (YI [38,38] Fm.and (KF ix n)) (Jh nm t++ [41]::rest)=some (t,false,[41]::rest):=ho;rw[if_neg (by decide),Qf rfl,Ke];simp
  ·rw[Zq h2] at hl ⊢;cases t with
   | c b=>
    show KF ix (n+1) ((if b then Wn else cC)::rest)=_;rw[Pi (by cases b;exact Pf;exact Pe),eQR]
   | v k=>
    show KF ix (n+1) (nm[k]?.getD []::rest)=_;rw[Pi (Fb (hn.word k hv)).1,eQS hn hv]
   | not a=>
    have di:(VG (decide (ZO a<2)) (Jh nm a)).length<=n:=by
     have:(VG false (Jh nm (.not a))).length=(VG (decide (ZO a<2)) (Jh nm a)).length+1:=rfl;omega
    show KF ix (n+1) ([33]::(VG (decide (ZO a<2)) (Jh nm a)++rest))=_;unfold KF;rw[Qf rfl,F a rest hv di]
   | and a b=>exact Xn (show ZO (.and a b)<2 by simp[ZO]) h2
   | or a b=>exact Xn (show ZO (.or a b)<2 by simp[ZO]) h2
theorem eQV {nm:List (List Nat)}{ix:List Nat->Option Nat}(hn:NmOk nm ix)(t:Fm)(hv:VarsIn nm.length t){n:Nat}(hl:(Jh nm t).length<=n):sE ix n (Jh nm t)=some (t,false,[]):=by
 have:=Po (Pp hn n) t [] hv hl (by simp);rw[KW,zV (by simp)] at this;exact this
theorem zW:∀(n:Nat)(l:List Nat),(VZ n l).1.length<=l.length
 | 0,l=>Xr _
 | n+1,[]=>Xr _
 | n+1,b::l=>by
  have i1:=zW n l;have i2:=zW n l.tail;rw[yW] at i2;simp only[VZ,Q6];split
  ·omega
  ·split
   ·simp only[Q6];omega
   ·split
    ·rename_i h;cases l with
     | nil=>simp at h
     | cons y l=>simp only[Q6] at i2 ⊢;omega
    ·split
     ·rename_i h;have i3:=zW n (l.dropWhile Za);have:=zQ Za l;rw[zP h];simp only[Q6];omega
     ·simp
theorem eQW {nm:List (List Nat)}(hn:ZF nm=true)(hi:NmOk nm (Jd nm))(t:Fm)(hv:VarsIn nm.length t)(hs:QE t<=512):dI nm (ZP nm 0 t)=(X4 t 0,0):=by
 rw[Pd];unfold zU;have hl:=eQQ hi t hv;have Zz:(Jh nm t).length<=(ZP nm 0 t).length+1:=by
  have:=zW (ZP nm 0 t).length (ZP nm 0 t);have e:VZ (ZP nm 0 t).length (ZP nm 0 t)=(Jh nm t,true):=hl;rw[e] at this;exact Nat.le_succ_of_le this
 rw[Qf hn,hl];simp only;rw[Qf trivial,eQV hi t hv Zz];simp only;rw[if_neg (c:=([]:List (List Nat))≠ []) (λh=>h rfl),if_neg (by decide),if_neg (by omega)]
end
section
theorem Pq (a:ByteArray)(v:Value):∀m:List (ByteArray×Value),a∈m.map Prod.fst->(Ze a v m).map Prod.fst=m.map Prod.fst
 | [],h=>by simp at h
 | (b,u)::m,h=>by
  unfold Ze;by_cases e:a=b
  ·subst e;rw[Qf rfl]<;>rfl
  ·rw[if_neg e,Vl,Pq a v m (by simp only[Vl,Q1] at h;exact h.resolve_left e)];rfl
theorem Fd (a:ByteArray)(v:Value):∀m:List (ByteArray×Value),a∉m.map Prod.fst->(Ze a v m).map Prod.fst=m.map Prod.fst++ [a]
 | [],_=>rfl
 | (b,u)::m,h=>by
  simp only[Vl,Q1,not_or] at h;unfold Ze;rw[if_neg h.1,Vl,Fd a v m h.2]<;>rfl
theorem Pt (a:ByteArray)(v:Value)(m:List (ByteArray×Value))(h:a∈m.map Prod.fst):(Ze a v m).length=m.length:=by
 have:=QC List.length (Pq a v m h);simpa using this
theorem Pu (a:ByteArray)(v:Value)(m:List (ByteArray×Value))(h:a∉m.map Prod.fst):(Ze a v m).length=m.length+1:=by
 have:=QC List.length (Fd a v m h);simpa using this
theorem Pv:∀(l:List (List Nat))(i:Nat)(m:List (ByteArray×Value)),(YG l i m).length<=m.length+l.length
 | [],_,m=>QB _
 | s::l,i,m=>by
  have:=Pv l (i+1) (Ze (Qd s) (.int .i64 (i:Nat)) m);simp only[YG,Q6];by_cases h:Qd s∈m.map Prod.fst
  ·have:=Pt _ (.int .i64 (i:Nat)) m h;omega
  ·have:=Pu _ (.int .i64 (i:Nat)) m h;omega
theorem Pw:∀(l:List (List Nat))(i:Nat)(m:List (ByteArray×Value)),(∀s∈l,∀x∈s,x<256)->((YG l i m).length=m.length+l.length↔l.Nodup/\∀s∈l,Qd s∉m.map Prod.fst)
 | [],_,m,_=>by simp[YG]
 | s::l,i,m,hb=>by
  have hs:=hb s (by simp);have ih:=Pw l (i+1) (Ze (Qd s) (.int .i64 (i:Nat)) m) (λt ht=>hb t (by simp[ht]));have Zz:=Pv l (i+1) (Ze (Qd s) (.int .i64 (i:Nat)) m);simp only[YG,Q6];by_cases h:Qd s∈m.map Prod.fst
  ·have hl:=Pt _ (.int .i64 (i:Nat)) m h;constructor
   ·intro e;omega
   ·intro e;exact Xn h (e.2 s (by simp))
  ·have hl:=Pu _ (.int .i64 (i:Nat)) m h;have hk:=Fd _ (.int .i64 (i:Nat)) m h;rw[show m.length+(l.length+1)=(Ze (Qd s) (.int .i64 (i:Nat)) m).length+l.length by omega,ih,hk];simp only[yX,XM,not_or,Q1];constructor
   ·rintro⟨h1,h2⟩;refine⟨⟨λhm=>(h2 s hm).2.1 rfl,h1⟩,λt ht=>?_⟩;rcases ht with rfl | ht
    ·exact h
    ·exact(h2 t ht).1
   ·rintro⟨⟨h1,h2⟩,h3⟩;refine⟨h2,λt ht=>⟨h3 t (.inr ht),λe=>?_,by simp⟩⟩;have:=J8 (hb t (by simp[ht])) hs e;subst this;exact h1 ht
theorem Px {names:List (List Nat)}(hb:Ku names):ZF names=true↔names.all af=true/\names.Nodup/\names.length<=64:=by
 have:=Pw names 0 [] (λs hs=>(hb s hs).1);simp only[Jn,Wh,List.map_nil,Jo,not_false_eq_true,implies_true,and_true] at this;unfold ZF;rw[Vm,this]
theorem Py (l:List Nat):∀(names:List (List Nat))(i:Nat)(QQ:Option Nat),l∉names->dH l names i QQ=QQ
 | [],_,_,_=>rfl
 | s::names,i,QQ,h=>by
  simp only[Q1,not_or] at h;rw[dH,if_neg (λe=>h.1 e.symm),Py l names (i+1) QQ h.2]
theorem Pz:∀(names:List (List Nat))(k i:Nat)(QQ:Option Nat)(l:List Nat),names.Nodup->names[k]? =some l->dH l names i QQ=some (i+k)
 | [],k,i,QQ,l,_,h=>by simp at h
 | s::names,0,i,QQ,l,hn,h=>by
  simp at h;subst h;rw[dH,Qf rfl,Py _ _ _ _ (yX.1 hn).1]<;>rfl
 | s::names,k+1,i,QQ,l,hn,h=>by
  have h':names[k]? =some l:=by simpa using h
  rw[dH,Pz names k (i+1) _ l (yX.1 hn).2 h'];congr 1;omega
theorem eQX {names:List (List Nat)}(hb:Ku names)(h:ZF names=true):NmOk names (Jd names):=by
 obtain⟨h1,h2,h3⟩:=(Px hb).1 h;refine⟨λk hk=>?_,λk hk=>?_⟩
 ·rw[Xp hk];exact Ym.1 h1 _ (M1 hk)
 ·rw[Xp hk];have:=Pz names k 0 none names[k] h2 (Xp hk);rw[Wh] at this;exact this
theorem sI:∀(t:Fm)(pre Wz:List Fz),RepF (pre++X4 t pre.length++Wz) t (pre.length+QE t-1)
 | .c b,pre,Wz=>by
  show(pre++ [_]++Wz)[pre.length+1-1]? =_;simp
 | .v n,pre,Wz=>by
  show(pre++ [_]++Wz)[pre.length+1-1]? =_;simp
 | .not a,pre,Wz=>by
  have pa:=Yr a;refine⟨pre.length+QE a-1,by simp only[QE];omega,?_,?_⟩
  ·simp only[QE,X4];rw[J7,WC (by omega),J7,WC (by rw[JU];omega),JU,show pre.length+(QE a+1)-1-pre.length-QE a=0 by omega];rfl
  ·have:=sI a pre ([⟨3,0,((pre.length+QE a-1:Nat):Int),0⟩]++Wz);simpa [X4] using this
 | .and a b,pre,Wz=>by
  have pa:=Yr a;have pb:=Yr b;refine⟨pre.length+QE a-1,pre.length+QE a+QE b-1,by simp only[QE];omega,by simp only[QE];omega,?_,?_,?_⟩
  ·simp only[QE,X4];rw[J7,WC (by omega),J7,WC (by rw[Qq,JU,JU];omega),Qq,JU,JU,show pre.length+(QE a+QE b+1)-1-pre.length-(QE a+QE b)=0 by omega];rfl
  ·have:=sI a pre (X4 b (pre.length+QE a)++ [⟨4,0,((pre.length+QE a-1:Nat):Int),((pre.length+QE a+QE b-1:Nat):Int)⟩]++Wz);simpa [X4] using this
  ·have:=sI b (pre++X4 a pre.length) ([⟨4,0,((pre.length+QE a-1:Nat):Int),((pre.length+QE a+QE b-1:Nat):Int)⟩]++Wz);rw[Qq,JU] at this;simpa [X4] using this
 | .or a b,pre,Wz=>by
  have pa:=Yr a;have pb:=Yr b;refine⟨pre.length+QE a-1,pre.length+QE a+QE b-1,by simp only[QE];omega,by simp only[QE];omega,?_,?_,?_⟩
  ·simp only[QE,X4];rw[J7,WC (by omega),J7,WC (by rw[Qq,JU,JU];omega),Qq,JU,JU,show pre.length+(QE a+QE b+1)-1-pre.length-(QE a+QE b)=0 by omega];rfl
  ·have:=sI a pre (X4 b (pre.length+QE a)++ [⟨5,0,((pre.length+QE a-1:Nat):Int),((pre.length+QE a+QE b-1:Nat):Int)⟩]++Wz);simpa [X4] using this
  ·have:=sI b (pre++X4 a pre.length) ([⟨5,0,((pre.length+QE a-1:Nat):Int),((pre.length+QE a+QE b-1:Nat):Int)⟩]++Wz);rw[Qq,JU] at this;simpa [X4] using this
theorem Fe (t:Fm):fV (X4 t 0)=t:=by
 refine EV ?_;have:=sI t [] [];rw[JU];simpa using this
theorem pK {α:Type}{l m:List α}{i:Nat}{x:α}(h:(l++m)[i]? =some x):(i<l.length/\l[i]? =some x)∨(l.length<=i/\m[i-l.length]? =some x):=by
 by_cases hi:i<l.length
 ·rw[fD hi] at h;exact .inl ⟨hi,h⟩
 ·rw[WC (by omega)] at h;exact .inr ⟨by omega,h⟩
theorem kz {α:Type}{y x:α}{i:Nat}(h: [y][i]? =some x):i=0/\x=y:=by
 cases i with
 | zero=>simp at h;exact⟨rfl,h.symm⟩
 | succ i=>simp at h
theorem eQY {j i:Nat}(h:j<i):Vc ⟨3,0,(j:Nat),0⟩ i:=by
 refine⟨show 0<=Zl 3 by decide,rfl,?_,rfl⟩;show if 0<Zl 3 then _ else _
 rw[Qf (by decide)];simp only;omega
theorem eQZ {j k i:Nat}(h:j<i)(h':k<i):Vc ⟨4,0,(j:Nat),(k:Nat)⟩ i:=by
 refine⟨show 0<=Zl 4 by decide,rfl,?_,?_⟩
 ·show if 0<Zl 4 then _ else _
  rw[Qf (by decide)];simp only;omega
 ·show if 1<Zl 4 then _ else _
  rw[Qf (by decide)];simp only;omega
theorem eQ0 {j k i:Nat}(h:j<i)(h':k<i):Vc ⟨5,0,(j:Nat),(k:Nat)⟩ i:=by
 refine⟨show 0<=Zl 5 by decide,rfl,?_,?_⟩
 ·show if 0<Zl 5 then _ else _
  rw[Qf (by decide)];simp only;omega
 ·show if 1<Zl 5 then _ else _
  rw[Qf (by decide)];simp only;omega
theorem sJ:∀(t:Fm)(k i:Nat)(x:Fz),VarsIn 64 t->(X4 t k)[i]? =some x->Vc x (k+i)
 | .c b,k,i,x,_,h=>by
  obtain⟨rfl,rfl⟩:=kz h;cases b<;>exact⟨by decide,rfl,rfl,rfl⟩
 | .v n,k,i,x,hv,h=>by
  obtain⟨rfl,rfl⟩:=kz h;refine⟨show 0<=Zl 2 by decide,?_,rfl,rfl⟩;have:n<64:=hv;rw[Qf rfl];simp only;omega
 | .not a,k,i,x,hv,h=>by
  have pa:=Yr a;rcases pK h with⟨hi,h⟩ | ⟨hi,h⟩
  ·exact sJ a k i x hv h
  ·rw[JU] at hi h;obtain⟨e,rfl⟩:=kz h;exact eQY (by omega)
 | .and a b,k,i,x,hv,h=>by
  have pa:=Yr a;have pb:=Yr b;rcases pK h with⟨hi,h⟩ | ⟨hi,h⟩
  ·rcases pK h with⟨hi,h⟩ | ⟨hi,h⟩
   ·exact sJ a k i x hv.1 h
   ·rw[JU] at hi h;have:=sJ b (k+QE a) (i-QE a) x hv.2 h
    rwa [show k+QE a+(i-QE a)=k+i by omega] at this
  ·rw[Qq,JU,JU] at hi h;obtain⟨e,rfl⟩:=kz h;exact eQZ (by omega) (by omega)
 | .or a b,k,i,x,hv,h=>by
  have pa:=Yr a;have pb:=Yr b;rcases pK h with⟨hi,h⟩ | ⟨hi,h⟩
  ·rcases pK h with⟨hi,h⟩ | ⟨hi,h⟩
   ·exact sJ a k i x hv.1 h
   ·rw[JU] at hi h;have:=sJ b (k+QE a) (i-QE a) x hv.2 h
    rwa [show k+QE a+(i-QE a)=k+i by omega] at this
  ·rw[Qq,JU,JU] at hi h;obtain⟨e,rfl⟩:=kz h;exact eQ0 (by omega) (by omega)
theorem vJ (l m:List Fz):JJ (l++m)=JJ l++JJ m:=by simp[JJ]
theorem eQ1 (j:Nat):JJ [⟨3,0,(j:Nat),0⟩]=[j]:=by
 show YH _++ []=_;unfold YH;rw[show Zl (Fz.o ⟨3,0,(j:Nat),0⟩)=1 from rfl];simp
theorem eQ2 (j k:Nat):JJ [⟨4,0,(j:Nat),(k:Nat)⟩]=[j,k]:=by
 show YH _++ []=_;unfold YH;rw[show Zl (Fz.o ⟨4,0,(j:Nat),(k:Nat)⟩)=2 from rfl];simp
theorem eQ3 (j k:Nat):JJ [⟨5,0,(j:Nat),(k:Nat)⟩]=[j,k]:=by
 show YH _++ []=_;unfold YH;rw[show Zl (Fz.o ⟨5,0,(j:Nat),(k:Nat)⟩)=2 from rfl];simp
theorem sK:∀(t:Fm)(k j:Nat),(JJ (X4 t k)).count j=if k<=j/\j+1<k+QE t then 1 else 0
 | .c b,k,j=>by
  rw[if_neg (by simp only[QE];omega)];cases b<;>rfl
 | .v n,k,j=>by
  rw[if_neg (by simp only[QE];omega)];rfl
 | .not a,k,j=>by
  have pa:=Yr a;show _=if k<=j/\j+1<k+(QE a+1)then 1 else 0
  simp only[X4];rw[vJ,D0,eQ1,sK a k j,List.count_singleton];simp only[beq_iff_eq];by_cases h1:k<=j/\j+1<k+QE a
  ·rw[Qf h1,if_neg (by omega),Qf (by omega)]
  ·rw[if_neg h1];by_cases h2:k+QE a-1=j
   ·rw[Qf h2,Qf (by omega)]
   ·rw[if_neg h2,if_neg (by omega)]
 | .and a b,k,j=>by
  have pa:=Yr a;have pb:=Yr b;show _=if k<=j/\j+1<k+(QE a+QE b+1)then 1 else 0
  simp only[X4];rw[vJ,vJ,D0,D0,eQ2,sK a k j,sK b _ j,yT,List.count_singleton];simp only[beq_iff_eq];by_cases h1:k<=j/\j+1<k+QE a
  ·rw[Qf h1,if_neg (by omega),if_neg (by omega),if_neg (by omega),Qf (by omega)]
  ·rw[if_neg h1];by_cases h2:k+QE a<=j/\j+1<k+QE a+QE b
   ·rw[Qf h2,if_neg (by omega),if_neg (by omega),Qf (by omega)]
   ·rw[if_neg h2];by_cases h3:k+QE a-1=j
    ·rw[if_neg (by omega),Qf h3,Qf (by omega)]
    ·rw[if_neg h3];by_cases h4:k+QE a+QE b-1=j
     ·rw[Qf h4,Qf (by omega)]
     ·rw[if_neg h4,if_neg (by omega)]
 | .or a b,k,j=>by
  have pa:=Yr a;have pb:=Yr b;show _=if k<=j/\j+1<k+(QE a+QE b+1)then 1 else 0
  simp only[X4];rw[vJ,vJ,D0,D0,eQ3,sK a k j,sK b _ j,yT,List.count_singleton];simp only[beq_iff_eq];by_cases h1:k<=j/\j+1<k+QE a
  ·rw[Qf h1,if_neg (by omega),if_neg (by omega),if_neg (by omega),Qf (by omega)]
  ·rw[if_neg h1];by_cases h2:k+QE a<=j/\j+1<k+QE a+QE b
   ·rw[Qf h2,if_neg (by omega),if_neg (by omega),Qf (by omega)]
   ·rw[if_neg h2];by_cases h3:k+QE a-1=j
    ·rw[if_neg (by omega),Qf h3,Qf (by omega)]
    ·rw[if_neg h3];by_cases h4:k+QE a+QE b-1=j
     ·rw[Qf h4,Qf (by omega)]
     ·rw[if_neg h4,if_neg (by omega)]
theorem PB {t:Fm}(hv:VarsIn 64 t)(hs:QE t<=512):FV (X4 t 0):=by
 refine⟨by rw[JU];exact hs,by rw[JU];exact Yr t,λi x hx=>by have:=sJ t 0 i x hv hx;rwa [Wh] at this,λi hi=>?_⟩;rw[sK,Qf];rw[JU] at hi;omega
instance decVars (n:Nat):∀t:Fm,Decidable (VarsIn n t)
 | .c _=>isTrue trivial
 | .v k=>inferInstanceAs (Decidable (k<n))
 | .not a=>decVars n a
 | .and a b=> @instDecidableAnd _ _ (decVars n a) (decVars n b)
 | .or a b=> @instDecidableAnd _ _ (decVars n a) (decVars n b)
theorem VarsIn.mono {n m:Nat}(h:n<=m):∀{t:Fm},VarsIn n t->VarsIn m t
 | .c _,_=>trivial
 | .v _,hv=>VT hv h
 | .not a,hv=>VarsIn.mono (t:=a) h hv
 | .and _ _,hv=>⟨VarsIn.mono h hv.1,VarsIn.mono h hv.2⟩
 | .or _ _,hv=>⟨VarsIn.mono h hv.1,VarsIn.mono h hv.2⟩
theorem sL:∀(t:Fm)(n k:Nat),VarsIn n t->mi n (X4 t k)
 | .c b,n,k,_=>λx hx ho=>by
  simp only[X4,QN] at hx;subst hx;cases b<;>simp at ho
 | .v j,n,k,hv=>λx hx ho=>by
  simp only[X4,QN] at hx;subst hx;have:j<n:=hv;simp only;omega
 | .not a,n,k,hv=>λx hx ho=>by
  simp only[X4,XM,QN] at hx;rcases hx with hx | rfl
  ·exact sL a n k hv x hx ho
  ·simp at ho
 | .and a b,n,k,hv=>λx hx ho=>by
  simp only[X4,XM,QN] at hx;rcases hx with(hx | hx) | rfl
  ·exact sL a n k hv.1 x hx ho
  ·exact sL b n _ hv.2 x hx ho
  ·simp at ho
 | .or a b,n,k,hv=>λx hx ho=>by
  simp only[X4,XM,QN] at hx;rcases hx with(hx | hx) | rfl
  ·exact sL a n k hv.1 x hx ho
  ·exact sL b n _ hv.2 x hx ho
  ·simp at ho
end
end
noncomputable section
section
def Z5 (x:Fz)(f:List Fz):Nat×List Fz:=if f.length<=512 then(f.length,f++ [x])else(f.length-1,f)
def Ko (bld:Int->List Fz->Nat×List Fz)(op v:Int)(pos:Bool)(num:Int)(f:List Fz):Nat×List Fz:=
 let p:=Z5 ⟨2,v,0,0⟩ f
 let a:=if pos then p else Z5 ⟨3,0,(p.1:Nat),0⟩ p.2
 if op=4/\num=1 then a else
  let c:=bld num a.2
  Z5 ⟨op,0,(a.1:Nat),(c.1:Nat)⟩ c.2
def Zr (
     nd:List Br):Nat->Int->List Fz->Nat×List Fz
 | 0,_,f=>(0,f)
 | m+1,n,f=>if n<2∨512<f.length then Z5 ⟨min n 1,0,0,0⟩ f else
   match nd[(n-2).toNat]? with
   | none=>(0,f)
   | some b=>
    if b.l=0 then Ko (Zr nd m) 4 b.v true b.h f else
    if b.h=0 then Ko (Zr nd m) 4 b.v false b.l f else
    if b.h=1 then Ko (Zr nd m) 5 b.v true b.l f else
    if b.l=1 then Ko (Zr nd m) 5 b.v false b.h f else
     let hi:=Ko (Zr nd m) 4 b.v true b.h f
     let lo:=Ko (Zr nd m) 4 b.v false b.l hi.2
     Z5 ⟨5,0,(hi.1:Nat),(lo.1:Nat)⟩ lo.2
structure Cn (w:World) (base x:Nat) (NA:Option Addr) (nn nc:Nat) (nd:List Br) (root:Int) (A:Option Addr) (c:Nat) (f:List Fz):Prop where
 blk:Blk w x 277 [.slice NA nn nc,.int .i64 root,.slice A f.length c]
 own:Own w base 280 4 A f.length c (l9 f)
 lt:x<base
 top:base<=w.heap.size
 nds:SB w NA nn nc nd
 row:∀ad,NA=some ad->0<nn->ad.block<base/\ad.block≠x
 lim:f.length<=513
def CnTo (w:World)(base x:Nat)(NA:Option Addr)(nn nc:Nat)(nd:List Br)(root:Int)(A:Option Addr)(f:List Fz)(w':World):Prop:=∃A' c',Cn w' base x NA nn nc nd root A' c' f/\Mod (RdS x A) w w'/\Moved w A A'
section
variable {base x:Nat} {NA:Option Addr} {nn nc:Nat} {nd:List Br} {root:Int}
theorem Cn.ext {w w':World}{A:Option Addr}{c:Nat}{f:List Fz}(h:Cn w base x NA nn nc nd root A c f)(k:Ext w w'):Cn w' base x NA nn nc nd root A c f:=
 ⟨h.blk.ext k,h.own.ext k,h.lt,Zc h.top k.size,h.nds.ext k,h.row,h.lim⟩
theorem CnTo.step {w w1 w2:World}{A A1:Option Addr}{f:List Fz}(h:CnTo w1 base x NA nn nc nd root A1 f w2)(hm:Mod (RdS x A) w w1)(hv:Moved w A A1):CnTo w base x NA nn nc nd root A f w2:=by
 obtain⟨A2,c2,h2,XQ,Kb⟩:=h;exact⟨A2,c2,h2,RdS.trans hm hv XQ,hv.trans Kb hm.size⟩
theorem Cn.keep {w w':World}{A:Option Addr}{c:Nat}{f:List Fz}(h:Cn w base x NA nn nc nd root A c f)(hm:Mod (RdS x A) w w'):SB w' NA nn nc nd:=by
 refine⟨h.nds.1.modS hm ?_,h.nds.2⟩;rintro h0 i ⟨ad,rfl,rfl⟩ hi;obtain⟨r1,r2⟩:=h.row ad rfl h0;rcases hi with hi | hi
 ·exact r2 hi
 ·have:=(h.own.rows _ hi).1;omega
theorem pL (A:Option Addr)(c:Nat)(f:List Fz)(z:Fz)(w:World)(h:Cn w base x NA nn nc nd root A c f):
  Fn Tryz.prog 221 [.pointer (some ⟨x,0,none⟩),.agg z.cells.toArray] w (λv w'=>v= .int .i64 ((Z5 z f).1:Nat)/\CnTo w base x NA nn nc nd root A (Z5 z f).2 w'):=by
 refine QF (c:={dQe with cuts:=[]}) Qa Tryz.func221 rfl rfl rfl ?_;refine new (λw1 Qe Q4 Qh=>?_);have h1:=h.ext Qe;have eo:=h.lim;have VQ:=h.own.rows;have Xc:=h.lt;have lD:=h.top;have dh:¬Qk A x:=λhr=>by have:=(VQ x hr).1;omega
 refine Qo h1.blk rfl ?_;refine Qz (λhl=>?_) (λhl=>?_)
 ·have Zz:f.length<=512:=by omega
  have e:Z5 z f=(f.length,f++ [z]):=by unfold Z5;rw[Qf Zz]
  rw[e];refine XK Qa (Mod (Qk A) w1) 8 [(true,0),(true,1),(true,2),(true,3),(true,4),(true,5),(false,6),(false,7)] (by kernel_rfl) (Mod.of_ext _ (Ext.drew w1)) ?_;refine QK (v:=.slice A f.length c) (λw' Qb=>by rw[(h1.blk.mod Qb dh).cell];rfl) ?_;have Ha:¬Qk A w.heap.size:=λhr=>by have:=(VQ _ hr).2;omega
  refine Xs (vs:=z.cells) rfl (λw' Qb j v hj=>by rw[(Qh.mod Qb Ha).cell];exact hj) ?_;refine Xh Qa [z.cells] rfl rfl rfl rfl rfl ⟨rfl,rfl,⟨⟩⟩ rfl (λcs h=>by simp only[QN] at h;subst h;rfl) rfl (by decide) (by decide) ?_;intro w2 Qg Zb Qx;have Xv:=(Ext.drew w1).trans Qg;have h2:=h1.ext Xv;refine⟨Mod.of_ext _ Xv,?_⟩;have kS:Sl w2 4 (some ⟨w1.drew.heap.size,0,none⟩) 1 1 z.cells:=Sl.own (sz:=4) (n:=1) Qx (QB _) (by decide) (by simp[Fz.cells]);refine Z4 Qa rfl rfl rfl rfl rfl (by decide) rfl rfl ⟨_,rfl⟩ rfl rfl h2.own kS (by intro u hu;simp[Fz.cells] at hu;rcases hu with rfl | rfl | rfl | rfl<;>rfl) (by unfold maxLen;omega) (by show _*32<=_;omega) h2.top ?_;intro A' c' w3 XC mX Bg;have Kj:Mod (Qk A) w1 w3:=(Mod.of_ext (Qk A) Xv).trans XC (λi hi=>.inl hi);refine⟨Kj,?_⟩;refine XP (h1.blk.mod Kj dh) (by simp) (λw4 X5 Q7=>?_);refine Qo Q7 rfl ?_;have hz:=Xv.size;have KH:Mod (RdS x A) w w4:=((Mod.of_ext (RdS x A) Qe).trans Kj (λi hi=>.inl (.inr hi))).trans X5 (λi hi=>.inl (.inl hi));refine Qi ((f.length:Nat):Int) (by omega) (by omega) ?_;refine⟨rfl,A',c',⟨?_,?_,Xc,Zc lD KH.size,h.keep KH,h.row,?_⟩,KH,Bg.back (Zc Qe.size hz)⟩
  ·show Blk w4 x _ [_,_,.slice A' (f++ [z]).length c'];rw[Qq];exact Q7
  ·show Own w4 base _ 4 A' (f++ [z]).length c' (l9 (f++ [z]));rw[Qq,Ox];exact mX.mod X5 (λk hk e=>by have:=(mX.rows k hk).1;omega)
  ·show(f++ [z]).length<=513;rw[Qq];simp only[Q6,Jn];omega
 ·have Zz:¬f.length<=512:=by omega
  have e:Z5 z f=(f.length-1,f):=by unfold Z5;rw[if_neg Zz]
  rw[e];refine Qo h1.blk rfl ?_;refine Qi ((f.length-1:Nat):Int) (by omega) (by omega) ?_;exact⟨rfl,A,c,h1,Mod.of_ext _ Qe,Moved.refl _ _⟩
def PC (base x:Nat)(NA:Option Addr)(nn nc:Nat)(nd:List Br)(root:Int)(m:Nat):Prop:=∀(n:Int)(f:List Fz)(A:Option Addr)(c:Nat)(w:World),Cn w base x NA nn nc nd root A c f->0<=n->n<m->n<nn+2->
 Fn Tryz.prog 192 [.pointer (some ⟨x,0,none⟩),.int .i64 n] w (λv w'=>v= .int .i64 ((Zr nd m n f).1:Nat)/\CnTo w base x NA nn nc nd root A (Zr nd m n f).2 w')
theorem sM (m:Nat)(H:PC base x NA nn nc nd root m)(op v:Int)(pos:Bool)(n:Int)(f:List Fz)(A:Option Addr)(c:Nat)(w:World)(h:Cn w base x NA nn nc nd root A c f)(h0:0<=n)(hm:n<m)(hn:n<nn+2):
  Fn Tryz.prog 222 [.pointer (some ⟨x,0,none⟩),.int .i64 op,.int .i64 v,.bool pos,.int .i64 n] w (λu w'=>u= .int .i64 ((Ko (Zr nd m) op v pos n f).1:Nat)/\CnTo w base x NA nn nc nd root A (Ko (Zr nd m) op v pos n f).2 w'):=by
 refine QF (c:={dQf with cuts:=[2]}) Qa Tryz.func222 rfl rfl rfl ?_;refine call (pL A c f ⟨2,v,0,0⟩ w h) ?_;rintro _ w1 ⟨rfl,A1,c1,h1,Zt,kU⟩;refine fO [] Qa [11] (λa:Nat=>[.int .i64 a]) (λa w'=>a=(if pos then Z5 ⟨2,v,0,0⟩ f else Z5 ⟨3,0,((Z5 ⟨2,v,0,0⟩ f).1:Nat),0⟩ (Z5 ⟨2,v,0,0⟩ f).2).1/\CnTo w base x NA nn nc nd root A (if pos then Z5 ⟨2,v,0,0⟩ f else Z5 ⟨3,0,((Z5 ⟨2,v,0,0⟩ f).1:Nat),0⟩ (Z5 ⟨2,v,0,0⟩ f).2).2 w') ?_ ?_
 ·refine l6 (WI (λhp=>?_) (λhp=>?_))
  ·subst hp;exact⟨_,rfl,rfl,A1,c1,h1,Zt,kU⟩
  ·subst hp;refine call (pL A1 c1 _ ⟨3,0,((Z5 ⟨2,v,0,0⟩ f).1:Nat),0⟩ w1 h1) ?_;rintro _ w2 ⟨rfl,h2⟩;exact⟨_,rfl,rfl,h2.step Zt kU⟩
 rintro a w2 ⟨ha,A2,c2,h2,XQ,Kb⟩;unfold Ko;generalize hq:(if pos then Z5 ⟨2,v,0,0⟩ f else Z5 ⟨3,0,((Z5 ⟨2,v,0,0⟩ f).1:Nat),0⟩ (Z5 ⟨2,v,0,0⟩ f).2)=q at*;subst ha;simp only[hq];by_cases yd:op=4/\n=1
 ·rw[Qf yd];refine Jp yd.1 ?_;refine Jp yd.2 ?_;exact⟨rfl,A2,c2,h2,XQ,Kb⟩
 ·rw[if_neg yd];by_cases h4:op=4
  ·refine Jp h4 ?_;refine Xy (λh1=>yd ⟨h4,h1⟩) ?_;refine call (H n q.2 A2 c2 w2 h2 h0 hm hn) ?_;rintro _ w3 ⟨rfl,A3,c3,h3,XC,aA⟩;refine call (pL A3 c3 _ ⟨op,0,(q.1:Nat),((Zr nd m n q.2).1:Nat)⟩ w3 h3) ?_;rintro _ w4 ⟨rfl,h4⟩;exact⟨rfl,(h4.step XC aA).step XQ Kb⟩
  ·refine Xy h4 ?_;refine call (H n q.2 A2 c2 w2 h2 h0 hm hn) ?_;rintro _ w3 ⟨rfl,A3,c3,h3,XC,aA⟩;refine call (pL A3 c3 _ ⟨op,0,(q.1:Nat),((Zr nd m n q.2).1:Nat)⟩ w3 h3) ?_;rintro _ w4 ⟨rfl,h4⟩;exact⟨rfl,(h4.step XC aA).step XQ Kb⟩
theorem PD (Wy:aj nd):∀m,PC base x NA nn nc nd root m
 | 0=>λn f A c w _ h0 hm _=>by omega
 | m+1=>λn f A c w h h0 hm hn=>by
  have ih:=PD Wy m;have eo:=h.lim;have Kl:nd.length=nn:=h.nds.2;refine QF (c:={cQX with cuts:=[]}) Qa Tryz.func192 rfl rfl rfl ?_;by_cases h1:n<2
  ·have e:Zr nd (m+1) n f=Z5 ⟨min n 1,0,0,0⟩ f:=by rw[Zr,Qf (.inl h1)]
   rw[e];refine Zh h1 ?_;refine norm (m:=min n 1) (by rw[Z3];split<;>split<;>omega) ?_;refine call (pL A c f ⟨min n 1,0,0,0⟩ w h) ?_;rintro _ w1 ⟨rfl,h1⟩;exact⟨rfl,h1⟩
  refine XD h1 ?_;refine Qo h.blk rfl ?_;by_cases h2:512<f.length
  ·have e:Zr nd (m+1) n f=Z5 ⟨min n 1,0,0,0⟩ f:=by rw[Zr,Qf (.inr h2)]
   rw[e];refine Zh (by omega) ?_;refine norm (m:=min n 1) (by rw[Z3];split<;>split<;>omega) ?_;refine call (pL A c f ⟨min n 1,0,0,0⟩ w h) ?_;rintro _ w1 ⟨rfl,h1⟩;exact⟨rfl,h1⟩
  refine XD (by omega) ?_;have hj:(n-2).toNat<nd.length:=by omega
  have hx:=Xp hj;generalize nd[(n-2).toNat]=y at hx;obtain⟨x1,x2,x3,x4⟩:=Wy _ _ hx;have e:Zr nd (m+1) n f=(if y.l=0 then Ko (Zr nd m) 4 y.v true y.h f else
    if y.h=0 then Ko (Zr nd m) 4 y.v false y.l f else
    if y.h=1 then Ko (Zr nd m) 5 y.v true y.l f else
    if y.l=1 then Ko (Zr nd m) 5 y.v false y.h f else
     Z5 ⟨5,0,((Ko (Zr nd m) 4 y.v true y.h f).1:Nat),((Ko (Zr nd m) 4 y.v false y.l (Ko (Zr nd m) 4 y.v true y.h f).2).1:Nat)⟩ (Ko (Zr nd m) 4 y.v false y.l (Ko (Zr nd m) 4 y.v true y.h f).2).2):=by
   rw[Zr,if_neg (by omega),hx]
  rw[e];refine QD h.blk rfl ?_;refine Qi (((n-2).toNat:Nat):Int) (by omega) (by have:=h.nds.1.le;have:=h.nds.1.cap;simp only[maxLen] at this;omega) ?_;refine Zv ah h.nds rfl (by omega) (λad z hy fq=>?_);have iE:z=y:=Option.some.inj (hy.symm.trans hx);subst iE;refine Kn (vs:=z.cells) rfl fq ?_;refine new (λw1 Qe Q4 Qh=>?_);refine Qv Qh rfl (sc rfl) (λw2 cU Zb Kw=>?_);have Qg:Ext w w2:=X9 Qe Qh cU;have nu:Mod (RdS x A) w w2:=Mod.of_ext _ Qg;have Jt:=h.ext Qg;have iG:¬RdS x A w.heap.size:=λe=>by
   have:=h.blk.lt;rcases e with e | e
   ·omega
   ·have:=(h.own.rows _ e).2;omega
  refine Qo Kw rfl ?_;refine X3 (λc1=>?_) (λc1=>?_)
  ·rw[Qf c1];refine QD Kw rfl ?_;refine Qo Kw rfl ?_;refine call (sM m ih 4 z.v true z.h f A c w2 Jt x3 (by omega) (by omega)) ?_;rintro _ w3 ⟨rfl,h3⟩;exact⟨rfl,h3.step nu (Moved.refl _ _)⟩
  rw[if_neg c1];refine Qo Kw rfl ?_;refine X3 (λc2=>?_) (λc2=>?_)
  ·rw[Qf c2];refine QD Kw rfl ?_;refine Qo Kw rfl ?_;refine call (sM m ih 4 z.v false z.l f A c w2 Jt x1 (by omega) (by omega)) ?_;rintro _ w3 ⟨rfl,h3⟩;exact⟨rfl,h3.step nu (Moved.refl _ _)⟩
  rw[if_neg c2];refine Qo Kw rfl ?_;refine X3 (λc3=>?_) (λc3=>?_)
  ·rw[Qf c3];refine QD Kw rfl ?_;refine Qo Kw rfl ?_;refine call (sM m ih 5 z.v true z.l f A c w2 Jt x1 (by omega) (by omega)) ?_;rintro _ w3 ⟨rfl,h3⟩;exact⟨rfl,h3.step nu (Moved.refl _ _)⟩
  rw[if_neg c3];refine Qo Kw rfl ?_;refine X3 (λc4=>?_) (λc4=>?_)
  ·rw[Qf c4];refine QD Kw rfl ?_;refine Qo Kw rfl ?_;refine call (sM m ih 5 z.v false z.h f A c w2 Jt x3 (by omega) (by omega)) ?_;rintro _ w3 ⟨rfl,h3⟩;exact⟨rfl,h3.step nu (Moved.refl _ _)⟩
  rw[if_neg c4];refine QD Kw rfl ?_;refine Qo Kw rfl ?_;refine call (sM m ih 4 z.v true z.h f A c w2 Jt x3 (by omega) (by omega)) ?_;rintro _ w3 ⟨rfl,A3,c3,h3,XC,aA⟩;have Vg:=Kw.mod XC iG;refine QD Vg rfl ?_;refine Qo Vg rfl ?_;refine call (sM m ih 4 z.v false z.l _ A3 c3 w3 h3 x1 (by omega) (by omega)) ?_;rintro _ w4 ⟨rfl,A4,c4,h4,X5,mZ⟩;refine call (pL A4 c4 _ ⟨5,0,((Ko (Zr nd m) 4 z.v true z.h f).1:Nat),((Ko (Zr nd m) 4 z.v false z.l (Ko (Zr nd m) 4 z.v true z.h f).2).1:Nat)⟩ w4 h4) ?_;rintro _ w5 ⟨rfl,h5⟩;exact⟨rfl,(((h5.step X5 mZ).step XC aA)).step nu (Moved.refl _ _)⟩
end
end
section
def an (nd:List Br)(root:Int):List Fz×Int:=if XL nd root=0 then(if 512<(Zr nd (root.toNat+1) root []).2.length then([],2)else((Zr nd (root.toNat+1) root []).2,0))else([],XL nd root)
def sN (names:List (List Nat))(nd:List Br)(root:Int):List Nat×Int:=if ZF names then(if(an nd root).2=0 then kc names (an nd root).1 else([],(an nd root).2))else([],1)
theorem of_fn (A:Option Addr)(n c:Nat)(nd:List Br)(root:Int)(w:World)(h:SB w A n c nd):
  Fn Tryz.prog 133 [Xk A n c root] w (EU w (an nd root)):=by
 have QY:=h.2;refine QF (c:={cQl with cuts:=[]}) Qa Tryz.func133 rfl rfl rfl ?_;refine new (λw1 Qe Q4 Qh=>?_);refine Qt Qh rfl ?_;refine call (zM A n c nd root w1 (h.ext Qe)) ?_;rintro v w2 ⟨rfl,Qg⟩;have Q5:=Qe.trans Qg;have Qx:=Qh.ext Qg;refine bI (λc1=>?_) (λc1=>?_)
 ·refine⟨none,0,0,?_,Q5,?_⟩
  ·unfold an;rw[if_neg c1]
  ·unfold an;rw[if_neg c1];exact SlS.nil _
 obtain⟨gu,hv⟩:=gK.1 c1;have Wy:=hv.wf;refine Qt Qx rfl ?_;refine new (λw3 Qj JC Qu=>?_);have QX:=Q5.trans Qj;have kQb:=Qg.size;have hC:Cn w3 w3.heap.size w2.heap.size A n c nd root none 0 []:=⟨Qu,Own.nil _ _ _ _,by omega,QB _,h.ext QX,λad e hn=>by
  have h1:=SB.lt (h.ext Q5) ad e hn;exact⟨by omega,by omega⟩,by simp⟩
 refine Qo (Qx.ext Qj) rfl ?_;have r0:=hv.2.1;have r1:=hv.2.2.1;refine call (PD Wy (root.toNat+1) root [] none 0 w3 hC r0 (by omega) (by omega)) ?_;rintro v w4 ⟨rfl,A4,c4,HD,X5,mZ⟩;have Qs:Ext w w4:=X5.ext QX (λi hi=>by
  rcases hi with rfl | ⟨_,e,_⟩
  ·have:=Q5.size;omega
  ·cases e)
 refine Qo HD.blk rfl ?_;refine Qz (λc2=>?_) (λc2=>?_)
 ·have e:an nd root=([],2):=by unfold an;rw[Qf c1,Qf (by omega)]
  rw[e];exact⟨none,0,0,rfl,Qs,SlS.nil _⟩
 ·have e:an nd root=((Zr nd (root.toNat+1) root []).2,0):=by unfold an;rw[Qf c1,if_neg (by omega)]
  rw[e];refine Qo HD.blk rfl ?_;exact⟨A4,_,c4,rfl,Qs,HD.own.sl,rfl⟩
theorem eQ4 (names:List (List Nat))(A NA:Option Addr)(n c nn nc:Nat)(nd:List Br)(root:Int)(w:World)(h:Sl w 1 A n c (XB names))(hb:Ku names)(hN:SB w NA nn nc nd)
  (hl:(ZP names 0 (fV (an nd root).1)).length<=140737488355328):
  Fn Tryz.prog 86 [.slice A n c,Xk NA nn nc root] w (OQ w (sN names nd root)):=by
 refine QF (c:={c86 with cuts:=[]}) Qa Tryz.func86 rfl rfl rfl ?_;refine new (λw1 Qe Q4 Qh=>?_);refine call (EL names A n c w1 (h.ext Qe) hb) ?_;rintro v w2 ⟨v1,rfl,Qg,_⟩;have Q5:=Qe.trans Qg;cases X0:ZF names with
 | false=>
  refine Q8 rfl ?_;exact⟨by unfold sN;rw[X0];rfl,Q5⟩
 | true=>
  refine Q3 rfl ?_;refine Qt (Qh.ext Qg) rfl ?_;refine call (of_fn NA nn nc nd root w2 (hN.ext Q5)) ?_;rintro v w3 ⟨F,m,cF,rfl,Qj,hF⟩;have QX:=Q5.trans Qj;have e:sN names nd root=if(an nd root).2=0 then kc names (an nd root).1 else([],(an nd root).2):=by unfold sN;rw[Qf X0]
  refine bI (λc1=>?_) (λc1=>?_)
  ·exact⟨by rw[e,if_neg c1];rfl,QX⟩
  ·refine call (eQc names A F n c m cF _ w3 (h.ext QX) hb hF (λ_ _=>hl)) ?_;rintro v w4 ⟨rfl,Qs⟩;exact⟨by rw[e,Qf c1],QX.trans Qs⟩
end
end
section
section
theorem Ff {w1 w2 w:World}{g:Nat}{r:(List Br×Int)×Int}{A:Option Addr}{n c:Nat}(hE:Ext w w1)(hM:Mod (·=g) w1 w2)(hg:w.heap.size<=g)(hs:SB w1 A n c r.1.1)(hr:∀i,Qk A i->g<i):
  Ext w w2/\SB w2 A n c r.1.1/\∀i,Qk A i->w.heap.size<=i:=
 ⟨hM.ext hE (λi hi=>by omega),⟨hs.1.modS hM (λ_ i hi e=>by have:=hr i hi;omega),hs.2⟩,λi hi=>by have:=hr i hi;omega⟩
end
section
theorem eQ5 {names:List (List Nat)}(h:names.all (λs=>s.all (λx=>decide (x<256))&&decide (s.length<=100))=true):Ku names:=λs hs=>by
 have:=Ym.1 h s hs;rw[Jl,Vm] at this;exact⟨λx hx=>by have:=Ym.1 this.1 x hx;simpa using this,by omega⟩
theorem eQ6 {k:Int}(h0:0<=k)(h1:k<=63):Rd0 [⟨k,0,1⟩]:=λj b hb=>by
 obtain⟨rfl,rfl⟩:=kz hb;refine⟨h0,h1,lS 0,?_,(by decide:(0:Int)<=1),?_,(by decide:(0:Int)≠1),by simp,?_,?_⟩
 ·simp only;omega
 ·simp only;omega
 ·rw[gL (by simp only;omega)];simp only;omega
 ·rw[gL (by simp only;omega)];simp only;omega
theorem zX {k:Int}(h0:0<=k)(h1:k<=63):VD [⟨k,0,1⟩] 2:=⟨eQ6 h0 h1,by decide,by simp,rfl⟩
end
section
end
def ZJ:List (List Nat):=[[65],[66],[67],[68],[108,111,110,103,95,110,97,109,101],[95],[120,49],[84,82,85,69],[116],[102],[116,114,117],[102,97,108,115,101,101]]
theorem eQ7 (k:Nat)(w:World)(hk:k<=12):
  Fn Tryz.prog 51 [.int .i64 k] w (λv w'=>∃A c,v= .slice A k c/\Ext w w'/\Sl w' 1 A k c (XB (ZJ.take k))):=by
 refine QF (c:={c51 with cuts:=[]}) Qa Tryz.func51 rfl rfl rfl ?_;refine Xh Qa (ZJ.map (λs=>[.string (Qd s)])) rfl rfl rfl rfl rfl ⟨rfl,rfl,rfl,rfl,rfl,rfl,rfl,rfl,rfl,rfl,rfl,rfl,rfl,rfl,rfl,rfl,rfl,rfl,rfl,rfl,rfl,rfl,rfl,rfl,⟨⟩⟩ rfl (λcs h=>by simp only[X7] at h;obtain⟨s,_,rfl⟩:=h;rfl) rfl (by decide) (by decide) ?_;intro w1 Qe Q4 Qh;refine iX Qa rfl rfl rfl rfl rfl rfl hk ?_;have hS:Sl w1 1 (some ⟨w.heap.size,0,none⟩) 12 12 (XB ZJ):=Sl.own' (n:=12) Qh rfl (by decide);have:=hS.take (m:=k) hk;rw[YT] at this;exact⟨_,12,rfl,Qe,by rw[show XB (ZJ.take k)=(XB ZJ).take k by simp[XB]];exact this⟩
theorem eQ8 (k:Nat)(hk:k<=12):Ku (ZJ.take k)/\ZF (ZJ.take k)=true/\(ZJ.take k).length=k:=by
 have hb:Ku ZJ:=eQ5 (by decide);have hb':Ku (ZJ.take k):=λs hs=>hb s (aN hs)
 have hl:(ZJ.take k).length=k:=by rw[K8];show min k 12=k;omega
 refine⟨hb',(Px hb').2 ⟨?_,List.Nodup.sublist (List.take_sublist k ZJ) (by decide),by omega⟩,hl⟩;have:ZJ.all af=true:=by decide
 exact Ym.2 (λs hs=>Ym.1 this s (aN hs))
def Ws (v:Nat)(pos:Bool):Fm:=if pos then .v v else .not (.v v)
def Ys (nd:List Br):Nat->Int->Fm
 | 0,_=>.c false
 | m+1,n=>if n<2 then .c (decide (n=1))else match nd[(n-2).toNat]? with
  | none=>.c false
  | some b=>if b.h<2/\b.l<2 then Ws b.v.toNat (decide (b.h=1))
   else if b.l=0 then .and (Ws b.v.toNat true) (Ys nd m b.h)
   else if b.h=0 then .and (Ws b.v.toNat false) (Ys nd m b.l)
   else if b.h=1 then .or (Ws b.v.toNat true) (Ys nd m b.l)
   else if b.l=1 then .or (Ws b.v.toNat false) (Ys nd m b.h)
   else .or (.and (Ws b.v.toNat true) (Ys nd m b.h)) (.and (Ws b.v.toNat false) (Ys nd m b.l))
def cf (nd:List Br)(n:Int):Fm:=Ys nd (n.toNat+1) n
theorem PE {nd:List Br}{m:Nat}{n:Int}(h:n<2):Ys nd (m+1) n= .c (decide (n=1)):=by rw[Ys,Qf h]
theorem PF {nd:List Br}{m:Nat}{n:Int}{b:Br}(h:¬n<2)(hb:nd[(n-2).toNat]? =some b):Ys nd (m+1) n=if b.h<2/\b.l<2 then Ws b.v.toNat (decide (b.h=1))
   else if b.l=0 then .and (Ws b.v.toNat true) (Ys nd m b.h)
   else if b.h=0 then .and (Ws b.v.toNat false) (Ys nd m b.l)
   else if b.h=1 then .or (Ws b.v.toNat true) (Ys nd m b.l)
   else if b.l=1 then .or (Ws b.v.toNat false) (Ys nd m b.h)
   else .or (.and (Ws b.v.toNat true) (Ys nd m b.h)) (.and (Ws b.v.toNat false) (Ys nd m b.l)):=by rw[Ys,if_neg h,hb]
def evF:Fm->(Nat->Bool)->Bool
 | .c b,_=>b
 | .v n,e=>e n
 | .not a,e=> !evF a e
 | .and a b,e=>evF a e&&evF b e
 | .or a b,e=>evF a e||evF b e
theorem pM (v:Nat)(pos:Bool)(e:Nat->Bool):evF (Ws v pos) e=(e v==pos):=by
 cases pos<;>cases h:e v<;>simp[Ws,evF,h]
theorem PG {nd:List Br}(h:Rd0 nd)(e:Nat->Bool):∀(m:Nat)(n:Int),0<=n->n<m->n<nd.length+2->evF (Ys nd m n) e=ev nd n e
 | 0,n,h0,hm,_=>by omega
 | m+1,n,h0,hm,hn=>by
  by_cases h2:n<2
  ·rw[PE h2,JT h2]<;>rfl
  obtain⟨b,hb⟩:=Wq h2 hn;obtain⟨b1,b2,b3,b4,b5,b6,b7,b8,b9,bX⟩:=h _ _ hb;have ihl:=PG h e m b.l b3 (by omega) (by omega);have ihh:=PG h e m b.h b5 (by omega) (by omega);rw[PF h2 hb,dN h.wf h2 hb];split
  ·rename_i hc;rw[pM,JT hc.1,JT hc.2];have:b.l=1↔¬b.h=1:=by omega
   by_cases hh:b.h=1
   ·rw[Zy hh,Zq (λhl=>(this.1 hl) hh)];cases e b.v.toNat<;>rfl
   ·rw[Zq hh,Zy (this.2 hh)];cases e b.v.toNat<;>rfl
  ·split
   ·rename_i hl;simp only[evF];rw[pM,ihh,JT (n:=b.l) (by omega),hl];cases e b.v.toNat<;>simp
   ·split
    ·rename_i hh;simp only[evF];rw[pM,ihl,JT (n:=b.h) (by omega),hh];cases e b.v.toNat<;>simp
    ·split
     ·rename_i hh;simp only[evF];rw[pM,ihl,JT (n:=b.h) (by omega),hh];cases e b.v.toNat<;>simp
     ·split
      ·rename_i hl;simp only[evF];rw[pM,ihh,JT (n:=b.l) (by omega),hl];cases e b.v.toNat<;>simp
      ·simp only[evF];rw[pM,pM,ihh,ihl];cases e b.v.toNat<;>simp
theorem pN (x:Fz){f:List Fz}(h:f.length<=513):(Z5 x f).2.length=min 513 (f.length+1):=by
 unfold Z5;split
 ·simp;omega
 ·simp only;omega
theorem vK (x:Fz){f:List Fz}(h:f.length+1<=513):Z5 x f=(f.length,f++ [x]):=by unfold Z5;rw[Qf (by omega)]
structure BldOk (bld:List Fz->Nat×List Fz) (t:Fm):Prop where
 len:∀f,f.length<=513->(bld f).2.length=min 513 (f.length+QE t)
 eq:∀f,f.length+QE t<=513->bld f=(f.length+QE t-1,f++X4 t f.length)
def vL (v:Int)(pos:Bool)(f:List Fz):Nat×List Fz:=let p:=Z5 ⟨2,v,0,0⟩ f;if pos then p else Z5 ⟨3,0,(p.1:Nat),0⟩ p.2
theorem eQ9 {v:Int}(hv:0<=v)(pos:Bool):BldOk (vL v pos) (Ws v.toNat pos):=by
 have e:(⟨2,v,0,0⟩:Fz)=⟨2,(v.toNat:Nat),0,0⟩:=by rw[DT hv]
 cases pos with
 | true=>exact⟨λf hf=>by show(Z5 _ f).2.length=_;rw[pN _ hf];rfl,λf hf=>by show Z5 _ f=_;rw[vK _ hf,e];rfl⟩
 | false=>
  refine⟨λf hf=>?_,λf hf=>?_⟩
  ·show(Z5 _ (Z5 _ f).2).2.length=min 513 (f.length+2);rw[pN _ (by rw[pN _ hf];omega),pN _ hf];omega
  ·have QW:f.length+2<=513:=hf;show Z5 _ (Z5 _ f).2=_;rw[vK _ (f:=f) (by omega)];simp only;rw[vK _ (by simp;omega),e];simp[Ws,QE,X4]
theorem Fg {b1 b2:List Fz->Nat×List Fz}{t1 t2:Fm}(h1:BldOk b1 t1)(h2:BldOk b2 t2)(op:Int)(mk:Fm->Fm->Fm)(hs:∀a b,QE (mk a b)=QE a+QE b+1)
  (hp:∀a b k,X4 (mk a b) k=X4 a k++X4 b (k+QE a)++ [⟨op,0,((k+QE a-1:Nat):Int),((k+QE a+QE b-1:Nat):Int)⟩]):
  BldOk (λf=>let a:=b1 f;let c:=b2 a.2;Z5 ⟨op,0,(a.1:Nat),(c.1:Nat)⟩ c.2) (mk t1 t2):=by
 refine⟨λf hf=>?_,λf hf=>?_⟩
 ·have e1:=h1.len f hf;have e2:=h2.len (b1 f).2 (by omega);simp only;rw[pN _ (by omega),e2,e1,hs];omega
 ·rw[hs] at hf;have p1:=Yr t1;have p2:=Yr t2;simp only;rw[h1.eq f (by omega)];simp only;have l1:(f++X4 t1 f.length).length=f.length+QE t1:=by rw[Qq,JU]
  rw[h2.eq _ (by rw[l1];omega)];simp only;have l2:(f++X4 t1 f.length++X4 t2 (f++X4 t1 f.length).length).length=f.length+QE t1+QE t2:=by rw[Qq,l1,JU]
  rw[vK _ (by rw[l2];omega),l2,hs,hp,l1];simp;omega
theorem PH (bld:Int->List Fz->Nat×List Fz)(op v:Int)(pos:Bool)(num:Int)(f:List Fz):Ko bld op v pos num f=if op=4/\num=1 then vL v pos f else let a:=vL v pos f;let c:=bld num a.2;Z5 ⟨op,0,(a.1:Nat),(c.1:Nat)⟩ c.2:=rfl
theorem Fh {nd:List Br}(h:Rd0 nd):∀(m:Nat)(n:Int),0<=n->n<m->n<nd.length+2->BldOk (Zr nd m n) (Ys nd m n)
 | 0,n,h0,hm,_=>by omega
 | m+1,n,h0,hm,hn=>by
  by_cases h2:n<2
  ·have e:(⟨min n 1,0,0,0⟩:Fz)=⟨if decide (n=1)then 1 else 0,0,0,0⟩:=by
    rcases(by omega:n=0∨n=1)with rfl | rfl<;>rfl
   rw[PE h2];refine⟨λf hf=>?_,λf hf=>?_⟩
   ·rw[Zr,Qf (.inl h2),pN _ hf]<;>rfl
   ·rw[Zr,Qf (.inl h2),vK _ hf,e]<;>rfl
  obtain⟨b,hb⟩:=Wq h2 hn;obtain⟨b1,b2,b3,b4,b5,b6,b7,b8,b9,bX⟩:=h _ _ hb;have ihl:=Fh h m b.l b3 (by omega) (by omega);have ihh:=Fh h m b.h b5 (by omega) (by omega);have lit:=λp=>eQ9 (v:=b.v) b1 p
  have sd:∀(op:Int) (pos:Bool) (num:Int) (t:Fm),¬(op=4/\num=1)->BldOk (Zr nd m num) t->(op=4->BldOk (Ko (Zr nd m) op b.v pos num) (.and (Ws b.v.toNat pos) t))/\(op=5->BldOk (Ko (Zr nd m) op b.v pos num) (.or (Ws b.v.toNat pos) t)):=λop pos num t Xi ht=>by
   have e:Ko (Zr nd m) op b.v pos num=λf=>let a:=vL b.v pos f;let c:=Zr nd m num a.2;Z5 ⟨op,0,(a.1:Nat),(c.1:Nat)⟩ c.2:=by
    funext f;rw[PH,if_neg Xi]
   rw[e];refine⟨λh4=>?_,λh5=>?_⟩
   ·subst h4;exact Fg (lit pos) ht 4 .and (λ_ _=>rfl) (λ_ _ _=>rfl)
   ·subst h5;exact Fg (lit pos) ht 5 .or (λ_ _=>rfl) (λ_ _ _=>rfl)
  have short:∀(pos:Bool),Ko (Zr nd m) 4 b.v pos 1=vL b.v pos:=λpos=>by funext f;rw[PH,Qf ⟨rfl,rfl⟩]
  have main:∃B,BldOk B (Ys nd (m+1) n)/\∀f,¬512<f.length->Zr nd (m+1) n f=B f:=by
   rw[PF h2 hb];have unf:∀f,¬512<f.length->Zr nd (m+1) n f=if b.l=0 then Ko (Zr nd m) 4 b.v true b.h f else
     if b.h=0 then Ko (Zr nd m) 4 b.v false b.l f else
     if b.h=1 then Ko (Zr nd m) 5 b.v true b.l f else
     if b.l=1 then Ko (Zr nd m) 5 b.v false b.h f else
      let hi:=Ko (Zr nd m) 4 b.v true b.h f
      let lo:=Ko (Zr nd m) 4 b.v false b.l hi.2
      Z5 ⟨5,0,(hi.1:Nat),(lo.1:Nat)⟩ lo.2:=λf hf=>by
    rw[Zr,if_neg (λhh=>hh.elim h2 hf),hb]
   split
   ·rename_i hc;by_cases hl:b.l=0
    ·have hh:b.h=1:=by omega
     rw[Zy hh];exact⟨_,lit true,λf hf=>by rw[unf f hf,Qf hl,hh,short]⟩
    ·have hh:b.h=0:=by omega
     have XE:b.l=1:=by omega
     rw[Zq (by omega)];exact⟨_,lit false,λf hf=>by rw[unf f hf,if_neg hl,Qf hh,XE,short]⟩
   ·rename_i hc;split
    ·rename_i hl;exact⟨_,(sd 4 true b.h _ (by omega) ihh).1 rfl,λf hf=>by rw[unf f hf,Qf hl]⟩
    ·rename_i hl;split
     ·rename_i hh;exact⟨_,(sd 4 false b.l _ (by omega) ihl).1 rfl,λf hf=>by rw[unf f hf,if_neg hl,Qf hh]⟩
     ·rename_i hh;split
      ·rename_i Bt;exact⟨_,(sd 5 true b.l _ (by omega) ihl).2 rfl,λf hf=>by rw[unf f hf,if_neg hl,if_neg hh,Qf Bt]⟩
      ·rename_i Bt;split
       ·rename_i XE;exact⟨_,(sd 5 false b.h _ (by omega) ihh).2 rfl,λf hf=>by rw[unf f hf,if_neg hl,if_neg hh,if_neg Bt,Qf XE]⟩
       ·rename_i XE;exact⟨_,Fg ((sd 4 true b.h _ (by omega) ihh).1 rfl) ((sd 4 false b.l _ (by omega) ihl).1 rfl) 5 .or (λ_ _=>rfl) (λ_ _ _=>rfl),λf hf=>by rw[unf f hf,if_neg hl,if_neg hh,if_neg Bt,if_neg XE]⟩
  obtain⟨B,hB,fk⟩:=main;refine⟨λf hf=>?_,λf hf=>?_⟩
  ·by_cases h5:512<f.length
   ·rw[Zr,Qf (.inr h5),pN _ hf];have:=Yr (Ys nd (m+1) n);omega
   ·rw[fk f h5,hB.len f hf]
  ·have:=Yr (Ys nd (m+1) n);rw[fk f (by omega),hB.eq f hf]
theorem PI {nd:List Br}{root:Int}(hv:XL nd root=0):an nd root=if 512<QE (cf nd root)then([],2)else(X4 (cf nd root) 0,0):=by
 obtain⟨_,vd⟩:=gK.1 hv;have B:=Fh vd.rd0 (root.toNat+1) root vd.2.1 (by have:=vd.2.1;omega) vd.2.2.1;have e1:=B.len [] (by simp);unfold an;rw[Qf hv];simp only[Jn,Wh] at e1;have:Ys nd (root.toNat+1) root=cf nd root:=rfl;rw[this] at e1;by_cases h:512<QE (cf nd root)
 ·rw[Qf h,Qf (by rw[e1];omega)]
 ·rw[if_neg h,if_neg (by rw[e1];omega)];have e2:=B.eq [] (by simp only[Jn];rw[this];omega);rw[e2,this]<;>rfl
def VIn (k:Nat)(nd:List Br):Prop:=∀b∈nd,b.v<k
theorem VIn.nil (k:Nat):VIn k []:=λb hb=>by simp at hb
theorem VIn.lvl {k:Nat}{nd:List Br}(h:VIn k nd){n:Int}(h2:¬n<2)(hn:n<nd.length+2):Ql nd n<k:=by
 obtain⟨b,hb⟩:=Wq h2 hn;rw[dO h2 hb];exact h b (Xm hb)
theorem Rd0.lvl0 {nd:List Br}(h:Rd0 nd){n:Int}(hn:n<nd.length+2):0<=Ql nd n:=by
 by_cases h2:n<2
 ·rw[gL h2];omega
 ·obtain⟨z,hz⟩:=Wq h2 hn;rw[dO h2 hz];exact(h _ _ hz).1
theorem fQa {a b c:Nat}(ha:a<c)(hb:b<c):2^a+2^b<=2^c:=by
 obtain⟨d,rfl⟩:∃d,c=d+1:=⟨c-1,by omega⟩
 have h1:2^a<=2^d:=aO (by decide) (by omega);have h2:2^b<=2^d:=aO (by decide) (by omega);rw[lT];omega
theorem fQb (a:Nat):1<=2^a:=Nat.one_le_two_pow
theorem Fi {nd:List Br}(h:Rd0 nd){k:Nat}(hk:VIn k nd):∀(m:Nat)(n:Int)(st:List Br×List Nat),0<=n->n<m->n<nd.length+2->(Zd nd m n st).2.1.length+1<=st.1.length+2^((k:Int)-Ql nd n).toNat
 | 0,n,st,h0,hm,_=>by omega
 | m+1,n,st,h0,hm,hn=>by
  have p:=fQb ((k:Int)-Ql nd n).toNat;by_cases h2:n<2
  ·rw[kf h2];simp only;omega
  by_cases h3:0<st.2[(n-2).toNat]?.getD 0
  ·rw[kg h2 h3];simp only;omega
  obtain⟨b,hb⟩:=Wq h2 hn;obtain⟨b1,b2,b3,b4,b5,b6,b7,b8,b9,bX⟩:=h _ _ hb;have gt:=hk b (Xm hb);have hlv:=dO h2 hb;rw[mj h2 h3 hb];have i1:=Fi h hk m b.l st b3 (by omega) (by omega);generalize (Zd nd m b.l st)=p1 at*;have i2:=Fi h hk m b.h p1.2 b5 (by omega) (by omega);generalize (Zd nd m b.h p1.2)=p2 at*;have:=fQa (a:=((k:Int)-Ql nd b.l).toNat) (b:=((k:Int)-Ql nd b.h).toNat) (c:=((k:Int)-Ql nd n).toNat) (by omega) (by omega);simp only[Qq,Q6,Jn];omega
theorem Fj {nd:List Br}{k:Nat}(hk:VIn k nd):∀(m:Nat)(n:Int)(st:List Br×List Nat),VIn k st.1->VIn k (Zd nd m n st).2.1
 | 0,n,st,h=>h
 | m+1,n,st,h=>by
  by_cases h2:n<2
  ·rw[kf h2];exact h
  by_cases h3:0<st.2[(n-2).toNat]?.getD 0
  ·rw[kg h2 h3];exact h
  cases hb:nd[(n-2).toNat]? with
  | none=>rw[Zd,if_neg h2,if_neg h3,hb];exact h
  | some b=>
   rw[mj h2 h3 hb];have i1:=Fj hk m b.l st h;generalize (Zd nd m b.l st)=p1 at*;have i2:=Fj hk m b.h p1.2 i1;generalize (Zd nd m b.h p1.2)=p2 at*;intro x hx;simp only[XM,QN] at hx;rcases hx with hx | rfl
   ·exact i2 x hx
   ·exact hk b (Xm hb)
theorem fQc {nd:List Br}{k:Nat}(hk:VIn k nd)(r:Int):VIn k (bM nd r).1:=Fj hk _ _ _ (VIn.nil k)
theorem VD.len {nd:List Br}{r:Int}(h:VD nd r){k:Nat}(hk:VIn k nd):nd.length+1<=2^k:=by
 have i:=Fi h.rd0 hk (r.toNat+1) r ([],List.replicate nd.length 0) h.2.1 (by have:=h.2.1;omega) h.2.2.1;have e:(Zd nd (r.toNat+1) r ([],List.replicate nd.length 0)).2.1=nd:=QC Prod.fst h.2.2.2;rw[e] at i;have:=h.rd0.lvl0 h.2.2.1;have p:2^((k:Int)-Ql nd r).toNat<=2^k:=aO (by decide) (by omega);simp only[Jn] at i;omega
theorem fQd {k:Nat}{l:List Br}(h:VIn k l){b:Br}(hb:b.v<k):VIn k (ZZ b l).1:=by
 unfold ZZ;split
 ·exact h
 ·split
  ·exact h
  ·intro x hx;simp only[XM,QN] at hx;rcases hx with hx | rfl
   ·exact h x hx
   ·exact hb
theorem Fk {a b:List Br}(ha:Vp a)(hb:Vp b){k:Nat}(ka:VIn k a)(kb:VIn k b)(op:Int):∀(m:Nat)(x y:Int)(st:List Br×List Tr3),0<=x->0<=y->x<a.length+2->y<b.length+2->VIn k st.1->VIn k (Xo a b op m x y st).2.1
 | 0,_,_,st,_,_,_,_,h=>h
 | m+1,x,y,st,x0,y0,hx,hy,h=>by
  by_cases Xu:x<2/\y<2
  ·rw[kn Xu];exact h
  cases k3:st.2.find? (λt=>decide (t.1=x/\t.2.1=y))with
  | some t=>rw[ko Xu k3];exact h
  | none=>
   have Dm:min (Ql a x) (Ql b y)<k:=by
    by_cases c:x<2
    ·have:=kb.lvl (n:=y) (λc2=>Xu ⟨c,c2⟩) hy;rw[Z3];split<;>omega
    ·have:=ka.lvl (n:=x) c hx;rw[Z3];split<;>omega
   have ZC:min (Ql a x) (Ql b y)<64:=by
    by_cases c:x<2
    ·have:=am hb (n:=y) (λc2=>Xu ⟨c,c2⟩) (by omega);rw[Z3];split<;>omega
    ·have:=am ha (n:=x) c (by omega);rw[Z3];split<;>omega
   rw[kr Xu k3 _ rfl];generalize min (Ql a x) (Ql b y)=v at*;obtain⟨s1,s2,s3,s4,s5⟩:=Wp ha (n:=x) x0 ZC;obtain⟨t1,t2,t3,t4,t5⟩:=Wp hb (n:=y) y0 ZC;have i1:=Fk ha hb ka kb op m (Qm a x v).1 (Qm b y v).1 st s1 t1 (by omega) (by omega) h;generalize (Xo a b op m (Qm a x v).1 (Qm b y v).1 st)=r0 at*;have i2:=Fk ha hb ka kb op m (Qm a x v).2 (Qm b y v).2 r0.2 s3 t3 (by omega) (by omega) i1;exact fQd i2 Dm
structure Set1 (k:Nat) (nd:List Br) (r:Int) (o:(Nat->Bool)->Bool):Prop where
 vd:VD nd r
 vin:VIn k nd
 mean:∀e,ev nd r e=o e
theorem Set1.len {k:Nat}{nd:List Br}{r:Int}{o:(Nat->Bool)->Bool}(h:Set1 k nd r o)(hk:k<=12):nd.length<=4095:=by
 have:=h.vd.len h.vin;have p:2^k<=2^12:=aO (by decide) hk;omega
theorem Set1.chk {k:Nat}{nd:List Br}{r:Int}{o:(Nat->Bool)->Bool}(h:Set1 k nd r o)(hk:k<=12):XL nd r=0:=EW (by have:=h.len hk;omega) h.vd
theorem Set1.unique {k k':Nat}{nd X1:List Br}{r r':Int}{o o':(Nat->Bool)->Bool}(h:Set1 k nd r o)(h':Set1 k' X1 r' o')(e:∀x,o x=o' x):(nd,r)=(X1,r'):=
 h.vd.eqv h'.vd (λx=>by rw[h.mean,h'.mean,e])
theorem Set1.congr {k:Nat}{nd:List Br}{r:Int}{o o':(Nat->Bool)->Bool}(h:Set1 k nd r o)(e:∀x,o x=o' x):Set1 k nd r o':=⟨h.vd,h.vin,λx=>(h.mean x).trans (e x)⟩
theorem eC {k:Nat}{a b:List Br}{ra rb:Int}{o o':(Nat->Bool)->Bool}(h:Set1 k a ra o)(h':Set1 k b rb o')(op:Int):Set1 k (VF a ra b rb op).1 (VF a ra b rb op).2 (λe=>Kv op (o e) (o' e)):=by
 obtain⟨v,m⟩:=eQE h.vd h'.vd op;refine⟨v,fQc (Fk h.vd.dok h'.vd.dok h.vin h'.vin op _ _ _ _ h.vd.2.1 h'.vd.2.1 h.vd.2.2.1 h'.vd.2.2.1 (VIn.nil k)) _,λe=>?_⟩;rw[m e,h.mean,h'.mean]
theorem gM {k:Nat}(hk:k<=12){a b:List Br}{ra rb:Int}{o o':(Nat->Bool)->Bool}(h:Set1 k a ra o)(h':Set1 k b rb o')(op:Int):eB a ra b rb op=(VF a ra b rb op,0):=by
 have l:=(eC h h' op).len hk;unfold eB;rw[if_neg (λhh=>hh (h.chk hk)),if_neg (λhh=>hh (h'.chk hk))];unfold jb;rw[if_neg (by omega)]
theorem aW (k:Nat)(b:Bool):Set1 k [] (if b then 1 else 0) (λ_=>b):=by
 refine⟨⟨λj x hx=>by simp at hx,by cases b<;>decide,by cases b<;>decide,by cases b<;>rfl⟩,VIn.nil k,λe=>?_⟩;rw[JT (by cases b<;>decide)];cases b<;>rfl
def fW (nm:List (List Nat))(s:List Nat):Except Int Fm:=if ZF nm then
  if(XW s).2 then match sE (Jd nm) (s.length+1) (XW s).1 with
   | none=>.error 31
   | some (t,u,ts)=>if ts≠ [] then .error 31 else if u then .error 3 else if 512<QE t then .error 2 else .ok t
  else .error 31
 else .error 1
theorem fQe (nm:List (List Nat))(s:List Nat):dI nm s=match fW nm s with
  | .ok t=>(X4 t 0,0)
  | .error e=>([],e):=by
 rw[Pd];unfold zU fW;cases ZF nm with
 | false=>rfl
 | true=>
  cases (XW s).2 with
  | false=>rfl
  | true=>
   simp only[if_true];cases sE (Jd nm) (s.length+1) (XW s).1 with
   | none=>rfl
   | some q=>
    obtain⟨t,u,ts⟩:=q;simp only;by_cases h1:ts≠ []
    ·rw[Qf h1,Qf h1]
    ·rw[if_neg h1,if_neg h1];by_cases h2:u=true
     ·rw[Qf h2,Qf h2]
     ·rw[if_neg h2,if_neg h2];by_cases h3:512<QE t
      ·rw[Qf h3,Qf h3]
      ·rw[if_neg h3,if_neg h3]
def zY (N:Nat)(opd:List (List Nat)->Option (Fm×Bool×List (List Nat))):Prop:=∀ts t Jg,opd ts=some (t,false,Jg)->VarsIn N t
theorem PJ {N:Nat}{op:List Nat}{mk:Fm->Fm->Fm}{opd:List (List Nat)->Option (Fm×Bool×List (List Nat))}(hm:∀a b,VarsIn N a->VarsIn N b->VarsIn N (mk a b))(h:zY N opd):
  ∀(m:Nat) (a:Fm) (u:Bool) (ts:List (List Nat)) (t:Fm) (Jg:List (List Nat)),(u=false->VarsIn N a)->Yq op mk opd m a u ts=some (t,false,Jg)->VarsIn N t
 | 0,a,u,ts,t,Jg,_,hh=>by cases hh
 | m+1,a,u,ts,t,Jg,ha,hh=>by
  unfold Yq at hh;split at hh
  ·cases ho:opd ts.tail with
   | none=>rw[ho] at hh;cases hh
   | some q=>
    obtain⟨b,v,qi⟩:=q;rw[ho] at hh;refine PJ hm h m _ _ _ t Jg (λhuv=>?_) hh;cases u<;>cases v<;>simp at huv
    exact hm _ _ (ha rfl) (h _ _ _ ho)
  ·cases hh;exact ha rfl
theorem zZ {N:Nat}{op:List Nat}{mk:Fm->Fm->Fm}{opd:List (List Nat)->Option (Fm×Bool×List (List Nat))}(hm:∀a b,VarsIn N a->VarsIn N b->VarsIn N (mk a b))(h:zY N opd):zY N (YI op mk opd):=λts t Jg hh=>by
 unfold YI at hh;cases ho:opd ts with
 | none=>rw[ho] at hh;cases hh
 | some q=>
  obtain⟨a,u,qi⟩:=q;rw[ho] at hh;exact PJ hm h _ _ _ _ t Jg (λhu=>by subst hu;exact h _ _ _ ho) hh
theorem PK {N:Nat}{ix:List Nat->Option Nat}(hx:∀l n,ix l=some n->n<N):∀n,zY N (KF ix n)
 | 0=>λts t Jg h=>by cases h
 | n+1=>λts t Jg h=>by
  have ih:=PK hx n;cases ts with
  | nil=>cases h
  | cons w ts=>
   unfold KF at h;split at h
   ·cases ho:KF ix n ts with
    | none=>rw[ho] at h;cases h
    | some q=>
     obtain⟨a,u,qi⟩:=q;rw[ho] at h;cases h;exact show VarsIn N a from ih _ _ _ ho
   split at h
   ·cases ho:YI [124,124] Fm.or (YI [38,38] Fm.and (KF ix n)) ts with
    | none=>rw[ho] at h;cases h
    | some q=>
     obtain⟨a,u,qi⟩:=q;rw[ho] at h;simp only at h;split at h
     ·cases h;exact zZ (mk:=Fm.or) (λ_ _ h h'=>⟨h,h'⟩) (zZ (mk:=Fm.and) (λ_ _ h h'=>⟨h,h'⟩) ih) _ _ _ ho
     ·cases h
   split at h
   ·simp only[Option.some.injEq,Prod.mk.injEq] at h;obtain⟨rfl,h2,_⟩:=h;unfold kx at h2 ⊢;split
    ·trivial
    ·split
     ·trivial
     ·rename_i h3 h4;rw[if_neg h3,if_neg h4] at h2;simp only at h2;cases hi:ix w with
      | none=>rw[hi] at h2;cases h2
      | some k=>exact hx _ _ hi
   ·cases h
theorem PL (l:List Nat)(N:Nat):∀(names:List (List Nat))(i:Nat)(QQ:Option Nat),(∀n,QQ=some n->n<N)->i+names.length<=N->∀n,dH l names i QQ=some n->n<N
 | [],i,QQ,ha,_,n,h=>ha n h
 | s::names,i,QQ,ha,hl,n,h=>by
  unfold dH at h;refine PL l N names (i+1) _ (λm hm=>?_) (by simp at hl;omega) n h;split at hm
  ·cases hm;simp at hl;omega
  ·exact ha m hm
theorem kA {names:List (List Nat)}{l:List Nat}{n:Nat}(h:Jd names l=some n):n<names.length:=PL l _ names 0 none (λ_ h=>by cases h) (by omega) n h
theorem fQf {nm:List (List Nat)}{s:List Nat}{t:Fm}(h:fW nm s= .ok t):ZF nm=true/\VarsIn nm.length t/\QE t<=512:=by
 unfold fW at h;split at h
 ·rename_i hn;split at h
  ·split at h
   ·cases h
   ·rename_i t' u ts hw;split at h
    ·cases h
    split at h
    ·cases h
    split at h
    ·cases h
    ·rename_i hu hs;cases h;have hu:u=false:=by simpa using hu
     subst hu;exact⟨hn,zZ (mk:=Fm.or) (λ_ _ h h'=>⟨h,h'⟩) (zZ (mk:=Fm.and) (λ_ _ h h'=>⟨h,h'⟩) (PK (λl n h=>kA h) _)) _ _ _ hw,by omega⟩
  ·cases h
 ·cases h
theorem fQg {nm:List (List Nat)}{s:List Nat}{e:Int}(h:fW nm s= .error e):e=1∨e=2∨e=3∨e=31:=by
 unfold fW at h
 repeat' split at h
 all_goals first | cases h | skip
 all_goals simp
abbrev BF:=(Nat->Bool)->Bool
def VH (nm:List (List Nat))(s:List Nat):Except Int BF:=match fW nm s with
 | .ok t=>.ok (evF t)
 | .error e=>.error (if e=2 then 2 else 71)
inductive Dir where
 | txt
 | ifd (s:List Nat)
 | elif (s:List Nat)
 | els
 | en
 | inc (s:List Nat)
def ZQ:List Nat:=[35,105,102,32]
def pElif:List Nat:=[35,101,108,105,102,32]
def pInc:List Nat:=[35,105,110,99,108,117,100,101,32]
def V0:List Nat:=[35,101,108,115,101]
def ZK:List Nat:=[35,101,110,100]
def Zn (s:List Nat):Dir:=if ZQ.isPrefixOf s then .ifd (s.drop 4)else if pInc.isPrefixOf s then .inc (s.drop 9)else if pElif.isPrefixOf s then .elif (s.drop 6)else if s=V0 then .els else if s=ZK then .en else .txt
def QR:List Nat->List (List Nat)
 | []=>[]
 | b::l=>if b=10 then []::QR l else match QR l with
  | []=>[[b]]
  | s::ls=>(b::s)::ls
def Qp (ls:List (List Nat)):List Nat:=ls.flatMap (λs=>s++ [10])
theorem V3 (s:List Nat)(ls:List (List Nat)):Qp (s::ls)=s++10::Qp ls:=by simp[Qp]
theorem sS (ls:List (List Nat)):ls.length<=(Qp ls).length:=by
 induction ls with
 | nil=>exact QB _
 | cons s ls ih=>rw[V3];simp only[Q6,Qq];omega
def kB (ls:List (List Nat)):Prop:=∀s∈ls,10∉s
theorem fQh (s l:List Nat)(h:10∉s):QR (s++10::l)=s::QR l:=by
 induction s with
 | nil=>simp[QR]
 | cons b s ih=>
  simp only[Q1,not_or] at h;rw[YF,QR,if_neg (λe=>h.1 e.symm),ih h.2]
theorem Fl {ls:List (List Nat)}(h:kB ls):QR (Qp ls)=ls:=by
 induction ls with
 | nil=>rfl
 | cons s ls ih=>rw[V3,fQh _ _ (h s (by simp)),ih (λt ht=>h t (by simp[ht]))]
def Wt (l:List Nat):Prop:=l=[]∨l.getLast? =some 10
theorem kC:∀(l:List Nat),kB (QR l)
 | []=>λs hs=>by simp[QR] at hs
 | b::l=>by
  have ih:=kC l;intro s hs;unfold QR at hs;split at hs
  ·simp only[Q1] at hs;rcases hs with rfl | hs
   ·simp
   ·exact ih s hs
  ·rename_i hb;cases hl:QR l with
   | nil=>
    rw[hl] at hs;simp only[QN] at hs;subst hs;simpa using λe=>hb e.symm
   | cons t ls=>
    rw[hl] at hs ih;simp only[Q1] at hs;rcases hs with rfl | hs
    ·have:=ih t (by simp);simp only[Q1,not_or];exact⟨λe=>hb e.symm,this⟩
    ·exact ih s (by simp[hs])
theorem V4:∀{l:List Nat},Wt l->Qp (QR l)=l
 | [],_=>rfl
 | b::l,h=>by
  have hl:Wt l:=by
   cases l with
   | nil=>exact .inl rfl
   | cons c l=>right;rcases h with h | h;cases h;simpa using h
  have ih:=V4 hl;unfold QR;split
  ·rename_i hb;subst hb;rw[V3,ih]<;>rfl
  ·rename_i hb;cases Ks:QR l with
   | nil=>
    rw[Ks] at ih;have:l=[]:=ih.symm;subst this;rcases h with h | h
    ·cases h
    ·simp at h;exact Xn h hb
   | cons t ls=>
    rw[Ks] at ih;simp only[V3] at ih ⊢;rw[YF,ih]
theorem Fo (ls:List (List Nat)):Wt (Qp ls):=by
 induction ls with
 | nil=>exact .inl rfl
 | cons s ls ih=>
  right
  rw[V3];rcases ih with h | h
  ·rw[h];simp
  ·rw[List.getLast?_append,List.getLast?_cons,h];simp
structure Sg where
 f:Nat
 t:Nat
 fl:Nat
 at_:Nat
 o:BF
structure Gs where
 tx:List Nat
 sg:List Sg
 fr:Bool
structure Se where
 ou:BF
 re:BF
 ot:Bool
 ln:Nat
structure Pl where
 e:Int
 f:Int
 l:Int
def my (n:Nat):List Sg->List Sg
 | []=>[]
 | [x]=>[{x with t:=n}]
 | x::y::l=>x::my n (y::l)
theorem gO (n:Nat)(l:List Sg)(x:Sg):my n (l++ [x])=l++ [{x with t:=n}]:=by
 induction l with
 | nil=>rfl
 | cons y l ih=>
  cases l with
  | nil=>rfl
  | cons z l=>rw[YF,YF] at*;rw[my,ih]<;>rfl
def KZ (s:List Nat)(fl at_:Nat)(k:BF)(g:Gs):Option Gs:=
 if 1048576<g.tx.length+s.length∨(g.fr=true/\g.sg.length=65536)then none
 else some ⟨g.tx++s,my (g.tx.length+s.length) (if g.fr then g.sg++ [⟨g.tx.length,0,fl,at_,k⟩] else g.sg),false⟩
def cI (ix:List Nat->Option Nat)(rd:List Nat)(s:List Nat):Except Int Nat:=
 if s.length<2∨s.head? ≠some 34∨s.getLast? ≠some 34∨s.count 34≠2 then .error 71
 else match ix ((s.drop 1).take (s.length-2))with
  | none=>.error 73
  | some n=>if n∈rd then .error 73 else .ok n
abbrev ZW (a b:BF):BF:=λe=>a e&&b e
abbrev KG (a b:BF):BF:=λe=>a e && !b e
def ZX (nm:List (List Nat))(fl d0:Nat)(inc:List Nat->Nat->Nat->BF->Gs->Except Pl Gs):List (List Nat)->Nat->Nat->BF->List Se->Gs->Except Pl Gs
 | [],_,_,_,op,g=>match op with
  | []=>.ok {g with fr:=true}
  | x::_=>.error ⟨72,fl,x.ln⟩
 | s::ls,ln,at_,k,op,g=>match Zn s with
  | .ifd r=>match VH nm r with
   | .error e=>.error ⟨e,fl,ln+1⟩
   | .ok d=>if d0+op.length=64 then .error ⟨2,fl,ln+1⟩else ZX nm fl d0 inc ls (ln+1) (at_+s.length+1) (ZW k d) (⟨k,KG k d,false,ln+1⟩::op) {g with fr:=true}
  | .inc r=>match inc r (ln+1) (d0+op.length) k g with
   | .error p=>.error p
   | .ok g'=>ZX nm fl d0 inc ls (ln+1) (at_+s.length+1) k op {g' with fr:=true}
  | .elif r=>match op with
   | []=>.error ⟨72,fl,ln+1⟩
   | x::Xx=>if x.ot then .error ⟨71,fl,ln+1⟩else match VH nm r with
    | .error e=>.error ⟨e,fl,ln+1⟩
    | .ok d=>ZX nm fl d0 inc ls (ln+1) (at_+s.length+1) (ZW x.re d) ({x with re:=KG x.re d}::Xx) {g with fr:=true}
  | .els=>match op with
   | []=>.error ⟨72,fl,ln+1⟩
   | x::Xx=>if x.ot then .error ⟨71,fl,ln+1⟩else ZX nm fl d0 inc ls (ln+1) (at_+s.length+1) x.re ({x with ot:=true}::Xx) {g with fr:=true}
  | .en=>match op with
   | []=>.error ⟨72,fl,ln+1⟩
   | x::Xx=>ZX nm fl d0 inc ls (ln+1) (at_+s.length+1) x.ou Xx {g with fr:=true}
  | .txt=>match KZ (s++ [10]) fl at_ k g with
   | none=>.error ⟨2,fl,ln+1⟩
   | some g'=>ZX nm fl d0 inc ls (ln+1) (at_+s.length+1) k op g'
def WN (nm:List (List Nat))(fs:List (List Nat×List Nat)):Nat->List Nat->Nat->Nat->BF->Gs->Except Pl Gs
 | 0,_,_,_,_,_=>.error ⟨0,0,0⟩
 | f+1,rd,d,n,k,g=>ZX nm n d (λr ln d k g=>match cI (Jd (fs.map (·.1))) (n::rd) r with
   | .error e=>.error ⟨e,n,ln⟩
   | .ok m=>if d=64 then .error ⟨2,n,ln⟩else WN nm fs f (n::rd) (d+1) m k g) (QR ((fs[n]?.map (·.2)).getD [])) 0 0 k [] {g with fr:=true}
def mA (s:List Nat):Bool:=decide (s≠ [])&&s.all (λb=>decide (32<=b)&&b !=34&&b !=127)
def aX (l:List Nat):Bool:=decide (l=[])||l.getLast? ==some 10
def cJ:List (List Nat×List Nat)->List (List Nat)->Nat->Option Pl
 | [],_,_=>none
 | x::l,seen,i=>if¬(mA x.1=true/\x.1∉seen/\aX x.2=true)then some ⟨70,i,0⟩else if 1048576<x.2.length then some ⟨2,i,0⟩else cJ l (seen++ [x.1]) (i+1)
def YJ (fs:List (List Nat×List Nat)):Option Pl:=if 256<fs.length then some ⟨2, -1,0⟩else cJ fs [] 0
def V5 (nm:List (List Nat))(fs:List (List Nat×List Nat))(root:List Nat):Except Pl Gs:=
 if ZF nm=false then .error ⟨30, -1,0⟩else match YJ fs with
  | some p=>.error p
  | none=>match Jd (fs.map (·.1)) root with
   | none=>.error ⟨73, -1,0⟩
   | some n=>WN nm fs 65 [] 0 n (λ_=>true) ⟨[],[],false⟩
theorem jd (A:Option Addr)(n c:Nat)(r m v:Int)(nd:List Br)(w:World)(h:SB w A n c nd)(hm:m<n+2)(eS:v<64):
  Fn Tryz.prog 167 [Xk A n c r,.int .i64 m,.int .i64 v] w (λu w'=>u= .tuple #[.int .i64 (Qm nd m v).1,.int .i64 (Qm nd m v).2]/\Ext w w'):=by
 have QY:=h.2;have bz:n<=9223372036854775807:=by have:=h.1.le;have:=h.1.cap;simp only[maxLen] at this;omega
 refine QF (c:={cQN with cuts:=[]}) Qa Tryz.func167 rfl rfl rfl ?_;refine new (λw1 Qe Q4 Qh=>?_);refine Qt Qh rfl ?_;refine call (dJ A n c r m nd w1 (h.ext Qe) hm) ?_;rintro u w2 ⟨rfl,Qg⟩;have Q5:=Qe.trans Qg;have Qx:=Qh.ext Qg;refine bI (λc1=>?_) (λc1=>?_)
 ·exact⟨by unfold Qm;rw[Qf c1],Q5⟩
 ·have ux:¬m<2:=λh2=>by
   unfold Ql at c1;rw[Qf h2] at c1;omega
  have hx:=Xp (show(m-2).toNat<nd.length by omega);generalize nd[(m-2).toNat]=b at hx;have e:Qm nd m v=(b.l,b.h):=by unfold Qm;rw[if_neg (by omega),hx]
  rw[e];refine XK Qa (Ext w2) 16 [(true,0),(true,1),(true,2),(true,3),(true,4),(true,5),(true,6),(true,7),(true,8),(true,9),(true,10),(true,11),(true,12),(true,13),(true,14),(true,15)] (by kernel_rfl) (Ext.drew w2) ?_;refine QK (v:=.slice A n c) (λw' Qb=>by rw[(Qx.ext Qb).cell];rfl) ?_;refine Qi (((m-2).toNat:Nat):Int) (by omega) (by omega) ?_;refine Zv ah (h.ext Q5) rfl (by omega) (λp z hz hc=>?_);have ov:z=b:=Option.some.inj (hz.symm.trans hx);subst ov;refine QK (v:=.int .i64 z.l) (λw' Qb=>Qb.cell (hc 1 _ rfl)) ?_;refine QK (v:=.slice A n c) (λw' Qb=>by rw[(Qx.ext Qb).cell];rfl) ?_;refine Qi (((m-2).toNat:Nat):Int) (by omega) (by omega) ?_;refine Zv ah (h.ext Q5) rfl (by omega) (λp' z' W0 Jv=>?_);have LV:z'=z:=Option.some.inj (W0.symm.trans hx);subst LV;refine QK (v:=.int .i64 z'.h) (λw' Qb=>Qb.cell (Jv 2 _ rfl)) ?_;exact⟨rfl,Q5.trans (Ext.drew w2)⟩
def vM (nd:List Br)(b:Br):Option Value:=(KE b nd).map λi=>.int .i64 ((i+2:Nat):Int)
structure Bd (w:World) (base pb km:Nat) (NA:Option Addr) (nc:Nat) (nd:List Br):Prop where
 blk:Blk w pb 177 [.slice NA nd.length nc,.map (some km)]
 own:Own w base 105 3 NA nd.length nc (ki nd)
 known:∃m,MapQ cE w km m/\∀b,Xz b m=vM nd b
 lt:pb<base/\km<base/\pb≠km
 top:base<=w.heap.size
theorem Bd.ext {w w':World}{base pb km:Nat}{NA:Option Addr}{nc:Nat}{nd:List Br}(h:Bd w base pb km NA nc nd)(k:Ext w w'):Bd w' base pb km NA nc nd:=
 ⟨h.blk.ext k,h.own.ext k,let ⟨m,h1,h2⟩:=h.known;⟨m,h1.ext k,h2⟩,h.lt,Zc h.top k.size⟩
def BS (pb km:Nat)(NA:Option Addr):Nat->Prop:=λk=>k=pb∨k=km∨Qk NA k
theorem BS.moved {w:World}{pb km:Nat}{A A':Option Addr}(h:Moved w A A'):∀k,BS pb km A' k->BS pb km A k∨w.heap.size<=k:=by
 rintro k (rfl | rfl | hk)
 ·exact .inl (.inl rfl)
 ·exact .inl (.inr (.inl rfl))
 ·rcases h.rows k hk with h | h
  ·exact .inl (.inr (.inr h))
  ·exact .inr h
def fQi (w:World)(base pb km:Nat)(NA:Option Addr)(nd:List Br)(w':World):Prop:=∃NA' nc',Bd w' base pb km NA' nc' nd/\Mod (BS pb km NA) w w'/\Moved w NA NA'
theorem PM (b x:Br):∀l:List Br,KE x l=none->KE b (l++ [x])=if b=x then some l.length else KE b l
 | [],_=>by
  show(if x=b then some 0 else(none:Option Nat).map (·+1))=_;by_cases h:x=b
  ·rw[Qf h,Qf h.symm]<;>rfl
  ·rw[if_neg h,if_neg (λe=>h e.symm)]<;>rfl
 | y::l,hx=>by
  have hy:y≠x:=λe=>by rw[KE,Qf e] at hx;cases hx
  have hl:KE x l=none:=by
   rw[KE,if_neg hy] at hx;cases hh:KE x l with
   | none=>rfl
   | some k=>rw[hh] at hx;cases hx
  have ih:=PM b x l hl;show(if y=b then some 0 else(KE b (l++ [x])).map (·+1))=if b=x then some (l.length+1)else if y=b then some 0 else(KE b l).map (·+1)
  rw[ih];by_cases h1:b=x
  ·rw[Qf h1,Qf h1,if_neg (λe=>hy (e.trans h1))]<;>rfl
  ·rw[if_neg h1,if_neg h1]
theorem fQj {b:Br}{nd:List Br}{i:Nat}(h:b.l≠b.h)(k:KE b nd=some i):ZZ b nd=(nd,((i+2:Nat):Int)):=by unfold ZZ;rw[if_neg h,k]
theorem fQk {b:Br}{nd:List Br}(h:b.l≠b.h)(k:KE b nd=none):ZZ b nd=(nd++ [b],((nd.length+2:Nat):Int)):=by unfold ZZ;rw[if_neg h,k]
theorem PN (base pb km:Nat)(NA:Option Addr)(nc:Nat)(nd:List Br)(b:Br)(w:World)(h:Bd w base pb km NA nc nd)(hl:nd.length+1<=1000000000000):
  Fn Tryz.prog 189 [.pointer (some ⟨pb,0,none⟩),.int .i64 b.v,.int .i64 b.l,.int .i64 b.h] w (λu w'=>u= .int .i64 (ZZ b nd).2/\fQi w base pb km NA (ZZ b nd).1 w'):=by
 obtain⟨p1,p2,p3⟩:=h.lt;have lD:=h.top;have VQ:=h.own.rows;refine QF (c:={cQU with cuts:=[]}) Qa Tryz.func189 rfl rfl rfl ?_;refine X3 (λc1=>?_) (λc1=>?_)
 ·have e:ZZ b nd=(nd,b.l):=by unfold ZZ;rw[Qf c1]
  rw[e];exact⟨rfl,NA,nc,h,Mod.refl _ _,Moved.refl _ _⟩
 refine new (λw1 Qe Q4 Qh=>?_);refine Qv Qh rfl (sc rfl) (λw2 cU Zb Qx=>?_);have Qg:Ext w w2:=X9 Qe Qh cU
 replace Qx:Blk w2 w.heap.size 105 b.cells:=Qx;have h2:=h.ext Qg;obtain⟨m,hm,YC⟩:=h2.known;refine XK Qa (Ext w2) 11 [(true,0),(true,1),(true,2),(true,3),(true,4),(false,5),(true,6),(true,7),(true,8),(true,9),(true,10)] (by kernel_rfl) (Ext.drew w2) ?_;refine QK (v:=.map (some km)) (λw' Qb=>by rw[(h2.blk.ext Qb).cell];rfl) ?_;refine Xs (vs:=b.cells) rfl (λw' Qb j v hj=>by rw[(Qx.ext Qb).cell];exact hj) ?_;refine EI (kv:=cE) (a:=b) Qa rfl rfl rfl rfl zL rfl rfl (hm.ext (Ext.drew w2)) ?_;refine⟨Ext.drew w2,?_⟩;have Q5:=Qg.trans (Ext.drew w2);have Qu:=Qx.ext (Ext.drew w2);have h3:=h2.ext (Ext.drew w2);have XC:=hm.ext (Ext.drew w2);have JC:w2.heap.size<=w2.drew.heap.size:=(Ext.drew w2).size;generalize w2.drew=w3 at*;cases hf:KE b nd with
 | some i=>
  have ha:Xz b m=some (.int .i64 ((i+2:Nat):Int)):=by rw[YC,vM,hf]<;>rfl
  have cV:=fQj c1 hf;refine l6 (Q8 (by rw[ha];rfl) ?_);rw[cV];exact⟨by rw[ha];rfl,NA,nc,h3,Mod.of_ext _ Q5,Moved.refl _ _⟩
 | none=>
  have ha:Xz b m=none:=by rw[YC,vM,hf]<;>rfl
  have cV:=fQk c1 hf;refine l6 (Q3 (by rw[ha];rfl) ?_);rw[cV];have n3:w1.heap.size=w.heap.size+1:=Q4;have Dn:¬Qk NA pb:=λhr=>by have:=(VQ _ hr).1;omega
  have Do:¬Qk NA w.heap.size:=λhr=>by have:=(VQ _ hr).2;omega
  refine XK Qa (Mod (Qk NA) w3) 8 [(true,0),(true,1),(true,2),(true,3),(true,4),(true,5),(false,6),(false,7)] (by kernel_rfl) (Mod.of_ext _ (Ext.drew w3)) ?_;refine QK (v:=.slice NA nd.length nc) (λw' Qb=>by rw[(h3.blk.mod Qb Dn).cell];rfl) ?_;refine Xs (vs:=b.cells) rfl (λw' Qb j v hj=>by rw[(Qu.mod Qb Do).cell];exact hj) ?_;refine Xh Qa [b.cells] rfl rfl rfl rfl rfl ⟨rfl,rfl,⟨⟩⟩ rfl (λcs h=>by simp only[QN] at h;subst h;rfl) rfl (by decide) (by decide) ?_;intro w4 Qs KO Q7;have KR:=(Ext.drew w3).trans Qs;have h4:=h3.ext KR;refine⟨Mod.of_ext _ KR,?_⟩;have Ua:Sl w4 3 (some ⟨w3.drew.heap.size,0,none⟩) 1 1 b.cells:=Sl.own (sz:=3) (n:=1) Q7 (QB _) (by decide) (by simp[Br.cells]);refine Z4 (n:=nd.length) Qa rfl rfl rfl rfl rfl (by decide) rfl rfl ⟨_,rfl⟩ rfl rfl h4.own Ua (by intro u hu;simp[Br.cells] at hu;rcases hu with rfl | rfl | rfl<;>rfl) (by unfold maxLen;omega) (by show _*24<=_;omega) h4.top ?_;intro A' c' w5 XS Uq kQc;have tJ:Mod (Qk NA) w3 w5:=(Mod.of_ext (Qk NA) KR).trans XS (λi hi=>.inl hi);refine⟨tJ,?_⟩;have KP:=tJ.size;have mQC:=KR.size;have kQd:=Q5.size;refine XP (h3.blk.mod tJ Dn) (by simp) (λw6 K2 Q9=>?_);have dX:=K2.size;have ar:∀i,Qk A' i->base<=i:=λi hi=>(Uq.rows i hi).1
  have qj:Blk w6 pb 177 [.slice A' (nd.length+1) c',.map (some km)]:=Q9;refine QD qj rfl ?_;refine Qi ((nd.length+2:Nat):Int) (by show((nd.length+1:Nat):Int)+1=_;omega) (by omega) ?_;have hx6:=(Qu.mod tJ Do).mod K2 (by show¬w.heap.size=pb;omega);have hq6:MapQ cE w6 km m:=(XC.mod tJ (λhr=>by have:=(VQ _ hr).1;omega)).mod K2 (by show¬km=pb;omega);refine XK Qa (Ext w6) 6 [(true,0),(true,1),(true,2),(true,3),(true,4),(true,5)] (by kernel_rfl) (Ext.drew w6) ?_;refine QK (v:=.map (some km)) (λw' Qb=>by rw[(qj.ext Qb).cell];rfl) ?_;refine Xs (vs:=b.cells) rfl (λw' Qb j v hj=>by rw[(hx6.ext Qb).cell];exact hj) ?_;refine r8 (kv:=cE) (a:=b) Qa rfl rfl rfl rfl zL rfl rfl rfl (hq6.ext (Ext.drew w6)) (λw8 JB Yw wN=>?_);have HE:Mod (·=km) w6 w8:=(Mod.of_ext (·=km) (Ext.drew w6)).trans JB (λi hi=>.inl hi);have Z1:Mod (BS pb km NA) w w3:=Mod.of_ext _ Q5;have Je:Mod (BS pb km NA) w w5:=Z1.trans tJ (λi hi=>.inl (.inr (.inr hi)));have K4:Mod (BS pb km NA) w w6:=Je.trans K2 (λi hi=>.inl (.inl hi));have ZL:Mod (BS pb km NA) w w8:=K4.trans HE (λi hi=>.inl (.inr (.inl hi)));have el:(nd++ [b]).length=nd.length+1:=by simp
  refine⟨rfl,A',c',⟨?_,?_,⟨_,wN,λx=>?_⟩,h.lt,Zc lD ZL.size⟩,ZL,kQc.back (by omega)⟩
  ·rw[el];exact qj.mod HE (by show¬pb=km;omega)
  ·rw[el,zK];exact(Uq.mod K2 (λi hi e=>by have:=ar i hi;have e':i=pb:=e;omega)).mod HE (λi hi e=>by have:=ar i hi;have e':i=km:=e;omega)
  ·rw[aS,YC,vM,vM,PM x b nd hf];by_cases Ji:x=b
   ·rw[Qf Ji,Qf Ji]<;>rfl
   ·rw[if_neg Ji,if_neg Ji]
theorem Ac (F:Option Addr)(m cf:Nat)(L:List DV)(w:World)(h:SlS DV.cells 2 w F m cf L)(hL:∀x∈L,SB w x.A x.n x.c x.nd):
  Fn Tryz.prog 111 [.slice F m cf] w (λv w'=>v= .int .i64 (cH L)/\Ext w w'):=by
 have QY:=h.2;have bz:m<=9223372036854775807:=by have:=h.1.le;have:=h.1.cap;simp only[maxLen] at this;omega
 refine QF (c:={cQa with cuts:=[]}) Qa Tryz.func111 rfl rfl rfl ?_;refine loop Qa [8] (λs:Nat=>[.int .i64 s]) (λs w'=>Ext w w'/\s<=m/\∀(j:Nat) (y:DV),j<s->L[j]? =some y->XL y.nd y.r=0) (λs _=>m-s) 0 rfl ⟨Ext.refl w,Xr _,λj y hj=>Xn hj (by omega)⟩ ?_;rintro s w1 ⟨Qe,hs,hall⟩;refine Qz (λh2=>?_) (λh2=>?_)
 ·refine Zv dL (h.ext Qe) rfl (by omega) (λp x hx hc=>?_);refine Kn (vs:=x.cells) rfl hc ?_;refine new (λw2 Qg Zb Qx=>?_);refine Qv Qx rfl (sc rfl) (λw3 Z7 JC Qu=>?_);have Qj:Ext w w3:=Qe.trans (X9 Qg Qx Z7);refine Qt Qu rfl ?_;refine call (zM x.A x.n x.c x.nd x.r w3 ((hL x (Xm hx)).ext Qj)) ?_;rintro v w4 ⟨rfl,Qs⟩;refine bI (λc1=>?_) (λc1=>?_)
  ·exact⟨by rw[eQy hall hx c1],Qj.trans Qs⟩
  ·refine Qi ((s+1:Nat):Int) (by omega) (by omega) ?_;refine⟨s+1,rfl,⟨Qj.trans Qs,by omega,λj y hj hy=>?_⟩,by show m-(s+1)<m-s;omega⟩;by_cases YP:j<s
   ·exact hall j y YP hy
   ·have:j=s:=by omega
    subst this;rw[Option.some.inj (hy.symm.trans hx)];exact c1
 ·exact⟨by rw[eQz (λj y hj hy=>hall j y (by omega) hy)],Qe⟩
theorem PO (A:Option Addr)(n c:Nat)(a:List Br)(ra:Int)(w0 w:World)(h:SB w A n c a)(hr:∀i,Qk A i->w0.heap.size<=i)(hE:Ext w0 w):
  Fn Tryz.prog 127 [Xk A n c ra] w (pG w0 (jb (a,ra))):=by
 have KV:=h.2;refine QF (c:={cQh with cuts:=[]}) Qa Tryz.func127 rfl rfl rfl ?_;refine new (λw1 Qe Q4 Qh=>?_);refine new (λw2 Qg Zb Qx=>?_);have Q5:=Qe.trans Qg;refine QD (Qh.ext Qg) rfl ?_;refine Qz (λc1=>?_) (λc1=>?_)
 ·have e:jb (a,ra)=(([],0),2):=by unfold jb;rw[Qf (show 4096<(a,ra).1.length by simp only;omega)]
  rw[e];refine Qv Qx rfl (sc rfl) (λw3 Z7 _ Qu=>?_);have Z1:Mod (·=w1.heap.size) w2 w3:=nQQ Z7 rfl;refine Qt Qu rfl ?_;exact⟨none,0,0,rfl,hE.trans (Z1.ext Q5 (λi hi=>by have:=Qe.size;omega)),SlS.nil _,λi ⟨_,e,_⟩=>by cases e⟩
 ·have e:jb (a,ra)=((a,ra),0):=by unfold jb;rw[if_neg (show¬4096<(a,ra).1.length by simp only;omega)]
  rw[e];refine Qt (Qh.ext Qg) rfl ?_;refine Qv Qx rfl (sc rfl) (λw3 Z7 _ Qu=>?_);have Z1:Mod (·=w1.heap.size) w2 w3:=nQQ Z7 rfl;refine Qt Qu rfl ?_;refine⟨A,n,c,rfl,hE.trans (Z1.ext Q5 (λi hi=>by have:=Qe.size;omega)),⟨(h.ext Q5).1.modS Z1 (λh0 i hi e=>by obtain⟨ad,rfl,rfl⟩:=hi;have:=SB.lt h ad rfl h0;omega),KV⟩,hr⟩
theorem Fp (k:Int)(w:World)(h0:0<=k)(h1:k<=63):Fn Tryz.prog 34 [.int .i64 k] w (pG w (([⟨k,0,1⟩],2),0)):=by
 refine QF (c:={c34 with cuts:=[]}) Qa Tryz.func34 rfl rfl rfl ?_;refine new (λw1 Qe Q4 Qh=>?_);refine XD (by omega) ?_;refine XD (by omega) ?_;refine Xh Qa [(⟨k,0,1⟩:Br).cells] rfl rfl rfl rfl rfl ⟨rfl,rfl,⟨⟩⟩ rfl (λcs h=>by simp only[QN] at h;subst h;rfl) rfl (by decide) (by decide) ?_;intro w2 Qg Zb Qx;refine Qv (Qh.ext Qg) rfl (sc rfl) (λw3 Z7 _ Qu=>?_);have Z1:Mod (·=w.heap.size) w2 w3:=nQQ Z7 rfl;refine Qt Qu rfl ?_;refine⟨some ⟨w1.heap.size,0,none⟩,1,1,rfl,Z1.ext (Qe.trans Qg) (λi hi=>by omega),⟨Sl.own (sz:=3) (n:=1) (Qx.mod Z1 (by omega)) (QB _) (by decide) (by simp[Br.cells]),rfl⟩,λi ⟨ad,e,hi⟩=>by cases e;simp only at hi;omega⟩
theorem cK (b:Bool)(w:World):Fn Tryz.prog 37 [.bool b] w (λv w'=>v=Xk none 0 0 (if b then 1 else 0)/\Ext w w'):=by
 refine QF (c:={c37 with cuts:=[]}) Qa Tryz.func37 rfl rfl rfl ?_;refine new (λw1 Qe Q4 Qh=>?_);cases b with
 | true=>
  refine Q8 rfl ?_;refine Qv Qh rfl (sc rfl) (λw3 Z7 _ Qu=>?_);refine Qt Qu rfl ?_;exact⟨rfl,X9 Qe Qh Z7⟩
 | false=>
  refine Q3 rfl ?_;refine Qv Qh rfl (sc rfl) (λw3 Z7 _ Qu=>?_);refine Qt Qu rfl ?_;exact⟨rfl,X9 Qe Qh Z7⟩
def vN (F:Nat)(op:Int):Prop:=(F=84/\op=0)∨(F=155/\op=1)∨(F=83/\op=3)
theorem Fq {F:Nat}{op:Int}(h:vN F op)(x y:Bool)(w:World):Fn Tryz.prog F [.bool x,.bool y] w (λv w'=>v= .bool (Kv op x y)/\w=w'):=by
 rcases h with⟨rfl,rfl⟩ | ⟨rfl,rfl⟩ | ⟨rfl,rfl⟩
 ·refine QF (c:={c84 with cuts:=[]}) Qa Tryz.func84 rfl rfl rfl ?_;cases x with
  | true=>
   refine Q8 rfl ?_;exact⟨rfl,rfl⟩
  | false=>
   refine Q3 rfl ?_;exact⟨rfl,rfl⟩
 ·refine QF (c:={cQE with cuts:=[]}) Qa Tryz.func155 rfl rfl rfl ?_;cases x with
  | true=>
   refine Q8 rfl ?_;exact⟨rfl,rfl⟩
  | false=>
   refine Q3 rfl ?_;exact⟨rfl,rfl⟩
 ·refine QF (c:={c83 with cuts:=[]}) Qa Tryz.func83 rfl rfl rfl ?_;exact⟨rfl,rfl⟩
theorem fQl {F:Nat}{op:Int}(h:vN F op)(ob:Nat)(x y z:Bool)(w:World)(hB:Blk w ob 139 [.func (.func F) #[] #[]]):
  Fn Tryz.prog 129 [.bool x,.bool y,.bool z,.pointer (some ⟨ob,0,none⟩)] w (λv w'=>v= .bool (Kv op x y)/\w=w'):=by
 rcases h with⟨rfl,rfl⟩ | ⟨rfl,rfl⟩ | ⟨rfl,rfl⟩
 ·refine QF (c:={Ez with cuts:=[]}) Qa Tryz.func129 rfl rfl rfl ?_;refine QD hB rfl ?_;refine call (Fq (op:=0) (.inl ⟨rfl,rfl⟩) x y w) ?_;rintro _ _ ⟨rfl,rfl⟩;exact⟨rfl,rfl⟩
 ·refine QF (c:={Ez with cuts:=[]}) Qa Tryz.func129 rfl rfl rfl ?_;refine QD hB rfl ?_;refine call (Fq (op:=1) (.inr (.inl ⟨rfl,rfl⟩)) x y w) ?_;rintro _ _ ⟨rfl,rfl⟩;exact⟨rfl,rfl⟩
 ·refine QF (c:={Ez with cuts:=[]}) Qa Tryz.func129 rfl rfl rfl ?_;refine QD hB rfl ?_;refine call (Fq (op:=3) (.inr (.inr ⟨rfl,rfl⟩)) x y w) ?_;rintro _ _ ⟨rfl,rfl⟩;exact⟨rfl,rfl⟩
theorem nQX {α:Type} [DecidableEq α]{P:Program}{ke:Nat}{kv:α->Value}{len elem:Nat}(hu:P.underlying ke=some (.array len elem))
  (heq:∀(a b:α) (w:World),(Op.equal ke (kv a) (kv b)).run P w= .ok (decide (a=b)) w) (hc:∀b a w,(Instr.checkKey b 10000 ke (kv a)).run P w= .ok () w) (hb:∀a,Instr.sameBits 10000 (kv a) (kv a)=true):KeyQ P ke kv:=by
 refine⟨λa m bs w hl=>?_,hc,hb⟩;have key:=EH (P:=P) (ke:=ke) (kv:=kv) a w (λb=>heq a b w) m bs 0 hl;obtain⟨r,h1,h2,h3,h4⟩:=key;refine⟨r,?_,h2,λj v hj v'=>by simpa using (h3 j v hj).2 v',h4⟩;unfold Instr.findKey;simp only[Sem.run_bind,ZU hu,Result.andThen_ok];cases m with
 | nil=>
  simp only[XV,List.zip_nil_left,List.map_nil,Instr.findNow,Sem.run_pure];simp[XV,Instr.findAsking] at h1;rw[h1]
 | cons p m=>
  cases bs with
  | nil=>simp at hl
  | cons s bs=>
   have e:XV kv (p::m) (s::bs)={key:=kv p.1,val:=p.2,born:=s}::XV kv m bs:=rfl;rw[e] at h1 ⊢;have hn:Instr.findNow (.array len elem) (kv a) ({key:=kv p.1,val:=p.2,born:=s}::XV kv m bs) 0=none:=by
    simp[Instr.findNow,Instr.sameNow]
   rw[hn];exact h1
abbrev I3:=Int×Int×Int
abbrev dQ (t:I3):List Value:=[.int .i64 t.1,.int .i64 t.2.1,.int .i64 t.2.2]
abbrev bN:I3->Value:=λt=>.agg #[.int .i64 t.1,.int .i64 t.2.1,.int .i64 t.2.2]
theorem Ad:Tryz.prog.cellsOf 3=1:=by kernel_rfl
theorem vO (a b:Int)(n:Nat)(w:World):(Op.equalIn (n+1) 3 (.int .i64 a) (.int .i64 b)).run Tryz.prog w= .ok (a==b) w:=by
 simp[Op.equalIn,ZU Tryz.underlying3]
theorem fQm (a b:I3)(n:Nat)(w:World):(Op.equalIn (n+2) 242 (bN a) (bN b)).run Tryz.prog w= .ok (decide (a=b)) w:=by
 obtain⟨i,hi⟩:=M2.1 (show(Tryz.prog.info? 3).isSome=true by kernel_rfl);obtain⟨a0,a1,a2⟩:=a;obtain⟨b0,b1,b2⟩:=b;have e:=run_equalIn_array (w:=w) (n+1) #[.int .i64 a0,.int .i64 a1,.int .i64 a2] #[.int .i64 b0,.int .i64 b1,.int .i64 b2] Tryz.underlying242 hi;rw[Ad,show List.range 3=[0,1,2] from rfl] at e;refine e.trans ?_;have p0:∀x y z:Int,(part 3 #[Value.int .i64 x,.int .i64 y,.int .i64 z] (0*1)).run Tryz.prog w= .ok (.int .i64 x) w:=λx y z=>cy k3 rfl w
 have p1:∀x y z:Int,(part 3 #[Value.int .i64 x,.int .i64 y,.int .i64 z] (1*1)).run Tryz.prog w= .ok (.int .i64 y) w:=λx y z=>cy k3 rfl w
 have p2:∀x y z:Int,(part 3 #[Value.int .i64 x,.int .i64 y,.int .i64 z] (2*1)).run Tryz.prog w= .ok (.int .i64 z) w:=λx y z=>cy k3 rfl w
 have dd:decide ((a0,a1,a2)=(b0,b1,b2))=(a0==b0&&(a1==b1&&a2==b2)):=by
  by_cases h0:a0=b0<;>by_cases h1:a1=b1<;>by_cases h2:a2=b2<;>simp[h0,h1,h2]
 rw[dd];simp only[Op.eqItems,Sem.run_bind,p0,Result.andThen_ok,vO];cases h0:a0==b0 with
 | false=>simp
 | true=>
  simp only[Bool.not_true,MV,if_false,Sem.run_bind,p1,Result.andThen_ok,vO,cw];cases h1:a1==b1 with
  | false=>simp
  | true=>
   simp only[Bool.not_true,MV,if_false,Sem.run_bind,p2,Result.andThen_ok,vO,cw];cases h2:a2==b2<;>simp
theorem fQn (b:Bool)(a:I3)(n:Nat)(w:World):(Instr.checkKey b (n+2) 242 (bN a)).run Tryz.prog w= .ok () w:=by
 obtain⟨i,hi⟩:=M2.1 (show(Tryz.prog.info? 3).isSome=true by kernel_rfl);have p0:∀x y z:Int,(part 3 #[Value.int .i64 x,.int .i64 y,.int .i64 z] 0).run Tryz.prog w= .ok (.int .i64 x) w:=λx y z=>cy k3 rfl w
 have p1:∀x y z:Int,(part 3 #[Value.int .i64 x,.int .i64 y,.int .i64 z] 1).run Tryz.prog w= .ok (.int .i64 y) w:=λx y z=>cy k3 rfl w
 have p2:∀x y z:Int,(part 3 #[Value.int .i64 x,.int .i64 y,.int .i64 z] 2).run Tryz.prog w= .ok (.int .i64 z) w:=λx y z=>cy k3 rfl w
 have hz:(sizeOf 3).run Tryz.prog w= .ok 1 w:=by rw[<-Ad];exact Go.run_sizeOf w hi
 simp[Instr.checkKey,ZU Tryz.underlying242,ZU Tryz.underlying3,hz,p0,p1,p2,Std.Legacy.Range.forIn_eq_forIn_range',Std.Legacy.Range.size,List.range'_succ]
theorem Ae:KeyQ Tryz.prog 242 bN:=
 nQX Tryz.underlying242 (λa b w=>fQm a b 9998 w) (λb a w=>fQn b a 9998 w) (λa=>by simp[Instr.sameBits])
structure CP where
 ox:Nat
 ob:Nat
 mx:Nat
 lx:Nat
 ax:Nat
 bx:Nat
 pb:Nat
 km:Nat
 mm:Nat
 F:Nat
 D:AD
def CP.caps (p:CP):List Value:=[VP.ptr p.ox,VP.ptr p.mx,VP.ptr p.lx,VP.ptr p.ax,VP.ptr p.bx]
def CP.clo (p:CP):Value:=.func (.func 188) #[] #[VP.ptr p.ox,VP.ptr p.mx,VP.ptr p.lx,VP.ptr p.ax,VP.ptr p.bx]
def CP.lC (p:CP):List Value:=[.slice p.D.A p.D.n p.D.c,.int .i64 p.D.ra,.slice p.D.B p.D.m p.D.d,.int .i64 p.D.rb,.slice none 0 0,.int .i64 0]
structure CK (w:World) (base:Nat) (p:CP):Prop where
 hF:vN p.F p.D.op
 oxb:Blk w p.ox 205 [.func (.func 129) #[] #[VP.ptr p.ob]]
 obb:Blk w p.ob 139 [.func (.func p.F) #[] #[]]
 mxb:Blk w p.mx 272 [.map (some p.mm)]
 lxb:Blk w p.lx 204 p.lC
 axb:Blk w p.ax 273 [p.clo]
 bxb:Blk w p.bx 174 [VP.ptr p.pb]
 as_:SB w p.D.A p.D.n p.D.c p.D.a
 bs:SB w p.D.B p.D.m p.D.d p.D.b
 off:∀k,k=p.ox∨k=p.ob∨k=p.mx∨k=p.lx∨k=p.ax∨k=p.bx->k<base/\k≠p.pb/\k≠p.km/\k≠p.mm
 rowA:∀ad,p.D.A=some ad->0<p.D.n->ad.block<base/\ad.block≠p.pb/\ad.block≠p.km/\ad.block≠p.mm
 rowB:∀ad,p.D.B=some ad->0<p.D.m->ad.block<base/\ad.block≠p.pb/\ad.block≠p.km/\ad.block≠p.mm
def CS (p:CP)(NA:Option Addr):Nat->Prop:=λk=>k=p.mm∨BS p.pb p.km NA k
theorem CS.moved {w:World}{p:CP}{A A':Option Addr}(h:Moved w A A'):∀k,CS p A' k->CS p A k∨w.heap.size<=k:=by
 rintro k (rfl | hk)
 ·exact .inl (.inl rfl)
 ·rcases BS.moved h k hk with h | h
  ·exact .inl (.inr h)
  ·exact .inr h
theorem CS.trans {w w1 w2:World}{p:CP}{A A1:Option Addr}(hm:Mod (CS p A) w w1)(hv:Moved w A A1)(h:Mod (CS p A1) w1 w2):Mod (CS p A) w w2:=hm.trans h (CS.moved hv)
theorem CS.no {p:CP}{base:Nat}{NA:Option Addr}(hr:∀i,Qk NA i->base<=i){k:Nat}(h:k<base/\k≠p.pb/\k≠p.km/\k≠p.mm):¬CS p NA k:=λe=>by
 obtain⟨h1,h2,h3,h4⟩:=h;rcases e with e | e | e | e
 ·exact h4 e
 ·exact h2 e
 ·exact h3 e
 ·have:=hr k e;omega
theorem CK.mod {w w':World}{base:Nat}{p:CP}{NA:Option Addr}(h:CK w base p)(hr:∀i,Qk NA i->base<=i)(hm:Mod (CS p NA) w w'):CK w' base p:=by
 have k:=λk hk=>CS.no (p:=p) hr (h.off k hk)
 refine⟨h.hF,h.oxb.mod hm (k _ (by simp)),h.obb.mod hm (k _ (by simp)),h.mxb.mod hm (k _ (by simp)),h.lxb.mod hm (k _ (by simp)),h.axb.mod hm (k _ (by simp)),h.bxb.mod hm (k _ (by simp)),⟨h.as_.1.modS hm ?_,h.as_.2⟩,⟨h.bs.1.modS hm ?_,h.bs.2⟩,h.off,h.rowA,h.rowB⟩
 ·rintro h0 i ⟨ad,e,rfl⟩;exact CS.no hr (h.rowA ad e h0)
 ·rintro h0 i ⟨ad,e,rfl⟩;exact CS.no hr (h.rowB ad e h0)
theorem CK.ext {w w':World}{base:Nat}{p:CP}(h:CK w base p)(k:Ext w w'):CK w' base p:=
 h.mod (NA:=none) (λi hi=>by obtain⟨_,e,_⟩:=hi;cases e) (Mod.of_ext _ k)
def je (l:List Tr3)(x y:Int):Option Value:=(l.find? (λt=>decide (t.1=x/\t.2.1=y))).map λt=>.int .i64 t.2.2
structure CSt (w:World) (base:Nat) (p:CP) (NA:Option Addr) (nc:Nat) (st:List Br×List Tr3):Prop where
 bd:Bd w base p.pb p.km NA nc st.1
 memo:∃m,MapQ bN w p.mm m/\∀x y:Int,Xz ((x,y,0):I3) m=je st.2 x y
 lt:p.mm<base/\p.mm≠p.pb/\p.mm≠p.km
theorem CSt.ext {w w':World}{base:Nat}{p:CP}{NA:Option Addr}{nc:Nat}{st:List Br×List Tr3}(h:CSt w base p NA nc st)(k:Ext w w'):CSt w' base p NA nc st:=
 ⟨h.bd.ext k,let ⟨m,h1,h2⟩:=h.memo;⟨m,h1.ext k,h2⟩,h.lt⟩
def CTo (w:World)(base:Nat)(p:CP)(NA:Option Addr)(st:List Br×List Tr3)(w':World):Prop:=∃NA' nc',CSt w' base p NA' nc' st/\Mod (CS p NA) w w'/\Moved w NA NA'
theorem PP {op x y:Int}(x0:0<=x)(x1:x<2)(y0:0<=y)(y1:y<2):dK op x y=if Kv op (decide (x=1)) (decide (y=1))then 1 else 0:=by
 have h1:=O6 (op:=op) x0 x1 y0 y1;have h2:=E1 (op:=op) x0 x1 y0 y1;rw[<-h1];by_cases h:dK op x y=1
 ·rw[Zy h];exact h
 ·rw[Zq h];show dK op x y=0;omega
theorem sT {a b:List Br}(ha:Vp a)(hb:Vp b)(op:Int):∀(f:Nat)(x y:Int)(st:List Br×List Tr3),0<=x->0<=y->x<a.length+2->y<b.length+2->
  ∀t∈(Xo a b op f x y st).2.2,t∈st.2∨t.1+t.2.1<=x+y
 | 0,x,y,st,_,_,_,_=>λt ht=>.inl ht
 | f+1,x,y,st,x0,y0,hx,hy=>by
  by_cases Xu:x<2/\y<2
  ·rw[kn Xu];exactλt ht=>.inl ht
  cases k:st.2.find? (λt=>decide (t.1=x/\t.2.1=y))with
  | some t=>rw[ko Xu k];exactλt ht=>.inl ht
  | none=>
   have ZC:min (Ql a x) (Ql b y)<64:=by
    by_cases c:x<2
    ·have:=am hb (n:=y) (λc2=>Xu ⟨c,c2⟩) (by omega);rw[Z3];split<;>omega
    ·have:=am ha (n:=x) c (by omega);rw[Z3];split<;>omega
   rw[kr Xu k _ rfl];generalize min (Ql a x) (Ql b y)=v at*;obtain⟨s1,s2,s3,s4,s5⟩:=Wp ha (n:=x) x0 ZC;obtain⟨t1,t2,t3,t4,t5⟩:=Wp hb (n:=y) y0 ZC;have j1:=sT ha hb op f _ _ st s1 t1 (by omega) (by omega);generalize (Xo a b op f (Qm a x v).1 (Qm b y v).1 st)=r0 at*;have j2:=sT ha hb op f _ _ r0.2 s3 t3 (by omega) (by omega);generalize (Xo a b op f (Qm a x v).2 (Qm b y v).2 r0.2)=r1 at*;intro t ht;simp only[XM,QN] at ht;rcases ht with ht | rfl
   ·rcases j2 t ht with h1 | h1
    ·rcases j1 t h1 with h2 | h2
     ·exact .inl h2
     ·exact .inr (by omega)
    ·exact .inr (by omega)
   ·exact .inr (by simp only;omega)
theorem PQ (base:Nat)(p:CP)(ha:Vp p.D.a)(hb:Vp p.D.b)(eo:p.D.n<=1000000000000/\p.D.m<=1000000000000):∀(m:Nat)(x y:Int)(st:List Br×List Tr3)(NA:Option Addr)(nc:Nat)(w:World),
  CK w base p->CSt w base p NA nc st->0<=x->0<=y->x+y<m->x<p.D.n+2->y<p.D.m+2->(Xo p.D.a p.D.b p.D.op m x y st).2.1.length<=100000000000->
  Fn Tryz.prog 188 (bN (x,y,0)::p.caps) w (λv w'=>v= .int .i64 (Xo p.D.a p.D.b p.D.op m x y st).1/\CTo w base p NA (Xo p.D.a p.D.b p.D.op m x y st).2 w')
 | 0,x,y,st,NA,nc,w,_,_,x0,y0,hm,_,_,_=>by omega
 | m+1,x,y,st,NA,nc,w,hK,hS,x0,y0,hm,hx,hy,XE=>by
  have ih:=PQ base p ha hb eo m;have KV:p.D.a.length=p.D.n:=hK.as_.2;have fu:p.D.b.length=p.D.m:=hK.bs.2;have lD:=hS.bd.top;have LZ:∀i,Qk NA i->base<=i:=λi hi=>(hS.bd.own.rows i hi).1
  refine QF (c:={N4 with cuts:=[1]}) Qa Tryz.func188 rfl rfl rfl ?_;refine new (λw1 Qe Q4 Qh=>?_)
  replace Qh:Blk w1 w.heap.size 242 (dQ (x,y,0)):=Qh;have Kd:=hK.ext Qe;have KS:=hS.ext Qe;have oB:w.heap.size<w1.heap.size:=by omega
  refine fO [] Qa [] (λ_:Unit=>[]) (λ_ w'=>w1=w'/\¬(x<2/\y<2)) ?_ ?_
  ·refine index (j:=0) (by decide) ?_;refine Qo Qh rfl ?_;refine Qz (λc1=>?_) (λc1=>?_)
   ·refine index (j:=1) (by decide) ?_;refine Qo Qh rfl ?_;refine Qz (λc2=>?_) (λc2=>?_)
    ·refine index (j:=2) (by decide) ?_;refine Qo Qh rfl ?_;refine Zh (show(0:Int)<2 by decide) ?_;refine QD Kd.oxb rfl ?_;refine index (j:=0) (by decide) ?_;refine Qo Qh rfl ?_;refine index (j:=1) (by decide) ?_;refine Qo Qh rfl ?_;refine index (j:=2) (by decide) ?_;refine Qo Qh rfl ?_;rw[kn ⟨c1,c2⟩,PP x0 c1 y0 c2];refine call (fQl hK.hF p.ob (decide (x=1)) (decide (y=1)) (decide ((0:Int)=1)) w1 Kd.obb) ?_;rintro v _ ⟨rfl,rfl⟩;cases Kv p.D.op (decide (x=1)) (decide (y=1))with
     | true=>
      refine Q8 rfl ?_;exact⟨rfl,NA,nc,KS,Mod.of_ext _ Qe,Moved.refl _ _⟩
     | false=>
      refine Q3 rfl ?_;exact⟨rfl,NA,nc,KS,Mod.of_ext _ Qe,Moved.refl _ _⟩
    ·exact⟨(),rfl,rfl,λhh=>c2 hh.2⟩
   ·exact⟨(),rfl,rfl,λhh=>c1 hh.1⟩
  rintro⟨⟩ _ ⟨rfl,Xu⟩;obtain⟨mq,em,YC⟩:=KS.memo;refine QD Kd.mxb rfl ?_;refine Qt Qh rfl ?_;refine EI (kv:=bN) (a:=((x,y,0):I3)) Qa rfl rfl rfl rfl Ae rfl rfl em ?_;cases k:st.2.find? (λt=>decide (t.1=x/\t.2.1=y))with
  | some t=>
   have bA:Xz ((x,y,0):I3) mq=some (.int .i64 t.2.2):=by rw[YC,je,k]<;>rfl
   refine Q8 (by rw[bA];rfl) ?_;rw[ko Xu k];exact⟨by rw[bA];rfl,NA,nc,KS,Mod.of_ext _ Qe,Moved.refl _ _⟩
  | none=>
  have bA:Xz ((x,y,0):I3) mq=none:=by rw[YC,je,k]<;>rfl
  refine Q3 (by rw[bA];rfl) ?_;have ZC:min (Ql p.D.a x) (Ql p.D.b y)<64:=by
   by_cases c:x<2
   ·have:=am hb (n:=y) (λc2=>Xu ⟨c,c2⟩) (by omega);rw[Z3];split<;>omega
   ·have:=am ha (n:=x) c (by omega);rw[Z3];split<;>omega
  have L0:SB w1 none 0 0 []:=SlS.nil _;have qL:∀w',Ext w1 w'->∀(j:Nat) (v:Value),p.lC[j]? =some v->w'.cell? ((⟨p.lx,0,none⟩:Addr).add j)=some v:=λw' Qb j v hj=>by rw[(Kd.lxb.ext Qb).cell];exact hj
  have qN:∀w',Ext w1 w'->∀(j:Nat) (v:Value),(dQ (x,y,0))[j]? =some v->w'.cell? ((⟨w.heap.size,0,none⟩:Addr).add j)=some v:=λw' Qb j v hj=>by rw[(Qh.ext Qb).cell];exact hj
  refine XK Qa (Ext w1) 17 [(true,0),(true,1),(true,2),(true,3),(true,5),(true,6),(true,7),(true,8),(true,10),(true,11),(true,12),(true,13),(false,4),(false,9),(false,14),(true,15),(true,16)] (by kernel_rfl) (Ext.drew w1) ?_;refine JS (j:=0) (by decide) ?_;refine Xs (vs:=[.slice p.D.A p.D.n p.D.c,.int .i64 p.D.ra]) rfl (λw' Qb j v hj=>by
   rw[add_add,(Kd.lxb.ext Qb).cell]
   match j,hj with
   | 0,hj=>exact hj
   | 1,hj=>exact hj) ?_
  refine index (j:=0) (by decide) ?_;refine QK (v:=.int .i64 x) (λw' Qb=>qN w' Qb 0 _ rfl) ?_;refine JS (j:=1) (by decide) ?_;refine Xs (vs:=[.slice p.D.B p.D.m p.D.d,.int .i64 p.D.rb]) rfl (λw' Qb j v hj=>by
   rw[add_add,(Kd.lxb.ext Qb).cell]
   match j,hj with
   | 0,hj=>exact hj
   | 1,hj=>exact hj) ?_
  refine index (j:=1) (by decide) ?_;refine QK (v:=.int .i64 y) (λw' Qb=>qN w' Qb 1 _ rfl) ?_;refine JS (j:=2) (by decide) ?_;refine Xs (vs:=[.slice none 0 0,.int .i64 0]) rfl (λw' Qb j v hj=>by
   rw[add_add,(Kd.lxb.ext Qb).cell]
   match j,hj with
   | 0,hj=>exact hj
   | 1,hj=>exact hj) ?_
  refine index (j:=2) (by decide) ?_;refine QK (v:=.int .i64 0) (λw' Qb=>qN w' Qb 2 _ rfl) ?_;refine call (dJ p.D.A p.D.n p.D.c p.D.ra x p.D.a _ (Kd.as_.ext (Ext.drew w1)) (by omega)) ?_;rintro u w2 ⟨rfl,Qg⟩;have Xv:=(Ext.drew w1).trans Qg;refine⟨Xv,?_⟩;refine call (dJ p.D.B p.D.m p.D.d p.D.rb y p.D.b _ (Kd.bs.ext Xv) (by omega)) ?_;rintro u w3 ⟨rfl,Qj⟩;have XI:=Xv.trans Qj;refine⟨XI,?_⟩;refine call (dJ none 0 0 0 0 [] _ (L0.ext XI) (by simp)) ?_;rintro u w4 ⟨rfl,Qs⟩;have JN:=XI.trans Qs;refine⟨JN,?_⟩;have wO:Ql [] 0=64:=rfl;rw[wO];have L1: -9223372036854775808<=min (Ql p.D.a x) (Ql p.D.b y):=by
   have pos:∀{d:List Br},Vp d->∀{n:Int},n<d.length+2->0<=Ql d n:=λ{d} hd {n} hn=>by
    by_cases h2:n<2
    ·rw[gL h2];omega
    ·obtain⟨z,hz⟩:=Wq h2 hn;rw[dO h2 hz];exact(hd.2 _ _ hz).1
   have p1:=pos ha (n:=x) (by omega);have p2:=pos hb (n:=y) (by omega);rw[Z3];split<;>omega
  have HF:(if(64:Int)<(if Ql p.D.b y<Ql p.D.a x then Ql p.D.b y else Ql p.D.a x)then 64 else(if Ql p.D.b y<Ql p.D.a x then Ql p.D.b y else Ql p.D.a x))=min (Ql p.D.a x) (Ql p.D.b y):=by
   rw[Z3] at ZC ⊢;split at ZC<;>split<;>split<;>omega
  refine norm (m:=min (Ql p.D.a x) (Ql p.D.b y)) HF ?_;rw[kr Xu k _ rfl] at XE ⊢;generalize ye:min (Ql p.D.a x) (Ql p.D.b y)=v at*;have Q7:=Qh.ext JN;have VN:=Kd.ext JN;have bi:=KS.ext JN;have XG:=Qe.trans JN;have HG:=JN.size;refine new (λw5 Qw KP nv=>?_);refine new (λw6 QO dX HH=>?_);have XF:=Qw.trans QO;have HI:=nv.ext QO;have Q9:=Q7.ext XF;have bY:=VN.ext XF;have aC:=bi.ext XF;have XR:=XG.trans XF;obtain⟨s1,s2,s3,s4,s5⟩:=Wp ha (n:=x) x0 ZC;obtain⟨t1,t2,t3,t4,t5⟩:=Wp hb (n:=y) y0 ZC;refine loop Qa [64] (λs:Nat=>[.int .i64 s]) (λs w'=>Mod (λi=>i=w4.heap.size∨i=w5.heap.size) w6 w'/\s<=3/\Blk w' w4.heap.size 242 (dQ (if 0<s then(Qm p.D.a x v).1 else 0,if 1<s then(Qm p.D.b y v).1 else 0,0))/\Blk w' w5.heap.size 242 (dQ (if 0<s then(Qm p.D.a x v).2 else 0,if 1<s then(Qm p.D.b y v).2 else 0,0))) (λs _=>3-s) 0 rfl ⟨Mod.refl _ _,Xr _,HI,HH⟩ ?_;rintro s w7 ⟨Xf,qf,eV,cW⟩;have hbz:base<=w4.heap.size:=by have:=Qe.size;omega
  have Ur:w5.heap.size=w4.heap.size+1:=KP;have yf:w.heap.size<w4.heap.size:=by omega
  have yg:∀k,k<w4.heap.size->¬(k=w4.heap.size∨k=w5.heap.size):=λk hk e=>by omega
  have hlx:=hK.off p.lx (by simp);have Xb:Ext w w7:=Xf.ext XR (λi hi=>by omega);have tK:Ext w1 w7:=Xf.ext (JN.trans XF) (λi hi=>by omega);have Ye:Ext w4 w7:=Xf.ext XF (λi hi=>by omega);have Q2:=Q7.ext Ye;have WX:=VN.ext Ye;have Vu:=bi.ext Ye;have Wu:=Xf.size;have nLX:=yg p.lx (by omega);have nB:=yg w.heap.size yf;have h0:Qm [] 0 v=(0,0):=by unfold Qm;rw[Qf (show Ql [] 0≠v by rw[wO];omega)]
  by_cases hs:s<3
  ·rcases(show s=0∨s=1∨s=2 by omega)with rfl | rfl | rfl
   ·refine Zh (show((0:Nat):Int)<3 by decide) ?_;refine XK Qa (Mod (λi=>i=w4.heap.size∨i=w5.heap.size) w7) 17 [(true,0),(true,1),(true,2),(true,3),(true,4),(true,5),(true,6),(true,7),(true,8),(false,9),(true,10),(true,11),(true,12),(true,13),(false,14),(true,15),(false,16)] (by kernel_rfl) (Mod.of_ext _ (Ext.drew w7)) ?_;refine JS (j:=0) (by decide) ?_;refine Xs (vs:=[.slice p.D.A p.D.n p.D.c,.int .i64 p.D.ra]) rfl (λw' Qb j v hj=>by
     rw[add_add,(WX.lxb.mod Qb nLX).cell]
     match j,hj with
     | 0,hj=>exact hj
     | 1,hj=>exact hj) ?_
    refine index (j:=0) (by decide) ?_;refine QK (v:=.int .i64 x) (λw' Qb=>by rw[(Q2.mod Qb nB).cell];rfl) ?_;refine call (jd p.D.A p.D.n p.D.c p.D.ra x v p.D.a _ (WX.as_.ext (Ext.drew w7)) (by omega) ZC) ?_;rintro u w8 ⟨rfl,Xl⟩;have JO:=(Ext.drew w7).trans Xl;refine⟨Mod.of_ext _ JO,?_⟩;refine index (j:=0) (by decide) ?_;refine XP (eV.ext JO) (by simp) (λw9 Zj ij=>?_);have K6:Mod (λi=>i=w4.heap.size∨i=w5.heap.size) w7 w9:=(Mod.of_ext _ JO).trans Zj (λi hi=>.inl (.inl hi));refine⟨K6,?_⟩;have eT:=K6.size;refine index (j:=0) (by decide) ?_;refine XP (((cW.ext JO).mod Zj (by show¬w5.heap.size=w4.heap.size;omega))) (by simp) (λQy Zo eW=>?_);have WY:Mod (λi=>i=w4.heap.size∨i=w5.heap.size) w7 Qy:=K6.trans Zo (λi hi=>.inl (.inr hi));refine⟨WY,?_⟩;have eX:=ij.mod Zo (by show¬w4.heap.size=w5.heap.size;omega);refine Qi ((1:Nat):Int) (by decide) (by decide) ?_;exact⟨1,rfl,⟨Xf.trans WY (λi hi=>.inl hi),by decide,eX,eW⟩,by show 3-1<3-0;decide⟩
   ·refine Zh (show((1:Nat):Int)<3 by decide) ?_;refine XK Qa (Mod (λi=>i=w4.heap.size∨i=w5.heap.size) w7) 17 [(true,0),(true,1),(true,2),(true,3),(true,4),(true,5),(true,6),(true,7),(true,8),(false,9),(true,10),(true,11),(true,12),(true,13),(false,14),(true,15),(false,16)] (by kernel_rfl) (Mod.of_ext _ (Ext.drew w7)) ?_;refine JS (j:=1) (by decide) ?_;refine Xs (vs:=[.slice p.D.B p.D.m p.D.d,.int .i64 p.D.rb]) rfl (λw' Qb j v hj=>by
     rw[add_add,(WX.lxb.mod Qb nLX).cell]
     match j,hj with
     | 0,hj=>exact hj
     | 1,hj=>exact hj) ?_
    refine index (j:=1) (by decide) ?_;refine QK (v:=.int .i64 y) (λw' Qb=>by rw[(Q2.mod Qb nB).cell];rfl) ?_;refine call (jd p.D.B p.D.m p.D.d p.D.rb y v p.D.b _ (WX.bs.ext (Ext.drew w7)) (by omega) ZC) ?_;rintro u w8 ⟨rfl,Xl⟩;have JO:=(Ext.drew w7).trans Xl;refine⟨Mod.of_ext _ JO,?_⟩;refine index (j:=1) (by decide) ?_;refine XP (eV.ext JO) (by simp) (λw9 Zj ij=>?_);have K6:Mod (λi=>i=w4.heap.size∨i=w5.heap.size) w7 w9:=(Mod.of_ext _ JO).trans Zj (λi hi=>.inl (.inl hi));refine⟨K6,?_⟩;have eT:=K6.size;refine index (j:=1) (by decide) ?_;refine XP (((cW.ext JO).mod Zj (by show¬w5.heap.size=w4.heap.size;omega))) (by simp) (λQy Zo eW=>?_);have WY:Mod (λi=>i=w4.heap.size∨i=w5.heap.size) w7 Qy:=K6.trans Zo (λi hi=>.inl (.inr hi));refine⟨WY,?_⟩;have eX:=ij.mod Zo (by show¬w4.heap.size=w5.heap.size;omega);refine Qi ((2:Nat):Int) (by decide) (by decide) ?_;exact⟨2,rfl,⟨Xf.trans WY (λi hi=>.inl hi),by decide,eX,eW⟩,by show 3-2<3-1;decide⟩
   ·refine Zh (show((2:Nat):Int)<3 by decide) ?_;refine XK Qa (Mod (λi=>i=w4.heap.size∨i=w5.heap.size) w7) 17 [(true,0),(true,1),(true,2),(true,3),(true,4),(true,5),(true,6),(true,7),(true,8),(false,9),(true,10),(true,11),(true,12),(true,13),(false,14),(true,15),(false,16)] (by kernel_rfl) (Mod.of_ext _ (Ext.drew w7)) ?_;refine JS (j:=2) (by decide) ?_;refine Xs (vs:=[.slice none 0 0,.int .i64 0]) rfl (λw' Qb j v hj=>by
     rw[add_add,(WX.lxb.mod Qb nLX).cell]
     match j,hj with
     | 0,hj=>exact hj
     | 1,hj=>exact hj) ?_
    refine index (j:=2) (by decide) ?_;refine QK (v:=.int .i64 0) (λw' Qb=>by rw[(Q2.mod Qb nB).cell];rfl) ?_;refine call (jd none 0 0 0 0 v [] _ (SlS.nil _) (by decide) ZC) ?_;rintro u w8 ⟨rfl,Xl⟩;have JO:=(Ext.drew w7).trans Xl;refine⟨Mod.of_ext _ JO,?_⟩;refine index (j:=2) (by decide) ?_;refine XP (eV.ext JO) (by simp) (λw9 Zj ij=>?_);have K6:Mod (λi=>i=w4.heap.size∨i=w5.heap.size) w7 w9:=(Mod.of_ext _ JO).trans Zj (λi hi=>.inl (.inl hi));refine⟨K6,?_⟩;have eT:=K6.size;refine index (j:=2) (by decide) ?_;refine XP (((cW.ext JO).mod Zj (by show¬w5.heap.size=w4.heap.size;omega))) (by simp) (λQy Zo eW=>?_);have WY:Mod (λi=>i=w4.heap.size∨i=w5.heap.size) w7 Qy:=K6.trans Zo (λi hi=>.inl (.inr hi));refine⟨WY,?_⟩;have eX:=ij.mod Zo (by show¬w4.heap.size=w5.heap.size;omega);refine Qi ((3:Nat):Int) (by decide) (by decide) ?_;rw[h0] at eX eW;exact⟨3,rfl,⟨Xf.trans WY (λi hi=>.inl hi),by decide,eX,eW⟩,by show 3-3<3-2;decide⟩
  ·have:s=3:=by omega
   subst this;refine XD (show¬((3:Nat):Int)<3 by decide) ?_
   replace eV:Blk w7 w4.heap.size 242 (dQ ((Qm p.D.a x v).1,(Qm p.D.b y v).1,0)):=eV
   replace cW:Blk w7 w5.heap.size 242 (dQ ((Qm p.D.a x v).2,(Qm p.D.b y v).2,0)):=cW;have cq:Ql p.D.a x=v∨Ql p.D.b y=v:=by rw[<-ye,Z3];split<;>simp
   have dec:(Qm p.D.a x v).1+(Qm p.D.b y v).1<x+y/\(Qm p.D.a x v).2+(Qm p.D.b y v).2<x+y:=by
    rcases cq with e | e
    ·have:=s5 e;omega
    ·have:=t5 e;omega
   have HJ:=sT ha hb p.D.op m (Qm p.D.a x v).1 (Qm p.D.b y v).1 st s1 t1 (by omega) (by omega);have HK:=sT ha hb p.D.op m (Qm p.D.a x v).2 (Qm p.D.b y v).2 (Xo p.D.a p.D.b p.D.op m (Qm p.D.a x v).1 (Qm p.D.b y v).1 st).2 s3 t3 (by omega) (by omega);have mo2:=mo p.D.a p.D.b p.D.op m (Qm p.D.a x v).2 (Qm p.D.b y v).2 (Xo p.D.a p.D.b p.D.op m (Qm p.D.a x v).1 (Qm p.D.b y v).1 st).2;have c1:=ih (Qm p.D.a x v).1 (Qm p.D.b y v).1 st NA nc w7 WX Vu s1 t1 (by omega) (by omega) (by omega);have c2:=λN1 n1 w' h1 h2=>ih (Qm p.D.a x v).2 (Qm p.D.b y v).2 (Xo p.D.a p.D.b p.D.op m (Qm p.D.a x v).1 (Qm p.D.b y v).1 st).2 N1 n1 w' h1 h2 s3 t3 (by omega) (by omega) (by omega)
   generalize (Xo p.D.a p.D.b p.D.op m (Qm p.D.a x v).1 (Qm p.D.b y v).1 st)=r0 at*;generalize (Xo p.D.a p.D.b p.D.op m (Qm p.D.a x v).2 (Qm p.D.b y v).2 r0.2)=r1 at*;have ul:=vv ⟨v,r0.1,r1.1⟩ r1.2.1;have ul2:(ZZ ⟨v,r0.1,r1.1⟩ r1.2.1).1.length<=r1.2.1.length+1:=by
    unfold ZZ;split
    ·exact yV _
    ·split
     ·exact yV _
     ·simp
   simp only at XE;refine QD WX.axb rfl ?_;refine Qt eV rfl ?_;refine call (c1 (by omega)) ?_;rintro _ QH ⟨rfl,N1,n1,qh,Z2,wP⟩;have HL:=cW.lt;have jw:=hS.bd.own.rows;obtain⟨l1,l2,l3⟩:=hS.lt;obtain⟨b1,b2,b3⟩:=hS.bd.lt;have new:∀k,w.heap.size<=k->¬CS p NA k:=λk hk e=>by
    rcases e with e | e | e | e
    ·omega
    ·omega
    ·omega
    ·have:=(jw k e).2;omega
   have eY:=WX.mod LZ Z2;have HM:=cW.mod Z2 (new _ (by omega));have Z8:=Q2.mod Z2 (new _ (QB _));have bU:∀i,Qk N1 i->base<=i:=λi hi=>(qh.bd.own.rows i hi).1
   have wQ:∀k,w.heap.size<=k->k<w7.heap.size->¬CS p N1 k:=λk hk h7 e=>by
    rcases CS.moved wP k e with e | e
    ·exact new k hk e
    ·omega
   have tL:=Z2.size;have L3:=Q2.lt;refine XK Qa (Mod (CS p N1) QH) 8 [(true,0),(true,1),(true,2),(true,3),(true,4),(false,5),(false,6),(true,7)] (by kernel_rfl) (Mod.of_ext _ (Ext.drew QH)) ?_;have nof:=λk hk=>CS.no (p:=p) bU (eY.off k hk)
   refine QK (v:=VP.ptr p.pb) (λw' Qb=>by rw[(eY.bxb.mod Qb (nof _ (by simp))).cell0];rfl) ?_;refine QK (v:=p.clo) (λw' Qb=>by rw[(eY.axb.mod Qb (nof _ (by simp))).cell0];rfl) ?_;refine Xs (vs:=dQ ((Qm p.D.a x v).2,(Qm p.D.b y v).2,0)) rfl (λw' Qb j v hj=>by rw[(HM.mod Qb (wQ _ (by omega) HL)).cell];exact hj) ?_;refine call (c2 N1 n1 _ (eY.ext (Ext.drew QH)) (qh.ext (Ext.drew QH)) (by omega)) ?_;rintro _ Xa ⟨rfl,N2,n2,bj,Vs,tG⟩;have ld:Mod (CS p N1) QH Xa:=(Mod.of_ext _ (Ext.drew QH)).trans Vs (λi hi=>.inl hi);have wS:Moved QH N1 N2:=tG.back (Ext.drew QH).size;refine⟨ld,?_⟩;have Y3:∀i,Qk N2 i->base<=i:=λi hi=>(bj.bd.own.rows i hi).1
   refine call (PN base p.pb p.km N2 n2 r1.2.1 ⟨v,r0.1,r1.1⟩ Xa bj.bd (by omega)) ?_;rintro _ X6 ⟨rfl,N3,n3,cX,Kj,HN⟩;have HO:Mod (CS p N2) Xa X6:=Kj.mono (λi hi=>.inl (.inr hi));have lf:Mod (CS p N1) QH X6:=CS.trans ld wS HO;refine⟨lf,?_⟩;have kQe:=eY.mod bU ld;have HP:=eY.mod bU lf;have K5:=Z8.mod lf (wQ _ (QB _) L3);obtain⟨HQ,wx,HS⟩:=bj.memo;have HT:MapQ bN X6 p.mm HQ:=wx.mod Kj (λe=>by
    rcases e with e | e | e
    ·exact l2 e
    ·exact l3 e
    ·have:=Y3 _ e;omega)
   refine QD HP.mxb rfl ?_;refine Qt K5 rfl ?_;refine r8 (kv:=bN) (a:=((x,y,0):I3)) Qa rfl rfl rfl rfl Ae rfl rfl rfl HT (λZk KQ kQf HU=>?_);have ZI:∀k,k≠p.mm->¬(k=p.mm):=λk h=>h
   obtain⟨d1,d2,d3⟩:=cX.lt;have HV:∀i,Qk N3 i->base<=i:=λi hi=>(cX.own.rows i hi).1
   obtain⟨kq,L4,L5⟩:=cX.known;have HW:Bd Zk base p.pb p.km N3 n3 (ZZ ⟨v,r0.1,r1.1⟩ r1.2.1).1:=⟨cX.blk.mod KQ (λe=>l2 e.symm),cX.own.mod KQ (λi hi e=>by have:=HV i hi;have e':i=p.mm:=e;omega),⟨kq,L4.mod KQ (λe=>l3 e.symm),L5⟩,cX.lt,Zc cX.top KQ.size⟩
   have HX:Mod (CS p NA) w w7:=Mod.of_ext _ Xb;have kQg:Moved w NA NA:=Moved.refl _ _;have wT:Mod (CS p NA) w QH:=HX.trans Z2 (λi hi=>.inl hi);have wU:Moved w NA N1:=wP.back Xb.size;have HY:Mod (CS p NA) w X6:=CS.trans wT wU lf;have ny:Mod (CS p NA) w Zk:=HY.trans KQ (λi hi=>.inl (.inl hi));have HZ:Moved w NA N3:=wU.trans (wS.trans HN ld.size) wT.size;refine⟨rfl,N3,n3,⟨HW,⟨_,HU,λx' y'=>?_⟩,hS.lt⟩,ny,HZ⟩;have Xi:r1.2.2.find? (λt=>decide (t.1=x/\t.2.1=y))=none:=by
    rw[uL];intro t ht hh;simp only[Vm] at hh;rcases HK t ht with h1 | h1
    ·rcases HJ t h1 with h2 | h2
     ·have:=uL.1 k t h2;simp only[Vm] at this;exact this hh
     ·omega
    ·omega
   rw[aS,HS,je,je,List.find?_append];by_cases Yk:(x',y')=(x,y)
   ·cases Yk;rw[Qf rfl,Xi];simp
   ·rw[if_neg (λe=>Yk (by cases e;rfl))];have: [(x,y,(ZZ ⟨v,r0.1,r1.1⟩ r1.2.1).2)].find? (λt:Tr3=>decide (t.1=x'/\t.2.1=y'))=none:=by
     rw[MZ]
     ·rfl
     ·simp only[Vm];exactλe=>Yk (by rw[e.1,e.2])
    rw[this];simp
theorem PS (w:World):Fn Tryz.prog 187 [] w (λv w'=>v=VP.ptr (w.heap.size+1)/\Ext w w'/\w'.heap.size=w.heap.size+2/\Blk w' (w.heap.size+1) 177 [.slice none 0 0,.map (some w.heap.size)]/\MapQ cE w' w.heap.size []):=by
 refine QF (c:={cQT with cuts:=[]}) Qa Tryz.func187 rfl rfl rfl ?_;refine r7 Qa cE rfl ?_;intro w1 Qe Q4 Zt;refine new (λw2 Qg Zb Qx=>?_);rw[Q4] at Qx;exact⟨by rw[Q4];rfl,Qe.trans Qg,by omega,Qx,Zt.ext Qg⟩
theorem fQo (A:Option Addr)(n c:Nat)(a:List Br)(ra:Int)(B:Option Addr)(m d:Nat)(b:List Br)(rb op:Int)(F ob:Nat)(w:World)(hF:vN F op)(h:SB w A n c a)(h':SB w B m d b)(Dp:Blk w ob 139 [.func (.func F) #[] #[]])(ha:Vp a)(hb:Vp b)(r0:0<=ra)(r1:ra<n+2)(s0:0<=rb)(s1:rb<m+2)(hn:n<=1000000000000)(hm:m<=1000000000000)
  (XE:(kt a ra b rb op).2.1.length<=100000000000):
  Fn Tryz.prog 128 [.agg #[.slice A n c,.int .i64 ra,.slice B m d,.int .i64 rb,.slice none 0 0,.int .i64 0],.func (.func 129) #[] #[VP.ptr ob]] w (vt w (VF a ra b rb op)):=by
 have KV:=h.2;have fu:=h'.2;have nQz:=Dp.lt;refine QF (c:={NZ with cuts:=[]}) Qa Tryz.func128 rfl rfl rfl ?_;refine new (λw1 Qe Q4 Qh=>?_);refine new (λw2 Qg Zb Qx=>?_);refine new (λw3 Qj JC Qu=>?_);refine call (PS w3) ?_;rintro _ w4 ⟨rfl,Qs,KO,Q7,H0⟩;refine new (λw5 Qw KP QG=>?_);refine XP (j:=0) QG (by decide) (λw6 K4 Q9=>?_);have XF:Ext w4 w6:=K4.ext Qw (λi hi=>by omega);refine r7 Qa bN rfl ?_;intro w7 Xb Wu H1;refine new (λw8 Xl Yw Xw=>?_);refine XP (j:=0) Xw (by decide) (λw9 Zj JD=>?_);have VO:Ext w7 w9:=Zj.ext Xl (λi hi=>by omega);refine new (λQy XT wJ JM=>?_);refine XP (j:=0) JM (by decide) (λQH Z2 Z8=>?_);have z6:=K4.size;have z9:=Zj.size;have Bo:=Z2.size;have gh:Ext w9 QH:=Z2.ext XT (λi hi=>by omega);have lg:Ext w6 QH:=(Xb.trans VO).trans gh;have cY:Ext w4 QH:=XF.trans lg;have KR:=Qs;have lh:Ext w3 QH:=Qs.trans cY;have Y7:Ext w QH:=((Qe.trans Qg).trans Qj).trans lh
 let D:AD:=⟨A,n,c,a,ra,B,m,d,b,rb,op⟩
 let p:CP:=⟨w1.heap.size,ob,w7.heap.size,w.heap.size,w9.heap.size,w4.heap.size,w3.heap.size+1,w3.heap.size,w6.heap.size,F,D⟩
 have wV:=Z8.lt;have hK:CK QH QH.heap.size p:=by
  refine⟨hF,Qx.ext (Qj.trans lh),Dp.ext Y7,JD.ext gh,Qh.ext ((Qg.trans Qj).trans lh),Z8,Q9.ext lg,h.ext Y7,h'.ext Y7,λk hk=>?_,λad e h0=>?_,λad e h0=>?_⟩
  ·simp only[p] at hk ⊢;rcases hk with rfl | rfl | rfl | rfl | rfl | rfl<;>omega
  ·have:=SB.lt h ad e h0;simp only[p];omega
  ·have:=SB.lt h' ad e h0;simp only[p];omega
 have hS:CSt QH QH.heap.size p none 0 ([],[]):=by
  refine⟨⟨Q7.ext cY,Own.nil _ _ _ _,⟨[],H0.ext cY,λ_=>rfl⟩,?_,QB _⟩,⟨[],H1.ext (VO.trans gh),λ_ _=>rfl⟩,?_⟩
  ·simp only[p];omega
  ·simp only[p];omega
 have Xi:∀i,Qk none i->QH.heap.size<=i:=λi hi=>by obtain⟨_,e,_⟩:=hi;cases e
 have nof:=λk hk=>CS.no (p:=p) Xi (hK.off k hk)
 refine XK Qa (Mod (CS p none) QH) 14 [(true,0),(true,1),(true,2),(true,3),(true,4),(true,5),(true,6),(true,7),(true,8),(true,9),(true,10),(true,11),(false,12),(false,13)] (by kernel_rfl) (Mod.of_ext _ (Ext.drew QH)) ?_;refine QK (v:=VP.ptr p.pb) (λw' Qb=>by rw[(hK.bxb.mod Qb (nof _ (by simp))).cell0];rfl) ?_;refine QK (v:=p.clo) (λw' Qb=>by rw[(hK.axb.mod Qb (nof _ (by simp))).cell0];rfl) ?_;refine JS (j:=0) (by decide) ?_;refine QK (v:=.int .i64 ra) (λw' Qb=>by rw[add_add,(hK.lxb.mod Qb (nof _ (by simp))).cell];rfl) ?_;refine JS (j:=1) (by decide) ?_;refine QK (v:=.int .i64 rb) (λw' Qb=>by rw[add_add,(hK.lxb.mod Qb (nof _ (by simp))).cell];rfl) ?_;refine JS (j:=2) (by decide) ?_;refine QK (v:=.int .i64 0) (λw' Qb=>by rw[add_add,(hK.lxb.mod Qb (nof _ (by simp))).cell];rfl) ?_;have inv:=vx ha hb op (ra.toNat+rb.toNat+1) ra rb ([],[]) ⟨λj x hx=>by simp at hx,λt ht=>by simp at ht⟩ r0 s0 (by omega) (by omega);refine call (PQ QH.heap.size p ha hb ⟨hn,hm⟩ (ra.toNat+rb.toNat+1) ra rb ([],[]) none 0 _ (hK.ext (Ext.drew QH)) (hS.ext (Ext.drew QH)) r0 s0 (by omega) r1 s1 XE) ?_;rintro _ Xa ⟨rfl,NA,nc,bj,H3,tG⟩;have Vs:Mod (CS p none) QH Xa:=(Mod.of_ext _ (Ext.drew QH)).trans H3 (λi hi=>.inl hi);refine⟨Vs,?_⟩;have kQh:(Xo a b op (ra.toNat+rb.toNat+1) ra rb ([],[])).2.1.length<=100000000000:=XE;have wW:SB Xa NA _ nc _:=⟨bj.bd.own.sl,rfl⟩
 refine call (EY p.pb (.map (some p.km)) NA _ nc _ _ Xa bj.bd.blk wW inv.1.1 (by show(Xo a b op (ra.toNat+rb.toNat+1) ra rb ([],[])).2.1.length<=_;omega) inv.2.1 inv.2.2 (SB.lt wW)) ?_;rintro _ X6 ⟨OA,k,oc,rfl,XI,wX,ii⟩;have Kj:Mod (CS p none) QH X6:=Vs.trans (Mod.of_ext (CS p none) XI) (λi hi=>.inl hi);refine⟨Kj,?_⟩;have nres:¬CS p none w2.heap.size:=CS.no (p:=p) Xi (by simp only[p];omega);have K5:=(Qu.ext lh).mod Kj nres;refine Qv K5 rfl (sc rfl) (λZk eQ _ J2=>?_);have KQ:Mod (·=w2.heap.size) X6 Zk:=nQQ eQ rfl;refine Qt J2 rfl ?_;have qk:Ext w X6:=Kj.ext Y7 (λi hi=>by
  rcases hi with e | e | e | ⟨_,e,_⟩
  ·simp only[p] at e;omega
  ·simp only[p] at e;omega
  ·simp only[p] at e;omega
  ·cases e)
 have Us:=Vs.size;have nr:∀i,Qk OA i->¬i=w2.heap.size:=λi hi e=>by have:=ii i hi;omega
 refine⟨OA,k,oc,rfl,KQ.ext qk (λi hi=>by omega),⟨wX.1.modS KQ (λ_ i hi=>nr i hi),wX.2⟩,λi hi=>by have:=ii i hi;have:=Y7.size;omega⟩
theorem Fr (A:Option Addr)(n c:Nat)(a:List Br)(ra:Int)(B:Option Addr)(m d:Nat)(b:List Br)(rb op:Int)(F:Nat)(w:World)(hF:vN F op)(h:SB w A n c a)(h':SB w B m d b):
  Fn Tryz.prog 82 [Xk A n c ra,Xk B m d rb,.func (.func F) #[] #[]] w (pG w (eB a ra b rb op)):=by
 have KV:=h.2;have fu:=h'.2;refine QF (c:={c82 with cuts:=[]}) Qa Tryz.func82 rfl rfl rfl ?_;refine new (λw1 Qe Q4 Qh=>?_);refine new (λw2 Qg Zb Qx=>?_);refine new (λw3 Qj JC Qu=>?_);refine new (λw4 Qs KO Q7=>?_);have J1:=Qj.trans Qs;have XG:=(Qe.trans Qg).trans J1;have J2:=(Qh.ext Qg).ext J1;have lj:=Qx.ext J1;have jt:=Qu.ext Qs;refine Qt J2 rfl ?_;refine Qt lj rfl ?_;refine Xh Qa [(⟨A,n,c,a,ra⟩:DV).cells,(⟨B,m,d,b,rb⟩:DV).cells] rfl rfl rfl rfl rfl ⟨rfl,rfl,rfl,rfl,⟨⟩⟩ rfl (λcs h=>by simp only[Q1,Jo,Jw] at h;rcases h with rfl | rfl<;>rfl) rfl (by decide) (by decide) ?_;intro w5 Qw KP QG;have J3:=XG.trans Qw;have hL:SlS DV.cells 2 w5 (some ⟨w4.heap.size,0,none⟩) 2 2 [⟨A,n,c,a,ra⟩,⟨B,m,d,b,rb⟩]:=⟨Sl.own (sz:=2) (n:=2) QG (QB _) (by decide) (by simp[DV.cells]),rfl⟩
 refine call (Ac _ 2 2 _ w5 hL (λx hx=>by
  simp only[Q1,Jo,Jw] at hx;rcases hx with rfl | rfl
  ·exact h.ext J3
  ·exact h'.ext J3)) ?_
 rintro v w6 ⟨rfl,QO⟩;have XF:=Qw.trans QO;have XR:=XG.trans XF;have kQi:=Q7.ext XF;have mQD:=XF.size;have ef:cH [(⟨A,n,c,a,ra⟩:DV),⟨B,m,d,b,rb⟩]=if XL a ra≠0 then XL a ra else if XL b rb≠0 then XL b rb else 0:=rfl
 refine bI (λc1=>?_) (λc1=>?_)
 ·have e:eB a ra b rb op=(([],0),cH [(⟨A,n,c,a,ra⟩:DV),⟨B,m,d,b,rb⟩]):=by
   rw[ef] at c1 ⊢;unfold eB;split
   ·rfl
   ·rename_i hh;rw[if_neg hh] at c1;split
    ·rfl
    ·rename_i wM;rw[if_neg wM] at c1;exact Xn rfl c1
  rw[e];refine Qv kQi rfl (sc rfl) (λw7 ZB _ Q2=>?_);have Xf:Mod (·=w3.heap.size) w6 w7:=nQQ ZB rfl;refine Qt Q2 rfl ?_;exact⟨none,0,0,rfl,Xf.ext XR (λi hi=>by omega),SlS.nil _,λi ⟨_,e,_⟩=>by cases e⟩
 ·rw[ef] at c1;have ca:XL a ra=0:=by
   by_cases hh:XL a ra=0
   ·exact hh
   ·rw[Qf hh] at c1;exact c1
  have cb:XL b rb=0:=by
   rw[if_neg (λhh=>hh ca)] at c1;by_cases hh:XL b rb=0
   ·exact hh
   ·rw[Qf hh] at c1;exact c1
  obtain⟨sa,va⟩:=gK.1 ca;obtain⟨sb,vb⟩:=gK.1 cb;have e:eB a ra b rb op=jb (VF a ra b rb op):=by unfold eB;rw[if_neg (λhh=>hh ca),if_neg (λhh=>hh cb)]
  rw[e];have hb2:=E8 va vb op;have Dq:(a.length+2)*(b.length+2)<=4098*4098:=Nat.mul_le_mul (by omega) (by omega);refine Qt (J2.ext XF) rfl ?_;refine Qt (lj.ext XF) rfl ?_;have Dp:Blk w6 w2.heap.size 139 [.func (.func F) #[] #[]]:=jt.ext XF;refine call (fQo A n c a ra B m d b rb op F w2.heap.size w6 hF (h.ext XR) (h'.ext XR) Dp va.dok vb.dok va.2.1 (by have:=va.2.2.1;omega) vb.2.1 (by have:=vb.2.2.1;omega) (by omega) (by omega) (by omega)) ?_;rintro v w7 ⟨OA,k,oc,rfl,Xb,H4,Vr⟩;have Ye:=XF.trans Xb;have Vt:=XG.trans Ye;have z67:=XR.size;refine call (PO OA k oc _ _ w4 w7 H4 (λi hi=>by have:=Vr i hi;omega) Ye) ?_;rintro v w8 ⟨PA,q,pc,rfl,Xl,wY,tM⟩;refine Qv (Q7.ext Xl) rfl (sc rfl) (λw9 eZ _ JD=>?_);have Zj:Mod (·=w3.heap.size) w8 w9:=nQQ eZ rfl;refine Qt JD rfl ?_;refine⟨PA,q,pc,rfl,Zj.ext (XG.trans Xl) (λi hi=>by omega),⟨wY.1.modS Zj (λ_ i hi e=>by have:=tM i hi;omega),wY.2⟩,λi hi=>by have:=tM i hi;omega⟩
theorem vP (A:Option Addr)(n c:Nat)(a:List Br)(ra:Int)(B:Option Addr)(m d:Nat)(b:List Br)(rb:Int)(w:World)(h:SB w A n c a)(h':SB w B m d b):
  Fn Tryz.prog 36 [Xk A n c ra,Xk B m d rb] w (pG w (eB a ra b rb 0)):=by
 refine QF (c:={c36 with cuts:=[]}) Qa Tryz.func36 rfl rfl rfl ?_;refine new (λw1 Qe Q4 Qh=>?_);refine new (λw2 Qg Zb Qx=>?_);refine new (λw3 Qj JC Qu=>?_);have QX:=(Qe.trans Qg).trans Qj;refine Qt ((Qh.ext Qg).ext Qj) rfl ?_;refine Qt (Qx.ext Qj) rfl ?_;refine call (Fr A n c a ra B m d b rb 0 84 w3 (.inl ⟨rfl,rfl⟩) (h.ext QX) (h'.ext QX)) ?_;rintro v w4 ⟨PA,q,pc,rfl,Qs,eM,bW⟩;refine Qv (Qu.ext Qs) rfl (sc rfl) (λw5 JH _ QG=>?_);have Je:Mod (·=w2.heap.size) w4 w5:=nQQ JH rfl;refine Qt QG rfl ?_;obtain⟨g1,g2,g3⟩:=Ff (r:=eB a ra b rb 0) (QX.trans Qs) Je (by omega) eM (λi hi=>by have:=bW i hi;omega);exact⟨PA,q,pc,rfl,g1,g2,g3⟩
theorem PU (A:Option Addr)(n c:Nat)(a:List Br)(ra:Int)(B:Option Addr)(m d:Nat)(b:List Br)(rb:Int)(w:World)(h:SB w A n c a)(h':SB w B m d b):
  Fn Tryz.prog 101 [Xk A n c ra,Xk B m d rb] w (pG w (eB a ra b rb 1)):=by
 refine QF (c:={bQ1 with cuts:=[]}) Qa Tryz.func101 rfl rfl rfl ?_;refine new (λw1 Qe Q4 Qh=>?_);refine new (λw2 Qg Zb Qx=>?_);refine new (λw3 Qj JC Qu=>?_);have QX:=(Qe.trans Qg).trans Qj;refine Qt ((Qh.ext Qg).ext Qj) rfl ?_;refine Qt (Qx.ext Qj) rfl ?_;refine call (Fr A n c a ra B m d b rb 1 155 w3 (.inr (.inl ⟨rfl,rfl⟩)) (h.ext QX) (h'.ext QX)) ?_;rintro v w4 ⟨PA,q,pc,rfl,Qs,eM,bW⟩;refine Qv (Qu.ext Qs) rfl (sc rfl) (λw5 JH _ QG=>?_);have Je:Mod (·=w2.heap.size) w4 w5:=nQQ JH rfl;refine Qt QG rfl ?_;obtain⟨g1,g2,g3⟩:=Ff (r:=eB a ra b rb 1) (QX.trans Qs) Je (by omega) eM (λi hi=>by have:=bW i hi;omega);exact⟨PA,q,pc,rfl,g1,g2,g3⟩
theorem Fs (A:Option Addr)(n c:Nat)(a:List Br)(ra:Int)(w:World)(h:SB w A n c a):
  Fn Tryz.prog 35 [Xk A n c ra] w (pG w (eB a ra [] 0 3)):=by
 refine QF (c:={c35 with cuts:=[]}) Qa Tryz.func35 rfl rfl rfl ?_;refine new (λw1 Qe Q4 Qh=>?_);refine new (λw2 Qg Zb Qx=>?_);have Q5:=Qe.trans Qg;refine Qt (Qh.ext Qg) rfl ?_;refine call (Fr A n c a ra none 0 0 [] 0 3 83 w2 (.inr (.inr ⟨rfl,rfl⟩)) (h.ext Q5) (SlS.nil _)) ?_;rintro v w4 ⟨PA,q,pc,rfl,Qs,eM,bW⟩;refine Qv (Qx.ext Qs) rfl (sc rfl) (λw5 JH _ QG=>?_);have Je:Mod (·=w1.heap.size) w4 w5:=nQQ JH rfl;refine Qt QG rfl ?_;obtain⟨g1,g2,g3⟩:=Ff (r:=eB a ra [] 0 3) (Q5.trans Qs) Je (by omega) eM (λi hi=>by have:=bW i hi;omega);exact⟨PA,q,pc,rfl,g1,g2,g3⟩
end
section
section
variable {α:Type} {f:α->List Value} {sz:Nat}
theorem PV (hf:∀x,(f x).length=sz):∀(l:List α)(j:Nat),(l.flatMap f).take (j*sz)=(l.take j).flatMap f
 | [],j=>by simp
 | x::l,0=>by simp
 | x::l,j+1=>by
  rw[Yl,uI,Yl,<-PV hf l j,DP];rw[Jc (by rw[hf,fC];omega),hf,show(j+1)*sz-sz=j*sz by rw[fC];omega]
theorem PW (hf:∀x,(f x).length=sz):∀(l:List α)(j:Nat),(l.flatMap f).drop (j*sz)=(l.drop j).flatMap f
 | [],j=>by simp
 | x::l,0=>by simp
 | x::l,j+1=>by
  rw[Yl,M0,<-PW hf l j,List.drop_append];rw[rJ (by rw[hf,fC];omega),hf,show(j+1)*sz-sz=j*sz by rw[fC];omega];rfl
theorem Ft (hf:∀x,(f x).length=sz)(l:List α){j:Nat}(x:α)(hj:j<l.length):KX (j*sz) (f x) (l.flatMap f)=(l.set j x).flatMap f:=by
 have Zz:(j+1)*sz<=l.length*sz:=bG _ hj;rw[fC] at Zz;rw[i5 _ _ _ (by rw[hf,dG hf];exact Zz),hf,PV hf,<-fC,PW hf,List.set_eq_take_append_cons_drop,Qf hj];simp
theorem fQp (hf:∀x,(f x).length=sz)(h0:0<sz){z:α}{zc:Array Value}(hz:zc.toList=f z)(n:Nat):(madeCells zc (n*sz)).toList=(List.replicate n z).flatMap f:=by
 have Dh:zc.size=sz:=by rw[<-Array.length_toList,hz,hf]
 apply yR;intro i;by_cases hi:i<n*sz
 ·have hd:i/sz<n:=Nat.div_lt_of_lt_mul (by rw[uM];exact hi);have hr:i % sz<sz:=aP _ h0;have Dr:i/sz*sz+i % sz=i:=by rw[uM];exact Nat.div_add_mod i sz
  have g1:(List.replicate n z)[i/sz]? =some z:=by rw[List.getElem?_replicate,Qf hd]
  have g2:=Xp (l:=f z) (i:=i % sz) (by rw[hf];exact hr);have g3:=i7 hf _ _ _ _ _ g1 g2;rw[Dr] at g3;rw[g3];have e:zc[i % zc.size]! =(f z)[i % sz]'(by rw[hf];exact hr):=by
   have h1:zc[i % sz]? =some ((f z)[i % sz]'(by rw[hf];exact hr)):=by rw[<-Array.getElem?_toList,hz];exact g2
   rw[Dh,Array.getElem!_eq_getD,Array.getD_eq_getD_getElem?,h1]<;>rfl
  simp[madeCells,hi,e]
 ·rw[oX (by simp[madeCells];omega),oX (by rw[dG hf];simp;omega)]
theorem fQq (hf:∀x,(f x).length=sz)(h0:0<sz)(z:α){c:Cx}(hg:c.g.Ok){o:Oper}{S:Env}{w:World}{K:Env->World->Prop}{Q:Zg}{t e:Nat}{x y:Operand}{n:Nat}{r re:TyRow}(ho:o.op= .makeSlice t x y)(hr:QT c.g.tys t=some r)(hd:r.d= .slice e)(X2:QT c.g.tys e=some re)(hz:re.z.cells.toList=f z)
  (hs:re.sz=sz) (hx:S.ev x=some (.int .i64 n)) (hy:S.ev y=some (.int .i64 n)) (hb:re.by_*n<=281474976710656) (hn:n<=maxLen)
  (k:∀w1,Ext w w1->w1.heap.size=w.heap.size+1->Blk w1 w.heap.size e ((List.replicate n z).flatMap f)->Xd c S o.dst (.v (.slice (some ⟨w.heap.size,0,none⟩) n n)) (λS=>K S w1)):X8 c o S w K Q:=by
 obtain⟨_,i,hi,XJ,cj,cm⟩:=hg.row X2;have Q0:=(hg.row hr).1;rw[hd] at Q0;have bU:=run_make (P:=c.g.P) w t e i re.z Q0 hi cm .i64 .i64 n n (by omega) (by omega) (by rw[cj];omega) (by unfold maxLen at hn;omega);have hm:=fQp hf h0 hz n;rw[XJ,hs] at bU;simp only[gE] at bU;refine Jx (w':=w.alloc (.cells (madeCells re.z.cells (n*sz)) e)) (v:=.slice (some ⟨w.heap.size,0,none⟩) n n) (λa hf=>?_) (k _ (Ext.alloc w _) (by simp) ?_)
 ·have e1:=hf.ev hx;have e2:=hf.ev hy;simp only[execOp,ho,e1,e2];simp at bU ⊢;rw[bU]<;>rfl
 ·rw[<-hm];simpa using Blk.new w e (madeCells re.z.cells (n*sz)).toList
end
end
end Go.Proofs.YtjabbbcdgmlojaaGreatDoor
