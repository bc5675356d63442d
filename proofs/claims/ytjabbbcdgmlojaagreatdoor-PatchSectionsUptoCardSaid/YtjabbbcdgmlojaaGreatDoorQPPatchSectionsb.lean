/-
  What PPatchSections rests on, part 2 (wip/shake.py).
  Conditions: none.
-/
import Derived.Test.YtjabbbcdgmlojaaGreatDoorQPPatchSectionsa
set_option linter.all false
set_option linter.deprecated false
set_option maxHeartbeats 12800000
namespace Go.Proofs.YtjabbbcdgmlojaaGreatDoor
open Go Go.RowKit
noncomputable section
section
def Zo (o:Int):Int:=if o=0∨o=1∨o=2 then 0 else if o=3 then 1 else if o=4∨o=5 then 2 else -1
theorem t7 (o:Int):((o=0∨o=1∨o=2)/\Zo o=0)∨(o=3/\Zo o=1)∨((o=4∨o=5)/\Zo o=2)∨(Zo o= -1/\o≠0/\o≠1/\o≠2/\o≠3/\o≠4/\o≠5):=by
 unfold Zo;split
 ·left;omega
 ·split
  ·right;left;omega
  ·split
   ·right;right;left;omega
   ·right;right;right;omega
def Vt (x:Fz)(i:Nat):Prop:=0<=Zo x.o/\(if x.o=2 then 0<=x.v/\x.v<64 else x.v=0)/\(if 0<Zo x.o then 0<=x.a/\x.a<i else x.a=0)/\(if 1<Zo x.o then 0<=x.b/\x.b<i else x.b=0)
instance (x:Fz) (i:Nat):Decidable (Vt x i):=by unfold Vt;infer_instance
def Wc (x:Fz):Fz:=⟨x.o,if x.o=2 then x.v else 0,if 0<Zo x.o then x.a else 0,if 1<Zo x.o then x.b else 0⟩
theorem St (a b c d a' b' c' d':Int):(a==a'&&(b==b'&&(c==c'&&(d==d'&&true))))=decide (a=a'/\b=b'/\c=c'/\d=d'):=by
 rw[p9];simp only[Z4,beq_iff_eq,VJ,and_true]
theorem Su (x:Fz):(x.o=(Wc x).o/\x.v=(Wc x).v/\x.a=(Wc x).a/\x.b=(Wc x).b)↔((x.o≠2->x.v=0)/\(Zo x.o<=0->x.a=0)/\(Zo x.o<=1->x.b=0)):=by
 unfold Wc;simp only;constructor
 ·rintro⟨_,h1,h2,h3⟩;split at h1<;>split at h2<;>split at h3<;>omega
 ·rintro⟨h1,h2,h3⟩;refine⟨trivial,?_,?_,?_⟩<;>split<;>omega
theorem gQu (x:Fz)(i:Nat)(w:World):Fn Tryz.prog 223 [.agg x.cells.toArray,.int .i64 i] w (λv w'=>v= .int .i64 (if Vt x i then Zo x.o else -1)/\Ext w w'):=by
 refine QH (c:={fQW with cuts:=[3]}) Qa Tryz.func223 rfl rfl rfl ?_;refine new (λw1 Qd Q9 Qh=>?_);refine Qy Qh rfl ?_;refine new (λw2 Qg Zi Qv=>?_);refine Qw Qv rfl (sc rfl) (λw3 Je _ Qu=>?_);have XD:Mod (·=w1.heap.size) w2 w3:=qQT Je rfl
 replace Qu:Blk w3 w1.heap.size 280 [.int .i64 x.o,.int .i64 0,.int .i64 0,.int .i64 0]:=Qu;have Vz:=(Qh.ext Qg).mod XD (by omega);have Qi:Ext w w3:=XD.ext (Qd.trans Qg) (λi hi=>by omega);refine eT [] Qa [6] (λk:Int=>[.int .i64 k]) (λk w'=>Ext w w'/\Blk w' w.heap.size 280 x.cells/\Blk w' w1.heap.size 280 (Wc x).cells/\k=Zo x.o/\0<=Zo x.o/\(x.o=2->0<=x.v/\x.v<64)) ?_ ?_
 ·refine Qy Vz rfl ?_;refine Zd (λh=>?_) (λh=>?_)
  ·refine⟨_,rfl,Qi,Vz,?_,?_,?_,?_⟩
   ·rw[show(Wc x).cells=[.int .i64 x.o,.int .i64 0,.int .i64 0,.int .i64 0] from by simp[Wc,Fz.cells,h,Zo]];exact Qu
   ·rw[h]<;>rfl
   ·rw[h];decide
   ·intro h2;omega
  refine Zd (λh1=>?_) (λh1=>?_)
  ·refine⟨_,rfl,Qi,Vz,?_,?_,?_,?_⟩
   ·rw[show(Wc x).cells=[.int .i64 x.o,.int .i64 0,.int .i64 0,.int .i64 0] from by simp[Wc,Fz.cells,h1,Zo]];exact Qu
   ·rw[h1]<;>rfl
   ·rw[h1];decide
   ·intro h2;omega
  refine Zd (λh2=>?_) (λh2=>?_)
  ·refine Qp Vz rfl ?_;refine XQ Qu (by simp) (λw4 Zl QX=>?_);have Y3:=Vz.mod Zl (by omega);have Qs:=Zl.ext Qi (λi hi=>by omega);refine Qp Y3 rfl ?_;refine Qz (λh3=>?_) (λh3=>?_)
   ·exact⟨by rw[if_neg (λhf=>by have:=hf.2.1;rw[Qe h2] at this;omega)],Qs⟩
   refine Qp Y3 rfl ?_;refine Qz (λh4=>?_) (λh4=>?_)
   ·exact⟨by rw[if_neg (λhf=>by have:=hf.2.1;rw[Qe h2] at this;omega)],Qs⟩
   refine⟨_,rfl,Qs,Y3,?_,?_,?_,?_⟩
   ·rw[show(Wc x).cells=[.int .i64 x.o,.int .i64 x.v,.int .i64 0,.int .i64 0] from by simp[Wc,Fz.cells,h2,Zo]];exact QX
   ·rw[h2]<;>rfl
   ·rw[h2];decide
   ·intro _;omega
  refine Zd (λh3=>?_) (λh3=>?_)
  ·refine Qp Vz rfl ?_;refine XQ Qu (by simp) (λw4 Zl QX=>?_);have Y3:=Vz.mod Zl (by omega);have Qs:=Zl.ext Qi (λi hi=>by omega);refine⟨_,rfl,Qs,Y3,?_,?_,?_,?_⟩
   ·rw[show(Wc x).cells=[.int .i64 x.o,.int .i64 0,.int .i64 x.a,.int .i64 0] from by simp[Wc,Fz.cells,h3,Zo]];exact QX
   ·rw[h3]<;>rfl
   ·rw[h3];decide
   ·intro _;omega
  have two:(x.o=4∨x.o=5)->∀w4,Mod (·=w1.heap.size) w3 w4->Blk w4 w1.heap.size 280 [.int .i64 x.o,.int .i64 0,.int .i64 x.a,.int .i64 x.b]->Ext w w4/\Blk w4 w.heap.size 280 x.cells/\Blk w4 w1.heap.size 280 (Wc x).cells/\(2:Int)=Zo x.o/\0<=Zo x.o/\(x.o=2->0<=x.v/\x.v<64):=λho w4 Zl QX=>by
   have e:Zo x.o=2:=by rcases ho with h | h<;>rw[h]<;>rfl
   refine⟨Zl.ext Qi (λi hi=>by omega),Vz.mod Zl (by omega),?_,e.symm,by omega,by omega⟩;rw[show(Wc x).cells=[.int .i64 x.o,.int .i64 0,.int .i64 x.a,.int .i64 x.b] from by simp[Wc,Fz.cells,h2,e]];exact QX
  refine Zd (λh4=>?_) (λh4=>?_)
  ·refine Qp Vz rfl ?_;refine XQ Qu (by simp) (λw4 Zl QX=>?_);have Y3:=Vz.mod Zl (by omega);refine Qp Y3 rfl ?_;refine XQ QX (by simp) (λw5 XT QB=>?_);exact⟨_,rfl,two (.inl h4) w5 (Zl.trans XT (λi hi=>.inl hi)) QB⟩
  refine Zd (λh5=>?_) (λh5=>?_)
  ·refine Qp Vz rfl ?_;refine XQ Qu (by simp) (λw4 Zl QX=>?_);have Y3:=Vz.mod Zl (by omega);refine Qp Y3 rfl ?_;refine XQ QX (by simp) (λw5 XT QB=>?_);exact⟨_,rfl,two (.inr h5) w5 (Zl.trans XT (λi hi=>.inl hi)) QB⟩
  ·have Zw:Zo x.o= -1:=by rcases t7 x.o with h | h | h | h<;>omega
   exact⟨by rw[if_neg (λhf=>by have:=hf.1;omega)],Qi⟩
 rintro k w4 ⟨Qs,Y3,fo,rfl,h0,hv⟩;have no:¬Vt x i->∀w',Ext w w'->(Value.int .i64 (-1))= .int .i64 (if Vt x i then Zo x.o else -1)/\Ext w w':=λh w' hE=>⟨by rw[if_neg h],hE⟩
 have yes:Vt x i->∀w',Ext w w'->(Value.int .i64 (Zo x.o))= .int .i64 (if Vt x i then Zo x.o else -1)/\Ext w w':=λh w' hE=>⟨by rw[Qe h],hE⟩
 have XO:=t7 x.o;refine Qt Y3 rfl ?_;refine Qt fo rfl ?_;by_cases hp:x.o=(Wc x).o/\x.v=(Wc x).v/\x.a=(Wc x).a/\x.b=(Wc x).b
 rotate_left
 ·refine Xc (by rw[St,Zn hp];rfl) ?_;refine no (λhf=>hp ((Su x).2 ?_)) _ Qs;obtain⟨f1,f2,f3,f4⟩:=hf;split at f2<;>split at f3<;>split at f4<;>omega
 refine Q7 (by rw[St,X2 hp];rfl) ?_;have hq:=(Su x).1 hp;have bad:(x.a<0∨x.b<0∨(0<Zo x.o/\(i<=x.a∨i<=x.b)))->¬Vt x i:=λhb hf=>by
  obtain⟨f1,f2,f3,f4⟩:=hf;split at f3<;>split at f4<;>omega
 refine Qp Y3 rfl ?_;refine Qz (λh1=>?_) (λh1=>?_)
 ·exact no (bad (.inl h1)) _ Qs
 refine Qp Y3 rfl ?_;refine Qz (λh2=>?_) (λh2=>?_)
 ·exact no (bad (.inr (.inl h2))) _ Qs
 refine Qz (λh3=>?_) (λh3=>?_)
 ·refine Qp Y3 rfl ?_;refine Qp Y3 rfl ?_;refine norm (m:=max x.a x.b) (by rw[Int.max_def];split<;>split<;>omega) ?_;refine Qz (λh4=>?_) (λh4=>?_)
  ·refine no (bad (.inr (.inr ⟨h3,?_⟩))) _ Qs;rw[Int.max_def] at h4;split at h4<;>omega
  ·rw[Int.max_def] at h4;refine yes ⟨h0,?_,?_,?_⟩ _ Qs
   ·split
    ·rename_i h;exact hv h
    ·rename_i h;exact hq.1 h
   ·rw[Qe h3];split at h4<;>omega
   ·split
    ·split at h4<;>omega
    ·exact hq.2.2 (by omega)
 ·refine yes ⟨h0,?_,?_,?_⟩ _ Qs
  ·split
   ·rename_i h;exact hv h
   ·rename_i h;exact hq.1 h
  ·rw[if_neg h3];exact hq.2.1 (by omega)
  ·rw[if_neg (by omega)];exact hq.2.2 (by omega)
end
section
def Wd (l:List Bool):List Value:=l.map .bool
theorem xf {l:List Bool}{j:Nat}{b:Bool}(h:l[j]? =some b):(Wd l)[j]? =some (.bool b):=by simp[Wd,h]
theorem gQv (l:List Bool):(Wd l).length=l.length:=by simp[Wd]
theorem Sv (l:List Bool)(i:Nat)(b:Bool):Wd (l.set i b)=(Wd l).set i (.bool b):=by simp[Wd,List.map_set]
def YW (x:Fz):List Nat:=if Zo x.o=2 then [x.a.toNat,x.b.toNat] else if Zo x.o=1 then [x.a.toNat] else []
def JS (f:List Fz):List Nat:=f.flatMap YW
def FV (f:List Fz):Prop:=f.length<=512/\0<f.length/\(∀i x,f[i]? =some x->Vt x i)/\∀i,i+1<f.length->(JS f).count i=1
open Classical in
def ua (f:List Fz):Int:=if FV f then 0 else 30
theorem BX {f:List Fz}(h:FV f):ua f=0:=Qe h
theorem BY {f:List Fz}(h:¬FV f):ua f=30:=if_neg h
theorem gQw {f:List Fz}:ua f=0↔FV f:=by
 constructor
 ·intro h;unfold ua at h;split at h
  ·assumption
  ·cases h
 ·exact BX
theorem gQx (d:List Fz){i:Nat}{x:Fz}(h:d[i]? =some x):JS (d.take (i+1))=JS (d.take i)++YW x:=by
 simp[JS,V3,h]
theorem gQy {x:Fz}{i:Nat}(h:Vt x i):∀j∈YW x,j<i:=by
 intro j hj;obtain⟨_,_,h3,h4⟩:=h;unfold YW at hj;split at hj
 ·rename_i h2;rw[Qe (by omega)] at h3 h4;simp at hj;omega
 ·split at hj
  ·rename_i h2;rw[Qe (by omega)] at h3;simp at hj;omega
  ·simp at hj
theorem gQz {d:List Fz}{i:Nat}(h:∀j x,j<i->d[j]? =some x->Vt x j):∀j∈JS (d.take i),j+1<i:=by
 intro j hj;simp only[JS,cB] at hj;obtain⟨x,hx,hk⟩:=hj;obtain⟨m,hm,KP⟩:=Gd.1 hx;have Q0:m<i:=by simp at hm;omega
 have LE:d[m]? =some x:=by
  rw[List.getElem_take] at KP;rw[<-KP];exact XB _
 have:=gQy (h m x Q0 LE) j hk;omega
def eV (l:List Nat)(n:Nat):List Bool:=(List.range n).map λj=>decide (j∈l)
theorem Sw (l:List Nat)(n j:Nat)(hj:j<n):(eV l n)[j]? =some (decide (j∈l)):=by simp[eV,hj]
theorem gQA (l:List Nat)(n:Nat):(eV l n).length=n:=by simp[eV]
theorem gQB (l:List Nat)(n k:Nat):(eV l n).set k true=eV (l++ [k]) n:=by
 unfold eV;apply List.ext_getElem
 ·simp
 ·intro i h1 h2;simp at h1;simp only[List.getElem_set,List.getElem_map,List.getElem_range,Xv,QL];split
  ·rename_i h;subst h;simp
  ·rename_i h;have:¬i=k:=λe=>h e.symm
   simp[this]
theorem gQC (n:Nat):eV [] n=List.replicate n false:=by
 apply List.ext_getElem
 ·simp[eV]
 ·intro i h1 h2;simp[eV]
theorem gQD {d:List Fz}{s:Nat}{x:Fz}(hx:d[s]? =some x)(h:¬Vt x s):¬FV d:=λhv=>h (hv.2.2.1 s x hx)
theorem gQE {d:List Fz}{s:Nat}(hnd:∀j x,j<s->d[j]? =some x->Vt x j)(hs:s<=d.length)(h:¬(JS (d.take s)).Nodup):¬FV d:=λhv=>by
 apply h;rw[List.nodup_iff_count];intro a;by_cases ha:a∈JS (d.take s)
 ·have h1:=gQz hnd a ha;have h2:=hv.2.2.2 a (by omega);rw[<-h2];have kI:(JS (d.take s)).Sublist (JS d):=by
   have:JS d=JS (d.take s)++JS (d.drop s):=by
    unfold JS;rw[<-Wy,dE]
   rw[this];exact List.sublist_append_left _ _
  exact kI.count_le a
 ·rw[List.count_eq_zero.2 ha];omega
theorem gQF {d:List Fz}(h1:d.length<=512)(h2:0<d.length)(hnd:∀j x,j<d.length->d[j]? =some x->Vt x j)(hn:(JS d).Nodup)(hu:∀j,j+1<d.length->j∈JS d):FV d:=
 ⟨h1,h2,λi x hx=>hnd i x (ZM.1 hx).1 hx,λi hi=>by
  have h3:=List.nodup_iff_count.1 hn i;have h4:=List.count_pos_iff.2 (hu i hi);omega⟩
theorem gQG {w:World}{t:TypeId}{cs cs':List Value}{K:Addr->World->Prop}(h:cs=cs')(k:∀w1,Ext w w1->w1.heap.size=w.heap.size+1->Blk w1 w.heap.size t cs'->K ⟨w.heap.size,0,none⟩ w1):qm w t cs K:=by
 subst h;exact new k
abbrev SF (w:World)(A:Option Addr)(n c:Nat)(f:List Fz):Prop:=SlS Fz.cells 4 w A n c f
def lk (x:Fz):List Int:=[x.a,x.b].take (Zo x.o).toNat
theorem gQH {x:Fz}{i:Nat}(h:Vt x i):(lk x).length=(Zo x.o).toNat/\∀j:Nat,∀a:Int,(lk x)[j]? =some a->0<=a/\a<i/\(YW x)[j]? =some a.toNat:=by
 obtain⟨h1,_,h3,h4⟩:=h;unfold lk YW;rcases t7 x.o with⟨_,e⟩ | ⟨_,e⟩ | ⟨_,e⟩ | ⟨e,_⟩
 ·rw[e];simp
 ·rw[e] at h3 ⊢;simp at h3;simp;intro j a ha;cases j with
  | zero=>simp at ha;subst ha;simp;omega
  | succ j=>simp at ha
 ·rw[e] at h3 h4 ⊢;simp at h3 h4;simp;intro j a ha
  match j,ha with
  | 0,ha=>simp at ha;subst ha;simp;omega
  | 1,ha=>simp at ha;subst ha;simp;omega
  | j+2,ha=>simp at ha
 ·rw[e] at h1;omega
theorem gQI (x:Fz)(_:0<=Zo x.o):(YW x).length=(Zo x.o).toNat:=by
 unfold YW;rcases t7 x.o with⟨_,e⟩ | ⟨_,e⟩ | ⟨_,e⟩ | ⟨e,_⟩<;>rw[e]<;>first | rfl | omega
end
section
theorem Sy (A:Option Addr)(n c:Nat)(f:List Fz)(w:World)(h:SF w A n c f):
  Fn Tryz.prog 193 [.slice A n c] w (λv w'=>v= .int .i64 (ua f)/\Ext w w'):=by
 have Q0:=h.2;refine QH (c:={fQE with cuts:=[4]}) Qa Tryz.func193 rfl rfl rfl ?_;refine Zd (λh1=>?_) (λh1=>?_)
 ·exact⟨by rw[BY (λhv=>by have:=hv.2.1;omega)],Ext.refl w⟩
 refine Qz (λh2=>?_) (λh2=>?_)
 ·exact⟨by rw[BY (λhv=>by have:=hv.1;omega)],Ext.refl w⟩
 refine gQG (cs':=Wd (List.replicate 512 false)) (by kernel_rfl) (λw1 Qd Q9 Qh=>?_);rw[<-gQC] at Qh;refine eT [] Qa [] (λ_:Unit=>[]) (λ_ w'=>Ext w w'/\Blk w' w.heap.size 297 (Wd (eV (JS f) 512))/\(∀j x,j<n->f[j]? =some x->Vt x j)/\(JS f).Nodup) ?_ ?_
 ·refine loop Qa [20] (λs:Nat=>[.int .i64 s]) (λs w'=>Ext w w'/\Blk w' w.heap.size 297 (Wd (eV (JS (f.take s)) 512))/\s<=n/\(∀j x,j<s->f[j]? =some x->Vt x j)/\(JS (f.take s)).Nodup) (λs _=>n-s) 0 rfl ⟨Qd,Qh,Xt _,λj x hj=>Xd hj (by omega),by simp[JS]⟩ ?_;rintro s w2 ⟨Qg,oZ,hs,hnd,fR⟩;refine Qz (λh3=>?_) (λh3=>?_)
  ·refine Zz BV (h.ext Qg) rfl (by omega) (λp x hx hc=>?_);refine JN (vs:=x.cells) rfl hc ?_;refine new (λw3 Qi JD Qu=>?_);refine Qw Qu rfl (sc rfl) (λw4 W8 KW QX=>?_);have ZE:Ext w2 w4:=XV Qi Qu W8;have Qs:=Qg.trans ZE;have hU4:=oZ.ext ZE;refine Qt QX rfl ?_;refine call (gQu x s w4) ?_;rintro v w5 ⟨rfl,Qx⟩;have QB:=QX.ext Qx;have bad:¬(Vt x s/\(JS (f.take (s+1))).Nodup)->ua f=30:=λXq=>by
    refine BY ?_;by_cases fp:Vt x s
    ·refine gQE (s:=s+1) (λj y hj hy=>?_) (by omega) (λh=>Xq ⟨fp,h⟩);by_cases Y5:j<s
     ·exact hnd j y Y5 hy
     ·have:j=s:=by omega
      subst this;rw[Option.some.inj (hy.symm.trans hx)];exact fp
    ·exact gQD hx fp
   by_cases pO:¬Vt x s
   ·refine Zq (by rw[if_neg pO];decide) ?_;exact⟨by rw[bad (λhh=>pO hh.1)],Qs.trans Qx⟩
   replace pO:=Decidable.not_not.1 pO;have h0:=pO.1;have e5:(if Vt x s then Zo x.o else -1)=((Zo x.o).toNat:Int):=by rw[Qe pO];omega
   rw[e5];refine XF (by omega) ?_;refine Qp QB rfl ?_;refine Qp QB rfl ?_;refine tO Qa rfl rfl rfl rfl rfl rfl rfl rfl rfl rfl (λw6 QN cj Xg=>?_);have Ad:(Zo x.o).toNat<=2:=by rcases t7 x.o with h | h | h | h<;>omega
   refine jO Qa rfl rfl rfl rfl rfl rfl Ad ?_;have ZO:=Qx.trans QN;have LF:=hU4.ext ZO;have XS:=Qs.trans ZO;obtain⟨ol,ok⟩:=gQH pO;have Ja:=gQI x h0;have mX:Sl w6 1 (some ⟨w5.heap.size,0,none⟩) (Zo x.o).toNat 2 ((lk x).map (Value.int .i64)):=by
    have:=Sl.own (sz:=1) (n:=(Zo x.o).toNat) (c:=2) Xg Ad (by decide) (by simpa using Ad);rw[ga] at this;simpa [lk,List.map_take] using this
   have hkz:JS (f.take (s+1))=JS (f.take s)++YW x:=gQx f hx;refine loop Qa [38] (λt:Nat=>[.int .i64 t]) (λt w'=>Mod (·=w.heap.size) w6 w'/\Blk w' w.heap.size 297 (Wd (eV (JS (f.take s)++(YW x).take t) 512))/\t<=(Zo x.o).toNat/\(JS (f.take s)++(YW x).take t).Nodup) (λt _=>(Zo x.o).toNat-t) 0 rfl ⟨Mod.refl _ _,by simpa using LF,Xt _,by simpa using fR⟩ ?_;rintro t w7 ⟨JW,DG,ht,LG⟩;have Xf:Ext w w7:=JW.ext XS (λi hi=>by omega);refine Qz (λh7=>?_) (λh7=>?_)
   ·have Wv:t<(lk x).length:=by omega
    have dx:(lk x)[t]? =some (lk x)[t]:=XB Wv;generalize (lk x)[t]=a at dx;obtain⟨a0,ai,ak⟩:=ok t a dx;refine Vr mX (by omega) (λad u hA hu Xy=>?_);simp only[aq,dx,ww] at hu;cases hu;have mQF:w7.cell? (ad.add t)=some (.int .i64 a):=World.grownBy.cell (JW.grown (row:=some w.heap.size) (λi hi=>by rw[hi])) Xy (by
     rw[nL];cases hA;intro e;have:=(Option.some.inj e)
     have:=Qs.size;have:=Qx.size;have:=Qd.size;have:=oZ.lt;simp only at*;omega)
    refine load mQF ?_;have Vf:a.toNat<512:=by omega
    refine BT (j:=a.toNat) (by omega) Vf ?_;refine Qp DG (xf (Sw _ _ _ Vf)) ?_;have VC:(YW x).take (t+1)=(YW x).take t++ [a.toNat]:=by rw[V3,ak]<;>rfl
    refine Qz (λh8=>?_) (λh8=>?_)
    ·refine⟨?_,Xf⟩;rw[bad];rintro⟨_,bQY⟩;rw[hkz] at bQY;have kI:(JS (f.take s)++(YW x).take (t+1)).Nodup:=bQY.sublist ((List.Sublist.refl _).append (List.take_sublist _ _));rw[VC,<-ZR,Gb] at kI;exact kI.2.2 _ h8 _ (by simp) rfl
    ·refine BT (j:=a.toNat) (by omega) Vf ?_;refine XQ DG (by rw[gQv,gQA];exact Vf) (λw8 Jr Xx=>?_);rw[<-Sv,gQB,ZR,<-VC] at Xx;refine Qj ((t+1:Nat):Int) (by omega) (by omega) ?_;refine⟨t+1,rfl,⟨JW.trans Jr (λi hi=>.inl hi),Xx,by omega,?_⟩,by show(Zo x.o).toNat-(t+1)<(Zo x.o).toNat-t;omega⟩;rw[VC,<-ZR,Gb];refine⟨LG,by simp,λu hu v hv e=>?_⟩;simp only[QL] at hv;subst hv;subst e;exact h8 hu
   ·have e:(YW x).take t=YW x:=Jv (by omega);rw[e,<-hkz] at DG LG;refine Qj ((s+1:Nat):Int) (by omega) (by omega) ?_;refine⟨s+1,rfl,⟨Xf,DG,by omega,λj y hj hy=>?_,LG⟩,by show n-(s+1)<n-s;omega⟩;by_cases Y5:j<s
    ·exact hnd j y Y5 hy
    ·have:j=s:=by omega
     subst this;rw[Option.some.inj (hy.symm.trans hx)];exact pO
  ·have:s=n:=by omega
   subst this;rw[Jv (by omega)] at oZ fR;exact⟨(),rfl,Qg,oZ,hnd,fR⟩
 rintro⟨⟩ w2 ⟨Qg,oZ,hnd,fR⟩;refine Qj ((n-1:Nat):Int) (by omega) (by omega) ?_;refine jO Qa rfl rfl rfl rfl rfl rfl (by have:=h.1.le;omega) ?_;refine loop Qa [55] (λs:Nat=>[.int .i64 s]) (λs w'=>w2=w'/\s<=n-1/\∀j,j<s->j∈JS f) (λs _=>n-s) 0 rfl ⟨rfl,Xt _,λj hj=>Xd hj (by omega)⟩ ?_;rintro s _ ⟨rfl,hs,hu⟩;refine Qz (λh3=>?_) (λh3=>?_)
 ·refine index (by omega) ?_;refine Qp oZ (xf (Sw _ _ s (by omega))) ?_;refine nK (Qz (λhm=>?_) (λhm=>?_))
  ·refine Qj ((s+1:Nat):Int) (by omega) (by omega) ?_;refine⟨s+1,rfl,⟨rfl,by omega,λj hj=>?_⟩,by show n-(s+1)<n-s;omega⟩;by_cases Y5:j<s
   ·exact hu j Y5
   ·have:j=s:=by omega
    rw[this];exact hm
  ·refine⟨?_,Qg⟩;rw[BY (λhv=>?_)];have:=hv.2.2.2 s (by omega);rw[List.count_eq_zero.2 hm] at this;cases this
 ·exact⟨by rw[BX (gQF (by omega) (by omega) (λj x hj hx=>hnd j x (by omega) hx) fR (λj hj=>hu j (by omega)))],Qg⟩
end
section
inductive Fm where
 | c (b:Bool)
 | v (n:Nat)
 | not (a:Fm)
 | and (a b:Fm)
 | or (a b:Fm)
deriving DecidableEq
def RepF (f:List Fz):Fm->Nat->Prop
 | .c b,i=>f[i]? =some ⟨if b then 1 else 0,0,0,0⟩
 | .v n,i=>f[i]? =some ⟨2,(n:Nat),0,0⟩
 | .not a,i=>∃j:Nat,j<i/\f[i]? =some ⟨3,0,(j:Nat),0⟩/\RepF f a j
 | .and a b,i=>∃j k:Nat,j<i/\k<i/\f[i]? =some ⟨4,0,(j:Nat),(k:Nat)⟩/\RepF f a j/\RepF f b k
 | .or a b,i=>∃j k:Nat,j<i/\k<i/\f[i]? =some ⟨5,0,(j:Nat),(k:Nat)⟩/\RepF f a j/\RepF f b k
theorem gQJ {x:Fz}{i:Nat}(h:Vt x i):(x=⟨0,0,0,0⟩)∨(x=⟨1,0,0,0⟩)∨(∃n:Nat,n<64/\x=⟨2,n,0,0⟩)∨(∃j:Nat,j<i/\x=⟨3,0,j,0⟩)∨(∃j k:Nat,j<i/\k<i/\(x=⟨4,0,j,k⟩∨x=⟨5,0,j,k⟩)):=by
 obtain⟨o,v,a,b⟩:=x;obtain⟨h1,h2,h3,h4⟩:=h;simp only at h1 h2 h3 h4;rcases t7 o with⟨ho,e⟩ | ⟨ho,e⟩ | ⟨ho,e⟩ | ⟨e,_⟩
 ·rw[if_neg (by omega)] at h3 h4;subst h3;subst h4;rcases ho with rfl | rfl | rfl
  ·rw[if_neg (by omega)] at h2;subst h2;exact .inl rfl
  ·rw[if_neg (by omega)] at h2;subst h2;exact .inr (.inl rfl)
  ·rw[Qe rfl] at h2;refine .inr (.inr (.inl ⟨v.toNat,by omega,?_⟩));rw[Ge h2.1]
 ·rw[Qe (by omega)] at h3;rw[if_neg (by omega)] at h4 h2;subst ho;subst h4;subst h2;refine .inr (.inr (.inr (.inl ⟨a.toNat,by omega,?_⟩)));rw[Ge h3.1]
 ·rw[Qe (by omega)] at h3 h4;rw[if_neg (by omega)] at h2;subst h2;refine .inr (.inr (.inr (.inr ⟨a.toNat,b.toNat,by omega,by omega,?_⟩)));rw[Ge h3.1,Ge h4.1];rcases ho with rfl | rfl
  ·exact .inl rfl
  ·exact .inr rfl
 ·omega
theorem Sz {f:List Fz}(h:∀i x,f[i]? =some x->Vt x i):∀i,i<f.length->∃t,RepF f t i:=by
 intro i;induction i using Nat.strongRecOn with
 | _ i ih=>
  intro hi;have hx:=XB hi;rcases gQJ (h i _ hx)with e | e | ⟨n,_,e⟩ | ⟨j,hj,e⟩ | ⟨j,k,hj,hk,e⟩
  ·exact⟨.c false,by rw[e] at hx;exact hx⟩
  ·exact⟨.c true,by rw[e] at hx;exact hx⟩
  ·exact⟨.v n,by rw[e] at hx;exact hx⟩
  ·obtain⟨a,ha⟩:=ih j hj (by omega);exact⟨.not a,j,hj,by rw[e] at hx;exact hx,ha⟩
  ·obtain⟨a,ha⟩:=ih j hj (by omega);obtain⟨b,hb⟩:=ih k hk (by omega);rcases e with e | e
   ·exact⟨.and a b,j,k,hj,hk,by rw[e] at hx;exact hx,ha,hb⟩
   ·exact⟨.or a b,j,k,hj,hk,by rw[e] at hx;exact hx,ha,hb⟩
theorem RepF.lt {f:List Fz}:∀{t:Fm}{i:Nat},RepF f t i->i<f.length
 | .c _,_,h=>(ZM.1 h).1
 | .v _,_,h=>(ZM.1 h).1
 | .not _,_,⟨_,_,h,_⟩=>(ZM.1 h).1
 | .and _ _,_,⟨_,_,_,_,h,_⟩=>(ZM.1 h).1
 | .or _ _,_,⟨_,_,_,_,h,_⟩=>(ZM.1 h).1
def ZT:Fm->Nat
 | .or _ _=>0
 | .and _ _=>1
 | _=>2
def YF (b:Bool)(s:List Nat):List Nat:=if b then 40::s++ [41] else s
def Jy (nm:List (List Nat)):Fm->List Nat
 | .c b=>if b then WC else cJ
 | .v n=>nm[n]?.getD []
 | .not a=>33::YF (decide (ZT a<2)) (Jy nm a)
 | .and a b=>YF (decide (ZT a<1)) (Jy nm a)++ [32,38,38,32]++YF (decide (ZT b<2)) (Jy nm b)
 | .or a b=>YF (decide (ZT a<0)) (Jy nm a)++ [32,124,124,32]++YF (decide (ZT b<1)) (Jy nm b)
def ZU (nm:List (List Nat))(least:Nat)(t:Fm):List Nat:=YF (decide (ZT t<least)) (Jy nm t)
def VarsIn (n:Nat):Fm->Prop
 | .c _=>True
 | .v k=>k<n
 | .not a=>VarsIn n a
 | .and a b=>VarsIn n a/\VarsIn n b
 | .or a b=>VarsIn n a/\VarsIn n b
theorem gQK (o:Int)(w:World):Fn Tryz.prog 224 [.int .i64 o] w (λv w'=>v= .int .i64 (if o=5 then 0 else if o=4 then 1 else 2)/\w=w'):=by
 refine QH (c:=fQX) Qa Tryz.func224 rfl rfl rfl ?_;refine Zd (λh=>?_) (λh=>?_)
 ·exact⟨by rw[Qe h],rfl⟩
 refine Zd (λh1=>?_) (λh1=>?_)
 ·exact⟨by rw[if_neg h,Qe h1],rfl⟩
 ·exact⟨by rw[if_neg h,if_neg h1],rfl⟩
theorem ub (u:FrameMode)(base g t:Nat)(rest:List Value)(A:Option Addr)(c:Nat)(out:List Nat)(b:Nat)(w:World)(hl:qE t (rest.length+2))(hb:Bld w base g t rest A c out)(hs:out.length+1<=140737488355328):
  CallsD Tryz.prog 225 [.pointer (some ⟨g,0,none⟩),.int .u8 b].toArray u w (λe u' w'=>u'=u/\∃v,e= .returned v/\(λ_ w'=>∃A' c',Bld w' base g t rest A' c' (out++ [b])/\Mod (BldS g A) w w'/\Moved w A A') v w'):=by
 refine gQq (c:=RY) Qa u Tryz.func225 rfl rfl rfl ?_;obtain⟨pa,Jh,hB⟩:=hb.blk;refine call (GR g t pa _ rest w hl Jh hB) ?_;rintro v w1 ⟨Zw,Qh⟩;have Yb:=hb.own.rows;have fk:=hb.g1;have mW:=hb.top;have hn:¬Ql A g:=λh=>by have:=(Yb g h).1;omega
 have rH:=hb.own.mod Zw (λk hk e=>hn (e▸hk));refine Qp Qh rfl ?_;refine RB Qa rfl rfl rfl rfl rfl rfl rfl rfl ?_;intro w7 Xf mQB Q8;have iS:Sl w7 1 (some ⟨w1.heap.size,0,none⟩) 1 1 [.int .u8 (b:Int)]:=Sl.own' Q8 rfl (by simp[maxLen]);have mQC:=Zw.size;have mQD:=Xf.size;refine JH Qa rfl rfl rfl rfl rfl (by decide) rfl rfl ⟨_,rfl⟩ rfl rfl (rH.ext Xf) iS (by simp[JF]) (by unfold maxLen;omega) (by show _*1<=_;omega) (by omega) ?_;intro A' c' w2 XR eo oU;refine XQ ((Qh.ext Xf).mod XR hn) (by simp) (λw3 XD Qu=>?_);have rI:=eo.rows;refine⟨A',c',⟨fk,by have:=XR.size;have:=XD.size;omega,⟨_,.inr rfl,by rw[Qq];exact Qu⟩,?_⟩,?_,oU.back (by omega)⟩
 ·rw[Qq,BQ];exact eo.mod XD (λk hk e=>by have:=(rI k hk).1;omega)
 ·exact(((Zw.mono (S':=BldS g A) (λi hi=>.inl (.inl hi))).trans (Mod.of_ext (λ_=>False) Xf) (λi hi=>hi.elim)).trans XR (λi hi=>.inl (.inr hi))).trans XD (λi hi=>.inl (.inl hi))
end
section
theorem ud (a b:Value):(#[]++ [a,b].toArray)++ #[]=[a,b].toArray:=by simp
theorem WE:qE 109 2:=by unfold qE;kernel_rfl
def Wr (base g:Nat)(W:World)(A1:Option Addr)(out xs:List Nat)(w':World):Prop:=∃A' c',Bld w' base g 109 [] A' c' (out++xs)/\Mod (BldS g A1) W w'/\Moved W A1 A'
theorem Wr.trans {base g:Nat}{W w1 w2:World}{A1 A':Option Addr}{out xs ys:List Nat}(hm:Mod (BldS g A1) W w1)(hv:Moved W A1 A')(k:Wr base g w1 A' (out++xs) ys w2):Wr base g W A1 out (xs++ys) w2:=by
 obtain⟨A2,c2,hb2,XR,Kl⟩:=k;exact⟨A2,c2,by rw[<-ZR];exact hb2,hm.trans XR (BldS.moved hv),hv.trans Kl hm.size⟩
theorem qQV {base g:Nat}{w w2 w':World}{A:Option Addr}{out xs:List Nat}(h:Wr base g w2 A out xs w')(hE:Ext w w2):Wr base g w A out xs w':=by
 obtain⟨A2,c2,hb2,XR,Kl⟩:=h;exact⟨A2,c2,hb2,(Mod.of_ext _ hE).trans XR (λi hi=>.inl hi),Kl.back hE.size⟩
theorem BldS.kept {base g:Nat}{w0 W:World}{A:Option Addr}{c:Nat}{out:List Nat}(h:Bld W base g 109 [] A c out)(hg:w0.heap.size<=g):∀i,BldS g A i->w0.heap.size<=i:=λi hi=>by
 have:=h.g1;rcases hi with rfl | hi
 ·exact hg
 ·have:=(h.own.rows i hi).1;omega
def QG:Fm->Nat
 | .c _=>1
 | .v _=>1
 | .not a=>QG a+1
 | .and a b=>QG a+QG b+1
 | .or a b=>QG a+QG b+1
def Yi:Fm->Int
 | .c b=>if b then 1 else 0
 | .v _=>2
 | .not _=>3
 | .and _ _=>4
 | .or _ _=>5
theorem gQL (t:Fm):(if Yi t=5 then(0:Int)else if Yi t=4 then 1 else 2)=(ZT t:Nat):=by
 cases t with
 | c b=>cases b<;>rfl
 | _=>rfl
theorem RepF.node {f:List Fz}{t:Fm}{i:Nat}(h:RepF f t i):∃x,f[i]? =some x/\x.o=Yi t:=by
 cases t with
 | c b=>exact⟨_,h,rfl⟩
 | v n=>exact⟨_,h,rfl⟩
 | not a=>obtain⟨j,_,h,_⟩:=h;exact⟨_,h,rfl⟩
 | and a b=>obtain⟨j,k,_,_,h,_⟩:=h;exact⟨_,h,rfl⟩
 | or a b=>obtain⟨j,k,_,_,h,_⟩:=h;exact⟨_,h,rfl⟩
def BZ (base g:Nat)(w0:World)(NA:Option Addr)(nn nc:Nat)(nm:List (List Nat))(FA:Option Addr)(nf cf:Nat)(f:List Fz)(t:Fm):Prop:=
 ∀(i least:Nat) (A:Option Addr) (c:Nat) (out:List Nat) (w:World),Ext w0 w->Bld w base g 109 [] A c out->RepF f t i->VarsIn nn t->out.length+(ZU nm least t).length<=140737488355328->least<=2->
  Fn Tryz.prog 194 [.pointer (some ⟨g,0,none⟩),.slice NA nn nc,.slice FA nf cf,.int .i64 i,.int .i64 least] w (λ_ w'=>Wr base g w A out (ZU nm least t) w')
theorem gQM (base g:Nat)(w0:World)(NA:Option Addr)(nn nc:Nat)(nm:List (List Nat))(FA:Option Addr)(nf cf:Nat)(f:List Fz)(hN:Sl w0 1 NA nn nc (X9 nm))(Yc:KG nm)(hF:SF w0 FA nf cf f)(yv:w0.heap.size<=g)(t:Fm)(ih:∀u:Fm,QG u<QG t->BZ base g w0 NA nn nc nm FA nf cf f u):BZ base g w0 NA nn nc nm FA nf cf f t:=by
 intro i least A c out w hE hb hr hv hl ZL;have Ja:=hF.2;have KQ:nm.length=nn:=by have:=hN.len;rw[bn] at this;omega
 have hi:=hr.lt;obtain⟨x,hx,Ae⟩:=hr.node;refine xe (c:={fQF with cuts:=[]}) Qa Tryz.func194 rfl rfl rfl ?_;refine ZS (ZH Qa ?_);refine Zz BV (hF.ext hE) rfl (by omega) (λp y hy hc=>?_);have jp:y=x:=Option.some.inj (hy.symm.trans hx);subst jp;refine JN (vs:=y.cells) rfl hc ?_;refine new (λw1 Qd Q9 Qh=>?_);refine Qw Qh rfl (sc rfl) (λw2 cm Zi KJ=>?_);have Xm:Ext w w2:=XV Qd Qh cm;have QR:=hE.trans Xm;have hb2:=hb.grow Xm;have mW:=hb.top;have fk:=hb.g1;have jr:¬BldS g A w.heap.size:=λe=>by
  rcases e with e | e
  ·omega
  ·have:=(hb.own.rows _ e).2;omega
 refine ZS (ZH Qa ?_);refine Qy KJ rfl ?_;refine call (gQK y.o w2) ?_;rintro v _ ⟨rfl,rfl⟩;rw[Ae,gQL];have Jf:(ZU nm least t).length=(Jy nm t).length+(if ZT t<least then 2 else 0):=by
  unfold ZU YF;split
  ·rename_i h;rw[Qe (by simpa using h)];simp
  ·rename_i h;rw[if_neg (by simpa using h)]<;>rfl
 have vi:∀A' c' out' W w',Bld W base g 109 [] A' c' out'->Mod (BldS g A') W w'->Ext w0 W->Ext w0 w':=λA' c' out' W w' hb hm hE=>hm.ext hE (BldS.kept hb yv)
 refine ZS ?_;refine ZS (ZH Qa ?_);by_cases hd:ZT t<least
 ·rw[Qe hd] at Jf;have fS:ZU nm least t=[40]++(Jy nm t++ [41]):=by unfold ZU YF;rw[Qe (by simpa using hd)];simp
  refine gQo rfl (X2 (by omega)) (ZS (ZH Qa ?_));refine call (GS base g _ [] _ _ _ 40 w2 WE hb2 (by omega)) ?_;rintro v w3 ⟨A3,c3,o0,XD,aM⟩;generalize et:out++ [40]=oo at o0;have Vz:=KJ.mod XD jr;have QY:=vi _ _ _ _ _ hb2 XD QR;have vj:¬BldS g A3 w.heap.size:=λe=>(BldS.moved aM _ e).elim jr (λh=>by omega)
  refine xd Qa rfl rfl rfl rfl ⟨_,_,_,_,rfl,rfl,?_⟩;have XJ:oo.length+(Jy nm t).length<=140737488355327:=by rw[<-et,Qq];simp only[Q6,Ji];omega
  have Ka:=XJ
  replace XJ:oo.length+(Jy nm t).length<=140737488355328:=by omega
  have sN:∀w',Mod (BldS g A3) w3 w'->Blk w' w.heap.size 280 y.cells/\Ext w0 w':=λw' hm=>⟨Vz.mod hm vj,vi _ _ _ _ _ o0 hm QY⟩
  refine ZS (ZH Qa ?_);refine Qy Vz rfl ?_;refine ZH Qa ?_;rw[Ae] at*;cases t with
  | c b=>
   cases b with
   | false=>
    refine J2 rfl ?_;refine call (iw base g _ [] _ _ _ _ w3 WE o0 (by have:(Jy nm (.c false)).length=5:=rfl;rw[this] at XJ;exact XJ)) ?_;rintro v w9 h9
    replace h9:Wr base g w3 A3 _ (Jy nm (.c false)) w9:=h9;obtain⟨A9,c9,iU,fq,iV⟩:=h9;refine gt (gu Qa rfl rfl (.inr rfl) (ud _ _) ((ub .returning base g _ [] A9 c9 _ 41 w9 WE iU (by rw[Qq];omega)).mono ?_));rintro e u' QK ⟨rfl,v,rfl,XN⟩;refine⟨v,rfl,rfl,?_⟩;show Wr base g w A out (ZU nm least _) QK;rw[fS];exact qQV (Wr.trans XD aM (by rw[et];exact Wr.trans fq iV XN)) Xm
   | true=>
    refine XG (by decide) ?_;refine J2 rfl ?_;refine call (iw base g _ [] _ _ _ _ w3 WE o0 (by have:(Jy nm (.c true)).length=4:=rfl;rw[this] at XJ;exact XJ)) ?_;rintro v w9 h9
    replace h9:Wr base g w3 A3 _ (Jy nm (.c true)) w9:=h9;obtain⟨A9,c9,iU,fq,iV⟩:=h9;refine gt (gu Qa rfl rfl (.inr rfl) (ud _ _) ((ub .returning base g _ [] A9 c9 _ 41 w9 WE iU (by rw[Qq];omega)).mono ?_));rintro e u' QK ⟨rfl,v,rfl,XN⟩;refine⟨v,rfl,rfl,?_⟩;show Wr base g w A out (ZU nm least _) QK;rw[fS];exact qQV (Wr.trans XD aM (by rw[et];exact Wr.trans fq iV XN)) Xm
  | v n=>
   have hy:y=⟨2,(n:Nat),0,0⟩:=Option.some.inj (hx.symm.trans hr);subst hy;refine XG (by show(2:Int)≠_;decide) ?_;refine XG (by show(2:Int)≠_;decide) ?_;refine J2 rfl ?_;refine Qp Vz rfl ?_;have hn:n<nn:=hv;have sT:nm[n]? =some nm[n]:=XB (by omega);have js:Jy nm (.v n)=nm[n]:=by show nm[n]?.getD []=_;rw[sT]<;>rfl
   rw[js] at XJ;generalize nm[n]=s at*;refine Vr (hN.ext QY) (by omega) (λad u hA hu Xy=>?_);rw[lj sT] at hu;cases hu;refine load Xy ?_;refine call (iw base g _ [] _ _ _ _ w3 WE o0 (by rw[Xi];exact XJ)) ?_;rintro v w9 h9;rw[WB (Yc s (Xk sT)).1] at h9;rw[<-js] at h9;obtain⟨A9,c9,iU,fq,iV⟩:=h9;refine gt (gu Qa rfl rfl (.inr rfl) (ud _ _) ((ub .returning base g _ [] A9 c9 _ 41 w9 WE iU (by rw[Qq];omega)).mono ?_));rintro e u' QK ⟨rfl,v,rfl,XN⟩;refine⟨v,rfl,rfl,?_⟩;show Wr base g w A out (ZU nm least _) QK;rw[fS];exact qQV (Wr.trans XD aM (by rw[et];exact Wr.trans fq iV XN)) Xm
  | not a=>
   obtain⟨j,hj,hy,Ww⟩:=hr;have hy:=Option.some.inj (hx.symm.trans hy);subst hy;refine XG (by show(3:Int)≠_;decide) ?_;refine XG (by show(3:Int)≠_;decide) ?_;refine XG (by show(3:Int)≠_;decide) ?_;refine J2 rfl ?_;have Jh:Jy nm (.not a)=[33]++ZU nm 2 a:=rfl;rw[Jh,Qq] at XJ;simp only[Q6,Ji] at XJ;refine call (GS base g _ [] _ _ _ 33 w3 WE o0 (by omega)) ?_;rintro v w7 ⟨A7,c7,iW,JW,KX⟩;obtain⟨yw,Xf⟩:=sN w7 JW;refine Qp yw rfl ?_;refine call (ih a (by simp only[QG];omega) j 2 A7 c7 _ w7 Xf iW Ww hv (by rw[Qq];simp only[Q6,Ji];omega) (QC _)) ?_;rintro v w9 h9
   replace h9:=Wr.trans JW KX h9;rw[<-Jh] at h9;obtain⟨A9,c9,iU,fq,iV⟩:=h9;refine gt (gu Qa rfl rfl (.inr rfl) (ud _ _) ((ub .returning base g _ [] A9 c9 _ 41 w9 WE iU (by rw[Qq];omega)).mono ?_));rintro e u' QK ⟨rfl,v,rfl,XN⟩;refine⟨v,rfl,rfl,?_⟩;show Wr base g w A out (ZU nm least _) QK;rw[fS];exact qQV (Wr.trans XD aM (by rw[et];exact Wr.trans fq iV XN)) Xm
  | and a b=>
   obtain⟨j,k,hj,hk,hy,Ww,fT⟩:=hr;have hy:=Option.some.inj (hx.symm.trans hy);subst hy;refine XG (by show(4:Int)≠_;decide) ?_;refine XG (by show(4:Int)≠_;decide) ?_;refine XG (by show(4:Int)≠_;decide) ?_;refine XG (by show(4:Int)≠_;decide) ?_;have Jh:Jy nm (.and a b)=(ZU nm 1 a++ [32,38,38,32])++ZU nm 2 b:=rfl;rw[Jh,Qq,Qq] at XJ;simp only[Q6,Ji] at XJ;refine Qp Vz rfl ?_;refine call (ih a (by simp only[QG];omega) j 1 _ _ _ w3 QY o0 Ww hv.1 (by omega) (by omega)) ?_;rintro v w7 ⟨A7,c7,iW,JW,KX⟩;refine tO Qa rfl rfl rfl rfl rfl rfl rfl rfl rfl rfl (λw8 Xp Yq Xx=>?_);refine index (j:=1) (by decide) ?_;refine Qp Xx rfl ?_;have Jr:=JW.trans (Mod.of_ext (BldS g A7) Xp) (BldS.moved KX);refine call (iw base g _ [] _ _ _ _ w8 WE (iW.grow Xp) (by rw[Qq,show(⟨#[32,38,38,32]⟩:ByteArray).size=4 from rfl];omega)) ?_;rintro v w5 h5
   replace h5:=Wr.trans Jr KX (show Wr base g w8 A7 _ [32,38,38,32] w5 from (by obtain⟨A5,c5,V8,XT,Yp⟩:=h5;exact⟨A5,c5,V8,XT,Yp⟩));obtain⟨A5,c5,V8,XT,Yp⟩:=h5;obtain⟨KK,Qx⟩:=sN w5 XT;refine Qp KK rfl ?_;refine Qj 2 (by show(1:Int)+1=2;decide) (by decide) ?_;refine call (ih b (by simp only[QG];omega) k 2 A5 c5 _ w5 Qx V8 fT hv.2 (by rw[Qq,Qq];simp only[Q6,Ji];omega) (by omega)) ?_;rintro v w9 h9
   replace h9:=Wr.trans XT Yp h9;rw[<-Jh] at h9;obtain⟨A9,c9,iU,fq,iV⟩:=h9;refine gt (gu Qa rfl rfl (.inr rfl) (ud _ _) ((ub .returning base g _ [] A9 c9 _ 41 w9 WE iU (by rw[Qq];omega)).mono ?_));rintro e u' QK ⟨rfl,v,rfl,XN⟩;refine⟨v,rfl,rfl,?_⟩;show Wr base g w A out (ZU nm least _) QK;rw[fS];exact qQV (Wr.trans XD aM (by rw[et];exact Wr.trans fq iV XN)) Xm
  | or a b=>
   obtain⟨j,k,hj,hk,hy,Ww,fT⟩:=hr;have hy:=Option.some.inj (hx.symm.trans hy);subst hy;refine XG (by show(5:Int)≠_;decide) ?_;refine XG (by show(5:Int)≠_;decide) ?_;refine XG (by show(5:Int)≠_;decide) ?_;refine XG (by show(5:Int)≠_;decide) ?_;have Jh:Jy nm (.or a b)=(ZU nm 0 a++ [32,124,124,32])++ZU nm 1 b:=rfl;rw[Jh,Qq,Qq] at XJ;simp only[Q6,Ji] at XJ;refine Qp Vz rfl ?_;refine call (ih a (by simp only[QG];omega) j 0 _ _ _ w3 QY o0 Ww hv.1 (by omega) (by omega)) ?_;rintro v w7 ⟨A7,c7,iW,JW,KX⟩;refine tO Qa rfl rfl rfl rfl rfl rfl rfl rfl rfl rfl (λw8 Xp Yq Xx=>?_);refine index (j:=0) (by decide) ?_;refine Qp Xx rfl ?_;have Jr:=JW.trans (Mod.of_ext (BldS g A7) Xp) (BldS.moved KX);refine call (iw base g _ [] _ _ _ _ w8 WE (iW.grow Xp) (by rw[Qq,show(⟨#[32,124,124,32]⟩:ByteArray).size=4 from rfl];omega)) ?_;rintro v w5 h5
   replace h5:=Wr.trans Jr KX (show Wr base g w8 A7 _ [32,124,124,32] w5 from (by obtain⟨A5,c5,V8,XT,Yp⟩:=h5;exact⟨A5,c5,V8,XT,Yp⟩));obtain⟨A5,c5,V8,XT,Yp⟩:=h5;obtain⟨KK,Qx⟩:=sN w5 XT;refine Qp KK rfl ?_;refine Qj 1 (by show(0:Int)+1=1;decide) (by decide) ?_;refine call (ih b (by simp only[QG];omega) k 1 A5 c5 _ w5 Qx V8 fT hv.2 (by rw[Qq,Qq];simp only[Q6,Ji];omega) (by omega)) ?_;rintro v w9 h9
   replace h9:=Wr.trans XT Yp h9;rw[<-Jh] at h9;obtain⟨A9,c9,iU,fq,iV⟩:=h9;refine gt (gu Qa rfl rfl (.inr rfl) (ud _ _) ((ub .returning base g _ [] A9 c9 _ 41 w9 WE iU (by rw[Qq];omega)).mono ?_));rintro e u' QK ⟨rfl,v,rfl,XN⟩;refine⟨v,rfl,rfl,?_⟩;show Wr base g w A out (ZU nm least _) QK;rw[fS];exact qQV (Wr.trans XD aM (by rw[et];exact Wr.trans fq iV XN)) Xm
 ·rw[if_neg hd] at Jf;have fS:ZU nm least t=Jy nm t:=by unfold ZU YF;rw[if_neg (by simpa using hd)]
  refine gQp rfl (Zn (by omega)) (ZH Qa ?_);have XJ:out.length+(Jy nm t).length<=140737488355328:=by omega
  have sN:∀w',Mod (BldS g A) w2 w'->Blk w' w.heap.size 280 y.cells/\Ext w0 w':=λw' hm=>⟨KJ.mod hm jr,vi _ _ _ _ _ hb2 hm QR⟩
  refine ZS (ZH Qa ?_);refine Qy KJ rfl ?_;refine ZH Qa ?_;rw[Ae] at*;cases t with
  | c b=>
   cases b with
   | false=>
    refine J2 rfl ?_;refine call (iw base g _ [] _ _ _ _ w2 WE hb2 (by have:(Jy nm (.c false)).length=5:=rfl;rw[this] at XJ;exact XJ)) ?_;rintro v w9 h9
    replace h9:Wr base g w2 A _ (Jy nm (.c false)) w9:=h9;refine gt (jT Qa rfl (.inr rfl) ?_);show Wr base g w A out (ZU nm least _) w9;rw[fS];exact qQV h9 Xm
   | true=>
    refine XG (by decide) ?_;refine J2 rfl ?_;refine call (iw base g _ [] _ _ _ _ w2 WE hb2 (by have:(Jy nm (.c true)).length=4:=rfl;rw[this] at XJ;exact XJ)) ?_;rintro v w9 h9
    replace h9:Wr base g w2 A _ (Jy nm (.c true)) w9:=h9;refine gt (jT Qa rfl (.inr rfl) ?_);show Wr base g w A out (ZU nm least _) w9;rw[fS];exact qQV h9 Xm
  | v n=>
   have hy:y=⟨2,(n:Nat),0,0⟩:=Option.some.inj (hx.symm.trans hr);subst hy;refine XG (by show(2:Int)≠_;decide) ?_;refine XG (by show(2:Int)≠_;decide) ?_;refine J2 rfl ?_;refine Qp KJ rfl ?_;have hn:n<nn:=hv;have sT:nm[n]? =some nm[n]:=XB (by omega);have js:Jy nm (.v n)=nm[n]:=by show nm[n]?.getD []=_;rw[sT]<;>rfl
   rw[js] at XJ;generalize nm[n]=s at*;refine Vr (hN.ext QR) (by omega) (λad u hA hu Xy=>?_);rw[lj sT] at hu;cases hu;refine load Xy ?_;refine call (iw base g _ [] _ _ _ _ w2 WE hb2 (by rw[Xi];exact XJ)) ?_;rintro v w9 h9;rw[WB (Yc s (Xk sT)).1] at h9;rw[<-js] at h9;refine gt (jT Qa rfl (.inr rfl) ?_);show Wr base g w A out (ZU nm least _) w9;rw[fS];exact qQV h9 Xm
  | not a=>
   obtain⟨j,hj,hy,Ww⟩:=hr;have hy:=Option.some.inj (hx.symm.trans hy);subst hy;refine XG (by show(3:Int)≠_;decide) ?_;refine XG (by show(3:Int)≠_;decide) ?_;refine XG (by show(3:Int)≠_;decide) ?_;refine J2 rfl ?_;have Jh:Jy nm (.not a)=[33]++ZU nm 2 a:=rfl;rw[Jh,Qq] at XJ;simp only[Q6,Ji] at XJ;refine call (GS base g _ [] _ _ _ 33 w2 WE hb2 (by omega)) ?_;rintro v w7 ⟨A7,c7,iW,JW,KX⟩;obtain⟨yw,Xf⟩:=sN w7 JW;refine Qp yw rfl ?_;refine call (ih a (by simp only[QG];omega) j 2 A7 c7 _ w7 Xf iW Ww hv (by rw[Qq];simp only[Q6,Ji];omega) (QC _)) ?_;rintro v w9 h9
   replace h9:=Wr.trans JW KX h9;rw[<-Jh] at h9;refine gt (jT Qa rfl (.inr rfl) ?_);show Wr base g w A out (ZU nm least _) w9;rw[fS];exact qQV h9 Xm
  | and a b=>
   obtain⟨j,k,hj,hk,hy,Ww,fT⟩:=hr;have hy:=Option.some.inj (hx.symm.trans hy);subst hy;refine XG (by show(4:Int)≠_;decide) ?_;refine XG (by show(4:Int)≠_;decide) ?_;refine XG (by show(4:Int)≠_;decide) ?_;refine XG (by show(4:Int)≠_;decide) ?_;have Jh:Jy nm (.and a b)=(ZU nm 1 a++ [32,38,38,32])++ZU nm 2 b:=rfl;rw[Jh,Qq,Qq] at XJ;simp only[Q6,Ji] at XJ;refine Qp KJ rfl ?_;refine call (ih a (by simp only[QG];omega) j 1 _ _ _ w2 QR hb2 Ww hv.1 (by omega) (by omega)) ?_;rintro v w7 ⟨A7,c7,iW,JW,KX⟩;refine tO Qa rfl rfl rfl rfl rfl rfl rfl rfl rfl rfl (λw8 Xp Yq Xx=>?_);refine index (j:=1) (by decide) ?_;refine Qp Xx rfl ?_;have Jr:=JW.trans (Mod.of_ext (BldS g A7) Xp) (BldS.moved KX);refine call (iw base g _ [] _ _ _ _ w8 WE (iW.grow Xp) (by rw[Qq,show(⟨#[32,38,38,32]⟩:ByteArray).size=4 from rfl];omega)) ?_;rintro v w5 h5
   replace h5:=Wr.trans Jr KX (show Wr base g w8 A7 _ [32,38,38,32] w5 from (by obtain⟨A5,c5,V8,XT,Yp⟩:=h5;exact⟨A5,c5,V8,XT,Yp⟩));obtain⟨A5,c5,V8,XT,Yp⟩:=h5;obtain⟨KK,Qx⟩:=sN w5 XT;refine Qp KK rfl ?_;refine Qj 2 (by show(1:Int)+1=2;decide) (by decide) ?_;refine call (ih b (by simp only[QG];omega) k 2 A5 c5 _ w5 Qx V8 fT hv.2 (by rw[Qq,Qq];simp only[Q6,Ji];omega) (by omega)) ?_;rintro v w9 h9
   replace h9:=Wr.trans XT Yp h9;rw[<-Jh] at h9;refine gt (jT Qa rfl (.inr rfl) ?_);show Wr base g w A out (ZU nm least _) w9;rw[fS];exact qQV h9 Xm
  | or a b=>
   obtain⟨j,k,hj,hk,hy,Ww,fT⟩:=hr;have hy:=Option.some.inj (hx.symm.trans hy);subst hy;refine XG (by show(5:Int)≠_;decide) ?_;refine XG (by show(5:Int)≠_;decide) ?_;refine XG (by show(5:Int)≠_;decide) ?_;refine XG (by show(5:Int)≠_;decide) ?_;have Jh:Jy nm (.or a b)=(ZU nm 0 a++ [32,124,124,32])++ZU nm 1 b:=rfl;rw[Jh,Qq,Qq] at XJ;simp only[Q6,Ji] at XJ;refine Qp KJ rfl ?_;refine call (ih a (by simp only[QG];omega) j 0 _ _ _ w2 QR hb2 Ww hv.1 (by omega) (by omega)) ?_;rintro v w7 ⟨A7,c7,iW,JW,KX⟩;refine tO Qa rfl rfl rfl rfl rfl rfl rfl rfl rfl rfl (λw8 Xp Yq Xx=>?_);refine index (j:=0) (by decide) ?_;refine Qp Xx rfl ?_;have Jr:=JW.trans (Mod.of_ext (BldS g A7) Xp) (BldS.moved KX);refine call (iw base g _ [] _ _ _ _ w8 WE (iW.grow Xp) (by rw[Qq,show(⟨#[32,124,124,32]⟩:ByteArray).size=4 from rfl];omega)) ?_;rintro v w5 h5
   replace h5:=Wr.trans Jr KX (show Wr base g w8 A7 _ [32,124,124,32] w5 from (by obtain⟨A5,c5,V8,XT,Yp⟩:=h5;exact⟨A5,c5,V8,XT,Yp⟩));obtain⟨A5,c5,V8,XT,Yp⟩:=h5;obtain⟨KK,Qx⟩:=sN w5 XT;refine Qp KK rfl ?_;refine Qj 1 (by show(0:Int)+1=1;decide) (by decide) ?_;refine call (ih b (by simp only[QG];omega) k 1 A5 c5 _ w5 Qx V8 fT hv.2 (by rw[Qq,Qq];simp only[Q6,Ji];omega) (by omega)) ?_;rintro v w9 h9
   replace h9:=Wr.trans XT Yp h9;rw[<-Jh] at h9;refine gt (jT Qa rfl (.inr rfl) ?_);show Wr base g w A out (ZU nm least _) w9;rw[fS];exact qQV h9 Xm
theorem gQN (base g:Nat)(w0:World)(NA:Option Addr)(nn nc:Nat)(nm:List (List Nat))(FA:Option Addr)(nf cf:Nat)(f:List Fz)(hN:Sl w0 1 NA nn nc (X9 nm))(Yc:KG nm)(hF:SF w0 FA nf cf f)(yv:w0.heap.size<=g)(t:Fm):BZ base g w0 NA nn nc nm FA nf cf f t:=by
 have key:∀(n:Nat) (t:Fm),QG t<n->BZ base g w0 NA nn nc nm FA nf cf f t:=by
  intro n;induction n with
  | zero=>intro t h;omega
  | succ n ih=>intro t _;exact gQM base g w0 NA nn nc nm FA nf cf f hN Yc hF yv t (λu hu=>ih u (by omega))
 exact key _ t (eL _)
end
section
theorem B0 {o v a b o' v' a' b':Int}(h:(⟨o,v,a,b⟩:Fz)=⟨o',v',a',b'⟩):o=o'/\v=v'/\a=a'/\b=b':=by cases h;exact⟨rfl,rfl,rfl,rfl⟩
theorem qQX {f:List Fz}:∀{t t':Fm}{i:Nat},RepF f t i->RepF f t' i->t=t':=by
 intro t;induction t with
 | c b=>
  intro t' i h h';obtain⟨x,hx,ho⟩:=RepF.node h;obtain⟨x',KP,Kp⟩:=RepF.node h';have e:=Option.some.inj (hx.symm.trans KP);rw[<-e,ho] at Kp;cases t' with
  | c b'=>cases b<;>cases b'<;>first | rfl | (simp[Yi] at Kp)
  | v n=>cases b<;>simp[Yi] at Kp
  | not a=>cases b<;>simp[Yi] at Kp
  | and a c=>cases b<;>simp[Yi] at Kp
  | or a c=>cases b<;>simp[Yi] at Kp
 | v n=>
  intro t' i h h';obtain⟨x',KP,Kp⟩:=RepF.node h';have e:=Option.some.inj (KP.symm.trans h);rw[e] at Kp;cases t' with
  | c b'=>cases b'<;>simp[Yi] at Kp
  | v n'=>
   have:=B0 (Option.some.inj (h.symm.trans h'));congr 1;omega
  | not a=>simp[Yi] at Kp
  | and a c=>simp[Yi] at Kp
  | or a c=>simp[Yi] at Kp
 | not a iha=>
  intro t' i h h';obtain⟨j,hj,hx,ha⟩:=h;obtain⟨x',KP,Kp⟩:=RepF.node h';have e:=Option.some.inj (KP.symm.trans hx);rw[e] at Kp;cases t' with
  | c b'=>cases b'<;>simp[Yi] at Kp
  | v n'=>simp[Yi] at Kp
  | not a'=>
   obtain⟨j',gX,Af,sU⟩:=h';have:=B0 (Option.some.inj (hx.symm.trans Af));have ej:j=j':=by omega
   subst ej;rw[iha ha sU]
  | and a c=>simp[Yi] at Kp
  | or a c=>simp[Yi] at Kp
 | and a b iha ihb=>
  intro t' i h h';obtain⟨j,k,hj,hk,hx,ha,hb⟩:=h;obtain⟨x',KP,Kp⟩:=RepF.node h';have e:=Option.some.inj (KP.symm.trans hx);rw[e] at Kp;cases t' with
  | c b'=>cases b'<;>simp[Yi] at Kp
  | v n'=>simp[Yi] at Kp
  | not a'=>simp[Yi] at Kp
  | and a' b'=>
   obtain⟨j',k',gX,VZ,Af,sU,hb'⟩:=h';have:=B0 (Option.some.inj (hx.symm.trans Af));have ej:j=j':=by omega
   have ek:k=k':=by omega
   subst ej;subst ek;rw[iha ha sU,ihb hb hb']
  | or a c=>simp[Yi] at Kp
 | or a b iha ihb=>
  intro t' i h h';obtain⟨j,k,hj,hk,hx,ha,hb⟩:=h;obtain⟨x',KP,Kp⟩:=RepF.node h';have e:=Option.some.inj (KP.symm.trans hx);rw[e] at Kp;cases t' with
  | c b'=>cases b'<;>simp[Yi] at Kp
  | v n'=>simp[Yi] at Kp
  | not a'=>simp[Yi] at Kp
  | and a c=>simp[Yi] at Kp
  | or a' b'=>
   obtain⟨j',k',gX,VZ,Af,sU,hb'⟩:=h';have:=B0 (Option.some.inj (hx.symm.trans Af));have ej:j=j':=by omega
   have ek:k=k':=by omega
   subst ej;subst ek;rw[iha ha sU,ihb hb hb']
open Classical in
def gv (f:List Fz):Fm:=if h:∃t,RepF f t (f.length-1)then h.choose else .c false
theorem Ha {f:List Fz}{t:Fm}(h:RepF f t (f.length-1)):gv f=t:=by
 have gR:∃t,RepF f t (f.length-1):=⟨t,h⟩
 unfold gv;rw[dif_pos gR];exact qQX gR.choose_spec h
theorem gQO {f:List Fz}(h:FV f):RepF f (gv f) (f.length-1):=by
 obtain⟨t,ht⟩:=Sz h.2.2.1 (f.length-1) (by have:=h.2.1;omega);rw[Ha ht];exact ht
def nQ (n:Nat)(f:List Fz):Prop:=∀x∈f,x.o=2->x.v<n
theorem ue {n:Nat}{f:List Fz}(h:nQ n f):∀{t:Fm}{i:Nat},RepF f t i->VarsIn n t
 | .c _,_,_=>trivial
 | .v k,_,hr=>by have:=h _ (Xk hr) rfl;simp only at this;show k<n;omega
 | .not a,_,⟨_,_,_,ha⟩=>show VarsIn n a from ue h ha
 | .and a b,_,⟨_,_,_,_,_,ha,hb⟩=>⟨show VarsIn n a from ue h ha,show VarsIn n b from ue h hb⟩
 | .or a b,_,⟨_,_,_,_,_,ha,hb⟩=>⟨show VarsIn n a from ue h ha,show VarsIn n b from ue h hb⟩
open Classical in
def lm (names:List (List Nat))(f:List Fz):List Nat×Int:=if ZQ names then if FV f/\nQ names.length f then(ZU names 0 (gv f),0)else([],30)else([],1)
theorem gQP {names:List (List Nat)}{f:List Fz}(h:ZQ names=false):lm names f=([],1):=by unfold lm;rw[h]<;>rfl
theorem SC {names:List (List Nat)}{f:List Fz}(h:ZQ names=true)(hv:FV f)(ho:nQ names.length f):lm names f=(ZU names 0 (gv f),0):=by unfold lm;rw[Qe h,Qe ⟨hv,ho⟩]
theorem SD {names:List (List Nat)}{f:List Fz}(h:ZQ names=true)(hv:¬(FV f/\nQ names.length f)):lm names f=([],30):=by unfold lm;rw[Qe h,if_neg hv]
def SE (w:World)(r:List Nat×Int)(v:Value)(w':World):Prop:=v= .tuple #[.string (Qf r.1),.int .i64 r.2]/\Ext w w'
theorem gQQ {nm:List (List Nat)}(hn:KG nm):∀(t:Fm),∀x∈Jy nm t,x<256:=by
 have par:∀(b:Bool) (s:List Nat),(∀x∈s,x<256)->∀x∈YF b s,x<256:=by
  intro b s h x hx;unfold YF at hx;split at hx
  ·simp only[Xv,Q3,Jx,or_false,Z5] at hx;rcases hx with rfl | hx | rfl
   ·decide
   ·exact h x hx
   ·decide
  ·exact h x hx
 intro t;induction t with
 | c b=>
  cases b
  ·show∀x∈cJ,x<256;decide
  ·show∀x∈WC,x<256;decide
 | v n=>
  intro x hx;unfold Jy at hx;cases h:nm[n]? with
  | none=>rw[h] at hx;cases hx
  | some s=>rw[h] at hx;exact(hn s (Xk h)).1 x hx
 | not a ih=>
  intro x hx;unfold Jy at hx;simp only[Q3] at hx;rcases hx with rfl | hx
  ·decide
  ·exact par _ _ ih x hx
 | and a b iha ihb=>
  intro x hx;unfold Jy at hx;simp only[Xv,Q3,Jx,or_false] at hx;rcases hx with(hx | hx) | hx
  ·exact par _ _ iha x hx
  ·omega
  ·exact par _ _ ihb x hx
 | or a b iha ihb=>
  intro x hx;unfold Jy at hx;simp only[Xv,Q3,Jx,or_false] at hx;rcases hx with(hx | hx) | hx
  ·exact par _ _ iha x hx
  ·omega
  ·exact par _ _ ihb x hx
theorem gQR (names:List (List Nat))(A FA:Option Addr)(n c nf cf:Nat)(f:List Fz)(w:World)(h:Sl w 1 A n c (X9 names))(hb:KG names)(hF:SF w FA nf cf f)(hl:FV f->nQ names.length f->(ZU names 0 (gv f)).length<=140737488355328):
  Fn Tryz.prog 134 [.slice A n c,.slice FA nf cf] w (SE w (lm names f)):=by
 have Ja:=hF.2;have KQ:names.length=n:=by have:=h.len;rw[bn] at this;omega
 refine QH (c:={eQ2 with cuts:=[6]}) Qa Tryz.func134 rfl rfl rfl ?_;refine call (GZ names A n c w h hb) ?_;rintro v w1 ⟨v1,rfl,Qd,_⟩;cases XY:ZQ names with
 | false=>
  refine Xc rfl ?_;exact⟨by rw[gQP XY];rfl,Qd⟩
 | true=>
  refine Q7 rfl ?_;refine call (Sy FA nf cf f w1 (hF.ext Qd)) ?_;rintro v w2 ⟨rfl,Qg⟩;have QR:=Qd.trans Qg;refine YE (λh1=>?_) (λh1=>?_)
  ·exact⟨by rw[SD XY (λhh=>h1 (BX hh.1))];rfl,QR⟩
  have hv:=gQw.1 h1;refine eT [] Qa [] (λ_:Unit=>[]) (λ_ w'=>Ext w w'/\nQ names.length f) ?_ ?_
  ·refine loop Qa [23] (λs:Nat=>[.int .i64 s]) (λs w'=>Ext w w'/\s<=nf/\∀j x,j<s->f[j]? =some x->x.o=2->x.v<n) (λs _=>nf-s) 0 rfl ⟨QR,Xt _,λj x hj=>Xd hj (by omega)⟩ ?_;rintro s w3 ⟨Qi,hs,hall⟩;refine Qz (λh3=>?_) (λh3=>?_)
   ·refine Zz BV (hF.ext Qi) rfl (by omega) (λp x hx hc=>?_);refine JN (vs:=x.cells) rfl hc ?_;refine new (λw4 Qs KW QX=>?_);refine Qw QX rfl (sc rfl) (λw5 Js KL QB=>?_);have KM:Ext w3 w5:=XV Qs QX Js;have Qx:=Qi.trans KM;have next:(x.o=2->x.v<n)->∀j y,j<s+1->f[j]? =some y->y.o=2->y.v<n:=λhq j y hj hy ho=>by
     by_cases Y5:j<s
     ·exact hall j y Y5 hy ho
     ·have:j=s:=by omega
      subst this;have e:=Option.some.inj (hy.symm.trans hx);subst e;exact hq ho
    refine Qy QB rfl ?_;refine Zd (λh4=>?_) (λh4=>?_)
    ·refine Qp QB rfl ?_;refine Qz (λh5=>?_) (λh5=>?_)
     ·refine⟨?_,Qx⟩;rw[SD XY (λhh=>by have:=hh.2 x (Xk hx) h4;omega)];rfl
     ·refine Qj ((s+1:Nat):Int) (by omega) (by have:=hv.1;omega) ?_;exact⟨s+1,rfl,⟨Qx,by omega,next (λ_=>by omega)⟩,by show nf-(s+1)<nf-s;omega⟩
    ·refine Qj ((s+1:Nat):Int) (by omega) (by have:=hv.1;omega) ?_;exact⟨s+1,rfl,⟨Qx,by omega,next (λho=>Xd ho h4)⟩,by show nf-(s+1)<nf-s;omega⟩
   ·refine⟨(),rfl,Qi,λx hx ho=>?_⟩;obtain⟨j,hj,rfl⟩:=Gd.1 hx;rw[KQ];exact hall j _ (by omega) (XB hj) ho
  rintro⟨⟩ w3 ⟨Qi,OL⟩;have ht:=gQO hv;have jt:=hv.2.1;refine new (λw4 Qs KW QX=>?_);have LH:Bld w4 w4.heap.size w3.heap.size 109 [] none 0 []:=⟨by omega,QC _,⟨_,.inl rfl,QX⟩,Own.nil _ _ _ _⟩
  refine Qj ((nf-1:Nat):Int) (by omega) (by have:=hv.1;omega) ?_;have dy:=hl hv OL;rw[Ja] at ht;refine call (gQN w4.heap.size w3.heap.size w3 A n c names FA nf cf f (h.ext Qi) hb (hF.ext Qi) (QC _) (gv f) (nf-1) 0 none 0 [] w4 Qs LH ht (by rw[<-KQ];exact ue OL ht) (by rw[Ji];omega) (by omega)) ?_;rintro v w5 ⟨A5,c5,V8,XT,Yp⟩;rw[aZ] at V8;have Qx:Ext w w5:=XT.ext (Qi.trans Qs) (λi hi=>by
   rcases hi with rfl | ⟨_,e,_⟩
   ·exact Qi.size
   ·cases e)
  have h8:∀x∈ZU names 0 (gv f),x<256:=by
   unfold ZU YF;rw[if_neg (by simp)];exact gQQ hb _
  refine call (R3 w4.heap.size w3.heap.size _ [] A5 c5 _ w5 V8 h8 dy) ?_;rintro v w6 ⟨rfl,Vy⟩;refine⟨by rw[SC XY hv OL],Vy.ext Qx (λi hi=>?_)⟩;have:=(V8.own.rows i hi).1;have:=Qi.size;omega
end
section
structure Br where
 v:Int
 l:Int
 h:Int
deriving DecidableEq
def Br.cells (x:Br):List Value:=[.int .i64 x.v,.int .i64 x.l,.int .i64 x.h]
theorem WY (x:Br):x.cells.length=3:=rfl
abbrev SB (w:World)(A:Option Addr)(n c:Nat)(d:List Br):Prop:=SlS Br.cells 3 w A n c d
def Xl (A:Option Addr)(n c:Nat)(r:Int):Value:=.agg #[.slice A n c,.int .i64 r]
def Qm (d:List Br)(n:Int):Int:=if n<2 then 64 else(d[(n-2).toNat]?.map (·.v)).getD 64
def Zf (nd:List Br):Nat->Int->List Br×List Nat->Int×(List Br×List Nat)
 | 0,n,st=>(n,st)
 | m+1,n,st=>if n<2 then(n,st)else
   if 0<st.2[(n-2).toNat]?.getD 0 then((st.2[(n-2).toNat]?.getD 0:Nat),st)else
    match nd[(n-2).toNat]? with
    | none=>(n,st)
    | some x=>
     let a:=Zf nd m x.l st
     let b:=Zf nd m x.h a.2
     (((b.2.1.length+2:Nat):Int),(b.2.1++ [⟨x.v,a.1,b.1⟩],b.2.2.set (n-2).toNat (b.2.1.length+2)))
def bS (nd:List Br)(r:Int):List Br×Int:=let a:=Zf nd (r.toNat+1) r ([],List.replicate nd.length 0);(a.2.1,a.1)
def aB (nd:List Br):Prop:=∀(j:Nat)(x:Br),nd[j]? =some x->0<=x.l/\x.l<j+2/\0<=x.h/\x.h<j+2
def iA (nd:List Br)(j:Nat)(b:Br):Prop:=0<=b.v/\b.v<=63/\0<=b.l/\b.l<j+2/\0<=b.h/\b.h<j+2/\b.l≠b.h/\b∉nd.take j/\b.v<Qm nd b.l/\b.v<Qm nd b.h
def VD (nd:List Br)(r:Int):Prop:=(∀(j:Nat)(b:Br),nd[j]? =some b->iA nd j b)/\0<=r/\r<nd.length+2/\bS nd r=(nd,r)
open Classical in
def XH (nd:List Br)(r:Int):Int:=if 4096<nd.length then 2 else if VD nd r then 0 else 20
theorem gQS {nd:List Br}{r:Int}(h:4096<nd.length):XH nd r=2:=Qe h
theorem Hd {nd:List Br}{r:Int}(h:¬4096<nd.length)(k:VD nd r):XH nd r=0:=(if_neg h).trans (Qe k)
theorem Ca {nd:List Br}{r:Int}(h:¬4096<nd.length)(k:¬VD nd r):XH nd r=20:=(if_neg h).trans (if_neg k)
theorem gw {nd:List Br}{r:Int}:XH nd r=0↔¬4096<nd.length/\VD nd r:=by
 constructor
 ·intro h;unfold XH at h;split at h
  ·cases h
  ·split at h
   ·exact⟨by assumption,by assumption⟩
   ·cases h
 ·exactλh=>Hd h.1 h.2
theorem VD.wf {nd:List Br}{r:Int}(h:VD nd r):aB nd:=λj x hx=>by
 obtain⟨_,_,h1,h2,h3,h4,_⟩:=h.1 j x hx;exact⟨h1,h2,h3,h4⟩
theorem dQ (A:Option Addr)(n c:Nat)(r m:Int)(nd:List Br)(w:World)(h:SB w A n c nd)(hm:m<n+2):
  Fn Tryz.prog 103 [Xl A n c r,.int .i64 m] w (λv w'=>v= .int .i64 (Qm nd m)/\Ext w w'):=by
 have Q0:=h.2;refine QH (c:={eQJ with cuts:=[]}) Qa Tryz.func103 rfl rfl rfl ?_;refine new (λw1 Qd Q9 Qh=>?_);refine Qz (λh1=>?_) (λh1=>?_)
 ·exact⟨by unfold Qm;rw[Qe h1],Qd⟩
 ·refine Qy Qh rfl ?_;refine Qj (((m-2).toNat:Nat):Int) (by omega) (by have:=h.1.le;have:=h.1.cap;simp only[maxLen] at this;omega) ?_;refine Zz WY (h.ext Qd) rfl (by omega) (λp x hx hc=>?_);refine load (hc 0 _ rfl) ?_;exact⟨by unfold Qm;rw[if_neg h1,hx];rfl,Qd⟩
theorem qI (a b c a' b' c':Int):(a==a'&&(b==b'&&(c==c'&&true)))=decide (a=a'/\b=b'/\c=c'):=by
 rw[p9];simp only[Z4,beq_iff_eq,VJ,and_true]
theorem qJ {x y:Br}:x=y↔x.v=y.v/\x.l=y.l/\x.h=y.h:=by
 constructor
 ·rintro rfl;exact⟨rfl,rfl,rfl⟩
 ·obtain⟨a,b,c⟩:=x;obtain⟨d,e,f⟩:=y;rintro⟨rfl,rfl,rfl⟩;rfl
theorem gQT {α:Type}{l l':List α}{j:Nat}{x y:α}(hx:l[j]? =some x)(hy:l'[j]? =some y)(h:x≠y):l≠l':=λe=>by subst e;exact h (Option.some.inj (hx.symm.trans hy))
theorem gQU {α:Type}{l l':List α}{n:Nat}(h1:l.length=n)(h2:l'.length=n)(h:∀j,j<n->l[j]? =l'[j]?):l=l':=by
 apply Bc;intro j;by_cases hj:j<n
 ·exact h j hj
 ·rw[nA (by omega),nA (by omega)]
theorem gQV (A B:Option Addr)(n c m e:Nat)(l l':List Br)(w:World)(h:SB w A n c l)(h':SB w B m e l'):
  Fn Tryz.prog 158 [.slice A n c,.slice B m e] w (λv w'=>v= .bool (decide (l=l'))/\Ext w w'):=by
 have hl:=h.2;have dv:=h'.2;refine QH (c:={fQm with cuts:=[]}) Qa Tryz.func158 rfl rfl rfl ?_;refine YE (λh1=>?_) (λh1=>?_)
 ·exact⟨by rw[Zn (λe=>by subst e;omega)],Ext.refl w⟩
 refine loop Qa [13] (λs:Nat=>[.int .i64 s]) (λs w'=>Ext w w'/\s<=n/\∀j,j<s->l[j]? =l'[j]?) (λs _=>n-s) 0 rfl ⟨Ext.refl w,Xt _,λj hj=>Xd hj (by omega)⟩ ?_;rintro s w1 ⟨Qd,hs,hall⟩;refine Qz (λh2=>?_) (λh2=>?_)
 ·refine XL Qa (Ext w1) 9 [(true,0),(true,1),(true,2),(true,3),(true,4),(true,5),(true,6),(true,7),(true,8)] (by kernel_rfl) (Ext.drew w1) ?_;refine Zz WY (h.ext Qd) rfl (by omega) (λp x hx hc=>?_);refine Xo (vs:=x.cells) rfl (λw' Qb j v hj=>Qb.cell (hc j v hj)) ?_;refine Zz WY (h'.ext Qd) rfl (by omega) (λq y hy Z3=>?_);refine Xo (vs:=y.cells) rfl (λw' Qb j v hj=>Qb.cell (Z3 j v hj)) ?_;have dz:=Qd.trans (Ext.drew w1);by_cases Xu:x=y
  ·refine Q7 (by rw[qI,X2 (qJ.1 Xu)];rfl) ?_;refine Qj ((s+1:Nat):Int) (by omega) (by have:=h.1.le;have:=h.1.cap;simp only[maxLen] at this;omega) ?_;refine⟨s+1,rfl,⟨dz,by omega,λj hj=>?_⟩,by show n-(s+1)<n-s;omega⟩;by_cases Y5:j<s
   ·exact hall j Y5
   ·have:j=s:=by omega
    subst this;rw[hx,hy,Xu]
  ·refine Xc (by rw[qI,Zn (λe=>Xu (qJ.2 e))];rfl) ?_;exact⟨by rw[Zn (gQT hx hy Xu)],dz⟩
 ·exact⟨by rw[X2 (gQU hl (by omega) (λj hj=>hall j (by omega)))],Qd⟩
theorem gQW (A B:Option Addr)(n c m e:Nat)(l l':List Br)(r r':Int)(w:World)(h:SB w A n c l)(h':SB w B m e l'):
  Fn Tryz.prog 105 [Xl A n c r,Xl B m e r'] w (λv w'=>v= .bool (decide ((l,r)=(l',r')))/\Ext w w'):=by
 refine QH (c:={eQL with cuts:=[]}) Qa Tryz.func105 rfl rfl rfl ?_;refine new (λw1 Qd Q9 Qh=>?_);refine new (λw2 Qg Zi Qv=>?_);have K8:=Qh.ext Qg;have QR:=Qd.trans Qg;refine Qp K8 rfl ?_;refine Qp Qv rfl ?_;refine Zd (λh1=>?_) (λh1=>?_)
 ·refine Qy K8 rfl ?_;refine Qy Qv rfl ?_;refine call (gQV A B n c m e l l' w2 (h.ext QR) (h'.ext QR)) ?_;rintro v w3 ⟨rfl,Qi⟩;refine⟨?_,QR.trans Qi⟩;congr 1;exact wC.2 ⟨λe=>by rw[e,h1],λe=>by cases e;rfl⟩
 ·exact⟨by rw[Zn (λe=>h1 (by cases e;rfl))],QR⟩
end
section
theorem SG {α:Type} [DecidableEq α]{kv:α->Value}{c:Cx}{o:Oper}{S:Env}{w:World}{K:Env->World->Prop}{Q:Zj}{t ke e:Nat}{r rk:TyRow}{x y:Operand}{q:Nat}{m:List (α×Value)}{a:α}{v:Value}{z:Operand}(hg:c.g.Ok)
  (ho:o.op= .insert t x y z) (jo:o.dst=none) (hr:QU c.g.tys t=some r) (hd:r.d= .map ke e) (bH:QU c.g.tys ke=some rk) (hk:KeyV rk.d kv)
  (hx:S.ev x=some (.map (some q))) (hy:S.ev y=some (kv a)) (hz:S.ev z=some v) (hm:MapAt kv w q m)
  (k:∀w1,w.grownBy w1 (some q)->w1.heap.size=w.heap.size->MapAt kv w1 q (Zg a v m)->K S w1):Zc c o S w K Q:=by
 have h:Zc c {o with op:=.mapUpdate t x y z} S w K Q:=lh hg rfl jo hr hd bH hk hx hy hz hm k;unfold Zc at*;intro b hf;have h1:=h b hf;unfold Oper.wp at*;have e:(execOp b.eval o).run c.g.P w=(execOp b.eval {o with op:=.mapUpdate t x y z}).run c.g.P w:=by simp only[execOp,ho]
 rw[e];generalize (execOp b.eval {o with op:=.mapUpdate t x y z}).run c.g.P w=r at*;cases r with
 | ok n w'=>cases n<;>simp only[Oper.upon] at h1 ⊢ <;> exact h1
 | halt x w'=>cases x<;>simp only[Oper.upon] at h1 ⊢ <;> exact h1
theorem gQX {l:List Nat}{j v:Nat}(h:l[j]? =some 0)(hv:0<v):(l.set j v).count 0+1=l.count 0:=by
 induction l generalizing j with
 | nil=>simp at h
 | cons x l ih=>
  cases j with
  | zero=>
   simp at h;subst h;rw[PV,List.count_cons_of_ne (by omega),List.count_cons_self]
  | succ j=>
   simp at h;have:=ih h;rw[List.set_cons_succ,Bf,Bf];omega
theorem lq {nd:List Br}{m:Nat}{n:Int}{st:List Br×List Nat}(h:n<2):Zf nd (m+1) n st=(n,st):=by rw[Zf,Qe h]
theorem lr {nd:List Br}{m:Nat}{n:Int}{st:List Br×List Nat}(h:¬n<2)(k:0<st.2[(n-2).toNat]?.getD 0):Zf nd (m+1) n st=(((st.2[(n-2).toNat]?.getD 0:Nat):Int),st):=by rw[Zf,if_neg h,Qe k]
theorem nR {nd:List Br}{m:Nat}{n:Int}{st:List Br×List Nat}{x:Br}(h:¬n<2)(k:¬0<st.2[(n-2).toNat]?.getD 0)(hx:nd[(n-2).toNat]? =some x):
  Zf nd (m+1) n st=((((Zf nd m x.h (Zf nd m x.l st).2).2.1.length+2:Nat):Int),((Zf nd m x.h (Zf nd m x.l st).2).2.1++ [⟨x.v,(Zf nd m x.l st).1,(Zf nd m x.h (Zf nd m x.l st).2).1⟩],(Zf nd m x.h (Zf nd m x.l st).2).2.2.set (n-2).toNat ((Zf nd m x.h (Zf nd m x.l st).2).2.1.length+2))):=by
 rw[Zf,if_neg h,if_neg k,hx]
structure VisF (nd:List Br) (n:Int) (st an:List Br×List Nat):Prop where
 len:an.2.length=nd.length
 keep:∀k:Nat,n<(k:Int)+2->an.2[k]? =st.2[k]?
 cnt:an.1.length+an.2.count 0<=st.1.length+st.2.count 0
 ge:st.1.length<=an.1.length
theorem lu {nd:List Br}(hw:aB nd):∀(m:Nat)(n:Int)(st:List Br×List Nat),0<=n->n<m->n<nd.length+2->st.2.length=nd.length->VisF nd n st (Zf nd m n st).2
 | 0,n,st,h0,hm,_,_=>by omega
 | m+1,n,st,h0,hm,hn,hl=>by
  by_cases h1:n<2
  ·rw[lq h1];exact⟨hl,λ_ _=>rfl,QC _,QC _⟩
  by_cases h2:0<st.2[(n-2).toNat]?.getD 0
  ·rw[lr h1 h2];exact⟨hl,λ_ _=>rfl,QC _,QC _⟩
  have hj:(n-2).toNat<nd.length:=by omega
  have hx:=XB hj;obtain⟨w1,w2,w3,w4⟩:=hw _ _ hx;rw[nR h1 h2 hx];have f1:=lu hw m nd[(n-2).toNat].l st w1 (by omega) (by omega) hl;have f2:=lu hw m nd[(n-2).toNat].h _ w3 (by omega) (by omega) f1.len;generalize (Zf nd m nd[(n-2).toNat].l st)=a at*;generalize (Zf nd m nd[(n-2).toNat].h a.2)=b at*;have hz:st.2[(n-2).toNat]? =some 0:=by
   have:st.2[(n-2).toNat]? =some st.2[(n-2).toNat]:=XB (by omega);rw[this] at h2 ⊢;simp only[gc] at h2;congr 1;omega
  have Zi:b.2.2[(n-2).toNat]? =some 0:=by rw[f2.keep _ (by omega),f1.keep _ (by omega),hz]
  have hc:=gQX (v:=b.2.1.length+2) Zi (by omega);have c1:=f1.cnt;have c2:=f2.cnt;have g1:=f1.ge;have g2:=f2.ge;refine⟨by rw[gb];exact f2.len,λk hk=>?_,?_,?_⟩
  ·rw[gf (by omega),f2.keep k (by omega),f1.keep k (by omega)]
  ·rw[Qq];simp only[Q6,Ji];omega
  ·rw[Qq];omega
abbrev bq:Int->Value:=λn=>.int .i64 n
def MapOk (num:List Nat)(m:List (Int×Value)):Prop:=∀n:Int,0<=n->XC n m=if n<2 then some (.int .i64 n)else if 0<num[(n-2).toNat]?.getD 0 then some (.int .i64 (num[(n-2).toNat]?.getD 0:Nat))else none
theorem MapOk.set {num:List Nat}{m:List (Int×Value)}(h:MapOk num m){n:Int}(h2:¬n<2)(hl:(n-2).toNat<num.length){v:Nat}(hv:0<v):MapOk (num.set (n-2).toNat v) (Zg n (.int .i64 (v:Nat)) m):=by
 intro k hk;rw[bj];by_cases e:k=n
 ·subst e;rw[Qe rfl,if_neg h2,jG hl];simp only[gc];rw[Qe hv]
 ·rw[if_neg e,h k hk];by_cases V7:k<2
  ·rw[Qe V7,Qe V7]
  ·rw[if_neg V7,if_neg V7,gf (by omega)]
theorem gQY (n:Nat):MapOk (List.replicate n 0) (Zg 1 (.int .i64 1) (Zg 0 (.int .i64 0) [])):=by
 intro k hk;rw[bj,bj];by_cases h1:k=1
 ·subst h1;rfl
 ·rw[if_neg h1];by_cases h0:k=0
  ·subst h0;rfl
  ·rw[if_neg h0,if_neg (by omega),if_neg]
   ·rfl
   ·cases h:(List.replicate n 0)[(k-2).toNat]? with
    | none=>simp
    | some x=>
     have:=Bg (Xk h);rw[this];simp
end
section
def lv (l:List Br):List Value:=l.flatMap Br.cells
theorem Cb (l:List Br)(x:Br):lv (l++ [x])=lv l++x.cells:=by simp[lv]
structure VP where
 mb:Nat
 q:Nat
 bb:Nat
 bp:Nat
 fb:Nat
 ob:Nat
def VP.ptr (i:Nat):Value:=.pointer (some ⟨i,0,none⟩)
def VP.clo (p:VP):Value:=.func (.func 157) #[] #[VP.ptr p.mb,VP.ptr p.bb,VP.ptr p.fb,VP.ptr p.ob]
structure VK (w:World) (base:Nat) (p:VP) (NA:Option Addr) (nn nc:Nat) (nd:List Br):Prop where
 mbx:Blk w p.mb 238 [.map (some p.q)]
 bbx:Blk w p.bb 174 [VP.ptr p.bp]
 bpx:∃kv,Blk w p.bp 177 [.slice NA nn nc,kv]
 fbx:Blk w p.fb 215 [p.clo]
 nds:SB w NA nn nc nd
 lt:p.q<base/\p.ob<base
 ne:p.q≠p.ob/\p.q≠p.mb/\p.q≠p.bb/\p.q≠p.bp/\p.q≠p.fb/\p.ob≠p.mb/\p.ob≠p.bb/\p.ob≠p.bp/\p.ob≠p.fb
 lt2:p.mb<base/\p.bb<base/\p.bp<base/\p.fb<base
 row:∀ad,NA=some ad->0<nn->ad.block<base/\ad.block≠p.q/\ad.block≠p.ob
def VS (p:VP)(A:Option Addr):Nat->Prop:=λk=>k=p.q∨k=p.ob∨Ql A k
theorem VS.moved {w:World}{p:VP}{A A':Option Addr}(h:Moved w A A'):∀k,VS p A' k->VS p A k∨w.heap.size<=k:=by
 rintro k (rfl | rfl | hk)
 ·exact .inl (.inl rfl)
 ·exact .inl (.inr (.inl rfl))
 ·rcases h.rows k hk with h | h
  ·exact .inl (.inr (.inr h))
  ·exact .inr h
theorem Mod.cell {S:Nat->Prop}{w w':World}(k:Mod S w w'){a:Addr}{v:Value}(h:w.cell? a=some v)(hn:¬S a.block):w'.cell? a=some v:=by
 have Xe:=World.block_lt_of_cell? w a h;have e:=k.block a.block Xe hn;unfold World.cell? at h ⊢;rw[e];exact h
theorem Sl.modS {S:Nat->Prop}{w w':World}{sz n c:Nat}{A:Option Addr}{cs:List Value}(h:Sl w sz A n c cs)(k:Mod S w w')(hn:0<n->∀i,Ql A i->¬S i):Sl w' sz A n c cs:=
 ⟨h.len,h.le,h.cap,λh0=>by
  obtain⟨ad,rfl,hc⟩:=h.at_ h0;exact⟨ad,rfl,λj u hu=>k.cell (hc j u hu) (hn h0 _ ⟨ad,rfl,(nL ad j).symm⟩)⟩⟩
theorem He {α:Type} [DecidableEq α]{kv:α->Value}{c:Cx}{o:Oper}{S:Env}{w:World}{K:Env->World->Prop}{Q:Zj}{t ke e:Nat}{r rk re:TyRow}{x y:Operand}{q:Nat}{m:List (α×Value)}{a:α}{v:Value}(hg:c.g.Ok)
  (ho:o.op= .lookup t x y false) (hr:QU c.g.tys t=some r) (hd:r.d= .map ke e) (bH:QU c.g.tys ke=some rk) (X8:QU c.g.tys e=some re) (hk:KeyV rk.d kv)
  (hx:S.ev x=some (.map (some q))) (hy:S.ev y=some (kv a)) (hm:MapAt kv w q m) (hv:(XC a m).getD re.z=v) (k:Xh c S o.dst (.v v) (λS=>K S w)):Zc c o S w K Q:=by
 subst hv;exact eQA hg ho hr hd bH X8 hk hx hy hm k
theorem VK.mod {w w':World}{base:Nat}{p:VP}{NA OA:Option Addr}{nn nc:Nat}{nd:List Br}(h:VK w base p NA nn nc nd)(hr:∀i,Ql OA i->base<=i)(hm:Mod (VS p OA) w w'):VK w' base p NA nn nc nd:=by
 obtain⟨n1,n2,n3,n4,n5,n6,n7,n8,n9⟩:=h.ne;obtain⟨l1,l2,l3,l4⟩:=h.lt2;have key:∀i,i<base->i≠p.q->i≠p.ob->¬VS p OA i:=λi hi hq ho e=>by
  rcases e with e | e | e
  ·exact hq e
  ·exact ho e
  ·have:=hr i e;omega
 obtain⟨kv,OM⟩:=h.bpx;refine⟨h.mbx.mod hm (key _ l1 n2.symm n6.symm),h.bbx.mod hm (key _ l2 n3.symm n7.symm),⟨kv,OM.mod hm (key _ l3 n4.symm n8.symm)⟩,h.fbx.mod hm (key _ l4 n5.symm n9.symm),⟨h.nds.1.modS hm ?_,h.nds.2⟩,h.lt,h.ne,h.lt2,h.row⟩;rintro h0 i ⟨ad,rfl,rfl⟩;obtain⟨r1,r2,r3⟩:=h.row ad rfl h0;exact key _ r1 r2 r3
structure VSt (w:World) (base:Nat) (p:VP) (r0:Int) (OA:Option Addr) (oc:Nat) (st:List Br×List Nat):Prop where
 own:Own w base 105 3 OA st.1.length oc (lv st.1)
 obx:Blk w p.ob 32 [.slice OA st.1.length oc,.int .i64 r0]
 mp:∃mm,MapAt bq w p.q mm/\MapOk st.2 mm
 top:base<=w.heap.size
theorem VSt.ext {w w':World}{base:Nat}{p:VP}{r0:Int}{OA:Option Addr}{oc:Nat}{st:List Br×List Nat}(h:VSt w base p r0 OA oc st)(k:Ext w w'):VSt w' base p r0 OA oc st:=
 ⟨h.own.ext k,h.obx.ext k,let ⟨mm,h1,h2⟩:=h.mp;⟨mm,h1.ext k,h2⟩,X4 h.top k.size⟩
def VTo (w:World)(base:Nat)(p:VP)(r0:Int)(OA:Option Addr)(st:List Br×List Nat)(w':World):Prop:=∃OA' oc',VSt w' base p r0 OA' oc' st/\Mod (VS p OA) w w'/\Moved w OA OA'
theorem SH (base:Nat)(p:VP)(r0:Int)(NA:Option Addr)(nn nc:Nat)(nd:List Br)(WQ:aB nd)(fR:nn<=1000000000000):∀(m:Nat)(n:Int)(st:List Br×List Nat)(OA:Option Addr)(oc:Nat)(w:World),
  VK w base p NA nn nc nd->VSt w base p r0 OA oc st->0<=n->n<m->n<nn+2->st.2.length=nn->st.1.length+st.2.count 0<=1000000000000->
  Fn Tryz.prog 157 [.int .i64 n,VP.ptr p.mb,VP.ptr p.bb,VP.ptr p.fb,VP.ptr p.ob] w (λv w'=>v= .int .i64 (Zf nd m n st).1/\VTo w base p r0 OA (Zf nd m n st).2 w')
 | 0,n,st,OA,oc,w,_,_,h0,hm,_,_,_=>by omega
 | m+1,n,st,OA,oc,w,hK,hS,h0,hm,hn,hl,hc=>by
  have ih:=SH base p r0 NA nn nc nd WQ fR m;have KQ:nd.length=nn:=hK.nds.2;obtain⟨mm,vV,hmo⟩:=hS.mp;have Yb:=hS.own.rows;have qQv:=vV.lt;have qQw:=hS.obx.lt;refine QH (c:={fQl with cuts:=[]}) Qa Tryz.func157 rfl rfl rfl ?_;refine Qy hK.mbx rfl ?_;have am:=hmo n h0;by_cases h1:n<2
  ·rw[Qe h1] at am;refine xa (kv:=bq) (a:=n) (v:=.int .i64 n) (b:=true) Qa rfl rfl rfl rfl rfl (KeyV.int .i64) rfl rfl vV (by rw[am];rfl) (by rw[am];rfl) ?_;refine Xc rfl ?_;refine⟨by rw[lq h1],OA,oc,?_,Mod.refl _ _,Moved.refl _ _⟩;rw[lq h1];exact hS
  rw[if_neg h1] at am;by_cases h2:0<st.2[(n-2).toNat]?.getD 0
  ·rw[Qe h2] at am;refine xa (kv:=bq) (a:=n) (v:=.int .i64 (st.2[(n-2).toNat]?.getD 0:Nat)) (b:=true) Qa rfl rfl rfl rfl rfl (KeyV.int .i64) rfl rfl vV (by rw[am];rfl) (by rw[am];rfl) ?_;refine Xc rfl ?_;refine⟨by rw[lr h1 h2],OA,oc,?_,Mod.refl _ _,Moved.refl _ _⟩;rw[lr h1 h2];exact hS
  rw[if_neg h2] at am;refine xa (kv:=bq) (a:=n) (v:=.int .i64 0) (b:=false) Qa rfl rfl rfl rfl rfl (KeyV.int .i64) rfl rfl vV (by rw[am];rfl) (by rw[am];rfl) ?_;refine Q7 rfl ?_;have hj:(n-2).toNat<nd.length:=by omega
  have hx:=XB hj;generalize nd[(n-2).toNat]=x at hx;obtain⟨x1,x2,x3,x4⟩:=WQ _ _ hx;obtain⟨kv,OM⟩:=hK.bpx;refine Qy hK.bbx rfl ?_;refine Qy OM rfl ?_;refine Qj (((n-2).toNat:Nat):Int) (by omega) (by omega) ?_;refine Zz WY hK.nds rfl (by omega) (λad y hy dA=>?_);have jp:y=x:=Option.some.inj (hy.symm.trans hx);subst jp;refine JN (vs:=y.cells) rfl dA ?_;refine new (λw1 Qd Q9 Qh=>?_);refine Qw Qh rfl (sc rfl) (λw2 cm Zi KJ=>?_);have Qg:Ext w w2:=XV Qd Qh cm;have DH:Mod (VS p OA) w w2:=Mod.of_ext _ Qg;have LI:=hK.mod (λi hi=>(Yb i hi).1) DH;have LJ:=hS.ext Qg;have jr:¬VS p OA w.heap.size:=λe=>by
   rcases e with e | e | e
   ·omega
   ·omega
   ·have:=(Yb _ e).2;omega
  refine Qy LI.fbx rfl ?_;refine Qp KJ rfl ?_;have f1:=lu WQ m y.l st x1 (by omega) (by omega) (by omega);refine call (ih y.l st OA oc w2 LI LJ x1 (by omega) (by omega) hl hc) ?_;rintro v w3 ⟨rfl,OA3,LK,vk,Z7,mr⟩;have fu:=LI.mod (λi hi=>(Yb i hi).1) Z7;have Vz:=KJ.mod Z7 jr;have Ly:=vk.own.rows;have vj:¬VS p OA3 w.heap.size:=λe=>(VS.moved mr _ e).elim jr (λh=>by omega)
  refine Qy fu.fbx rfl ?_;refine Qp Vz rfl ?_;have f2:=lu WQ m y.h _ x3 (by omega) (by omega) f1.len;have c1:=f1.cnt;have c2:=f2.cnt;refine call (ih y.h _ OA3 LK w3 fu vk x3 (by omega) (by omega) (by rw[f1.len];exact KQ) (by omega)) ?_;rintro v w4 ⟨rfl,OA4,oc4,W9,KV,rK⟩;have Y3:=Vz.mod KV vj;have rL:=W9.own.rows;have mt:=Z7.trans KV (VS.moved mr);have LL:=mr.trans rK Z7.size;have yx:Mod (VS p OA) w w4:=DH.trans mt (λi hi=>.inl hi);have yy:=LL.back Qg.size;have V9:=fu.mod (λi hi=>(Ly i hi).1) KV;have vW:=nR (m:=m) h1 h2 hx;rw[vW];generalize (Zf nd m y.l st)=a at*;generalize (Zf nd m y.h a.2)=b at*;have oQT:¬Ql OA4 p.ob:=λe=>by have:=(rL _ e).1;have:=hK.lt.2;omega
  have hnq:¬Ql OA4 p.q:=λe=>by have:=(rL _ e).1;have:=hK.lt.1;omega
  refine Qy W9.obx rfl ?_;refine Qy Y3 rfl ?_;refine Xw Qa [(⟨y.v,a.1,b.1⟩:Br).cells] rfl rfl rfl rfl rfl ⟨rfl,rfl,⟨⟩⟩ rfl (λcs h=>by simp only[QL] at h;subst h;rfl) rfl (by decide) (by decide) ?_;intro w5 Qx KL QB;have iX:=W9.ext Qx;have mv:Sl w5 3 (some ⟨w4.heap.size,0,none⟩) 1 1 (⟨y.v,a.1,b.1⟩:Br).cells:=Sl.own (sz:=3) (n:=1) QB (QC _) (by decide) (by simp[Br.cells]);refine JH Qa rfl rfl rfl rfl rfl (by decide) rfl rfl ⟨_,rfl⟩ rfl rfl iX.own mv (by intro u hu;simp[Br.cells] at hu;rcases hu with rfl | rfl | rfl<;>rfl) (by unfold maxLen;omega) (by show _*24<=_;omega) iX.top ?_;intro OA6 DI w6 Vl yz yA;refine KS (iX.obx.mod Vl oQT) (by simp) (λw7 Xb Q8=>?_);have vl:Mod (VS p OA4) w4 w7:=((Mod.of_ext (VS p OA4) Qx).trans Vl (λi hi=>.inl (.inr (.inr hi)))).trans Xb (λi hi=>.inl (.inr (.inl hi)));have aa:=V9.mod (λi hi=>(rL i hi).1) vl;obtain⟨m4,mQG,mQH⟩:=W9.mp;have mQI:MapAt bq w7 p.q m4:=((mQG.ext Qx).mod Vl hnq).mod Xb hK.ne.1;have Q0:b.2.2.length=nd.length:=f2.len;refine Qy aa.mbx rfl ?_;refine Qy Q8 rfl ?_;refine Qj ((b.2.1.length+2:Nat):Int) (by omega) (by omega) ?_;refine lh (kv:=bq) (a:=n) Qa rfl rfl rfl rfl rfl (KeyV.int .i64) rfl rfl rfl mQI (λw8 YO _ bQZ=>?_);have ZF:Mod (·=p.q) w7 w8:=qQT YO rfl;have mQJ:=mQH.set h1 (by omega) (v:=b.2.1.length+2) (by omega);have mQK:XC n (Zg n (.int .i64 ((b.2.1.length+2:Nat):Int)) m4)=some (.int .i64 ((b.2.1.length+2:Nat):Int)):=by rw[bj,Qe rfl]
  have rM:Mod (VS p OA4) w4 w8:=vl.trans ZF (λi hi=>.inl (.inl hi));have hK8:=V9.mod (λi hi=>(rL i hi).1) rM;refine Qy hK8.mbx rfl ?_;refine He (kv:=bq) (a:=n) (v:=.int .i64 ((b.2.1.length+2:Nat):Int)) Qa rfl rfl rfl rfl rfl (KeyV.int .i64) rfl rfl bQZ (by rw[mQK];rfl) ?_;have yB:=yz.rows;have el:(b.2.1++ [(⟨y.v,a.1,b.1⟩:Br)]).length=b.2.1.length+1:=by simp
  refine⟨rfl,OA6,DI,⟨?_,?_,⟨_,bQZ,mQJ⟩,?_⟩,yx.trans rM (VS.moved yy),?_⟩
  ·rw[el,Cb];refine(yz.mod Xb (λi hi e=>?_)).mod ZF (λi hi e=>?_)
   ·have:=(yB i hi).1;have:=hK.lt.2;omega
   ·have:=(yB i hi).1;have:=hK.lt.1;omega
  ·rw[el];exact Q8.mod ZF (λe=>hK.ne.1 e.symm)
  ·have:=W9.top;have:=rM.size;omega
  ·exact yy.trans (yA.back Qx.size) yx.size
end
section
def xg (w:World)(r:List Br×Int)(v:Value)(w':World):Prop:=∃A n c,v=Xl A n c r.2/\Ext w w'/\SB w' A n c r.1/\∀i,Ql A i->w.heap.size<=i
theorem Hf (bp:Nat)(kv:Value)(NA:Option Addr)(nn nc:Nat)(nd:List Br)(root:Int)(w:World)(hb:Blk w bp 177 [.slice NA nn nc,kv])(hN:SB w NA nn nc nd)(WQ:aB nd)(fR:nn<=1000000000000)(h0:0<=root)(hr:root<nn+2)
  (kH:∀ad,NA=some ad->0<nn->ad.block<w.heap.size):
  Fn Tryz.prog 104 [.pointer (some ⟨bp,0,none⟩),.int .i64 root] w (xg w (bS nd root)):=by
 have KQ:nd.length=nn:=hN.2;have fU:=hb.lt;refine QH (c:={eQK with cuts:=[]}) Qa Tryz.func104 rfl rfl rfl ?_;refine new (λw1 Qd Q9 Qh=>?_);refine new (λw2 Qg Zi Qv=>?_);refine new (λw3 Qi JD Qu=>?_);refine Qw Qu rfl (sc rfl) (λw4 W8 KW QX=>?_);have KV:Mod (·=w2.heap.size) w3 w4:=qQT W8 rfl;refine wV Qa bq rfl ?_;intro w5 Qx KL XT;refine SG (kv:=bq) (a:=0) Qa rfl rfl rfl rfl rfl (KeyV.int .i64) rfl rfl rfl XT (λw6 Wm cj Vy=>?_);refine SG (kv:=bq) (a:=1) Qa rfl rfl rfl rfl rfl (KeyV.int .i64) rfl rfl rfl Vy (λw7 Zs WJ JW=>?_);have mQL:Mod (·=w4.heap.size) w5 w7:=(qQT (S:=(·=w4.heap.size)) Wm rfl).trans (qQT (S:=(·=w4.heap.size)) Zs rfl) (λi hi=>.inl hi);refine new (λw8 Xp Yq Xx=>?_);refine KS Xx (by simp[J1]) (λw9 Zb JO=>?_);refine new (λQK Zx vm Km=>?_);refine KS Km (by simp[J1]) (λQJ Z8 Z1=>?_);have z9:=Zb.size;have DJ:=Z8.size;have q1:Ext w w4:=KV.ext ((Qd.trans Qg).trans Qi) (λi hi=>by omega);have q2:Ext w4 w7:=mQL.ext Qx (λi hi=>by omega);have q3:Ext w7 w9:=Zb.ext Xp (λi hi=>by omega);have q4:Ext w9 QJ:=Z8.ext Zx (λi hi=>by omega);have DK:Ext w QJ:=((q1.trans q2).trans q3).trans q4
 let p:VP:=⟨w7.heap.size,w4.heap.size,w.heap.size,bp,w9.heap.size,w2.heap.size⟩
 have vg:Blk QJ w.heap.size 174 [VP.ptr bp]:=(((Qh.ext (Qg.trans Qi)).mod KV (by omega)).ext q2).ext (q3.trans q4);have mQM:Blk QJ w1.heap.size 32 [.slice none 0 0,.int .i64 0]:=(((Qv.ext Qi).mod KV (by omega)).ext q2).ext (q3.trans q4);have LM:Blk QJ w2.heap.size 32 [.slice none 0 0,.int .i64 0]:=(QX.ext q2).ext (q3.trans q4);have mQN:Blk QJ w7.heap.size 238 [.map (some w4.heap.size)]:=JO.ext q4;have mQO:MapAt bq QJ w4.heap.size _:=((JW.ext Xp).mod Zb (by omega)).ext q4;have hK:VK QJ QJ.heap.size p NA nn nc nd:=by
  refine⟨mQN,vg,⟨kv,hb.ext DK⟩,Z1,hN.ext DK,⟨?_,?_⟩,⟨?_,?_,?_,?_,?_,?_,?_,?_,?_⟩,⟨?_,?_,?_,?_⟩,λad e hn=>?_⟩
  all_goals try (show(_:Nat)≠_;simp only[p];omega)
  all_goals try (show(_:Nat)<_;simp only[p];omega)
  have:=kH ad e hn;refine⟨by omega,?_,?_⟩<;>(simp only[p];omega)
 have hS:VSt QJ QJ.heap.size p 0 none 0 ([],List.replicate nd.length 0):=⟨Own.nil _ _ _ _,LM,⟨_,mQO,gQY _⟩,QC _⟩
 refine Qy Z1 rfl ?_;refine call (SH QJ.heap.size p 0 NA nn nc nd WQ fR (root.toNat+1) root ([],List.replicate nd.length 0) none 0 QJ hK hS h0 (by omega) hr (by simp[KQ]) (by simp;omega)) ?_;rintro v Xa ⟨rfl,OA,oc,ac,VU,vn⟩;have vU:∀i,i≠w4.heap.size->i≠w2.heap.size->¬VS p none i:=λi h1 h2 e=>by
  rcases e with e | e | ⟨_,e,_⟩
  ·exact h1 e
  ·exact h2 e
  ·cases e
 have LN:=mQM.mod VU (vU _ (by omega) (by omega));have Yb:=ac.own.rows;refine XQ ac.obx (by simp) (λX1 Ky Vm=>?_);have iY:=LN.mod Ky (by show¬w1.heap.size=w2.heap.size;omega);refine Qt Vm rfl ?_;refine Qw iY rfl (sc rfl) (λZm fw _ Kc=>?_);have K9:Mod (·=w1.heap.size) X1 Zm:=qQT fw rfl;refine Qt Kc rfl ?_;have Xm:Ext w Xa:=VU.ext DK (λi hi=>by
  rcases hi with e | e | ⟨_,e,_⟩
  ·simp only[p] at e;omega
  ·simp only[p] at e;omega
  ·cases e)
 have JP:Ext w Zm:=K9.ext (Ky.ext Xm (λi hi=>by have ju:i=w2.heap.size:=hi;omega)) (λi hi=>by omega);refine⟨OA,_,oc,rfl,JP,⟨?_,rfl⟩,λi hi=>X4 DK.size (Yb i hi).1⟩;have:∀i,Ql OA i->QJ.heap.size<=i:=λi hi=>(Yb i hi).1
 exact((ac.own.mod Ky (λi hi e=>by have:=this i hi;have e':i=w2.heap.size:=e;omega)).mod K9 (λi hi e=>by have:=this i hi;omega)).sl
end
section
theorem gQZ {P:Program}{t:TypeId}{fs:Array Field}{ks:List Nat}{xs ys:Array Value}{b:Bool}{w:World}(hu:P.underlying t=some (.struct fs))(hh:P.stoodInHeld t=false)(hf:qj P 0 fs.toList ks=true)(h:dH ks xs.toList ys.toList=some b)(n:Nat):
  (Op.equalIn (n+2) t (.agg xs) (.agg ys)).run P w= .ok b w:=by
 have ZV:P.fieldsOf t=fs:=by simp[Program.fieldsOf,hu]
 rw[run_equalIn_struct w (n+1) t xs ys (by rw[ZV];exact hu) hh,ZV];exact Gy fs.toList ks 0 _ _ b hf h (λj=>by simp) (λj=>by simp) n w
theorem k3:eO (Tryz.prog.underlying 3)<3:=by rw[Tryz.underlying3];decide
abbrev cK:Br->Value:=λb=>.agg b.cells.toArray
theorem gQ0 (a b:Br)(n:Nat)(w:World):(Op.equalIn (n+2) 105 (cK a) (cK b)).run Tryz.prog w= .ok (decide (a=b)) w:=by
 refine gQZ (ks:=[0,0,0]) Tryz.underlying105 (by kernel_rfl) (by kernel_rfl) ?_ n;rw[show dH [0,0,0] a.cells.toArray.toList b.cells.toArray.toList=some (a.v==b.v&&(a.l==b.l&&(a.h==b.h&&true))) from rfl,qI];congr 1;exact wC.2 qJ.symm
theorem gQ1 (b:Bool)(a:Br)(n:Nat)(w:World):(Instr.checkKey b (n+2) 105 (cK a)).run Tryz.prog w= .ok () w:=by
 simp[Instr.checkKey,ZX Tryz.underlying105,ZX Tryz.underlying3,cK,Br.cells,cC k3 (cs:= #[Value.int IntKind.i64 a.v,Value.int IntKind.i64 a.l,Value.int IntKind.i64 a.h]) (n:=0) rfl,cC k3 (cs:= #[Value.int IntKind.i64 a.v,Value.int IntKind.i64 a.l,Value.int IntKind.i64 a.h]) (n:=1) rfl,cC k3 (cs:= #[Value.int IntKind.i64 a.v,Value.int IntKind.i64 a.l,Value.int IntKind.i64 a.h]) (n:=2) rfl]
theorem Cc:KeyQ Tryz.prog 105 cK:=
 qQ7 Tryz.underlying105 (λa b w=>gQ0 a b 9998 w) (λb a w=>gQ1 b a 9998 w) (λa=>by simp[Br.cells,Instr.sameBits])
theorem Hg {α:Type} [DecidableEq α]{kv:α->Value}{c:Cx}{o:Oper}{S:Env}{w:World}{K:Env->World->Prop}{Q:Zj}{t ke e:Nat}{r re:TyRow}{x y:Operand}{q:Nat}{m:List (α×Value)}{a:α}(hg:c.g.Ok)(ho:o.op= .lookup t x y false)(hr:QU c.g.tys t=some r)(hd:r.d= .map ke e)(X8:QU c.g.tys e=some re)(hk:KeyQ c.g.P ke kv)
  (hx:S.ev x=some (.map (some q))) (hy:S.ev y=some (kv a)) (hm:MapQ kv w q m) {v:Value} (hv:(XC a m).getD re.z=v)
  (k:Xh c S o.dst (.v v) (λS=>K S w)):Zc c o S w K Q:=by
 refine JG (w':=w) (λb hf=>?_) k;have e1:=hf.ev hx;have e2:=hf.ev hy;have:=R8 (w:=w) (a:=a) hg hr hd X8 hk hm false;simp only[hv] at this;simp only[execOp,ho,e1,e2];simp only[Sem.run_bind,this,Result.andThen_ok];simp
theorem SB.lt {w:World}{A:Option Addr}{n c:Nat}{d:List Br}(h:SB w A n c d):∀ad,A=some ad->0<n->ad.block<w.heap.size:=by
 intro ad e hn;obtain⟨ad',e',hc⟩:=h.1.at_ hn;cases e.symm.trans e';have hl:=h.1.len;cases XO:d.flatMap Br.cells with
 | nil=>rw[XO] at hl;simp at hl;omega
 | cons u us=>
  rw[XO] at hc;have:=World.block_lt_of_cell? w _ (hc 0 u rfl);rw[nL] at this;exact this
end
section
theorem uf (A:Option Addr)(n c:Nat)(nd:List Br)(root:Int)(w:World)(h:SB w A n c nd):
  Fn Tryz.prog 52 [Xl A n c root] w (λv w'=>v= .int .i64 (XH nd root)/\Ext w w'):=by
 have Q0:=h.2;refine QH (c:={c52 with cuts:=[4]}) Qa Tryz.func52 rfl rfl rfl ?_;refine new (λw1 Qd Q9 Qh=>?_);refine Qy Qh rfl ?_;refine Qz (λh1=>?_) (λh1=>?_)
 ·exact⟨by rw[gQS (by omega)],Qd⟩
 have gY:¬4096<nd.length:=by omega
 refine tU Qa cK rfl ?_;intro w2 Qg Zi XR;have QR:=Qd.trans Qg;have Qv:=Qh.ext Qg;refine eT [] Qa [] (λ_:Unit=>[]) (λ_ w'=>Mod (·=w1.heap.size) w2 w'/\∀(j:Nat) (b:Br),j<n->nd[j]? =some b->iA nd j b) ?_ ?_
 ·refine Qy Qv rfl ?_;refine loop Qa [15] (λs:Nat=>[.int .i64 s]) (λs w'=>Mod (·=w1.heap.size) w2 w'/\s<=n/\(∀(j:Nat) (b:Br),j<s->nd[j]? =some b->iA nd j b)/\∃m,MapQ cK w' w1.heap.size m/\∀b,(XC b m).getD (.bool false)= .bool (decide (b∈nd.take s))) (λs _=>n-s) 0 rfl ⟨Mod.refl _ _,Xt _,λj b hj=>Xd hj (by omega),[],XR,λb=>by simp[XC]⟩ ?_;rintro s w3 ⟨Z7,hs,hall,m,XD,Vp⟩;have Qi:Ext w w3:=Z7.ext QR (λi hi=>by have:=Qd.size;omega);have Qu:=Qv.mod Z7 (by omega);refine Qz (λh2=>?_) (λh2=>?_)
  ·refine Zz WY (h.ext Qi) rfl (by omega) (λp x hx hc=>?_);refine JN (vs:=x.cells) rfl hc ?_;refine new (λw4 Qs KW QX=>?_);refine Qw QX rfl (sc rfl) (λw5 Js KL KK=>?_);have KM:Ext w3 w5:=XV Qs QX Js;have Qx:=Qi.trans KM;have XT:=XD.ext KM;have QB:=Qu.ext KM;have bad:¬iA nd s x->∀w',Ext w w'->(Value.int .i64 20= .int .i64 (XH nd root))/\Ext w w':=λXq w' hE=>⟨by rw[Ca gY (λhv=>Xq (hv.1 s x hx))],hE⟩
   refine Qy KK rfl ?_;refine Qz (λc1=>?_) (λc1=>?_)
   ·exact bad (λhb=>by have:=hb.1;omega) _ Qx
   refine Qy KK rfl ?_;refine Qz (λc2=>?_) (λc2=>?_)
   ·exact bad (λhb=>by have:=hb.2.1;omega) _ Qx
   refine Qp KK rfl ?_;refine Qz (λc3=>?_) (λc3=>?_)
   ·exact bad (λhb=>by have:=hb.2.2.1;omega) _ Qx
   refine Qp KK rfl ?_;refine Qz (λc4=>?_) (λc4=>?_)
   ·exact bad (λhb=>by have:=hb.2.2.2.2.1;omega) _ Qx
   refine Qp KK rfl ?_;refine Qj ((s:Int)+1) rfl (by omega) ?_;refine Qz (λc5=>?_) (λc5=>?_)
   ·exact bad (λhb=>by have:=hb.2.2.2.1;omega) _ Qx
   refine Qp KK rfl ?_;refine Qj ((s:Int)+1) rfl (by omega) ?_;refine Qz (λc6=>?_) (λc6=>?_)
   ·exact bad (λhb=>by have:=hb.2.2.2.2.2.1;omega) _ Qx
   refine Qp KK rfl ?_;refine Qp KK rfl ?_;refine Zd (λc7=>?_) (λc7=>?_)
   ·exact bad (λhb=>hb.2.2.2.2.2.2.1 c7) _ Qx
   refine Qt KK rfl ?_;refine Hg (kv:=cK) (a:=x) Qa rfl rfl rfl rfl Cc rfl rfl XT (Vp x) ?_;refine Qz (λc8=>?_) (λc8=>?_)
   ·exact bad (λhb=>hb.2.2.2.2.2.2.2.1 c8) _ Qx
   refine XL Qa (Ext w5) 16 [(true,0),(true,1),(true,2),(true,4),(true,5),(false,3),(true,6),(true,7),(true,8),(true,9),(true,10),(true,12),(true,13),(false,11),(true,14),(true,15)] (by kernel_rfl) (Ext.drew w5) ?_;have qB:∀w',Ext w5 w'->∀(j:Nat) (v:Value),[Value.slice A n c,.int .i64 root][j]? =some v->w'.cell? ((⟨w.heap.size,0,none⟩:Addr).add j)=some v:=λw' Qb j v hj=>by rw[(QB.ext Qb).cell];exact hj
   have qX:∀w',Ext w5 w'->∀(j:Nat) (v:Value),x.cells[j]? =some v->w'.cell? ((⟨w3.heap.size,0,none⟩:Addr).add j)=some v:=λw' Qb j v hj=>by rw[(KK.ext Qb).cell];exact hj
   have yC:∀w',Ext w5 w'->w'.cell? (⟨w3.heap.size,0,none⟩:Addr)=some (.int .i64 x.v):=λw' Qb=>by have:=qX w' Qb 0 _ rfl;simpa [Addr.add] using this
   refine Xo (vs:=[.slice A n c,.int .i64 root]) rfl (λw' Qb j v hj=>by have:=qB w' Qb j v hj;simpa [Addr.add] using this) ?_;refine QQ (v:=.int .i64 x.l) (λw' Qb=>qX w' Qb 1 _ rfl) ?_;refine QQ (v:=.int .i64 x.v) (λw' Qb=>yC w' Qb) ?_;refine call (dQ A n c root x.l nd _ (h.ext (Qx.trans (Ext.drew w5))) (by omega)) ?_;rintro v w6 ⟨rfl,QN⟩;have ZO:=(Ext.drew w5).trans QN;refine⟨ZO,?_⟩;refine Qz (λc9=>?_) (λc9=>?_)
   ·exact bad (λhb=>by have:=hb.2.2.2.2.2.2.2.2.1;omega) _ (Qx.trans ZO)
   refine Xo (vs:=[.slice A n c,.int .i64 root]) rfl (λw' Qb j v hj=>by have:=qB w' Qb j v hj;simpa [Addr.add] using this) ?_;refine QQ (v:=.int .i64 x.h) (λw' Qb=>qX w' Qb 2 _ rfl) ?_;refine QQ (v:=.int .i64 x.v) (λw' Qb=>yC w' Qb) ?_;refine call (dQ A n c root x.h nd _ (h.ext (Qx.trans ZO)) (by omega)) ?_;rintro v w7 ⟨rfl,Xf⟩;have JX:=ZO.trans Xf;refine⟨JX,?_⟩;refine Qz (λtT=>?_) (λtT=>?_)
   ·exact bad (λhb=>by have:=hb.2.2.2.2.2.2.2.2.2;omega) _ (Qx.trans JX)
   have XY:iA nd s x:=⟨by omega,by omega,by omega,by omega,by omega,by omega,c7,c8,by omega,by omega⟩
   refine Qt (KK.ext JX) rfl ?_;refine tV (kv:=cK) (a:=x) Qa rfl rfl rfl rfl Cc rfl rfl rfl (XT.ext JX) (λw8 ZF Yq Jr=>?_);refine Qj ((s+1:Nat):Int) (by omega) (by omega) ?_;refine⟨s+1,rfl,⟨(Z7.trans (Mod.of_ext (·=w1.heap.size) (KM.trans JX)) (λi hi=>.inl hi)).trans ZF (λi hi=>.inl hi),by omega,λj b hj hb=>?_,_,Jr,λb=>?_⟩,by show n-(s+1)<n-s;omega⟩
   ·by_cases Y5:j<s
    ·exact hall j b Y5 hb
    ·have:j=s:=by omega
     subst this;rw[Option.some.inj (hb.symm.trans hx)];exact XY
   ·rw[bj,V3,hx];by_cases mY:b=x
    ·subst mY;simp
    ·rw[if_neg mY,Vp b];simp[mY]
  ·have:s=n:=by omega
   subst this;exact⟨(),rfl,Z7,hall⟩
 rintro⟨⟩ w3 ⟨Z7,hall⟩;have Qi:Ext w w3:=Z7.ext QR (λi hi=>by have:=Qd.size;omega);have Qu:=Qv.mod Z7 (by omega);refine Qp Qu rfl ?_;refine Qz (λc1=>?_) (λc1=>?_)
 ·exact⟨by rw[Ca gY (λhv=>by have:=hv.2.1;omega)],Qi⟩
 refine Qp Qu rfl ?_;refine Qy Qu rfl ?_;refine Qj ((n:Int)+1) rfl (by omega) ?_;refine Qz (λc2=>?_) (λc2=>?_)
 ·exact⟨by rw[Ca gY (λhv=>by have:=hv.2.2.1;omega)],Qi⟩
 have WQ:aB nd:=λj x hx=>by
  obtain⟨_,_,h1,h2,h3,h4,_⟩:=hall j x (by have:=(ZM.1 hx).1;omega) hx;exact⟨h1,h2,h3,h4⟩
 refine Qy Qu rfl ?_;refine new (λw4 Qs KW QX=>?_);have Xr:=Qi.trans Qs;have kj:=Qu.ext Qs;refine Qp kj rfl ?_;refine call (Hf w3.heap.size (.map none) A n c nd root w4 QX (h.ext Xr) WQ (by omega) (by omega) (by omega) (SB.lt (h.ext Xr))) ?_;rintro v w5 ⟨OA,m,oc,rfl,Qx,DL,_⟩;refine new (λw6 QN cj Xg=>?_);refine Qw Xg rfl (sc rfl) (λw7 Zs WJ yw=>?_);have JX:Ext w5 w7:=XV QN Xg Zs;have VV:=(Xr.trans Qx).trans JX;refine Qt yw rfl ?_;refine Qt ((kj.ext Qx).ext JX) rfl ?_;refine call (gQW OA A m oc n c _ nd _ root w7 (DL.ext JX) (h.ext VV)) ?_;rintro v w8 ⟨rfl,Xp⟩;have Wn:=VV.trans Xp;refine nK (Qz (λc3=>?_) (λc3=>?_))
 ·exact⟨by rw[Hd gY ⟨λj b hb=>hall j b (by have:=(ZM.1 hb).1;omega) hb,by omega,by omega,c3⟩],Wn⟩
 ·exact⟨by rw[Ca gY (λhv=>c3 hv.2.2.2)],Wn⟩
end
section
theorem Blk.cell0 {w:World}{g t:Nat}{cs:List Value}(h:Blk w g t cs):w.cell? ⟨g,0,none⟩=cs[0]? :=by have:=h.cell 0;simpa [Addr.add] using this
theorem xi (A:Option Addr)(n c:Nat)(r m:Int)(nd:List Br)(w:World)(h:SB w A n c nd)(hm:m<n+2):
  Fn Tryz.prog 161 [Xl A n c r,.int .i64 m] w (λv w'=>v= .int .i64 (Qm nd m)/\Ext w w'):=by
 have Q0:=h.2;refine QH (c:={fQo with cuts:=[]}) Qa Tryz.func161 rfl rfl rfl ?_;refine new (λw1 Qd Q9 Qh=>?_);refine Qz (λh1=>?_) (λh1=>?_)
 ·exact⟨by unfold Qm;rw[Qe h1],Qd⟩
 ·refine Qy Qh rfl ?_;refine Qj (((m-2).toNat:Nat):Int) (by omega) (by have:=h.1.le;have:=h.1.cap;simp only[maxLen] at this;omega) ?_;refine Zz WY (h.ext Qd) rfl (by omega) (λp x hx hc=>?_);refine load (hc 0 _ rfl) ?_;exact⟨by unfold Qm;rw[if_neg h1,hx];rfl,Qd⟩
theorem pQz (A:Option Addr)(n c:Nat)(r:Int)(s:Nat)(nd:List Br)(x:Br)(w:World)(h:SB w A n c nd)(hx:nd[s]? =some x)(bI:n<=1000000000000):
  Fn Tryz.prog 212 [Xl A n c r,.int .i64 s] w (λv w'=>∃b,v= .bool b/\(b=true↔iA nd s x)/\Ext w w'):=by
 have Q0:=h.2;have hs:s<nd.length:=(ZM.1 hx).1;refine QH (c:={fQR with cuts:=[]}) Qa Tryz.func212 rfl rfl rfl ?_;refine new (λw1 Qd Q9 Qh=>?_);refine Qy Qh rfl ?_;refine Zz WY (h.ext Qd) rfl (by omega) (λp y hy hc=>?_);have jp:y=x:=Option.some.inj (hy.symm.trans hx);subst jp;refine JN (vs:=y.cells) rfl hc ?_;refine new (λw4 Qs KW QX=>?_);refine Qw QX rfl (sc rfl) (λw5 Js KL KK=>?_);have JQ:Ext w1 w5:=XV Qs QX Js;have Qx:=Qd.trans JQ;have QB:=Qh.ext JQ;have bad:¬iA nd s y->∀w',Ext w w'->∃b,(Value.bool false:Value)= .bool b/\(b=true↔iA nd s y)/\Ext w w':=λXq w' hE=>⟨false,rfl,by simp[Xq],hE⟩
 refine Qy KK rfl ?_;refine Qz (λc1=>?_) (λc1=>?_)
 ·exact bad (λhb=>by have:=hb.1;omega) _ Qx
 refine Qy KK rfl ?_;refine Qz (λc2=>?_) (λc2=>?_)
 ·exact bad (λhb=>by have:=hb.2.1;omega) _ Qx
 refine Qp KK rfl ?_;refine Qz (λc3=>?_) (λc3=>?_)
 ·exact bad (λhb=>by have:=hb.2.2.1;omega) _ Qx
 refine Qp KK rfl ?_;refine Qz (λc4=>?_) (λc4=>?_)
 ·exact bad (λhb=>by have:=hb.2.2.2.2.1;omega) _ Qx
 refine Qp KK rfl ?_;refine Qj ((s:Int)+2) rfl (by omega) ?_;refine Qz (λc5=>?_) (λc5=>?_)
 ·exact bad (λhb=>by have:=hb.2.2.2.1;omega) _ Qx
 refine Qp KK rfl ?_;refine Qj ((s:Int)+2) rfl (by omega) ?_;refine Qz (λc6=>?_) (λc6=>?_)
 ·exact bad (λhb=>by have:=hb.2.2.2.2.2.1;omega) _ Qx
 refine Qp KK rfl ?_;refine Qp KK rfl ?_;refine Zd (λc7=>?_) (λc7=>?_)
 ·exact bad (λhb=>hb.2.2.2.2.2.2.1 c7) _ Qx
 have qB:∀w',Ext w5 w'->∀(j:Nat) (v:Value),[Value.slice A n c,.int .i64 r][j]? =some v->w'.cell? ((⟨w.heap.size,0,none⟩:Addr).add j)=some v:=λw' Qb j v hj=>by rw[(QB.ext Qb).cell];exact hj
 have qX:∀w',Ext w5 w'->∀(j:Nat) (v:Value),y.cells[j]? =some v->w'.cell? ((⟨w1.heap.size,0,none⟩:Addr).add j)=some v:=λw' Qb j v hj=>by rw[(KK.ext Qb).cell];exact hj
 have yC:∀w',Ext w5 w'->w'.cell? (⟨w1.heap.size,0,none⟩:Addr)=some (.int .i64 y.v):=λw' Qb=>by rw[(KK.ext Qb).cell0]<;>rfl
 refine XL Qa (Ext w5) 16 [(true,0),(true,1),(true,2),(true,4),(true,5),(false,3),(true,6),(true,7),(true,8),(true,9),(true,10),(true,12),(true,13),(false,11),(true,14),(true,15)] (by kernel_rfl) (Ext.drew w5) ?_;refine Xo (vs:=[.slice A n c,.int .i64 r]) rfl (λw' Qb j v hj=>by have:=qB w' Qb j v hj;simpa [Addr.add] using this) ?_;refine QQ (v:=.int .i64 y.l) (λw' Qb=>qX w' Qb 1 _ rfl) ?_;refine QQ (v:=.int .i64 y.v) (λw' Qb=>yC w' Qb) ?_;refine call (xi A n c r y.l nd _ (h.ext (Qx.trans (Ext.drew w5))) (by omega)) ?_;rintro v w6 ⟨rfl,QN⟩;have ZO:=(Ext.drew w5).trans QN;refine⟨ZO,?_⟩;refine Qz (λc9=>?_) (λc9=>?_)
 ·exact bad (λhb=>by have:=hb.2.2.2.2.2.2.2.2.1;omega) _ (Qx.trans ZO)
 refine Xo (vs:=[.slice A n c,.int .i64 r]) rfl (λw' Qb j v hj=>by have:=qB w' Qb j v hj;simpa [Addr.add] using this) ?_;refine QQ (v:=.int .i64 y.h) (λw' Qb=>qX w' Qb 2 _ rfl) ?_;refine QQ (v:=.int .i64 y.v) (λw' Qb=>yC w' Qb) ?_;refine call (xi A n c r y.h nd _ (h.ext (Qx.trans ZO)) (by omega)) ?_;rintro v w7 ⟨rfl,Xf⟩;have JX:=ZO.trans Xf;refine⟨JX,?_⟩;refine Qz (λtT=>?_) (λtT=>?_)
 ·exact bad (λhb=>by have:=hb.2.2.2.2.2.2.2.2.2;omega) _ (Qx.trans JX)
 have VV:=Qx.trans JX;refine loop Qa [6] (λt:Nat=>[.int .i64 t]) (λt w'=>Ext w7 w'/\t<=s/\y∉nd.take t) (λt _=>s-t) 0 rfl ⟨Ext.refl w7,Xt _,by simp⟩ ?_;rintro t w8 ⟨Xp,ht,Xq⟩;have Xx:=(QB.ext JX).ext Xp;have hX8:=(KK.ext JX).ext Xp;have Wn:=VV.trans Xp;refine Qz (λh8=>?_) (λh8=>?_)
 ·refine XL Qa (Ext w8) 7 [(true,0),(true,1),(true,2),(true,3),(true,4),(true,5),(true,6)] (by kernel_rfl) (Ext.drew w8) ?_;refine QQ (v:=.slice A n c) (λw' Qb=>by rw[(Xx.ext Qb).cell];rfl) ?_;refine Zz WY (h.ext Wn) rfl (by omega) (λp z hz hc=>?_);refine Xo (vs:=z.cells) rfl (λw' Qb j v hj=>Qb.cell (hc j v hj)) ?_;refine Xo (vs:=y.cells) rfl (λw' Qb j v hj=>by have:=(hX8.ext Qb).cell j;simp[Addr.add] at this;rw[<-hj];simpa [Addr.add] using this) ?_;have dz:=Xp.trans (Ext.drew w8);by_cases Fv:z=y
  ·refine Xc (by rw[qI,X2 (qJ.1 Fv)]) ?_;refine bad (λhb=>hb.2.2.2.2.2.2.2.1 ?_) _ (VV.trans dz);subst Fv;exact Xk (i:=t) (by rw[qe (by omega)];exact hz)
  ·refine Q7 (by rw[qI,Zn (λe=>Fv (qJ.2 e))]) ?_;refine Qj ((t+1:Nat):Int) (by omega) (by omega) ?_;refine⟨t+1,rfl,⟨dz,by omega,?_⟩,by show s-(t+1)<s-t;omega⟩;rw[V3,hz];simp only[Option.toList_some,Xv,QL,not_or];exact⟨Xq,λe=>Fv e.symm⟩
 ·have:t=s:=by omega
  subst this;exact⟨true,rfl,by simp only[true_iff];exact⟨by omega,by omega,by omega,by omega,by omega,by omega,c7,Xq,by omega,by omega⟩,Wn⟩
end
section
def lw (l:List Nat):List Value:=l.map λ(x:Nat)=>.int .i64 (x:Int)
theorem SI {l:List Nat}{j x:Nat}(h:l[j]? =some x):(lw l)[j]? =some (.int .i64 (x:Int)):=by simp[lw,h]
theorem gQ2 (l:List Nat):(lw l).length=l.length:=by simp[lw]
theorem gQ3 (l:List Nat)(i x:Nat):lw (l.set i x)=(lw l).set i (.int .i64 (x:Int)):=by simp[lw,List.map_set]
def WS (x pg:Nat)(A:Option Addr):Nat->Prop:=λk=>k=x∨k=pg∨Ql A k
theorem WS.moved {w:World}{x pg:Nat}{A A':Option Addr}(h:Moved w A A'):∀k,WS x pg A' k->WS x pg A k∨w.heap.size<=k:=by
 rintro k (rfl | rfl | hk)
 ·exact .inl (.inl rfl)
 ·exact .inl (.inr (.inl rfl))
 ·rcases h.rows k hk with h | h
  ·exact .inl (.inr (.inr h))
  ·exact .inr h
structure Wk (w:World) (base x pg:Nat) (NA:Option Addr) (nn nc:Nat) (nd:List Br) (OA:Option Addr) (oc:Nat) (st:List Br×List Nat):Prop where
 blk:Blk w x 249 [.slice NA nn nc,.slice (some ⟨pg,0,none⟩) nn nn,.slice OA st.1.length oc]
 num:Blk w pg 3 (lw st.2)
 own:Own w base 105 3 OA st.1.length oc (lv st.1)
 lt:x<base/\pg<base/\x≠pg
 top:base<=w.heap.size
 nds:SB w NA nn nc nd
 row:∀ad,NA=some ad->0<nn->ad.block<base/\ad.block≠x/\ad.block≠pg
 len:st.2.length=nn
theorem Wk.ext {w w':World}{base x pg:Nat}{NA:Option Addr}{nn nc:Nat}{nd:List Br}{OA:Option Addr}{oc:Nat}{st:List Br×List Nat}(h:Wk w base x pg NA nn nc nd OA oc st)(k:Ext w w'):Wk w' base x pg NA nn nc nd OA oc st:=
 ⟨h.blk.ext k,h.num.ext k,h.own.ext k,h.lt,X4 h.top k.size,h.nds.ext k,h.row,h.len⟩
theorem Wk.keep {w w':World}{base x pg:Nat}{NA:Option Addr}{nn nc:Nat}{nd:List Br}{OA:Option Addr}{oc:Nat}{st:List Br×List Nat}(h:Wk w base x pg NA nn nc nd OA oc st)(hm:Mod (WS x pg OA) w w'):SB w' NA nn nc nd:=by
 refine⟨h.nds.1.modS hm ?_,h.nds.2⟩;rintro h0 i ⟨ad,rfl,rfl⟩ hi;obtain⟨r1,r2,r3⟩:=h.row ad rfl h0;rcases hi with hi | hi | hi
 ·exact r2 hi
 ·exact r3 hi
 ·have:=(h.own.rows _ hi).1;omega
def WTo (w:World)(base x pg:Nat)(NA:Option Addr)(nn nc:Nat)(nd:List Br)(OA:Option Addr)(st:List Br×List Nat)(w':World):Prop:=∃OA' oc',Wk w' base x pg NA nn nc nd OA' oc' st/\Mod (WS x pg OA) w w'/\Moved w OA OA'
theorem SJ (base x pg:Nat)(NA:Option Addr)(nn nc:Nat)(nd:List Br)(WQ:aB nd)(fR:nn<=1000000000000):∀(m:Nat)(n:Int)(st:List Br×List Nat)(OA:Option Addr)(oc:Nat)(w:World),
  Wk w base x pg NA nn nc nd OA oc st->0<=n->n<m->n<nn+2->st.1.length+st.2.count 0<=1000000000000->
  Fn Tryz.prog 164 [.pointer (some ⟨x,0,none⟩),.int .i64 n] w (λv w'=>v= .int .i64 (Zf nd m n st).1/\WTo w base x pg NA nn nc nd OA (Zf nd m n st).2 w')
 | 0,n,st,OA,oc,w,_,h0,hm,_,_=>by omega
 | m+1,n,st,OA,oc,w,hK,h0,hm,hn,hc=>by
  have ih:=SJ base x pg NA nn nc nd WQ fR m;have KQ:nd.length=nn:=hK.nds.2;have hl:=hK.len;have Yb:=hK.own.rows;have qQx:=hK.blk.lt;have qQy:=hK.num.lt;obtain⟨lx,lp,lxp⟩:=hK.lt;refine QH (c:={fQr with cuts:=[]}) Qa Tryz.func164 rfl rfl rfl ?_;by_cases h1:n<2
  ·refine Zq h1 ?_;rw[lq h1];exact⟨rfl,OA,oc,hK,Mod.refl _ _,Moved.refl _ _⟩
  refine XF h1 ?_;have hj:(n-2).toNat<nn:=by omega
  have hz:st.2[(n-2).toNat]? =some st.2[(n-2).toNat]:=XB (by omega);refine Qp hK.blk rfl ?_;refine Qj (((n-2).toNat:Nat):Int) (by omega) (by omega) ?_;refine index (by omega) ?_;refine Qp hK.num (SI hz) ?_;have hd:st.2[(n-2).toNat]?.getD 0=st.2[(n-2).toNat]:=by rw[hz]<;>rfl
  by_cases h2:0<st.2[(n-2).toNat]?.getD 0
  ·rw[lr h1 h2];rw[hd] at h2 ⊢;refine Zq (by omega) ?_;refine Qp hK.blk rfl ?_;refine Qj (((n-2).toNat:Nat):Int) (by omega) (by omega) ?_;refine index (by omega) ?_;refine Qp hK.num (SI hz) ?_;exact⟨rfl,OA,oc,hK,Mod.refl _ _,Moved.refl _ _⟩
  refine XF (by rw[hd] at h2;omega) ?_;have hx:=XB (show(n-2).toNat<nd.length by omega);generalize nd[(n-2).toNat]=b at hx;obtain⟨x1,x2,x3,x4⟩:=WQ _ _ hx;rw[nR h1 h2 hx];refine Qy hK.blk rfl ?_;refine Qj (((n-2).toNat:Nat):Int) (by omega) (by omega) ?_;refine Zz WY hK.nds rfl (by omega) (λad y hy dA=>?_);have jp:y=b:=Option.some.inj (hy.symm.trans hx);subst jp;refine JN (vs:=y.cells) rfl dA ?_;refine new (λw1 Qd Q9 Qh=>?_);refine Qw Qh rfl (sc rfl) (λw2 cm Zi KJ=>?_);have Qg:Ext w w2:=XV Qd Qh cm;have DH:Mod (WS x pg OA) w w2:=Mod.of_ext _ Qg;have jr:¬WS x pg OA w.heap.size:=λe=>by
   rcases e with e | e | e
   ·omega
   ·omega
   ·have:=(Yb _ e).2;omega
  refine Qp KJ rfl ?_;have f1:=lu WQ m y.l st x1 (by omega) (by omega) (by omega);refine call (ih y.l st OA oc w2 (hK.ext Qg) x1 (by omega) (by omega) hc) ?_;rintro v w3 ⟨rfl,OA3,LK,fu,Z7,mr⟩;have Vz:=KJ.mod Z7 jr;have vj:¬WS x pg OA3 w.heap.size:=λe=>(WS.moved mr _ e).elim jr (λh=>by omega)
  refine Qp Vz rfl ?_;have f2:=lu WQ m y.h _ x3 (by omega) (by omega) f1.len;have c1:=f1.cnt;have c2:=f2.cnt;refine call (ih y.h _ OA3 LK w3 fu x3 (by omega) (by omega) (by omega)) ?_;rintro v w4 ⟨rfl,OA4,oc4,V9,KV,rK⟩;have Y3:=Vz.mod KV vj;have mQP:¬WS x pg OA4 w.heap.size:=λe=>(WS.moved rK _ e).elim vj (λh=>by have:=Z7.size;omega)
  have mt:=Z7.trans KV (WS.moved mr);have LL:=mr.trans rK Z7.size;have yx:Mod (WS x pg OA) w w4:=DH.trans mt (λi hi=>.inl hi);have yy:=LL.back Qg.size;generalize (Zf nd m y.l st)=a at*;generalize (Zf nd m y.h a.2)=b at*;have rL:=V9.own.rows;have du:¬Ql OA4 x:=λe=>by have:=(rL _ e).1;omega
  have ON:¬Ql OA4 pg:=λe=>by have:=(rL _ e).1;omega
  refine XL Qa (Mod (Ql OA4) w4) 12 [(true,0),(true,1),(true,2),(true,3),(true,4),(true,5),(true,6),(true,7),(true,8),(true,9),(false,10),(false,11)] (by kernel_rfl) (Mod.of_ext _ (Ext.drew w4)) ?_;refine QQ (v:=.slice OA4 b.2.1.length oc4) (λw' Qb=>by rw[(V9.blk.mod Qb du).cell];rfl) ?_;refine QQ (v:=.int .i64 y.v) (λw' Qb=>by rw[(Y3.mod Qb (λe=>mQP (.inr (.inr e)))).cell];rfl) ?_;refine Xw Qa [(⟨y.v,a.1,b.1⟩:Br).cells] rfl rfl rfl rfl rfl ⟨rfl,rfl,⟨⟩⟩ rfl (λcs h=>by simp only[QL] at h;subst h;rfl) rfl (by decide) (by decide) ?_;intro w5 Qx KL QB;have aN:=(Ext.drew w4).trans Qx;have kn:=V9.ext aN;refine⟨Mod.of_ext _ aN,?_⟩;have mv:Sl w5 3 (some ⟨w4.drew.heap.size,0,none⟩) 1 1 (⟨y.v,a.1,b.1⟩:Br).cells:=Sl.own (sz:=3) (n:=1) QB (QC _) (by decide) (by simp[Br.cells]);refine JH Qa rfl rfl rfl rfl rfl (by decide) rfl rfl ⟨_,rfl⟩ rfl rfl kn.own mv (by intro u hu;simp[Br.cells] at hu;rcases hu with rfl | rfl | rfl<;>rfl) (by unfold maxLen;omega) (by show _*24<=_;omega) kn.top ?_;intro OA6 DI w6 Vl yz yA;have o6:Mod (Ql OA4) w4 w6:=(Mod.of_ext (Ql OA4) aN).trans Vl (λi hi=>.inl hi);refine⟨o6,?_⟩;refine XQ (V9.blk.mod o6 du) (by simp) (λw7 Xb Q8=>?_);have hN7:=(V9.num.mod o6 ON).mod Xb (λe=>lxp e.symm);have Q0:b.2.2.length=nn:=V9.len;refine XL Qa (Ext w7) 13 [(true,0),(true,1),(true,2),(true,3),(true,4),(true,5),(true,6),(true,7),(true,8),(true,9),(true,10),(true,11),(true,12)] (by kernel_rfl) (Ext.drew w7) ?_;refine QQ (v:=.slice (some ⟨pg,0,none⟩) nn nn) (λw' Qb=>by rw[(Q8.ext Qb).cell];rfl) ?_;refine Qj (((n-2).toNat:Nat):Int) (by omega) (by omega) ?_;refine QQ (v:=.slice OA6 (b.2.1.length+1) DI) (λw' Qb=>by rw[(Q8.ext Qb).cell];rfl) ?_;refine Qj ((b.2.1.length+2:Nat):Int) (by omega) (by omega) ?_;refine index (by omega) ?_;refine XQ (hN7.ext (Ext.drew w7)) (by rw[gQ2];omega) (λw8 ZF Xx=>?_);rw[<-gQ3] at Xx;have yD:=(Q8.ext (Ext.drew w7)).mod ZF lxp;refine Qp yD rfl ?_;refine Qj ((b.2.1.length+2:Nat):Int) (by omega) (by omega) ?_;have rM:Mod (WS x pg OA4) w4 w8:=(((o6.mono (λi hi=>.inl (.inr (.inr hi)))).trans Xb (λi hi=>.inl (.inl hi))).trans (Mod.of_ext (WS x pg OA4) (Ext.drew w7)) (λi hi=>.inl hi)).trans ZF (λi hi=>.inl (.inr (.inl hi)));have yB:=yz.rows;have el:(b.2.1++ [(⟨y.v,a.1,b.1⟩:Br)]).length=b.2.1.length+1:=by simp
  refine⟨rfl,OA6,DI,⟨?_,?_,?_,hK.lt,?_,V9.keep rM,hK.row,?_⟩,yx.trans rM (WS.moved yy),?_⟩
  ·rw[el];exact yD
  ·exact Xx
  ·rw[el,Cb];refine((yz.mod Xb (λi hi e=>?_)).ext (Ext.drew w7)).mod ZF (λi hi e=>?_)
   ·have:=(yB i hi).1;omega
   ·have:=(yB i hi).1;omega
  ·have:=V9.top;have:=rM.size;omega
  ·rw[gb];exact Q0
  ·exact yy.trans (yA.back aN.size) yx.size
theorem gQ4 (NA:Option Addr)(nn nc:Nat)(nd:List Br)(root:Int)(w:World)(hN:SB w NA nn nc nd)(WQ:aB nd)(fR:nn<=1000000000000)(h0:0<=root)(hr:root<nn+2):
  Fn Tryz.prog 108 [.slice NA nn nc,.int .i64 root] w (xg w (bS nd root)):=by
 have KQ:nd.length=nn:=hN.2;have kH:=SB.lt hN;refine QH (c:={eQN with cuts:=[]}) Qa Tryz.func108 rfl rfl rfl ?_;refine new (λw1 Qd Q9 Qh=>?_);refine BO Qa rfl rfl rfl rfl rfl rfl rfl rfl (by show 8*nn<=_;omega) (by unfold maxLen;omega) (λw2 Qg Zi Qv=>?_);refine new (λw3 Qi JD Qu=>?_);have QY:=(Qd.trans Qg).trans Qi;have hW:Wk w3 w3.heap.size w2.heap.size w1.heap.size NA nn nc nd none 0 ([],List.replicate nd.length 0):=by
  refine⟨Qu,?_,Own.nil _ _ _ _,⟨by omega,by omega,by omega⟩,QC _,hN.ext QY,λad e hn=>?_,by simp[KQ]⟩
  ·have:=Qv.ext Qi;rw[KQ];simpa [lw] using this
  ·have:=kH ad e hn;exact⟨by omega,by omega,by omega⟩
 refine call (SJ w3.heap.size w2.heap.size w1.heap.size NA nn nc nd WQ fR (root.toNat+1) root _ none 0 w3 hW h0 (by omega) hr (by simp;omega)) ?_;rintro v w4 ⟨rfl,OA,oc,hK,KV,rK⟩;refine Qp hK.blk rfl ?_;have co:=((Qh.ext Qg).ext Qi).mod KV (λe=>by
  rcases e with e | e | ⟨_,e,_⟩
  ·omega
  ·omega
  ·cases e)
 refine Qw co rfl (sc rfl) (λw5 Js _ QB=>?_);have Jn:Mod (·=w.heap.size) w4 w5:=qQT Js rfl;refine Qt QB rfl ?_;have Qs:Ext w w4:=KV.ext QY (λi hi=>by
  rcases hi with e | e | ⟨_,e,_⟩
  ·omega
  ·omega
  ·cases e)
 exact⟨OA,_,oc,rfl,Jn.ext Qs (λi hi=>by omega),⟨(hK.own.mod Jn (λi hi e=>by have:=(hK.own.rows i hi).1;omega)).sl,rfl⟩,λi hi=>X4 QY.size (hK.own.rows i hi).1⟩
end
section
def KT (b:Br):List Br->Option Nat
 | []=>none
 | x::l=>if x=b then some 0 else(KT b l).map (·+1)
theorem SK {b:Br}:∀{l:List Br}{s:Nat},(∀j,j<s->l[j]? ≠some b)->l[s]? =some b->KT b l=some s
 | [],s,_,h=>by simp at h
 | x::l,0,_,h=>by simp at h;simp[KT,h]
 | x::l,s+1,hn,h=>by
  have hx:x≠b:=λe=>hn 0 (by omega) (by simp[e])
  have:=SK (l:=l) (s:=s) (λj hj=>by have:=hn (j+1) (by omega);simpa using this) (by simpa using h);simp[KT,hx,this]
theorem SM {b:Br}:∀{l:List Br},(∀j,j<l.length->l[j]? ≠some b)->KT b l=none
 | [],_=>rfl
 | x::l,hn=>by
  have hx:x≠b:=λe=>hn 0 (by simp) (by simp[e])
  have:=SM (l:=l) (λj hj=>by have:=hn (j+1) (by simpa using hj);simpa using this);simp[KT,hx,this]
def Z6 (b:Br)(l:List Br):List Br×Int:=if b.l=b.h then(l,b.l)else match KT b l with
 | some i=>(l,((i+2:Nat):Int))
 | none=>(l++ [b],((l.length+2:Nat):Int))
theorem xj (b:Br)(l:List Br):l.length<=(Z6 b l).1.length:=by
 unfold Z6;split
 ·exact QC _
 ·split
  ·exact QC _
  ·simp
def dR (op x y:Int):Int:=if op=0 then x*y else if op=1 then max x y else if op=3 then 1-x else if op=4 then(1-x)*y else(x+y) % 2
def Qo (d:List Br)(n v:Int):Int×Int:=if Qm d n≠v then(n,n)else match d[(n-2).toNat]? with
 | some b=>(b.l,b.h)
 | none=>(n,n)
abbrev Tr3:=Int×Int×Int
def Xs (a b:List Br)(op:Int):Nat->Int->Int->List Br×List Tr3->Int×(List Br×List Tr3)
 | 0,_,_,st=>(0,st)
 | m+1,x,y,st=>if x<2/\y<2 then(dR op x y,st)else
   match st.2.find? (λt=>decide (t.1=x/\t.2.1=y))with
   | some t=>(t.2.2,st)
   | none=>
    let v:=min (Qm a x) (Qm b y)
    let r0:=Xs a b op m (Qo a x v).1 (Qo b y v).1 st
    let r1:=Xs a b op m (Qo a x v).2 (Qo b y v).2 r0.2
    let u:=Z6 ⟨v,r0.1,r1.1⟩ r1.2.1
    (u.2,(u.1,r1.2.2++ [(x,y,u.2)]))
theorem ly {a b:List Br}{op:Int}{m:Nat}{x y:Int}{st:List Br×List Tr3}(h:x<2/\y<2):Xs a b op (m+1) x y st=(dR op x y,st):=by rw[Xs,Qe h]
theorem lz {a b:List Br}{op:Int}{m:Nat}{x y:Int}{st:List Br×List Tr3}{t:Tr3}(h:¬(x<2/\y<2))(k:st.2.find? (λt=>decide (t.1=x/\t.2.1=y))=some t):Xs a b op (m+1) x y st=(t.2.2,st):=by rw[Xs,if_neg h,k]
theorem lA {a b:List Br}{op:Int}{m:Nat}{x y:Int}{st:List Br×List Tr3}(h:¬(x<2/\y<2))(k:st.2.find? (λt=>decide (t.1=x/\t.2.1=y))=none)(v:Int)(hv:min (Qm a x) (Qm b y)=v):
  Xs a b op (m+1) x y st=((Z6 ⟨v,(Xs a b op m (Qo a x v).1 (Qo b y v).1 st).1,(Xs a b op m (Qo a x v).2 (Qo b y v).2 (Xs a b op m (Qo a x v).1 (Qo b y v).1 st).2).1⟩ (Xs a b op m (Qo a x v).2 (Qo b y v).2 (Xs a b op m (Qo a x v).1 (Qo b y v).1 st).2).2.1).2,
   ((
    Z6 ⟨v,(Xs a b op m (Qo a x v).1 (Qo b y v).1 st).1,(Xs a b op m (Qo a x v).2 (Qo b y v).2 (Xs a b op m (Qo a x v).1 (Qo b y v).1 st).2).1⟩ (Xs a b op m (Qo a x v).2 (Qo b y v).2 (Xs a b op m (Qo a x v).1 (Qo b y v).1 st).2).2.1).1,
    (Xs a b op m (Qo a x v).2 (Qo b y v).2 (Xs a b op m (Qo a x v).1 (Qo b y v).1 st).2).2.2++ [(x,y,(Z6 ⟨v,(Xs a b op m (Qo a x v).1 (Qo b y v).1 st).1,(Xs a b op m (Qo a x v).2 (Qo b y v).2 (Xs a b op m (Qo a x v).1 (Qo b y v).1 st).2).1⟩ (Xs a b op m (Qo a x v).2 (Qo b y v).2 (Xs a b op m (Qo a x v).1 (Qo b y v).1 st).2).2.1).2)])):=by
 subst hv;rw[Xs,if_neg h,k]
theorem nT (a b:List Br)(op:Int):∀(m:Nat)(x y:Int)(st:List Br×List Tr3),st.1.length<=(Xs a b op m x y st).2.1.length/\st.2.length<=(Xs a b op m x y st).2.2.length
 | 0,x,y,st=>⟨QC _,QC _⟩
 | m+1,x,y,st=>by
  by_cases h:x<2/\y<2
  ·rw[ly h];exact⟨QC _,QC _⟩
  cases k:st.2.find? (λt=>decide (t.1=x/\t.2.1=y))with
  | some t=>rw[lz h k];exact⟨QC _,QC _⟩
  | none=>
   rw[lA h k _ rfl];have h1:=nT a b op m (Qo a x (min (Qm a x) (Qm b y))).1 (Qo b y (min (Qm a x) (Qm b y))).1 st;have h2:=nT a b op m (Qo a x (min (Qm a x) (Qm b y))).2 (Qo b y (min (Qm a x) (Qm b y))).2 (Xs a b op m (Qo a x (min (Qm a x) (Qm b y))).1 (Qo b y (min (Qm a x) (Qm b y))).1 st).2;refine⟨X4 (X4 h1.1 h2.1) (xj _ _),?_⟩;simp only[Qq];omega
def VO (nd:List Br):Prop:=aB nd/\∀(j:Nat)(b:Br),nd[j]? =some b->0<=b.v/\b.v<=63
theorem VD.dok {nd:List Br}{r:Int}(h:VD nd r):VO nd:=⟨h.wf,λj b hb=>⟨(h.1 j b hb).1,(h.1 j b hb).2.1⟩⟩
theorem WF {nd:List Br}(h:VO nd){n v:Int}(h0:0<=n)(fx:v<64):0<=(Qo nd n v).1/\(Qo nd n v).1<=n/\0<=(Qo nd n v).2/\(Qo nd n v).2<=n/\(Qm nd n=v->(Qo nd n v).1<n/\(Qo nd n v).2<n):=by
 unfold Qo;split
 ·rename_i hv;exact⟨h0,jH _,h0,jH _,λe=>Xd e hv⟩
 ·rename_i hv;have hv:=Decidable.not_not.1 hv;have vX:¬n<2:=λh2=>by
   unfold Qm at hv;rw[Qe h2] at hv;omega
  cases hx:nd[(n-2).toNat]? with
  | none=>
   unfold Qm at hv;rw[if_neg vX,hx] at hv;simp at hv;omega
  | some b=>
   obtain⟨h1,h2,h3,h4⟩:=h.1 _ _ hx;exact⟨h1,by simp only;omega,h3,by simp only;omega,λ_=>⟨by simp only;omega,by simp only;omega⟩⟩
theorem aC {nd:List Br}(h:VO nd){n:Int}(h2:¬n<2)(hn:n<nd.length+2):Qm nd n<64:=by
 unfold Qm;have hx:=XB (show(n-2).toNat<nd.length by omega);rw[if_neg h2,hx];have:=(h.2 _ _ hx).2;simp only[ww,gc];omega
theorem gQ5 (base:Nat)(A:Option Addr)(n c:Nat)(l:List Br)(b:Br)(w:World)(h:Own w base 105 3 A n c (lv l))(hn:l.length=n)(hb:base<=w.heap.size)(hl:n+1<=1000000000000):
  Fn Tryz.prog 163 [.slice A n c,.agg b.cells.toArray] w (λv w'=>∃A' c',v= .tuple #[.slice A' (Z6 b l).1.length c',.int .i64 (Z6 b l).2]/\Own w' base 105 3 A' (Z6 b l).1.length c' (lv (Z6 b l).1)/\Mod (Ql A) w w'/\Moved w A A'):=by
 have hsb:SB w A n c l:=⟨h.sl,hn⟩
 refine QH (c:={fQq with cuts:=[]}) Qa Tryz.func163 rfl rfl rfl ?_;refine new (λw1 Qd Q9 Qh=>?_);have fm:Mod (Ql A) w w1:=Mod.of_ext _ Qd;refine Qp Qh rfl ?_;refine Qp Qh rfl ?_;refine Zd (λh1=>?_) (λh1=>?_)
 ·have e:Z6 b l=(l,b.l):=by unfold Z6;rw[Qe h1]
  rw[e];refine XL Qa (Ext w1) 5 [(true,0),(true,1),(true,2),(true,3),(true,4)] (by kernel_rfl) (Ext.drew w1) ?_;refine QQ (v:=.int .i64 b.l) (λw' Qb=>by rw[(Qh.ext Qb).cell];rfl) ?_;have dz:=Qd.trans (Ext.drew w1);rw[hn];exact⟨A,c,rfl,h.ext dz,Mod.of_ext _ dz,Moved.refl _ _⟩
 have e0:Z6 b l=match KT b l with
  | some i=>(l,((i+2:Nat):Int))
  | none=>(l++ [b],((l.length+2:Nat):Int)):=by unfold Z6;rw[if_neg h1]
 refine loop Qa [6] (λs:Nat=>[.int .i64 s]) (λs w'=>Ext w1 w'/\s<=n/\∀j,j<s->l[j]? ≠some b) (λs _=>n-s) 0 rfl ⟨Ext.refl _,Xt _,λj hj=>Xd hj (by omega)⟩ ?_;rintro s w2 ⟨Qg,hs,Xq⟩;have QR:=Qd.trans Qg;have Qv:=Qh.ext Qg;refine Qz (λh3=>?_) (λh3=>?_)
 ·refine XL Qa (Ext w2) 6 [(true,0),(true,1),(true,2),(true,3),(true,4),(true,5)] (by kernel_rfl) (Ext.drew w2) ?_;refine Zz WY (hsb.ext QR) rfl (by omega) (λp z hz hc=>?_);refine Xo (vs:=z.cells) rfl (λw' Qb j v hj=>Qb.cell (hc j v hj)) ?_;refine Xo (vs:=b.cells) rfl (λw' Qb j v hj=>by rw[(Qv.ext Qb).cell];exact hj) ?_;have dz:=Qg.trans (Ext.drew w2);by_cases pP:z=b
  ·refine Xc (by rw[qI,X2 (qJ.1 pP)]) ?_;subst pP;rw[SK Xq hz] at e0;simp only at e0;rw[e0];refine Qj ((s+2:Nat):Int) (by omega) (by omega) ?_;rw[hn];exact⟨A,c,rfl,h.ext (Qd.trans dz),Mod.of_ext _ (Qd.trans dz),Moved.refl _ _⟩
  ·refine Q7 (by rw[qI,Zn (λe=>pP (qJ.2 e))]) ?_;refine Qj ((s+1:Nat):Int) (by omega) (by omega) ?_;refine⟨s+1,rfl,⟨dz,by omega,λj hj=>?_⟩,by show n-(s+1)<n-s;omega⟩;by_cases Y5:j<s
   ·exact Xq j Y5
   ·have:j=s:=by omega
    subst this;rw[hz];exactλe=>pP (Option.some.inj e)
 ·have:s=n:=by omega
  subst this;rw[SM (by rw[hn];exact Xq)] at e0;simp only at e0;rw[e0];refine Qt Qv rfl ?_;refine Xw Qa [b.cells] rfl rfl rfl rfl rfl ⟨rfl,rfl,⟨⟩⟩ rfl (λcs h=>by simp only[QL] at h;subst h;rfl) rfl (by decide) (by decide) ?_;intro w3 Qi JD Qu;have QY:=QR.trans Qi;have rN:Sl w3 3 (some ⟨w2.heap.size,0,none⟩) 1 1 b.cells:=Sl.own (sz:=3) (n:=1) Qu (QC _) (by decide) (by simp[Br.cells]);refine JH Qa rfl rfl rfl rfl rfl (by decide) rfl rfl ⟨_,rfl⟩ rfl rfl (h.ext QY) rN (by intro u hu;simp[Br.cells] at hu;rcases hu with rfl | rfl | rfl<;>rfl) (by unfold maxLen;omega) (by show _*24<=_;omega) (X4 hb QY.size) ?_;intro A' c' w4 KV LO rK;refine Qj ((s+2:Nat):Int) (by omega) (by omega) ?_;have el:(l++ [b]).length=s+1:=by rw[Qq,hn]<;>rfl
  rw[el,hn];refine⟨A',c',rfl,?_,(Mod.of_ext (Ql A) QY).trans KV (λi hi=>.inl hi),rK.back QY.size⟩;rw[Cb];exact LO
end
section
theorem gQ6 (pb:Nat)(cs:List Value)(op x y:Int)(w:World)(h:Blk w pb 183 cs)(hc:cs[4]? =some (.int .i64 op))(x0:0<=x)(x1:x<2)(y0:0<=y)(y1:y<2)(ho:op≠3/\op≠4):
  Fn Tryz.prog 160 [.pointer (some ⟨pb,0,none⟩),.int .i64 x,.int .i64 y] w (λv w'=>v= .int .i64 (dR op x y)/\w=w'):=by
 refine QH (c:={fQn with cuts:=[]}) Qa Tryz.func160 rfl rfl rfl ?_;refine Qp h hc ?_;refine Zd (λc0=>?_) (λc0=>?_)
 ·have:0<=x*y/\x*y<=1:=by
   rcases(by omega:x=0∨x=1)with rfl | rfl<;>rcases(by omega:y=0∨y=1)with rfl | rfl<;>decide
  refine Qj (x*y) rfl (by omega) ?_;exact⟨by unfold dR;rw[Qe c0],rfl⟩
 refine Zd (λc1=>?_) (λc1=>?_)
 ·refine norm (m:=max x y) (by rw[Int.max_def];split<;>split<;>omega) ?_;exact⟨by unfold dR;rw[if_neg c0,Qe c1],rfl⟩
 ·refine Qj (x+y) rfl (by omega) ?_;refine normIf (m:=(x+y) % 2) (by decide) (Int.tmod_eq_emod_of_nonneg (by omega)) ?_;exact⟨by unfold dR;rw[if_neg c0,if_neg c1,if_neg ho.1,if_neg ho.2],rfl⟩
theorem SO (A:Option Addr)(n c:Nat)(r m v:Int)(nd:List Br)(w:World)(h:SB w A n c nd)(hm:m<n+2)(fx:v<64):
  Fn Tryz.prog 162 [Xl A n c r,.int .i64 m,.int .i64 v] w (λu w'=>u= .tuple #[.int .i64 (Qo nd m v).1,.int .i64 (Qo nd m v).2]/\Ext w w'):=by
 have Q0:=h.2;have bI:n<=9223372036854775807:=by have:=h.1.le;have:=h.1.cap;simp only[maxLen] at this;omega
 refine QH (c:={fQp with cuts:=[]}) Qa Tryz.func162 rfl rfl rfl ?_;refine new (λw1 Qd Q9 Qh=>?_);refine Qt Qh rfl ?_;refine call (xi A n c r m nd w1 (h.ext Qd) hm) ?_;rintro u w2 ⟨rfl,Qg⟩;have QR:=Qd.trans Qg;have Qv:=Qh.ext Qg;refine YE (λc1=>?_) (λc1=>?_)
 ·exact⟨by unfold Qo;rw[Qe c1],QR⟩
 ·have vX:¬m<2:=λh2=>by
   unfold Qm at c1;rw[Qe h2] at c1;omega
  have hx:=XB (show(m-2).toNat<nd.length by omega);generalize nd[(m-2).toNat]=b at hx;have e:Qo nd m v=(b.l,b.h):=by unfold Qo;rw[if_neg (by omega),hx]
  rw[e];refine XL Qa (Ext w2) 16 [(true,0),(true,1),(true,2),(true,3),(true,4),(true,5),(true,6),(true,7),(true,8),(true,9),(true,10),(true,11),(true,12),(true,13),(true,14),(true,15)] (by kernel_rfl) (Ext.drew w2) ?_;refine QQ (v:=.slice A n c) (λw' Qb=>by rw[(Qv.ext Qb).cell];rfl) ?_;refine Qj (((m-2).toNat:Nat):Int) (by omega) (by omega) ?_;refine Zz WY (h.ext QR) rfl (by omega) (λp z hz hc=>?_);have pP:z=b:=Option.some.inj (hz.symm.trans hx);subst pP;refine QQ (v:=.int .i64 z.l) (λw' Qb=>Qb.cell (hc 1 _ rfl)) ?_;refine QQ (v:=.slice A n c) (λw' Qb=>by rw[(Qv.ext Qb).cell];rfl) ?_;refine Qj (((m-2).toNat:Nat):Int) (by omega) (by omega) ?_;refine Zz WY (h.ext QR) rfl (by omega) (λp' z' ag Z3=>?_);have OO:z'=z:=Option.some.inj (ag.symm.trans hx);subst OO;refine QQ (v:=.int .i64 z'.h) (λw' Qb=>Qb.cell (Z3 2 _ rfl)) ?_;exact⟨rfl,QR.trans (Ext.drew w2)⟩
def Tr3.cells (t:Tr3):List Value:=[.int .i64 t.1,.int .i64 t.2.1,.int .i64 t.2.2]
theorem Hh (t:Tr3):(Tr3.cells t).length=3:=rfl
def xk (l:List Tr3):List Value:=l.flatMap Tr3.cells
theorem gQ7 (l:List Tr3)(x:Tr3):xk (l++ [x])=xk l++Tr3.cells x:=by simp[xk]
def AS (pb:Nat)(NA SA:Option Addr):Nat->Prop:=λk=>k=pb∨Ql NA k∨Ql SA k
theorem AS.moved {w:World}{pb:Nat}{NA NA' SA SA':Option Addr}(h:Moved w NA NA')(h':Moved w SA SA'):∀k,AS pb NA' SA' k->AS pb NA SA k∨w.heap.size<=k:=by
 rintro k (rfl | hk | hk)
 ·exact .inl (.inl rfl)
 ·rcases h.rows k hk with h | h
  ·exact .inl (.inr (.inl h))
  ·exact .inr h
 ·rcases h'.rows k hk with h | h
  ·exact .inl (.inr (.inr h))
  ·exact .inr h
structure AD where
 A:Option Addr
 n:Nat
 c:Nat
 a:List Br
 ra:Int
 B:Option Addr
 m:Nat
 d:Nat
 b:List Br
 rb:Int
 op:Int
structure Ap (w0 w:World) (base pb:Nat) (D:AD) (NA:Option Addr) (nc:Nat) (SA:Option Addr) (sc:Nat) (st:List Br×List Tr3):Prop where
 e0:Ext w0 w
 as_:SB w0 D.A D.n D.c D.a
 bs:SB w0 D.B D.m D.d D.b
 p0:w0.heap.size<=pb
 blk:Blk w pb 183 [.slice D.A D.n D.c,.int .i64 D.ra,.slice D.B D.m D.d,.int .i64 D.rb,.int .i64 D.op,.slice NA st.1.length nc,.slice SA st.2.length sc]
 nown:Own w base 105 3 NA st.1.length nc (lv st.1)
 sown:Own w base 242 3 SA st.2.length sc (xk st.2)
 apart:∀i,Ql NA i->¬Ql SA i
 lt:pb<base
 top:base<=w.heap.size
def ATo (w0 w:World)(base pb:Nat)(D:AD)(NA SA:Option Addr)(st:List Br×List Tr3)(w':World):Prop:=∃NA' nc' SA' sc',Ap w0 w' base pb D NA' nc' SA' sc' st/\Mod (AS pb NA SA) w w'/\Moved w NA NA'/\Moved w SA SA'
theorem Ap.grow {w0 w w':World}{base pb:Nat}{D:AD}{NA:Option Addr}{nc:Nat}{SA:Option Addr}{sc:Nat}{st:List Br×List Tr3}(h:Ap w0 w base pb D NA nc SA sc st)(k:Ext w w'):Ap w0 w' base pb D NA nc SA sc st:=
 ⟨h.e0.trans k,h.as_,h.bs,h.p0,h.blk.ext k,h.nown.ext k,h.sown.ext k,h.apart,h.lt,X4 h.top k.size⟩
theorem Ap.kept {w0 w:World}{base pb:Nat}{D:AD}{NA:Option Addr}{nc:Nat}{SA:Option Addr}{sc:Nat}{st:List Br×List Tr3}(h:Ap w0 w base pb D NA nc SA sc st):∀i,AS pb NA SA i->w0.heap.size<=i:=by
 have:=h.p0;have:=h.lt;rintro i (rfl | hi | hi)
 ·omega
 ·have:=(h.nown.rows i hi).1;omega
 ·have:=(h.sown.rows i hi).1;omega
theorem gQ8 {l:List Tr3}{x y:Int}:∀{s:Nat}{t:Tr3},(∀j u,j<s->l[j]? =some u->¬(u.1=x/\u.2.1=y))->l[s]? =some t->t.1=x/\t.2.1=y->l.find? (λt=>decide (t.1=x/\t.2.1=y))=some t:=by
 induction l with
 | nil=>intro s t _ h;simp at h
 | cons u l ih=>
  intro s t hn h ht;cases s with
  | zero=>simp at h;subst h;rw[dQM (by simp[ht])]
  | succ s=>
   rw[Gf (by have:=hn 0 u (by omega) rfl;simpa using this)];exact ih (s:=s) (λj v hj hv=>hn (j+1) v (by omega) (by simpa using hv)) (by simpa using h) ht
theorem gQ9 {l:List Tr3}{x y:Int}(h:∀j u,j<l.length->l[j]? =some u->¬(u.1=x/\u.2.1=y)):l.find? (λt=>decide (t.1=x/\t.2.1=y))=none:=by
 rw[wx];intro u hu;obtain⟨j,hj,rfl⟩:=Gd.1 hu;simpa using h j _ hj (XB hj)
end
section
theorem SP (w0:World)(base pb:Nat)(D:AD)(ha:VO D.a)(hb:VO D.b)(eI:D.n<=1000000000000/\D.m<=1000000000000)(ho:D.op≠3/\D.op≠4):∀(m:Nat)(x y:Int)(st:List Br×List Tr3)(NA SA:Option Addr)(nc sc:Nat)(w:World),
  Ap w0 w base pb D NA nc SA sc st->0<=x->0<=y->x+y<m->x<D.n+2->y<D.m+2->(Xs D.a D.b D.op m x y st).2.1.length<=100000000000->(Xs D.a D.b D.op m x y st).2.2.length<=100000000000->
  Fn Tryz.prog 107 [.pointer (some ⟨pb,0,none⟩),.int .i64 x,.int .i64 y] w (λv w'=>v= .int .i64 (Xs D.a D.b D.op m x y st).1/\ATo w0 w base pb D NA SA (Xs D.a D.b D.op m x y st).2 w')
 | 0,x,y,st,NA,SA,nc,sc,w,_,x0,y0,hm,_,_,_,_=>by omega
 | m+1,x,y,st,NA,SA,nc,sc,w,h,x0,y0,hm,hx,hy,XJ,Ka=>by
  have ih:=SP w0 base pb D ha hb eI ho m;have qQz:=nT D.a D.b D.op (m+1) x y st;have Vf:D.a.length=D.n:=h.as_.2;have fU:D.b.length=D.m:=h.bs.2;refine QH (c:={eQM with cuts:=[1]}) Qa Tryz.func107 rfl rfl rfl ?_;refine eT [] Qa [] (λ_:Unit=>[]) (λ_ w'=>w=w'/\¬(x<2/\y<2)) ?_ ?_
  ·refine Qz (λc1=>?_) (λc1=>?_)
   ·refine Qz (λc2=>?_) (λc2=>?_)
    ·rw[ly ⟨c1,c2⟩];refine call (gQ6 pb _ D.op x y w h.blk rfl x0 c1 y0 c2 ho) ?_;rintro v _ ⟨rfl,rfl⟩;exact⟨rfl,NA,nc,SA,sc,h,Mod.refl _ _,Moved.refl _ _,Moved.refl _ _⟩
    ·exact⟨(),rfl,rfl,λhh=>c2 hh.2⟩
   ·exact⟨(),rfl,rfl,λhh=>c1 hh.1⟩
  rintro⟨⟩ _ ⟨rfl,Xu⟩;have OP:SlS Tr3.cells 3 w SA st.2.length sc st.2:=⟨h.sown.sl,rfl⟩
  refine loop Qa [7] (λs:Nat=>[.int .i64 s]) (λs w'=>w=w'/\s<=st.2.length/\∀(j:Nat) (u:Tr3),j<s->st.2[j]? =some u->¬(u.1=x/\u.2.1=y)) (λs _=>st.2.length-s) 0 rfl ⟨rfl,Xt _,λj u hj=>Xd hj (by omega)⟩ ?_;rintro s _ ⟨rfl,hs,Xq⟩;refine Qp h.blk rfl ?_;refine Qz (λh3=>?_) (λh3=>?_)
  ·have again:∀t:Tr3,st.2[s]? =some t->¬(t.1=x/\t.2.1=y)->∀(j:Nat) (u:Tr3),j<s+1->st.2[j]? =some u->¬(u.1=x/\u.2.1=y):=λt ht hn j u hj hu=>by
    by_cases Y5:j<s
    ·exact Xq j u Y5 hu
    ·have:j=s:=by omega
     subst this;rw[Option.some.inj (hu.symm.trans ht)];exact hn
   refine Qp h.blk rfl ?_;refine Zz Hh OP rfl (by omega) (λp t ht hc=>?_);refine index (j:=0) (by decide) ?_;refine load (hc 0 _ rfl) ?_;refine Zd (λe1=>?_) (λe1=>?_)
   ·refine Qp h.blk rfl ?_;refine Zz Hh OP rfl (by omega) (λp' t' ht' Z3=>?_);have Ag:t'=t:=Option.some.inj (ht'.symm.trans ht);subst Ag;refine index (j:=1) (by decide) ?_;refine load (Z3 1 _ rfl) ?_;refine Zd (λe2=>?_) (λe2=>?_)
    ·refine Qp h.blk rfl ?_;refine Zz Hh OP rfl (by omega) (λp2 t2 my Yr=>?_);have mQQ:t2=t':=Option.some.inj (my.symm.trans ht);subst mQQ;refine index (j:=2) (by decide) ?_;refine load (Yr 2 _ rfl) ?_;rw[lz Xu (gQ8 Xq ht ⟨e1,e2⟩)];exact⟨rfl,NA,nc,SA,sc,h,Mod.refl _ _,Moved.refl _ _,Moved.refl _ _⟩
    ·refine Qj ((s+1:Nat):Int) (by omega) (by omega) ?_;exact⟨s+1,rfl,⟨rfl,by omega,again t' ht (λhh=>e2 hh.2)⟩,by show st.2.length-(s+1)<st.2.length-s;omega⟩
   ·refine Qj ((s+1:Nat):Int) (by omega) (by omega) ?_;exact⟨s+1,rfl,⟨rfl,by omega,again t ht (λhh=>e1 hh.1)⟩,by show st.2.length-(s+1)<st.2.length-s;omega⟩
  have sV:s=st.2.length:=by omega
  subst sV;have OQ:=gQ9 Xq;have DM:=h.e0;refine XL Qa (Ext w) 13 [(true,0),(true,1),(true,2),(true,3),(true,4),(true,6),(true,7),(true,8),(true,9),(true,10),(false,5),(false,11),(true,12)] (by kernel_rfl) (Ext.drew w) ?_;refine Xo (vs:=[.slice D.A D.n D.c,.int .i64 D.ra]) rfl (λw' Qb j v hj=>by
   rw[add_add,(h.blk.ext Qb).cell]
   match j,hj with
   | 0,hj=>exact hj
   | 1,hj=>exact hj) ?_
  refine Xo (vs:=[.slice D.B D.m D.d,.int .i64 D.rb]) rfl (λw' Qb j v hj=>by
   rw[add_add,(h.blk.ext Qb).cell]
   match j,hj with
   | 0,hj=>exact hj
   | 1,hj=>exact hj) ?_
  refine call (xi D.A D.n D.c D.ra x D.a _ (h.as_.ext (DM.trans (Ext.drew w))) hx) ?_;rintro v w1 ⟨rfl,Qd⟩;have LP:=(Ext.drew w).trans Qd;refine⟨LP,?_⟩;refine call (xi D.B D.m D.d D.rb y D.b w1 (h.bs.ext (DM.trans LP)) hy) ?_;rintro v w2 ⟨rfl,Qg⟩;have QR:=LP.trans Qg;refine⟨QR,?_⟩;refine norm (m:=min (Qm D.a x) (Qm D.b y)) (by rw[Jb];split<;>split<;>omega) ?_;have ZI:min (Qm D.a x) (Qm D.b y)<64:=by
   by_cases c:x<2
   ·have:=aC hb (n:=y) (λc2=>Xu ⟨c,c2⟩) (by omega);rw[Jb];split<;>omega
   ·have:=aC ha (n:=x) c (by omega);rw[Jb];split<;>omega
  have fV:Qm D.a x=min (Qm D.a x) (Qm D.b y)∨Qm D.b y=min (Qm D.a x) (Qm D.b y):=by rw[Jb];split<;>simp
  have vW:=lA (a:=D.a) (b:=D.b) (op:=D.op) (m:=m) Xu OQ _ rfl;rw[vW] at XJ Ka ⊢;generalize min (Qm D.a x) (Qm D.b y)=v at*;obtain⟨s1,s2,s3,s4,s5⟩:=WF ha (n:=x) x0 ZI;obtain⟨t1,t2,t3,t4,t5⟩:=WF hb (n:=y) y0 ZI;have dec:(Qo D.a x v).1+(Qo D.b y v).1<m/\(Qo D.a x v).2+(Qo D.b y v).2<m:=by
   rcases fV with e | e
   ·have:=s5 e;omega
   ·have:=t5 e;omega
  have h2:=h.grow QR;refine JN (vs:=[.slice D.A D.n D.c,.int .i64 D.ra]) rfl (λj v hj=>by
   rw[add_add,h2.blk.cell]
   match j,hj with
   | 0,hj=>exact hj
   | 1,hj=>exact hj) ?_
  refine call (SO D.A D.n D.c D.ra x v D.a w2 (h2.as_.ext h2.e0) hx ZI) ?_;rintro _ w3 ⟨rfl,Qi⟩;have oS:=h2.grow Qi;refine JN (vs:=[.slice D.B D.m D.d,.int .i64 D.rb]) rfl (λj v hj=>by
   rw[add_add,oS.blk.cell]
   match j,hj with
   | 0,hj=>exact hj
   | 1,hj=>exact hj) ?_
  refine call (SO D.B D.m D.d D.rb y v D.b w3 (oS.bs.ext oS.e0) hy ZI) ?_;rintro _ w4 ⟨rfl,Qs⟩;have Xr:=(QR.trans Qi).trans Qs;have h4:=oS.grow Qs;have pQE:=nT D.a D.b D.op m (Qo D.a x v).1 (Qo D.b y v).1 st;have pQF:=nT D.a D.b D.op m (Qo D.a x v).2 (Qo D.b y v).2 (Xs D.a D.b D.op m (Qo D.a x v).1 (Qo D.b y v).1 st).2;simp only[Qq,Q6,Ji] at XJ Ka;have ulen:=xj ⟨v,(Xs D.a D.b D.op m (Qo D.a x v).1 (Qo D.b y v).1 st).1,(Xs D.a D.b D.op m (Qo D.a x v).2 (Qo D.b y v).2 (Xs D.a D.b D.op m (Qo D.a x v).1 (Qo D.b y v).1 st).2).1⟩ (Xs D.a D.b D.op m (Qo D.a x v).2 (Qo D.b y v).2 (Xs D.a D.b D.op m (Qo D.a x v).1 (Qo D.b y v).1 st).2).2.1;refine call (ih _ _ st NA SA nc sc w4 h4 s1 t1 dec.1 (by omega) (by omega) (by omega) (by omega)) ?_;rintro _ w5 ⟨rfl,NA5,nc5,SA5,sc5,h5,Jn,LQ,LT⟩;refine call (ih _ _ _ NA5 SA5 nc5 sc5 w5 h5 s3 t3 dec.2 (by omega) (by omega) (by omega) (by omega)) ?_;rintro _ w6 ⟨rfl,NA6,nc6,SA6,sc6,h6,Vl,yA,LF⟩;have o6:=Jn.trans Vl (AS.moved LQ LT);have bQ0:=LQ.trans yA Jn.size;have bQ1:=LT.trans LF Jn.size;generalize (Xs D.a D.b D.op m (Qo D.a x v).1 (Qo D.b y v).1 st)=r0 at*;generalize (Xs D.a D.b D.op m (Qo D.a x v).2 (Qo D.b y v).2 r0.2)=r1 at*;have mQR:=h6.nown.rows;have mQS:=h6.sown.rows;have pQG:=h6.lt;have pQH:=h6.top;refine Qp h6.blk rfl ?_;refine call (gQ5 base NA6 _ nc6 r1.2.1 ⟨v,r0.1,r1.1⟩ w6 h6.nown rfl h6.top (by omega)) ?_;rintro _ w7 ⟨NA7,nc7,rfl,o7,Xb,hV7⟩;have Q8:=h6.blk.mod Xb (λe=>by have:=(mQR _ e).1;omega);have YP:=h6.sown.mod Xb (λi hi e=>h6.apart i e hi);generalize Z6 ⟨v,r0.1,r1.1⟩ r1.2.1=u at*;refine XQ Q8 (by simp) (λw8 ZF Xx=>?_);have mQT:=o7.mod ZF (λi hi e=>by have:=(o7.rows i hi).1;omega);have gK:=YP.mod ZF (λi hi e=>by have:=(YP.rows i hi).1;omega);refine Qp Xx rfl ?_;refine Xw Qa [Tr3.cells (x,y,u.2)] rfl rfl rfl rfl rfl ⟨rfl,rfl,⟨⟩⟩ rfl (λcs h=>by simp only[QL] at h;subst h;rfl) rfl (by decide) (by decide) ?_;intro w9 XE fy JO;have LD:Sl w9 3 (some ⟨w8.heap.size,0,none⟩) 1 1 (Tr3.cells (x,y,u.2)):=Sl.own (sz:=3) (n:=1) JO (QC _) (by decide) (by simp[Tr3.cells]);have z7:=Xb.size;have z8:=ZF.size;have z9:=XE.size;refine JH Qa rfl rfl rfl rfl rfl (by decide) rfl rfl ⟨_,rfl⟩ rfl rfl (gK.ext XE) LD (by intro u hu;simp[Tr3.cells] at hu;rcases hu with rfl | rfl | rfl<;>rfl) (by unfold maxLen;omega) (by show _*24<=_;omega) (by omega) ?_;intro SA10 LU QK ZA bQ2 bQ3;have mQU:=gK.rows;refine XQ ((Xx.ext XE).mod ZA (λe=>by have:=(mQU _ e).1;omega)) (by simp) (λQJ Z8 Z1=>?_);have bQ4:∀i,Ql NA7 i->¬Ql SA6 i:=λi hi e=>by
   rcases hV7.rows i hi with hh | hh
   ·exact h6.apart i hh e
   ·have:=(mQS i e).2;omega
  have mQV:∀i,Ql NA7 i->¬Ql SA10 i:=λi hi e=>by
   rcases bQ3.rows i e with hh | hh
   ·exact bQ4 i hi hh
   ·have:=(o7.rows i hi).2;omega
  have mQW:=((mQT.ext XE).mod ZA (λi hi e=>bQ4 i hi e)).mod Z8 (λi hi e=>by have:=(o7.rows i hi).1;omega);have mz:=bQ2.mod Z8 (λi hi e=>by have:=(bQ2.rows i hi).1;omega);have bQ5:Mod (AS pb NA6 SA6) w6 QJ:=((((Xb.mono (λi hi=>.inl (.inr (.inl hi)))).trans ZF (λi hi=>.inl (.inl hi))).trans (Mod.of_ext (AS pb NA6 SA6) XE) (λi hi=>.inl hi)).trans ZA (λi hi=>.inl (.inr (.inr hi)))).trans Z8 (λi hi=>.inl (.inl hi));have oQU:=o6.trans bQ5 (AS.moved bQ0 bQ1);have el:(r1.2.2++ [((x,y,u.2):Tr3)]).length=r1.2.2.length+1:=by simp
  refine⟨rfl,NA7,nc7,SA10,LU,⟨bQ5.ext h6.e0 h6.kept,h.as_,h.bs,h.p0,?_,mQW,?_,mQV,h.lt,?_⟩,(Mod.of_ext (AS pb NA SA) Xr).trans oQU (λi hi=>.inl hi),?_,?_⟩
  ·show Blk QJ pb _ [_,_,_,_,_,_,.slice SA10 (r1.2.2++ [((x,y,u.2):Tr3)]).length LU];rw[el];exact Z1
  ·show Own QJ base _ 3 SA10 (r1.2.2++ [((x,y,u.2):Tr3)]).length LU (xk (r1.2.2++ [((x,y,u.2):Tr3)]));rw[el,gQ7];exact mz
  ·have:=ZA.size;have:=Z8.size;omega
  ·exact(bQ0.back Xr.size).trans hV7 (by have:=Xr.size;have:=o6.size;omega)
  ·exact(bQ1.back Xr.size).trans (bQ3.back (by omega)) (by have:=Xr.size;have:=o6.size;omega)
end
section
def SQ (st:List Br×List Tr3):Prop:=aB st.1/\∀t∈st.2,0<=t.2.2/\t.2.2<st.1.length+2
theorem hQa {b:Br}{l:List Br}(hw:aB l)(h1:0<=b.l)(h2:b.l<l.length+2)(h3:0<=b.h)(h4:b.h<l.length+2):aB (Z6 b l).1/\0<=(Z6 b l).2/\(Z6 b l).2<(Z6 b l).1.length+2:=by
 have idx:∀{l:List Br} {i:Nat},KT b l=some i->i<l.length:=by
  intro l;induction l with
  | nil=>intro i h;cases h
  | cons x l ih=>
   intro i h;unfold KT at h;split at h
   ·cases h;simp
   ·cases hf:KT b l with
    | none=>rw[hf] at h;cases h
    | some k=>rw[hf] at h;cases h;have:=ih hf;simp;omega
 unfold Z6;split
 ·exact⟨hw,h1,h2⟩
 ·split
  ·rename_i i hi;have:=idx hi;exact⟨hw,by omega,by simp only;omega⟩
  ·refine⟨λj x hx=>?_,by omega,by simp only[Qq,Q6,Ji];omega⟩;by_cases hj:j<l.length
   ·rw[eK hj] at hx;exact hw j x hx
   ·rw[WV (by omega)] at hx;have oT:j-l.length=0:=by
     cases hk:j-l.length with
     | zero=>rfl
     | succ k=>rw[hk] at hx;simp at hx
    rw[oT] at hx;simp at hx;subst hx;omega
theorem Hi {op x y:Int}(x0:0<=x)(x1:x<2)(y0:0<=y)(y1:y<2):0<=dR op x y/\dR op x y<2:=by
 unfold dR;rcases(by omega:x=0∨x=1)with rfl | rfl<;>rcases(by omega:y=0∨y=1)with rfl | rfl<;>(split<;>first | decide | (split<;>first | decide | (split<;>first | decide | (split<;>decide))))
theorem xm {a b:List Br}(ha:VO a)(hb:VO b)(op:Int):∀(m:Nat)(x y:Int)(st:List Br×List Tr3),SQ st->0<=x->0<=y->x<a.length+2->y<b.length+2->
  SQ (Xs a b op m x y st).2/\0<=(Xs a b op m x y st).1/\(Xs a b op m x y st).1<(Xs a b op m x y st).2.1.length+2
 | 0,x,y,st,h,_,_,_,_=>⟨h,jH _,by show(0:Int)<st.1.length+2;omega⟩
 | m+1,x,y,st,h,x0,y0,hx,hy=>by
  by_cases Xu:x<2/\y<2
  ·rw[ly Xu];have:=Hi (op:=op) x0 Xu.1 y0 Xu.2;exact⟨h,this.1,by simp only;omega⟩
  cases k:st.2.find? (λt=>decide (t.1=x/\t.2.1=y))with
  | some t=>
   rw[lz Xu k];have:=h.2 t (dQN k);exact⟨h,this.1,this.2⟩
  | none=>
   have ZI:min (Qm a x) (Qm b y)<64:=by
    by_cases c:x<2
    ·have:=aC hb (n:=y) (λc2=>Xu ⟨c,c2⟩) (by omega);rw[Jb];split<;>omega
    ·have:=aC ha (n:=x) c (by omega);rw[Jb];split<;>omega
   rw[lA Xu k _ rfl];generalize min (Qm a x) (Qm b y)=v at*;obtain⟨s1,s2,s3,s4,s5⟩:=WF ha (n:=x) x0 ZI;obtain⟨t1,t2,t3,t4,t5⟩:=WF hb (n:=y) y0 ZI;have i1:=xm ha hb op m (Qo a x v).1 (Qo b y v).1 st h s1 t1 (by omega) (by omega);have m2:=nT a b op m (Qo a x v).2 (Qo b y v).2 (Xs a b op m (Qo a x v).1 (Qo b y v).1 st).2;generalize (Xs a b op m (Qo a x v).1 (Qo b y v).1 st)=r0 at*;have i2:=xm ha hb op m (Qo a x v).2 (Qo b y v).2 r0.2 i1.1 s3 t3 (by omega) (by omega);generalize (Xs a b op m (Qo a x v).2 (Qo b y v).2 r0.2)=r1 at*;have hu:=hQa (b:=⟨v,r0.1,r1.1⟩) (l:=r1.2.1) i2.1.1 i1.2.1 (by have:=i1.2.2;simp only;omega) i2.2.1 i2.2.2;have hul:=xj ⟨v,r0.1,r1.1⟩ r1.2.1;generalize Z6 ⟨v,r0.1,r1.1⟩ r1.2.1=u at*;refine⟨⟨hu.1,λt ht=>?_⟩,hu.2.1,hu.2.2⟩;simp only[Xv,QL] at ht;rcases ht with ht | rfl
   ·have:=i2.1.2 t ht;exact⟨this.1,by simp only;omega⟩
   ·exact⟨hu.2.1,hu.2.2⟩
def lB (a:List Br)(ra:Int)(b:List Br)(rb op:Int):Int×(List Br×List Tr3):=Xs a b op (ra.toNat+rb.toNat+1) ra rb ([],[])
def V4 (a:List Br)(ra:Int)(b:List Br)(rb op:Int):List Br×Int:=bS (lB a ra b rb op).2.1 (lB a ra b rb op).1
def jU (d:List Br×Int):(List Br×Int)×Int:=if 4096<d.1.length then(([],0),2)else(d,0)
def eW (a:List Br)(ra:Int)(b:List Br)(rb op:Int):(List Br×Int)×Int:=if XH a ra≠0 then(([],0),XH a ra)else if XH b rb≠0 then(([],0),XH b rb)else jU (V4 a ra b rb op)
def qK (w:World)(r:(List Br×Int)×Int)(v:Value)(w':World):Prop:=∃A n c,v= .tuple #[Xl A n c r.1.2,.int .i64 r.2]/\Ext w w'/\SB w' A n c r.1.1/\∀i,Ql A i->w.heap.size<=i
theorem hQb (A:Option Addr)(n c:Nat)(a:List Br)(ra:Int)(B:Option Addr)(m d:Nat)(b:List Br)(rb op:Int)(w:World)(h:SB w A n c a)(h':SB w B m d b)(ha:VO a)(hb:VO b)(r0:0<=ra)(r1:ra<n+2)(s0:0<=rb)(s1:rb<m+2)(hn:n<=1000000000000)(hm:m<=1000000000000)
  (XJ:(lB a ra b rb op).2.1.length<=100000000000) (Ka:(lB a ra b rb op).2.2.length<=100000000000) (ho:op≠3/\op≠4):
  Fn Tryz.prog 58 [Xl A n c ra,Xl B m d rb,.int .i64 op] w (xg w (V4 a ra b rb op)):=by
 have Vf:=h.2;have fU:=h'.2;refine QH (c:={c58 with cuts:=[]}) Qa Tryz.func58 rfl rfl rfl ?_;refine new (λw1 Qd Q9 Qh=>?_);refine new (λw2 Qg Zi Qv=>?_);refine new (λw3 Qi JD Qu=>?_);have QY:=(Qd.trans Qg).trans Qi;have Vm:=(Qh.ext Qg).ext Qi;have ko:=Qv.ext Qi;refine Qt Vm rfl ?_;refine Qt ko rfl ?_;refine new (λw4 Qs KW QX=>?_);have Xr:=QY.trans Qs
 let D:AD:=⟨A,n,c,a,ra,B,m,d,b,rb,op⟩
 have hA:Ap w3 w4 w4.heap.size w3.heap.size D none 0 none 0 ([],[]):=⟨Qs,h.ext QY,h'.ext QY,QC _,QX,Own.nil _ _ _ _,Own.nil _ _ _ _,(λi hi=>by obtain⟨_,e,_⟩:=hi;cases e),(by omega),QC _⟩
 refine Qp (Vm.ext Qs) rfl ?_;refine Qp (ko.ext Qs) rfl ?_;have inv:=xm ha hb op (ra.toNat+rb.toNat+1) ra rb ([],[]) ⟨λj x hx=>by simp at hx,λt ht=>by simp at ht⟩ r0 s0 (by omega) (by omega);refine call (SP w3 w4.heap.size w3.heap.size D ha hb ⟨hn,hm⟩ ho (ra.toNat+rb.toNat+1) ra rb ([],[]) none none 0 0 w4 hA r0 s0 (by omega) r1 s1 XJ Ka) ?_;rintro v w5 ⟨rfl,NA,nc,SA,sc1,LV,Jn,LQ,LT⟩;have Qx:Ext w3 w5:=LV.e0;have Z9:=QY.trans Qx;refine Qp LV.blk rfl ?_;refine call (gQ4 NA _ nc _ _ w5 ⟨LV.nown.sl,rfl⟩ inv.1.1 (by have:(lB a ra b rb op).2.1.length<=100000000000:=XJ;exact X4 this (by decide)) inv.2.1 inv.2.2) ?_;rintro v w6 ⟨OA,k,oc,rfl,QN,mA,iT⟩;refine Qw ((Qu.ext Qx).ext QN) rfl (sc rfl) (λw7 Zs _ Q8=>?_);have Xb:Mod (·=w2.heap.size) w6 w7:=qQT Zs rfl;refine Qt Q8 rfl ?_;have z5:=Qx.size;have nr:∀i,Ql OA i->¬i=w2.heap.size:=λi hi e=>by have:=iT i hi;omega
 refine⟨OA,k,oc,rfl,Xb.ext (Z9.trans QN) (λi hi=>by have:=Qd.size;have:=Qg.size;omega),⟨mA.1.modS Xb (λ_ i hi=>nr i hi),mA.2⟩,λi hi=>by have:=iT i hi;have:=Z9.size;omega⟩
theorem hQc (k:Int)(w:World)(h0:0<=k)(h1:k<=63):Fn Tryz.prog 30 [.int .i64 k] w (qK w (([⟨k,0,1⟩],2),0)):=by
 refine QH (c:={c30 with cuts:=[]}) Qa Tryz.func30 rfl rfl rfl ?_;refine new (λw1 Qd Q9 Qh=>?_);refine XF (by omega) ?_;refine XF (by omega) ?_;refine Xw Qa [(⟨k,0,1⟩:Br).cells] rfl rfl rfl rfl rfl ⟨rfl,rfl,⟨⟩⟩ rfl (λcs h=>by simp only[QL] at h;subst h;rfl) rfl (by decide) (by decide) ?_;intro w2 Qg Zi Qv;refine Qw (Qh.ext Qg) rfl (sc rfl) (λw3 Je _ Qu=>?_);have Z7:Mod (·=w.heap.size) w2 w3:=qQT Je rfl;refine Qt Qu rfl ?_;refine⟨some ⟨w1.heap.size,0,none⟩,1,1,rfl,Z7.ext (Qd.trans Qg) (λi hi=>by omega),⟨Sl.own (sz:=3) (n:=1) (Qv.mod Z7 (by omega)) (QC _) (by decide) (by simp[Br.cells]),rfl⟩,λi ⟨ad,e,hi⟩=>by cases e;simp only at hi;omega⟩
end
section
structure DV where
 A:Option Addr
 n:Nat
 c:Nat
 nd:List Br
 r:Int
def DV.cells (x:DV):List Value:=[.slice x.A x.n x.c,.int .i64 x.r]
theorem dS (x:DV):x.cells.length=2:=rfl
def cL:List DV->Int
 | []=>0
 | x::l=>if XH x.nd x.r≠0 then XH x.nd x.r else cL l
theorem hQd {l:List DV}:∀{s:Nat}{x:DV},(∀j y,j<s->l[j]? =some y->XH y.nd y.r=0)->l[s]? =some x->XH x.nd x.r≠0->cL l=XH x.nd x.r:=by
 induction l with
 | nil=>intro s x _ h;simp at h
 | cons y l ih=>
  intro s x hn h hx;cases s with
  | zero=>simp at h;subst h;rw[cL,Qe hx]
  | succ s=>
   rw[cL,if_neg (λhh=>hh (hn 0 y (by omega) rfl))];exact ih (s:=s) (λj z hj hz=>hn (j+1) z (by omega) (by simpa using hz)) (by simpa using h) hx
theorem hQe {l:List DV}(h:∀j y,j<l.length->l[j]? =some y->XH y.nd y.r=0):cL l=0:=by
 induction l with
 | nil=>rfl
 | cons y l ih=>
  rw[cL,if_neg (λhh=>hh (h 0 y (by simp) rfl))];exact ih (λj z hj hz=>h (j+1) z (by simpa using hj) (by simpa using hz))
end
end
section
section
def dU (nd:List Br):Nat->Int->(Nat->Bool)->Bool
 | 0,n,_=>decide (n=1)
 | m+1,n,e=>if n<2 then decide (n=1)else match nd[(n-2).toNat]? with
  | none=>false
  | some b=>if e b.v.toNat then dU nd m b.h e else dU nd m b.l e
def ev (nd:List Br)(n:Int)(e:Nat->Bool):Bool:=dU nd n.toNat n e
theorem lD {nd:List Br}{m:Nat}{n:Int}{e:Nat->Bool}(h:n<2):dU nd m n e=decide (n=1):=by
 cases m with
 | zero=>rfl
 | succ m=>rw[dU,Qe h]
theorem Cd {nd:List Br}(hw:aB nd):∀(m m':Nat)(n:Int)(e:Nat->Bool),n<=m->n<=m'->dU nd m n e=dU nd m' n e
 | 0,m',n,e,h,_=>by rw[lD (by omega),lD (by omega)]
 | m+1,0,n,e,_,h=>by rw[lD (by omega),lD (by omega)]
 | m+1,m'+1,n,e,h,h'=>by
  by_cases hn:n<2
  ·rw[lD hn,lD hn]
  ·rw[dU,dU,if_neg hn,if_neg hn];cases hb:nd[(n-2).toNat]? with
   | none=>rfl
   | some b=>
    obtain⟨h1,h2,h3,h4⟩:=hw _ _ hb;simp only;rw[Cd hw m m' b.h e (by omega) (by omega),Cd hw m m' b.l e (by omega) (by omega)]
theorem JT {nd:List Br}{n:Int}{e:Nat->Bool}(h:n<2):ev nd n e=decide (n=1):=lD h
theorem cM {nd:List Br}(hw:aB nd){n:Int}{e:Nat->Bool}{b:Br}(h:¬n<2)(hb:nd[(n-2).toNat]? =some b):ev nd n e=if e b.v.toNat then ev nd b.h e else ev nd b.l e:=by
 obtain⟨h1,h2,h3,h4⟩:=hw _ _ hb;unfold ev;obtain⟨k,hk⟩:∃k,n.toNat=k+1:=⟨n.toNat-1,by omega⟩
 rw[hk,dU,if_neg h,hb];simp only;rw[Cd hw k b.h.toNat b.h e (by omega) (by omega),Cd hw k b.l.toNat b.l e (by omega) (by omega)]
def Rd0 (nd:List Br):Prop:=∀(j:Nat)(b:Br),nd[j]? =some b->iA nd j b
theorem Rd0.wf {nd:List Br}(h:Rd0 nd):aB nd:=λj x hx=>by
 obtain⟨_,_,h1,h2,h3,h4,_⟩:=h j x hx;exact⟨h1,h2,h3,h4⟩
theorem VD.rd0 {nd:List Br}{r:Int}(h:VD nd r):Rd0 nd:=h.1
theorem dV {nd:List Br}{n:Int}{b:Br}(h:¬n<2)(hb:nd[(n-2).toNat]? =some b):Qm nd n=b.v:=by unfold Qm;rw[if_neg h,hb]<;>rfl
def YG (e:Nat->Bool)(v:Nat)(x:Bool):Nat->Bool:=λk=>if k=v then x else e k
theorem WG {nd:List Br}{n:Int}(h:¬n<2)(hn:n<nd.length+2):∃b,nd[(n-2).toNat]? =some b:=⟨_,XB (by omega)⟩
theorem dW {nd:List Br}(h:Rd0 nd)(v:Nat)(x:Bool)(e:Nat->Bool):∀(m:Nat)(n:Int),n.toNat<m->n<nd.length+2->(v:Int)<Qm nd n->ev nd n (YG e v x)=ev nd n e
 | 0,n,hm,_,_=>by omega
 | m+1,n,hm,hn,hv=>by
  by_cases h2:n<2
  ·rw[JT h2,JT h2]
  obtain⟨b,hb⟩:=WG h2 hn;obtain⟨b1,b2,b3,b4,b5,b6,b7,b8,b9,bA⟩:=h _ _ hb;rw[dV h2 hb] at hv;rw[cM h.wf h2 hb,cM h.wf h2 hb,dW h v x e m b.h (by omega) (by omega) (by omega),dW h v x e m b.l (by omega) (by omega) (by omega)];have:YG e v x b.v.toNat=e b.v.toNat:=by unfold YG;rw[if_neg (by omega)]
  rw[this]
def Eqv (nd:List Br)(n:Int)(X3:List Br)(n':Int):Prop:=∀e,ev nd n e=ev X3 n' e
theorem Eqv.symm {nd X3:List Br}{n n':Int}(h:Eqv nd n X3 n'):Eqv X3 n' nd n:=λe=>(h e).symm
theorem Eqv.trans {nd X3 kr:List Br}{n n' n2:Int}(h:Eqv nd n X3 n')(k:Eqv X3 n' kr n2):Eqv nd n kr n2:=λe=>(h e).trans (k e)
def Ce (nd:List Br)(m:Nat):Prop:=∀(n n':Int),0<=n->0<=n'->n<m->n'<m->n<nd.length+2->n'<nd.length+2->Eqv nd n nd n'->n=n'
theorem xo {nd:List Br}(h:Rd0 nd){n:Int}{b:Br}(h2:¬n<2)(hb:nd[(n-2).toNat]? =some b)(hn:n<nd.length+2)(e:Nat->Bool):ev nd n (YG e b.v.toNat true)=ev nd b.h e/\ev nd n (YG e b.v.toNat false)=ev nd b.l e:=by
 obtain⟨b1,b2,b3,b4,b5,b6,b7,b8,b9,bA⟩:=h _ _ hb;have e1:YG e b.v.toNat true b.v.toNat=true:=by unfold YG;rw[Qe rfl]
 have e2:YG e b.v.toNat false b.v.toNat=false:=by unfold YG;rw[Qe rfl]
 rw[cM h.wf h2 hb,cM h.wf h2 hb,e1,e2,Qe rfl,if_neg (by decide)];exact⟨dW h _ _ _ (b.h.toNat+1) _ (by omega) (by omega) (by omega),dW h _ _ _ (b.l.toNat+1) _ (by omega) (by omega) (by omega)⟩
theorem dep {nd:List Br}(h:Rd0 nd){n:Int}{m:Nat}{b:Br}(hi:Ce nd m)(h2:¬n<2)(hb:nd[(n-2).toNat]? =some b)(hn:n<nd.length+2)(hm:n<=m):∃e,ev nd n (YG e b.v.toNat true)≠ev nd n (YG e b.v.toNat false):=by
 obtain⟨b1,b2,b3,b4,b5,b6,b7,b8,b9,bA⟩:=h _ _ hb;refine Classical.byContradiction (λQO=>b7 ?_);refine hi b.l b.h b3 b5 (by omega) (by omega) (by omega) (by omega) (λe=>?_);have:=xo h h2 hb hn e;rw[<-this.1,<-this.2];refine Classical.byContradiction (λhh=>QO ⟨e,λh3=>hh h3.symm⟩)
theorem ug {nd X3:List Br}(h:Rd0 nd){n n':Int}{m:Nat}(hi:Ce nd m)(hm:n<=m)(hn:n<nd.length+2)(h2:n'<2)(k:Eqv nd n X3 n'):n<2:=by
 refine Classical.byContradiction (λhh=>?_);obtain⟨b,hb⟩:=WG hh hn;obtain⟨e,he⟩:=dep h hi hh hb hn hm;apply he;rw[k,k,JT h2,JT h2]
theorem ui {nd X3:List Br}(h:Rd0 nd)(h':Rd0 X3){n n':Int}{m:Nat}{b b':Br}(hi:Ce nd m)(hm:n<=m)(hn:n<nd.length+2)(KE:n'<X3.length+2)(h2:¬n<2)(JC:¬n'<2)(hb:nd[(n-2).toNat]? =some b)(hb':X3[(n'-2).toNat]? =some b')(k:Eqv nd n X3 n'):b'.v<=b.v:=by
 refine Classical.byContradiction (λhh=>?_);obtain⟨e,he⟩:=dep h hi h2 hb hn hm;apply he;obtain⟨b1,_⟩:=h _ _ hb;rw[k,k,dW h' _ _ _ (n'.toNat+1) _ (by omega) KE (by rw[dV JC hb'];omega),dW h' _ _ _ (n'.toNat+1) _ (by omega) KE (by rw[dV JC hb'];omega)]
theorem SR {nd X3:List Br}(h:Rd0 nd)(h':Rd0 X3){n n':Int}{b b':Br}(hn:n<nd.length+2)(KE:n'<X3.length+2)(h2:¬n<2)(JC:¬n'<2)(hb:nd[(n-2).toNat]? =some b)(hb':X3[(n'-2).toNat]? =some b')(k:Eqv nd n X3 n')(hv:b.v=b'.v):Eqv nd b.l X3 b'.l/\Eqv nd b.h X3 b'.h:=by
 refine⟨λe=>?_,λe=>?_⟩
 ·rw[<-(xo h h2 hb hn e).2,<-(xo h' JC hb' KE e).2,k,hv]
 ·rw[<-(xo h h2 hb hn e).1,<-(xo h' JC hb' KE e).1,k,hv]
theorem uj {nd:List Br}(h:Rd0 nd):∀m,Ce nd m
 | 0=>λn n' h0 _ hm _ _ _ _=>by omega
 | m+1=>λn n' h0 vo hm Fw hn KE k=>by
  have ih:=uj h m;by_cases h2:n<2
  ·have JC:n'<2:=ug h ih (by omega) KE h2 k.symm;have:=k (λ_=>true);rw[JT h2,JT JC,wC] at this;omega
  by_cases JC:n'<2
  ·exact Xd (ug h ih (by omega) hn JC k) h2
  obtain⟨b,hb⟩:=WG h2 hn;obtain⟨b',hb'⟩:=WG JC KE;have hv:b.v=b'.v:=Int.le_antisymm (ui h h ih (by omega) KE hn JC h2 hb' hb k.symm) (ui h h ih (by omega) hn KE h2 JC hb hb' k);obtain⟨k1,k2⟩:=SR h h hn KE h2 JC hb hb' k hv;obtain⟨b1,b2,b3,b4,b5,b6,b7,b8,b9,bA⟩:=h _ _ hb;obtain⟨c1,c2,c3,c4,c5,c6,c7,c8,c9,tT⟩:=h _ _ hb';have el:=ih b.l b'.l b3 c3 (by omega) (by omega) (by omega) (by omega) k1;have eh:=ih b.h b'.h b5 c5 (by omega) (by omega) (by omega) (by omega) k2;have ebb:b=b':=by cases b;cases b';simp_all
  subst ebb;rcases Int.lt_trichotomy n n' with Xe | heq | hgt
  ·exact Xd (Xk (i:=(n-2).toNat) (by rw[qe (by omega)];exact hb)) c8
  ·exact heq
  ·exact Xd (Xk (i:=(n'-2).toNat) (by rw[qe (by omega)];exact hb')) b8
theorem inj {nd:List Br}(h:Rd0 nd){n n':Int}(h0:0<=n)(vo:0<=n')(hn:n<nd.length+2)(KE:n'<nd.length+2)(k:Eqv nd n nd n'):n=n':=
 uj h (nd.length+2) n n' h0 vo (by omega) (by omega) hn KE k
structure Twin (nd X3:List Br) (st an:List Br×List Nat):Prop where
 out:st.1=an.1
 len:st.2.length=nd.length
 len':an.2.length=X3.length
 num:∀(n n':Int),¬n<2->¬n'<2->n<nd.length+2->n'<X3.length+2->Eqv nd n X3 n'->st.2[(n-2).toNat]? =an.2[(n'-2).toNat]?
theorem Hj {nd X3:List Br}(h:Rd0 nd)(h':Rd0 X3):∀(m m':Nat)(n n':Int)(st an:List Br×List Nat),0<=n->0<=n'->n<m->n'<m'->n<nd.length+2->n'<X3.length+2->Eqv nd n X3 n'->Twin nd X3 st an->
  (Zf nd m n st).1=(Zf X3 m' n' an).1/\Twin nd X3 (Zf nd m n st).2 (Zf X3 m' n' an).2
 | 0,m',n,n',st,an,h0,_,hm,_,_,_,_,_=>by omega
 | m+1,0,n,n',st,an,_,h0,_,hm,_,_,_,_=>by omega
 | m+1,m'+1,n,n',st,an,h0,vo,hm,Fw,hn,KE,k,T=>by
  have I:=uj h (nd.length+2);have I':=uj h' (X3.length+2);by_cases h2:n<2
  ·have JC:n'<2:=ug h' I' (by omega) KE h2 k.symm;rw[lq h2,lq JC];have:=k (λ_=>true);rw[JT h2,JT JC,wC] at this;exact⟨by simp only;omega,T⟩
  have JC:¬n'<2:=λhh=>h2 (ug h I (by omega) hn hh k)
  obtain⟨b,hb⟩:=WG h2 hn;obtain⟨b',hb'⟩:=WG JC KE;have OR:=T.num n n' h2 JC hn KE k;by_cases h3:0<st.2[(n-2).toNat]?.getD 0
  ·rw[lr h2 h3,lr JC (by rw[<-OR];exact h3)];exact⟨by simp only;rw[OR],T⟩
  have oS:¬0<an.2[(n'-2).toNat]?.getD 0:=by rw[<-OR];exact h3
  have hv:b.v=b'.v:=Int.le_antisymm (ui h' h I' (by omega) KE hn JC h2 hb' hb k.symm) (ui h h' I (by omega) hn KE h2 JC hb hb' k);obtain⟨k1,k2⟩:=SR h h' hn KE h2 JC hb hb' k hv;obtain⟨b1,b2,b3,b4,b5,b6,b7,b8,b9,bA⟩:=h _ _ hb;obtain⟨c1,c2,c3,c4,c5,c6,c7,c8,c9,tT⟩:=h' _ _ hb';rw[nR h2 h3 hb,nR JC oS hb'];obtain⟨e1,T1⟩:=Hj h h' m m' b.l b'.l st an b3 c3 (by omega) (by omega) (by omega) (by omega) k1 T;generalize (Zf nd m b.l st)=p at*;generalize (Zf X3 m' b'.l an)=p' at*;obtain⟨e2,T2⟩:=Hj h h' m m' b.h b'.h p.2 p'.2 b5 c5 (by omega) (by omega) (by omega) (by omega) k2 T1;generalize (Zf nd m b.h p.2)=q at*;generalize (Zf X3 m' b'.h p'.2)=q' at*;have sW:=T2.out;refine⟨by simp only;rw[sW],by simp only;rw[sW,hv,e1,e2],by rw[gb];exact T2.len,by rw[gb];exact T2.len',λi i' j2 j2' hi ju kk=>?_⟩;have l1:=T2.len;have l2:=T2.len';by_cases Q5:i=n
  ·subst Q5;have:i'=n':=inj h' (by omega) vo ju KE (kk.symm.trans k);subst this;simp only;rw[jG (by omega),jG (by omega),sW]
  ·have qQA:i'≠n':=λe=>by
    subst e;exact Q5 (inj h (by omega) h0 hi hn (kk.trans k.symm))
   simp only;rw[gf (by omega),gf (by omega)];exact T2.num i i' j2 j2' hi ju kk
theorem hQf (nd X3:List Br):Twin nd X3 ([],List.replicate nd.length 0) ([],List.replicate X3.length 0):=
 ⟨rfl,by simp,by simp,λn n' h2 JC hn KE _=>by simp only;rw[List.getElem?_replicate_of_lt (by omega),List.getElem?_replicate_of_lt (by omega)]⟩
theorem SS {nd X3:List Br}(h:Rd0 nd)(h':Rd0 X3){n n':Int}(h0:0<=n)(vo:0<=n')(hn:n<nd.length+2)(KE:n'<X3.length+2)(k:Eqv nd n X3 n'):bS nd n=bS X3 n':=by
 obtain⟨e,T⟩:=Hj h h' (n.toNat+1) (n'.toNat+1) n n' _ _ h0 vo (by omega) (by omega) hn KE k (hQf nd X3);unfold bS;simp only;rw[e,T.out]
theorem VD.eqv {nd X3:List Br}{r r':Int}(h:VD nd r)(h':VD X3 r')(k:Eqv nd r X3 r'):(nd,r)=(X3,r'):=by
 rw[<-h.2.2.2,<-h'.2.2.2];exact SS h.1 h'.1 h.2.1 h'.2.1 h.2.2.1 h'.2.2.1 k
theorem Hk {nd:List Br}(hw:aB nd)(l:List Br):∀(m:Nat)(n:Int)(e:Nat->Bool),n<nd.length+2->dU (nd++l) m n e=dU nd m n e
 | 0,n,e,_=>rfl
 | m+1,n,e,hn=>by
  by_cases h2:n<2
  ·rw[lD h2,lD h2]
  ·obtain⟨b,hb⟩:=WG h2 hn;obtain⟨h1,JC,h3,h4⟩:=hw _ _ hb;rw[dU,dU,if_neg h2,if_neg h2,eK (by omega),hb];simp only;rw[Hk hw l m b.h e (by omega),Hk hw l m b.l e (by omega)]
theorem nU {nd:List Br}(hw:aB nd)(l:List Br){n:Int}(hn:n<nd.length+2)(e:Nat->Bool):ev (nd++l) n e=ev nd n e:=Hk hw l _ n e hn
theorem uk {nd:List Br}(l:List Br){n:Int}(hn:n<nd.length+2):Qm (nd++l) n=Qm nd n:=by
 unfold Qm;by_cases h2:n<2
 ·rw[Qe h2,Qe h2]
 ·rw[if_neg h2,if_neg h2,eK (by omega)]
theorem iB {nd:List Br}{n:Int}(h:n<2):Qm nd n=64:=Qe h
theorem ST {nd X3:List Br}(h:Rd0 nd)(h':Rd0 X3){n n':Int}(hn:n<nd.length+2)(KE:n'<X3.length+2)(k:Eqv nd n X3 n'):Qm nd n=Qm X3 n':=by
 have I:=uj h (nd.length+2);have I':=uj h' (X3.length+2);by_cases h2:n<2
 ·rw[iB h2,iB (ug h' I' (by omega) KE h2 k.symm)]
 have JC:¬n'<2:=λhh=>h2 (ug h I (by omega) hn hh k)
 obtain⟨b,hb⟩:=WG h2 hn;obtain⟨b',hb'⟩:=WG JC KE;rw[dV h2 hb,dV JC hb'];exact Int.le_antisymm (ui h' h I' (by omega) KE hn JC h2 hb' hb k.symm) (ui h h' I (by omega) hn KE h2 JC hb hb' k)
theorem Rd0.snoc {nd:List Br}(h:Rd0 nd){b:Br}(hb:iA (nd++ [b]) nd.length b):Rd0 (nd++ [b]):=by
 intro j x hx;by_cases hj:j<nd.length
 ·rw[eK hj] at hx;obtain⟨b1,b2,b3,b4,b5,b6,b7,b8,b9,bA⟩:=h _ _ hx;exact⟨b1,b2,b3,b4,b5,b6,b7,by rw[Gg (by omega)];exact b8,by rw[uk _ (by omega)];exact b9,by rw[uk _ (by omega)];exact bA⟩
 ·have hl:=(ZM.1 hx).1;simp at hl;have:j=nd.length:=by omega
  subst this;rw[WV (QC _)] at hx;simp at hx;subst hx;exact hb
theorem SU {nd:List Br}{b:Br}(b1:0<=b.v)(b2:b.v<=63)(b3:0<=b.l)(b4:b.l<nd.length+2)(b5:0<=b.h)(b6:b.h<nd.length+2)(b7:b.l≠b.h)(b8:b∉nd)(b9:b.v<Qm nd b.l)(bA:b.v<Qm nd b.h):iA (nd++ [b]) nd.length b:=
 ⟨b1,b2,b3,b4,b5,b6,b7,by rw[Gg (QC _),qd];exact b8,by rw[uk _ b4];exact b9,by rw[uk _ b6];exact bA⟩
structure Wi (nd:List Br) (st:List Br×List Nat):Prop where
 rd:Rd0 st.1
 len:st.2.length=nd.length
 num:∀k m:Nat,st.2[k]? =some m->0<m->2<=m/\m<st.1.length+2/\Eqv st.1 (m:Int) nd ((k:Int)+2)
 sur:∀j:Nat,j<st.1.length->∃k:Nat,st.2[k]? =some (j+2)
theorem Wi.start (nd:List Br):Wi nd ([],List.replicate nd.length 0):=
 ⟨λj b hb=>by simp at hb,by simp,λk m hk hm=>by
  have:=Bg (Xk hk);omega,λj hj=>by simp at hj⟩
theorem Hl {nd:List Br}(h:Rd0 nd):∀(m:Nat)(n:Int)(st:List Br×List Nat),0<=n->n<m->n<nd.length+2->Wi nd st->
  Wi nd (Zf nd m n st).2/\0<=(Zf nd m n st).1/\(Zf nd m n st).1<(Zf nd m n st).2.1.length+2/\Eqv (Zf nd m n st).2.1 (Zf nd m n st).1 nd n/\∃l,(Zf nd m n st).2.1=st.1++l
 | 0,n,st,h0,hm,_,_=>by omega
 | m+1,n,st,h0,hm,hn,W=>by
  by_cases h2:n<2
  ·rw[lq h2];exact⟨W,h0,by simp only;omega,λe=>by rw[JT h2,JT h2],[],by simp⟩
  have Xe:(n-2).toNat<st.2.length:=by have:=W.len;omega
  by_cases h3:0<st.2[(n-2).toNat]?.getD 0
  ·rw[lr h2 h3];have hg:=XB Xe;rw[hg] at h3 ⊢;simp only[gc] at h3 ⊢;obtain⟨q1,q2,q3⟩:=W.num _ _ hg h3;have en:(((n-2).toNat:Nat):Int)+2=n:=by omega
   rw[en] at q3;exact⟨W,by omega,by omega,q3,[],by simp⟩
  obtain⟨b,hb⟩:=WG h2 hn;obtain⟨b1,b2,b3,b4,b5,b6,b7,b8,b9,bA⟩:=h _ _ hb;have f1:=lu h.wf m b.l st b3 (by omega) (by omega) W.len;rw[nR h2 h3 hb];obtain⟨W1,p1,p2,p3,l1,p4⟩:=Hl h m b.l st b3 (by omega) (by omega) W;generalize (Zf nd m b.l st)=p at*;have f2:=lu h.wf m b.h p.2 b5 (by omega) (by omega) W1.len;obtain⟨W2,q1,q2,q3,l2,q4⟩:=Hl h m b.h p.2 b5 (by omega) (by omega) W1;generalize (Zf nd m b.h p.2)=q at*;have hz:q.2.2[(n-2).toNat]? =some 0:=by
   rw[f2.keep _ (by omega),f1.keep _ (by omega)];have hg:=XB Xe;rw[hg] at h3 ⊢;simp only[gc] at h3;congr 1;omega
  have hR:=W2.rd;have LW:p.1<q.2.1.length+2:=by rw[q4,Qq];omega
  have LX:Eqv q.2.1 p.1 nd b.l:=λe=>by rw[q4,nU W1.rd.wf l2 p2];exact p3 e
  have QO:p.1≠q.1:=λe=>b7 (inj h b3 b5 (by omega) (by omega) (LX.symm.trans (by rw[e];exact q3)))
  have XJ:=ST hR h LW (by omega) LX;have Ka:=ST hR h q2 (by omega) q3;have mean:∀kr,Rd0 kr->∀(i:Int),¬i<2->kr[(i-2).toNat]? =some ⟨b.v,p.1,q.1⟩->(∀e,ev kr p.1 e=ev q.2.1 p.1 e)->(∀e,ev kr q.1 e=ev q.2.1 q.1 e)->Eqv kr i nd n:=λkr hR2 i hi hx u1 u2 e=>by
   rw[cM hR2.wf hi hx,cM h.wf h2 hb];simp only;rw[u1,u2,LX e,q3 e]
  have mU:(⟨b.v,p.1,q.1⟩:Br)∉q.2.1:=λQ5=>by
   obtain⟨j,hj,hjx⟩:=Gd.1 Q5;obtain⟨k,hk⟩:=W2.sur j hj;obtain⟨_,_,r3⟩:=W2.num k _ hk (by omega);have XR:=mean q.2.1 hR ((j+2:Nat):Int) (by omega) (by rw[show(((j+2:Nat):Int)-2).toNat=j by omega,XB hj,hjx]) (λ_=>rfl) (λ_=>rfl);have V7:=(ZM.1 hk).1;have DN:=W2.len;have:=inj h (n:=(k:Int)+2) (n':=n) (by omega) h0 (by omega) hn (r3.symm.trans XR);have Xn:(n-2).toNat=k:=by omega
   rw[Xn,hk] at hz;cases hz
  have iZ:Rd0 (q.2.1++ [⟨b.v,p.1,q.1⟩]):=hR.snoc (SU b1 b2 p1 LW q1 q2 QO mU (by rw[XJ];exact b9) (by rw[Ka];exact bA));have vW:Eqv (q.2.1++ [⟨b.v,p.1,q.1⟩]) ((q.2.1.length+2:Nat):Int) nd n:=mean _ iZ _ (by omega) (by
   rw[show(((q.2.1.length+2:Nat):Int)-2).toNat=q.2.1.length by omega,WV (QC _)];simp) (λe=>nU hR.wf _ LW e) (λe=>nU hR.wf _ q2 e)
  refine⟨⟨iZ,by rw[gb];exact W2.len,λk mm hk ZP=>?_,λj hj=>?_⟩,by omega,by simp only[Qq,Q6,Ji];omega,vW,l1++(l2++ [⟨b.v,p.1,q.1⟩]),by simp only;rw[q4,p4];simp⟩
  ·simp only at hk ⊢;by_cases Xn:(n-2).toNat=k
   ·subst Xn;rw[jG (by have:=W2.len;omega)] at hk;cases hk;refine⟨by omega,by simp,?_⟩;rw[show(((n-2).toNat:Nat):Int)+2=n by omega];exact vW
   ·rw[gf Xn] at hk;obtain⟨r1,r2,r3⟩:=W2.num k mm hk ZP;exact⟨r1,by simp;omega,λe=>by rw[nU hR.wf _ (by omega)];exact r3 e⟩
  ·simp only[Qq,Q6,Ji] at hj;by_cases aj:j<q.2.1.length
   ·obtain⟨k,hk⟩:=W2.sur j aj;refine⟨k,?_⟩;simp only;rw[gf (λe=>by rw[e,hk] at hz;cases hz)];exact hk
   ·have:j=q.2.1.length:=by omega
    subst this;exact⟨(n-2).toNat,by simp only;rw[jG (by have:=W2.len;omega)]⟩
theorem hQg {nd:List Br}(h:Rd0 nd){r:Int}(h0:0<=r)(hr:r<nd.length+2):VD (bS nd r).1 (bS nd r).2/\Eqv (bS nd r).1 (bS nd r).2 nd r/\(bS nd r).1.length<=nd.length:=by
 obtain⟨W,w1,w2,w3,_⟩:=Hl h (r.toNat+1) r _ h0 (by omega) hr (Wi.start nd);have f:=(lu h.wf (r.toNat+1) r _ h0 (by omega) hr (Wi.start nd).len).cnt;have e1:(bS nd r).1=(Zf nd (r.toNat+1) r ([],List.replicate nd.length 0)).2.1:=rfl;have e2:(bS nd r).2=(Zf nd (r.toNat+1) r ([],List.replicate nd.length 0)).1:=rfl;rw[<-e1] at w3 w2 f;rw[<-e2] at w3 w2 w1;have hR:Rd0 (bS nd r).1:=W.rd;refine⟨⟨hR,w1,w2,?_⟩,w3,?_⟩
 ·rw[SS hR h w1 h0 w2 hr w3]
 ·have:=List.count_le_length (a:=0) (l:=List.replicate nd.length 0);simp at this f;omega
end
section
theorem SV {b:Br}:∀{l:List Br}{i:Nat},KT b l=some i->l[i]? =some b
 | [],i,h=>by cases h
 | x::l,i,h=>by
  unfold KT at h;split at h
  ·rename_i hx;cases h;simp[hx]
  ·cases hf:KT b l with
   | none=>rw[hf] at h;cases h
   | some k=>rw[hf] at h;cases h;simpa using SV hf
theorem SW {b:Br}:∀{l:List Br},KT b l=none->b∉l
 | [],_=>by simp
 | x::l,h=>by
  unfold KT at h;split at h
  ·cases h
  ·rename_i hx;cases hf:KT b l with
   | some k=>rw[hf] at h;cases h
   | none=>simp only[Q3,not_or];exact⟨λe=>hx e.symm,SW hf⟩
structure UniqOk (nd:List Br) (b:Br) (r:List Br×Int):Prop where
 rd:Rd0 r.1
 pos:0<=r.2
 lt:r.2<r.1.length+2
 mean:∀e,ev r.1 r.2 e=if e b.v.toNat then ev nd b.h e else ev nd b.l e
 lvl:b.v<=Qm r.1 r.2
 ext:∃l,r.1=nd++l
theorem hQh {nd:List Br}(h:Rd0 nd){b:Br}(b1:0<=b.v)(b2:b.v<=63)(b3:0<=b.l)(b4:b.l<nd.length+2)(b5:0<=b.h)(b6:b.h<nd.length+2)(b9:b.v<Qm nd b.l)(bA:b.v<Qm nd b.h):UniqOk nd b (Z6 b nd):=by
 unfold Z6;split
 ·rename_i he;exact⟨h,b3,b4,λe=>by simp only;rw[<-he];split<;>rfl,by simp only;omega,[],by simp⟩
 ·rename_i QO;split
  ·rename_i i hi;have hx:=SV hi;have Xe:=(ZM.1 hx).1;have KP:nd[(((i+2:Nat):Int)-2).toNat]? =some b:=by rw[show(((i+2:Nat):Int)-2).toNat=i by omega];exact hx
   have h2:¬(((i+2:Nat):Int)<2):=by omega
   exact⟨h,by simp only;omega,by simp only;omega,λe=>cM h.wf h2 KP,by simp only;rw[dV h2 KP];exact jH _,[],by simp⟩
  ·rename_i hn;have XY:=SU b1 b2 b3 b4 b5 b6 QO (SW hn) b9 bA;have hR:=h.snoc XY;have KP:(nd++ [b])[(((nd.length+2:Nat):Int)-2).toNat]? =some b:=by
    rw[show(((nd.length+2:Nat):Int)-2).toNat=nd.length by omega,WV (QC _)];simp
   have h2:¬(((nd.length+2:Nat):Int)<2):=by omega
   exact⟨hR,by simp only;omega,by simp only[Qq,Q6,Ji];omega,λe=>by simp only;rw[cM hR.wf h2 KP,nU h.wf _ b6,nU h.wf _ b4],by simp only;rw[dV h2 KP];exact jH _,[b],rfl⟩
theorem Rd0.dok {nd:List Br}(h:Rd0 nd):VO nd:=⟨h.wf,λj b hb=>⟨(h j b hb).1,(h j b hb).2.1⟩⟩
theorem um {nd:List Br}(h:Rd0 nd){n v:Int}(_:0<=n)(hn:n<nd.length+2)(hv:v<=Qm nd n)(fx:v<64):
  (∀e,ev nd n e=if e v.toNat then ev nd (Qo nd n v).2 e else ev nd (Qo nd n v).1 e)/\v<Qm nd (Qo nd n v).1/\v<Qm nd (Qo nd n v).2/\(Qo nd n v).1<nd.length+2/\(Qo nd n v).2<nd.length+2:=by
 unfold Qo;split
 ·rename_i QO;exact⟨λe=>by simp,by simp only;omega,by simp only;omega,hn,hn⟩
 ·rename_i he;have he:=Decidable.not_not.1 he;have h2:¬n<2:=λhh=>by rw[iB hh] at he;omega
  obtain⟨b,hb⟩:=WG h2 hn;obtain⟨b1,b2,b3,b4,b5,b6,b7,b8,b9,bA⟩:=h _ _ hb;have VE:=dV h2 hb;simp only[hb];exact⟨λe=>by rw[cM h.wf h2 hb,show v=b.v by omega],by omega,by omega,by omega,by omega⟩
def Kt (op:Int)(x y:Bool):Bool:=if op=0 then x&&y else if op=1 then x||y else if op=3 then !x else if op=4 then !x&&y else x !=y
theorem SY {op x y:Int}(x0:0<=x)(x1:x<2)(y0:0<=y)(y1:y<2):decide (dR op x y=1)=Kt op (decide (x=1)) (decide (y=1)):=by
 unfold dR Kt;rcases(by omega:x=0∨x=1)with rfl | rfl<;>rcases(by omega:y=0∨y=1)with rfl | rfl<;>(split<;>first | rfl | (split<;>first | rfl | (split<;>first | rfl | (split<;>rfl))))
structure At2I (a b:List Br) (op:Int) (st:List Br×List Tr3):Prop where
 rd:Rd0 st.1
 seen:∀t∈st.2,0<=t.2.2/\t.2.2<st.1.length+2/\(∀e,ev st.1 t.2.2 e=Kt op (ev a t.1 e) (ev b t.2.1 e))/\min (Qm a t.1) (Qm b t.2.1)<=Qm st.1 t.2.2
structure At2R (a b:List Br) (op:Int) (x y:Int) (st:List Br×List Tr3) (r:Int×(List Br×List Tr3)):Prop where
 inv:At2I a b op r.2
 pos:0<=r.1
 lt:r.1<r.2.1.length+2
 mean:∀e,ev r.2.1 r.1 e=Kt op (ev a x e) (ev b y e)
 lvl:min (Qm a x) (Qm b y)<=Qm r.2.1 r.1
 ext:∃l,r.2.1=st.1++l
theorem At2I.ext {a b:List Br}{op:Int}{nd:List Br}{s:List Tr3}(h:At2I a b op (nd,s)){X3:List Br}(hr:Rd0 X3)(he:∃l,X3=nd++l):At2I a b op (X3,s):=by
 obtain⟨l,rfl⟩:=he;refine⟨hr,λt ht=>?_⟩;obtain⟨h1,h2,h3,h4⟩:=h.seen t ht;exact⟨h1,by simp only at h2 ⊢;rw[Qq];omega,λe=>by rw[nU h.rd.wf l h2];exact h3 e,by rw[uk l h2];exact h4⟩
theorem Hm {a b:List Br}(ha:Rd0 a)(hb:Rd0 b)(op:Int):∀(m:Nat)(x y:Int)(st:List Br×List Tr3),At2I a b op st->0<=x->0<=y->x+y<m->x<a.length+2->y<b.length+2->At2R a b op x y st (Xs a b op m x y st)
 | 0,x,y,st,_,_,_,hm,_,_=>by omega
 | m+1,x,y,st,h,x0,y0,hm,hx,hy=>by
  by_cases Xu:x<2/\y<2
  ·rw[ly Xu];have hc:=Hi (op:=op) x0 Xu.1 y0 Xu.2;refine⟨h,hc.1,by simp only;omega,λe=>?_,?_,[],by simp⟩
   ·simp only;rw[JT hc.2,JT Xu.1,JT Xu.2];exact SY x0 Xu.1 y0 Xu.2
   ·simp only;rw[iB hc.2,iB Xu.1];omega
  cases k:st.2.find? (λt=>decide (t.1=x/\t.2.1=y))with
  | some t=>
   rw[lz Xu k];have hk:=List.find?_some k;simp only[VJ] at hk;obtain⟨rfl,rfl⟩:=hk;obtain⟨h1,h2,h3,h4⟩:=h.seen t (dQN k);exact⟨h,h1,h2,h3,h4,[],by simp⟩
  | none=>
   have ZI:min (Qm a x) (Qm b y)<64:=by
    by_cases c:x<2
    ·have:=aC hb.dok (n:=y) (λc2=>Xu ⟨c,c2⟩) (by omega);rw[Jb];split<;>omega
    ·have:=aC ha.dok (n:=x) c (by omega);rw[Jb];split<;>omega
   have fA:0<=min (Qm a x) (Qm b y):=by
    have pos:∀{d:List Br},Rd0 d->∀{n:Int},n<d.length+2->0<=Qm d n:=λ{d} hd {n} hn=>by
     by_cases h2:n<2
     ·rw[iB h2];omega
     ·obtain⟨z,hz⟩:=WG h2 hn;rw[dV h2 hz];exact(hd _ _ hz).1
    have p1:=pos ha hx;have p2:=pos hb hy;rw[Jb];split<;>omega
   rw[lA Xu k _ rfl];have fV:Qm a x=min (Qm a x) (Qm b y)∨Qm b y=min (Qm a x) (Qm b y):=by rw[Jb];split<;>simp
   have mQX:min (Qm a x) (Qm b y)<=Qm a x:=Int.min_le_left _ _;have bQ6:min (Qm a x) (Qm b y)<=Qm b y:=Int.min_le_right _ _;have pK:At2I a b op st->min (Qm a x) (Qm b y)<=min (Qm a x) (Qm b y):=λ_=>jH _
   generalize hv:min (Qm a x) (Qm b y)=v at*;obtain⟨s1,s2,s3,s4,s5⟩:=WF ha.dok (n:=x) x0 ZI;obtain⟨t1,t2,t3,t4,t5⟩:=WF hb.dok (n:=y) y0 ZI;obtain⟨u1,u2,u3,u4,u5⟩:=um ha x0 hx mQX ZI;obtain⟨z1,z2,z3,z4,z5⟩:=um hb y0 hy bQ6 ZI;have dec:(Qo a x v).1+(Qo b y v).1<m/\(Qo a x v).2+(Qo b y v).2<m:=by
    rcases fV with e | e
    ·have:=s5 e;omega
    ·have:=t5 e;omega
   have i1:=Hm ha hb op m _ _ st h s1 t1 dec.1 u4 z4;generalize (Xs a b op m (Qo a x v).1 (Qo b y v).1 st)=r0 at*;have i2:=Hm ha hb op m _ _ r0.2 i1.inv s3 t3 dec.2 u5 z5;generalize (Xs a b op m (Qo a x v).2 (Qo b y v).2 r0.2)=r1 at*;obtain⟨l1,XJ⟩:=i1.ext;obtain⟨l2,Ka⟩:=i2.ext;have r0lt:r0.1<r1.2.1.length+2:=by rw[Ka,Qq];have:=i1.lt;omega
   have r0m:∀e,ev r1.2.1 r0.1 e=ev r0.2.1 r0.1 e:=λe=>by rw[Ka,nU i1.inv.rd.wf l2 i1.lt]
   have r0l:Qm r1.2.1 r0.1=Qm r0.2.1 r0.1:=by rw[Ka,uk l2 i1.lt]
   have g1:v<Qm r1.2.1 r0.1:=by rw[r0l];have:=i1.lvl;rw[Jb] at this;split at this<;>omega
   have g2:v<Qm r1.2.1 r1.1:=by have:=i2.lvl;rw[Jb] at this;split at this<;>omega
   have U:=hQh i2.inv.rd (b:=⟨v,r0.1,r1.1⟩) fA (by simp only;omega) i1.pos r0lt i2.pos i2.lt g1 g2;have hu3:=U.ext;have hI:=At2I.ext (s:=r1.2.2) i2.inv U.rd U.ext;generalize Z6 ⟨v,r0.1,r1.1⟩ r1.2.1=u at*;have XR:∀e,ev u.1 u.2 e=Kt op (ev a x e) (ev b y e):=λe=>by
    rw[U.mean e,u1 e,z1 e];simp only;split
    ·exact i2.mean e
    ·rw[r0m e];exact i1.mean e
   refine⟨⟨U.rd,λt ht=>?_⟩,U.pos,U.lt,XR,by rw[hv];exact U.lvl,?_⟩
   ·simp only[Xv,QL] at ht;rcases ht with ht | rfl
    ·exact hI.seen t ht
    ·exact⟨U.pos,U.lt,XR,by rw[hv];exact U.lvl⟩
   ·obtain⟨l3,hl3⟩:=hu3;exact⟨l1++(l2++l3),by simp only;rw[hl3,Ka,XJ];simp⟩
theorem SZ:∀(N:Nat)(l:List Nat),l.Nodup->(∀x∈l,x<N)->l.length<=N
 | 0,l,_,h=>by
  cases l with
  | nil=>simp
  | cons x l=>have:=h x (by simp);omega
 | N+1,l,hn,h=>by
  have h1:=SZ N (l.filter (λx=>decide (x≠N))) (hn.filter _) (λx hx=>by
   rw[Jc,VJ] at hx;have:=h x hx.1;omega)
  have h2:l.length=(l.filter (λx=>decide (x≠N))).length+l.count N:=by
   clear h h1 hn;induction l with
   | nil=>rfl
   | cons x l ih=>
    by_cases e:x=N
    ·subst e;rw[List.filter_cons_of_neg (by simp),List.count_cons_self,Q6];omega
    ·rw[List.filter_cons_of_pos (by simpa using e),List.count_cons_of_ne e,Q6,Q6];omega
  have h3:=List.nodup_iff_count.1 hn N;omega
def Ho (M:Nat)(t:Tr3):Nat:=t.1.toNat*M+t.2.1.toNat
structure At2B (n m:Nat) (st:List Br×List Tr3):Prop where
 rng:∀t∈st.2,0<=t.1/\t.1<n/\0<=t.2.1/\t.2.1<m
 nod:(st.2.map (Ho m)).Nodup
 le:st.1.length<=st.2.length
theorem At2B.bound {n m:Nat}{st:List Br×List Tr3}(h:At2B n m st):st.2.length<=n*m/\st.1.length<=n*m:=by
 have:=SZ (n*m) _ h.nod (λx hx=>by
  simp only[ZG] at hx;obtain⟨t,ht,rfl⟩:=hx;obtain⟨h1,h2,h3,h4⟩:=h.rng t ht;unfold Ho;have:(t.1.toNat+1)*m<=n*m:=Y8 _ (by omega);rw[nz] at this;omega)
 rw[JR] at this;exact⟨this,X4 h.le this⟩
theorem hQi {m:Nat}{x y x' y':Nat}(hy:y<m)(sY:y'<m)(h:x*m+y=x'*m+y'):x=x'/\y=y':=by
 have hx:x=x':=by
  have e1:(x*m+y)/m=x:=by rw[wy,Nat.mul_add_div (by omega),Nat.div_eq_of_lt hy]<;>rfl
  have e2:(x'*m+y')/m=x':=by rw[wy,Nat.mul_add_div (by omega),Nat.div_eq_of_lt sY]<;>rfl
  rw[<-e1,<-e2,h]
 subst hx;exact⟨rfl,by omega⟩
theorem Hp {a b:List Br}(ha:VO a)(hb:VO b)(op:Int):∀(f:Nat)(x y:Int)(st:List Br×List Tr3),At2B (a.length+2) (b.length+2) st->0<=x->0<=y->x+y<f->x<a.length+2->y<b.length+2->
  At2B (a.length+2) (b.length+2) (Xs a b op f x y st).2/\(∀t∈(Xs a b op f x y st).2.2,t∈st.2∨t.1+t.2.1<=x+y)
 | 0,x,y,st,_,_,_,hm,_,_=>by omega
 | f+1,x,y,st,h,x0,y0,hm,hx,hy=>by
  by_cases Xu:x<2/\y<2
  ·rw[ly Xu];exact⟨h,λt ht=>.inl ht⟩
  cases k:st.2.find? (λt=>decide (t.1=x/\t.2.1=y))with
  | some t=>rw[lz Xu k];exact⟨h,λt ht=>.inl ht⟩
  | none=>
   have ZI:min (Qm a x) (Qm b y)<64:=by
    by_cases c:x<2
    ·have:=aC hb (n:=y) (λc2=>Xu ⟨c,c2⟩) (by omega);rw[Jb];split<;>omega
    ·have:=aC ha (n:=x) c (by omega);rw[Jb];split<;>omega
   rw[lA Xu k _ rfl];have fV:Qm a x=min (Qm a x) (Qm b y)∨Qm b y=min (Qm a x) (Qm b y):=by rw[Jb];split<;>simp
   generalize min (Qm a x) (Qm b y)=v at*;obtain⟨s1,s2,s3,s4,s5⟩:=WF ha (n:=x) x0 ZI;obtain⟨t1,t2,t3,t4,t5⟩:=WF hb (n:=y) y0 ZI;have dec:(Qo a x v).1+(Qo b y v).1<x+y/\(Qo a x v).2+(Qo b y v).2<x+y:=by
    rcases fV with e | e
    ·have:=s5 e;omega
    ·have:=t5 e;omega
   obtain⟨i1,j1⟩:=Hp ha hb op f _ _ st h s1 t1 (by omega) (by omega) (by omega);generalize (Xs a b op f (Qo a x v).1 (Qo b y v).1 st)=r0 at*;obtain⟨i2,j2⟩:=Hp ha hb op f _ _ r0.2 i1 s3 t3 (by omega) (by omega) (by omega);generalize (Xs a b op f (Qo a x v).2 (Qo b y v).2 r0.2)=r1 at*;have ul:(Z6 ⟨v,r0.1,r1.1⟩ r1.2.1).1.length<=r1.2.1.length+1:=by
    unfold Z6;split
    ·exact Bh _
    ·split
     ·exact Bh _
     ·simp
   have mU:∀t∈r1.2.2,¬(t.1=x/\t.2.1=y):=λt ht hh=>by
    rcases j2 t ht with h1 | h1
    ·rcases j1 t h1 with h2 | h2
     ·have:=wx.1 k t h2;simp at this;exact this hh.1 hh.2
     ·omega
    ·omega
   refine⟨⟨λt ht=>?_,?_,?_⟩,λt ht=>?_⟩
   ·simp only[Xv,QL] at ht;rcases ht with ht | rfl
    ·exact i2.rng t ht
    ·exact⟨x0,by simp only;omega,y0,by simp only;omega⟩
   ·simp only[be,Kr,wv];rw[Gb];refine⟨i2.nod,by simp,λp hp q hq e=>?_⟩;simp only[QL] at hq;subst hq;subst e;simp only[ZG] at hp;obtain⟨t,ht,hk⟩:=hp;obtain⟨r1',r2',r3',r4'⟩:=i2.rng t ht;unfold Ho at hk;have:=hQi (m:=b.length+2) (by omega) (by simp only;omega) hk;simp only at this;exact mU t ht ⟨by omega,by omega⟩
   ·simp only[Qq,Q6,Ji];have:=i2.le;omega
   ·simp only[Xv,QL] at ht;rcases ht with ht | rfl
    ·rcases j2 t ht with h1 | h1
     ·rcases j1 t h1 with h2 | h2
      ·exact .inl h2
      ·exact .inr (by omega)
     ·exact .inr (by omega)
    ·exact .inr (by simp only;omega)
theorem Hq {a b:List Br}{ra rb:Int}(ha:VD a ra)(hb:VD b rb)(op:Int):(lB a ra b rb op).2.2.length<=(a.length+2)*(b.length+2)/\(lB a ra b rb op).2.1.length<=(a.length+2)*(b.length+2):=
 (Hp ha.dok hb.dok op (ra.toNat+rb.toNat+1) ra rb ([],[]) ⟨λt ht=>by simp at ht,by simp,QC _⟩ ha.2.1 hb.2.1 (by have:=ha.2.1;have:=hb.2.1;omega) ha.2.2.1 hb.2.2.1).1.bound
theorem hQj {a b:List Br}{ra rb:Int}(ha:VD a ra)(hb:VD b rb)(op:Int):VD (V4 a ra b rb op).1 (V4 a ra b rb op).2/\∀e,ev (V4 a ra b rb op).1 (V4 a ra b rb op).2 e=Kt op (ev a ra e) (ev b rb e):=by
 have R:=Hm ha.rd0 hb.rd0 op (ra.toNat+rb.toNat+1) ra rb ([],[]) ⟨λj x hx=>by simp at hx,λt ht=>by simp at ht⟩ ha.2.1 hb.2.1 (by have:=ha.2.1;have:=hb.2.1;omega) ha.2.2.1 hb.2.2.1;obtain⟨n1,n2,n3⟩:=hQg R.inv.rd R.pos R.lt;exact⟨n1,λe=>(n2 e).trans (R.mean e)⟩
end
section
def Yj:Nat->List Nat->List (List Nat)×Bool
 | 0,_=>([],true)
 | _+1,[]=>([],true)
 | n+1,b::l=>
  if b=32∨b=9 then Yj n l
  else if b=40∨b=41∨b=33 then([b]::(Yj n l).1,(Yj n l).2)
  else if(b=38∨b=124)/\l.head? =some b then([b,b]::(Yj n l.tail).1,(Yj n l.tail).2)
  else if bm b then((b::l).takeWhile Ze::(Yj n ((b::l).dropWhile Ze)).1,(Yj n ((b::l).dropWhile Ze)).2)
  else([],false)
def XX (l:List Nat):List (List Nat)×Bool:=Yj l.length l
theorem uo {b:Nat}(h:bm b=true):Ze b=true:=by unfold Ze;rw[h]<;>rfl
theorem Cf {b:Nat}{l:List Nat}(h:bm b=true):(b::l).dropWhile Ze=l.dropWhile Ze:=by rw[qa,Qe (uo h)]
theorem Cg (p:Nat->Bool)(l:List Nat):(l.dropWhile p).length<=l.length:=(List.dropWhile_suffix p).length_le
theorem xp:∀(n m:Nat)(l:List Nat),l.length<=n->l.length<=m->Yj n l=Yj m l
 | n,m,[],_,_=>by cases n<;>cases m<;>rfl
 | 0,_,b::l,h,_=>by simp at h
 | _+1,0,b::l,_,h=>by simp at h
 | n+1,m+1,b::l,h,h'=>by
  simp only[Q6] at h h';have e1:=xp n m l (by omega) (by omega);have e2:=xp n m l.tail (by rw[Bi];omega) (by rw[Bi];omega);have hd:=Cg Ze l;have e3:=xp n m (l.dropWhile Ze) (by omega) (by omega);simp only[Yj];split
  ·exact e1
  ·split
   ·rw[e1]
   ·split
    ·rw[e2]
    ·split
     ·rename_i hl;rw[Cf hl,e3]
     ·rfl
theorem xq:XX []=([],true):=rfl
theorem xr {b:Nat}{l:List Nat}(h:b=32∨b=9):XX (b::l)=XX l:=by
 show Yj (l.length+1) (b::l)=_;rw[Yj,Qe h]<;>rfl
theorem nV {b:Nat}{l:List Nat}(h:b=40∨b=41∨b=33):XX (b::l)=([b]::(XX l).1,(XX l).2):=by
 show Yj (l.length+1) (b::l)=_;rw[Yj,if_neg (by omega),Qe h]<;>rfl
theorem qM {b:Nat}{l:List Nat}(h:b=38∨b=124):XX (b::b::l)=([b,b]::(XX l).1,(XX l).2):=by
 show Yj ((b::l).length+1) (b::b::l)=_;rw[Yj,if_neg (by omega),if_neg (by omega),Qe ⟨h,rfl⟩];have:=xp (b::l).length l.length l (by simp) (QC _);rw[show(b::l).tail=l from rfl,this]<;>rfl
theorem xu {b:Nat}{l:List Nat}(h:bm b=true):XX (b::l)=((b::l).takeWhile Ze::(XX ((b::l).dropWhile Ze)).1,(XX ((b::l).dropWhile Ze)).2):=by
 have hb:b=95∨(97<=b/\b<=122)∨(65<=b/\b<=90):=by unfold bm at h;simp at h;omega
 show Yj (l.length+1) (b::l)=_;rw[Yj,if_neg (by omega),if_neg (by omega),if_neg (by omega),Qe h,Cf h];have:=xp l.length (l.dropWhile Ze).length (l.dropWhile Ze) (Cg _ _) (QC _);rw[this]<;>rfl
theorem Ch {b:Nat}{l:List Nat}(h1:¬(b=32∨b=9))(h2:¬(b=40∨b=41∨b=33))(h3:¬((b=38∨b=124)/\l.head? =some b))(h4:bm b=false):XX (b::l)=([],false):=by
 show Yj (l.length+1) (b::l)=_;rw[Yj,if_neg h1,if_neg h2,if_neg h3,if_neg (by rw[h4];decide)]
theorem qO (l:List Nat):XX (ZN l)=XX l:=by
 induction l with
 | nil=>rfl
 | cons b l ih=>
  unfold ZN at*;rw[qa];split
  ·rename_i h;rw[ih,xr];simpa using h
  ·rfl
theorem xv {l:List Nat}{b:Nat}{r:List Nat}(h:ZN l=b::r):¬(b=32∨b=9):=by
 unfold ZN at h;induction l with
 | nil=>cases h
 | cons x l ih=>
  rw[qa] at h;split at h
  ·exact ih h
  ·rename_i hx;cases h;simpa using hx
theorem Ht {b:Nat}(hb:b=40∨b=41∨b=33)(p:Ps):match Ks [b] p with
  | (true,p')=>XX p.r=([b]::(XX p'.r).1,(XX p'.r).2)/\p'.f=p.f/\p'.u=p.u/\p'.r.length<p.r.length
  | (false,p')=>(XX p.r).1.head? ≠some [b]/\p'={p with r:=ZN p.r}:=by
 have hl:=qO p.r;have Wv:=tW p.r;rw[wZ];cases ht:ZN p.r with
 | nil=>
  rw[ht] at hl;simp only[List.isPrefixOf];refine⟨?_,by simp⟩;rw[<-hl];simp[xq]
 | cons x r=>
  have hx:=xv ht;rw[ht] at hl Wv;by_cases Jt:x=b
  ·subst Jt;simp only[List.isPrefixOf,beq_self_eq_true,bg];refine⟨by rw[<-hl,nV hb];simp,trivial,trivial,by simp at Wv ⊢;omega⟩
  ·have: [b].isPrefixOf (x::r)=false:=by simp[List.isPrefixOf,Ne.symm Jt]
   rw[this];simp only;refine⟨λh=>?_,by simp⟩;rw[<-hl] at h;by_cases h2:x=40∨x=41∨x=33
   ·rw[nV h2] at h;simp at h;exact Jt h
   ·by_cases h3:(x=38∨x=124)/\r.head? =some x
    ·cases r with
     | nil=>simp at h3
     | cons y r=>
      simp at h3;obtain⟨h3,rfl⟩:=h3;rw[qM h3] at h;simp at h
    ·by_cases h4:bm x=true
     ·rw[xu h4,bN,Qe (uo h4)] at h;simp at h;exact Jt h.1
     ·rw[Ch hx h2 h3 (by simpa using h4)] at h;simp at h
theorem Ci {b:Nat}(hb:b=38∨b=124)(p:Ps):match Ks [b,b] p with
  | (true,p')=>XX p.r=([b,b]::(XX p'.r).1,(XX p'.r).2)/\p'.f=p.f/\p'.u=p.u/\p'.r.length<p.r.length
  | (false,p')=>(XX p.r).1.head? ≠some [b,b]/\p'={p with r:=ZN p.r}:=by
 have hl:=qO p.r;have Wv:=tW p.r;rw[wZ];cases ht:ZN p.r with
 | nil=>
  rw[ht] at hl;simp only[List.isPrefixOf];refine⟨?_,by simp⟩;rw[<-hl];simp[xq]
 | cons x r=>
  have hx:=xv ht;rw[ht] at hl Wv;by_cases Jt:x=b/\r.head? =some b
  ·obtain⟨rfl,hr⟩:=Jt;cases r with
   | nil=>simp at hr
   | cons y r=>
    simp at hr;subst hr;simp only[List.isPrefixOf,beq_self_eq_true,bg];refine⟨by rw[<-hl,qM hb];simp,trivial,trivial,by simp at Wv ⊢;omega⟩
  ·have: [b,b].isPrefixOf (x::r)=false:=by
    rw[<-Bool.not_eq_true];intro h;cases r with
    | nil=>simp[List.isPrefixOf] at h
    | cons y r=>simp[List.isPrefixOf] at h;exact Jt ⟨h.1.symm,by simp[h.2]⟩
   rw[this];simp only;refine⟨λh=>?_,by simp⟩;rw[<-hl] at h;by_cases h2:x=40∨x=41∨x=33
   ·rw[nV h2] at h;simp at h
   ·by_cases h3:(x=38∨x=124)/\r.head? =some x
    ·cases r with
     | nil=>simp at h3
     | cons y r=>
      simp at h3;obtain⟨h3,rfl⟩:=h3;rw[qM h3] at h;simp at h;exact Jt ⟨h,by simp[h]⟩
    ·by_cases h4:bm x=true
     ·have kG:Ze b=false:=by rcases hb with rfl | rfl<;>decide
      rw[xu h4,bN,Qe (uo h4)] at h;simp at h;have hi:=uo h4;rw[h.1,kG] at hi;cases hi
     ·rw[Ch hx h2 h3 (by simpa using h4)] at h;simp at h
def YH (op:List Nat)(mk:Fm->Fm->Fm)(opd:List (List Nat)->Option (Fm×Bool×List (List Nat))):Nat->Fm->Bool->List (List Nat)->Option (Fm×Bool×List (List Nat))
 | 0,_,_,_=>none
 | m+1,a,u,ts=>if ts.head? =some op then
   match opd ts.tail with
   | none=>none
   | some (b,v,Jp)=>YH op mk opd m (mk a b) (u||v) Jp
  else some (a,u,ts)
def YX (op:List Nat)(mk:Fm->Fm->Fm)(opd:List (List Nat)->Option (Fm×Bool×List (List Nat)))(ts:List (List Nat)):Option (Fm×Bool×List (List Nat)):=match opd ts with
 | none=>none
 | some (a,u,Jp)=>YH op mk opd (Jp.length+1) a u Jp
def Hu (t:List Nat):Bool:=match t with
 | []=>false
 | b::_=>bm b
def lF (ix:List Nat->Option Nat)(t:List Nat):Fm×Bool:=if t=WC then(.c true,false)else if t=cJ then(.c false,false)else(.v ((ix t).getD 0),(ix t).isNone)
def KU (ix:List Nat->Option Nat):Nat->List (List Nat)->Option (Fm×Bool×List (List Nat))
 | 0,_=>none
 | _+1,[]=>none
 | n+1,t::ts=>if t=[33] then
   match KU ix n ts with
   | none=>none
   | some (a,u,Jp)=>some (.not a,u,Jp)
  else if t=[40] then
   match YX [124,124] .or (YX [38,38] .and (KU ix n)) ts with
   | none=>none
   | some (a,u,Jp)=>if Jp.head? =some [41] then some (a,u,Jp.tail)else none
  else if Hu t then some ((lF ix t).1,(lF ix t).2,ts)else none
def uq (ix:List Nat->Option Nat)(n:Nat)(ts:List (List Nat)):Option (Fm×Bool×List (List Nat)):=YX [124,124] .or (YX [38,38] .and (KU ix n)) ts
def Za:Fm->Nat->List Fz
 | .c b,_=>[⟨if b then 1 else 0,0,0,0⟩]
 | .v n,_=>[⟨2,(n:Nat),0,0⟩]
 | .not a,k=>Za a k++ [⟨3,0,((k+QG a-1:Nat):Int),0⟩]
 | .and a b,k=>Za a k++Za b (k+QG a)++ [⟨4,0,((k+QG a-1:Nat):Int),((k+QG a+QG b-1:Nat):Int)⟩]
 | .or a b,k=>Za a k++Za b (k+QG a)++ [⟨5,0,((k+QG a-1:Nat):Int),((k+QG a+QG b-1:Nat):Int)⟩]
theorem J4:∀(t:Fm)(k:Nat),(Za t k).length=QG t
 | .c _,_=>rfl
 | .v _,_=>rfl
 | .not a,k=>by simp[Za,QG,J4 a k]
 | .and a b,k=>by simp[Za,QG,J4 a k,J4 b,kS]
 | .or a b,k=>by simp[Za,QG,J4 a k,J4 b,kS]
theorem YI:∀t:Fm,0<QG t
 | .c _=>Nat.one_pos
 | .v _=>Nat.one_pos
 | .not _=>Nat.succ_pos _
 | .and _ _=>Nat.succ_pos _
 | .or _ _=>Nat.succ_pos _
def qP (p:Ps)(r:Option (Nat×Ps))(rt:Option (Fm×Bool×List (List Nat))):Prop:=match rt with
 | none=>r=none
 | some (t,u,ts)=>∃p',r=some (p.f.length+QG t-1,p')/\p'.f=p.f++Za t p.f.length/\p'.u=(p.u||u)/\XX p'.r=(ts,(XX p.r).2)/\p'.r.length<p.r.length
def xw (opd:Ps->Option (Nat×Ps))(opt:List (List Nat)->Option (Fm×Bool×List (List Nat))):Prop:=∀p,qP p (opd p) (opt (XX p.r).1)
def lG (opt:List (List Nat)->Option (Fm×Bool×List (List Nat))):Prop:=∀ts t u Jp,opt ts=some (t,u,Jp)->Jp.length<ts.length
theorem S3 {op:List Nat}{o:Int}{mk:Fm->Fm->Fm}{opd:Ps->Option (Nat×Ps)}{opt:List (List Nat)->Option (Fm×Bool×List (List Nat))}
  (aU:∀p,match Ks op p with
   | (true,p')=>XX p.r=(op::(XX p'.r).1,(XX p'.r).2)/\p'.f=p.f/\p'.u=p.u/\p'.r.length<p.r.length
   | (false,p')=>(XX p.r).1.head? ≠some op/\p'={p with r:=ZN p.r})
  (Fx:∀a b k,Za (mk a b) k=Za a k++Za b (k+QG a)++ [⟨o,0,((k+QG a-1:Nat):Int),((k+QG a+QG b-1:Nat):Int)⟩]) (X7:∀a b,QG (mk a b)=QG a+QG b+1) (H:xw opd opt) (hl:lG opt):
  ∀(m m':Nat) (a:Fm) (u:Bool) (p0 p:Ps),p.f=p0.f++Za a p0.f.length->p.u=(p0.u||u)->(XX p.r).2=(XX p0.r).2->p.r.length<p0.r.length->p.r.length<m->(XX p.r).1.length<m'->
   qP p0 (gr op o opd m (p0.f.length+QG a-1) p) (YH op mk opt m' a u (XX p.r).1)
 | 0,m',a,u,p0,p,_,_,_,_,h,_=>by omega
 | m+1,0,a,u,p0,p,_,_,_,_,_,h=>by omega
 | m+1,m'+1,a,u,p0,p,hf,hu,Ka,hr,hm,Fw=>by
  have hs:=aU p;unfold gr YH;cases kJ:Ks op p with
  | mk b p1=>
  rw[kJ] at hs;cases b with
  | false=>
   obtain⟨h1,rfl⟩:=hs;rw[if_neg h1];refine⟨_,rfl,hf,hu,?_,?_⟩
   ·simp only;rw[qO,<-Ka]
   ·have:=tW p.r;simp only;omega
  | true=>
   obtain⟨h1,h2,h3,h4⟩:=hs;have hh:=QD Prod.fst h1;have yE:=QD Prod.snd h1;simp only at hh yE;rw[hh,Gh,Qe rfl,List.tail_cons];simp only;have hc:=H p1;cases ho:opt (XX p1.r).1 with
   | none=>
    rw[ho] at hc;simp only[qP] at hc ⊢;rw[hc]
   | some q=>
    obtain⟨t,v,ts⟩:=q;rw[ho] at hc;obtain⟨p2,e1,e2,e3,e4,e5⟩:=hc;rw[e1];simp only;have Xe:=hl _ _ _ _ ho;have pa:=YI a;have pt:=YI t;rw[hf] at h2;have Ja:p1.f.length=p0.f.length+QG a:=by rw[h2,Qq,J4]
    have ih:=S3 aU Fx X7 H hl m m' (mk a t) (u||v) p0 {p2 with f:=p2.f++ [⟨o,0,((p0.f.length+QG a-1:Nat):Int),((p1.f.length+QG t-1:Nat):Int)⟩]}
     (by simp only;rw[e2,h2,Fx,Qq,J4];simp) (by simp only;rw[e3,h3,hu,Gi]) (by simp only;rw[e4,<-yE,Ka]) (by simp only;omega) (by simp only;omega)
     (by simp only;rw[e4];simp only;rw[hh] at Fw;simp only[Q6] at Fw;omega)
    simp only[e4] at ih;have hx:p2.f.length=p0.f.length+QG (mk a t)-1:=by rw[e2,Qq,J4,Ja,X7];omega
    rw[hx];exact ih
theorem Cj {op:List Nat}{o:Int}{mk:Fm->Fm->Fm}{opd:Ps->Option (Nat×Ps)}{opt:List (List Nat)->Option (Fm×Bool×List (List Nat))}
  (aU:∀p,match Ks op p with
   | (true,p')=>XX p.r=(op::(XX p'.r).1,(XX p'.r).2)/\p'.f=p.f/\p'.u=p.u/\p'.r.length<p.r.length
   | (false,p')=>(XX p.r).1.head? ≠some op/\p'={p with r:=ZN p.r})
  (Fx:∀a b k,Za (mk a b) k=Za a k++Za b (k+QG a)++ [⟨o,0,((k+QG a-1:Nat):Int),((k+QG a+QG b-1:Nat):Int)⟩]) (X7:∀a b,QG (mk a b)=QG a+QG b+1) (H:xw opd opt) (hl:lG opt):xw (VM op o opd) (YX op mk opt):=λp=>by
 have hc:=H p;unfold VM YX;cases ho:opt (XX p.r).1 with
 | none=>
  rw[ho] at hc;simp only[qP] at hc ⊢;rw[hc]
 | some q=>
  obtain⟨t,v,ts⟩:=q;rw[ho] at hc;obtain⟨p2,e1,e2,e3,e4,e5⟩:=hc;rw[e1];simp only;have:=S3 aU Fx X7 H hl (p2.r.length+1) (ts.length+1) t v p p2 e2 e3 (by rw[e4]) e5 (by omega) (by rw[e4];exact eL _);rw[e4] at this;exact this
theorem S4 {op:List Nat}{mk:Fm->Fm->Fm}{opt:List (List Nat)->Option (Fm×Bool×List (List Nat))}(hl:lG opt):∀(m:Nat)(a:Fm)(u:Bool)(ts:List (List Nat))(t:Fm)(v:Bool)(Jp:List (List Nat)),YH op mk opt m a u ts=some (t,v,Jp)->Jp.length<=ts.length
 | 0,a,u,ts,t,v,Jp,h=>by cases h
 | m+1,a,u,ts,t,v,Jp,h=>by
  unfold YH at h;split at h
  ·cases ho:opt ts.tail with
   | none=>rw[ho] at h;cases h
   | some q=>
    obtain⟨b,v2,rO⟩:=q;rw[ho] at h;have h1:=S4 hl m _ _ _ _ _ _ h;have h2:=hl _ _ _ _ ho;rw[Bi] at h2;omega
  ·cases h;exact QC _
theorem xx {op:List Nat}{mk:Fm->Fm->Fm}{opt:List (List Nat)->Option (Fm×Bool×List (List Nat))}(hl:lG opt):lG (YX op mk opt):=λts t u Jp h=>by
 unfold YX at h;cases ho:opt ts with
 | none=>rw[ho] at h;cases h
 | some q=>
  obtain⟨b,v2,rO⟩:=q;rw[ho] at h;have h1:=S4 hl _ _ _ _ _ _ _ h;have h2:=hl _ _ _ _ ho;omega
theorem ur (ix:List Nat->Option Nat):∀n,lG (KU ix n)
 | 0=>λts t u Jp h=>by cases h
 | n+1=>λts t u Jp h=>by
  have ih:=ur ix n;cases ts with
  | nil=>cases h
  | cons x ts=>
   unfold KU at h;split at h
   ·cases ho:KU ix n ts with
    | none=>rw[ho] at h;cases h
    | some q=>
     obtain⟨b,v2,rO⟩:=q;rw[ho] at h;have:=ih _ _ _ _ ho;cases h;simp;omega
   ·split at h
    ·cases ho:YX [124,124] .or (YX [38,38] .and (KU ix n)) ts with
     | none=>rw[ho] at h;cases h
     | some q=>
      obtain⟨b,v2,rO⟩:=q;rw[ho] at h;have:=xx (op:=[124,124]) (mk:=.or) (xx (op:=[38,38]) (mk:=.and) ih) _ _ _ _ ho;simp only at h;split at h
      ·cases h;simp[Bi];omega
      ·cases h
    ·split at h
     ·cases h;simp
     ·cases h
theorem hQk (p:Nat->Bool)(l:List Nat):l.take (l.takeWhile p).length=l.takeWhile p:=by
 induction l with
 | nil=>rfl
 | cons x l ih=>
  rw[bN];split
  ·rw[Q6,nC,ih]
  ·rfl
theorem hQm (p:Nat->Bool)(l:List Nat):l.drop (l.takeWhile p).length=l.dropWhile p:=by
 induction l with
 | nil=>rfl
 | cons x l ih=>
  rw[bN,qa];split
  ·rw[Q6,PW,ih]
  ·rfl
theorem hQn (l:List Nat):ZN (ZN l)=ZN l:=by
 cases h:ZN l with
 | nil=>rfl
 | cons b r=>
  have:=xv h;unfold ZN;rw[qa,if_neg (by simpa using this)]
theorem S5 {x:Nat}{r:List Nat}(h:VL (x::r)≠0):bm x=true/\VL (x::r)=((x::r).takeWhile Ze).length:=by
 have e:VL (x::r)=if isDig x then 0 else((x::r).takeWhile Ze).length:=rfl
 rw[e] at h ⊢;split at h
 ·exact Xd rfl h
 ·rename_i hd;rw[if_neg hd];refine⟨?_,rfl⟩;rw[bN] at h;split at h
  ·rename_i hi;unfold Ze at hi;rw[Bool.or_eq_true] at hi;exact hi.resolve_right hd
  ·exact Xd rfl h
theorem hQo {x:Nat}{r:List Nat}(h:VL (x::r)=0):bm x=false:=by
 have e:VL (x::r)=if isDig x then 0 else((x::r).takeWhile Ze).length:=rfl
 rw[e] at h;rw[<-Bool.not_eq_true];intro hl;have hb:x=95∨(97<=x/\x<=122)∨(65<=x/\x<=90):=by unfold bm at hl;simp at hl;omega
 rw[if_neg (by unfold isDig;simp;omega),bN,Qe (uo hl)] at h;simp at h
theorem hQp {x:Nat}{r:List Nat}(h:bm x=true):Hu ((x::r).takeWhile Ze)=true:=by
 rw[bN,Qe (uo h)];exact h
theorem S8 (ix:List Nat->Option Nat):∀n,xw (cI ix n) (KU ix n)
 | 0=>λp=>rfl
 | n+1=>λp=>by
  have ih:=S8 ix n;have eI:=ur ix n;have s1:=Ht (b:=33) (by omega) p;cases hk:Ks [33] p with
  | mk b p1=>
  rw[hk] at s1;cases b with
  | true=>
   obtain⟨h1,h2,h3,h4⟩:=s1;rw[G3 ix n hk,h1];have hc:=ih p1;unfold KU;rw[Qe rfl];cases ho:KU ix n (XX p1.r).1 with
   | none=>
    rw[ho] at hc;simp only[qP] at hc ⊢;rw[hc]
   | some q=>
    obtain⟨t,v,ts⟩:=q;rw[ho] at hc;obtain⟨p2,e1,e2,e3,e4,e5⟩:=hc;rw[e1];have pt:=YI t;refine⟨(Yg ⟨3,0,((p1.f.length+QG t-1:Nat):Int),0⟩ p2).2,?_,?_,?_,?_,?_⟩
    ·simp only[Yg];rw[e2,Qq,J4,h2]<;>rfl
    ·simp only[Yg];rw[e2,h2];simp[Za]
    ·simp only[Yg];rw[e3,h3]
    ·simp only[Yg];rw[e4,h1]
    ·simp only[Yg];omega
  | false=>
   obtain⟨h1,rfl⟩:=s1;have s2:=Ht (b:=40) (by omega) {p with r:=ZN p.r};cases V7:Ks [40] {p with r:=ZN p.r}with
   | mk b p2=>
   rw[V7] at s2;have Wv:=tW p.r;cases b with
   | true=>
    obtain⟨h5,h6,h7,h8⟩:=s2;simp only[qO] at h5 h6 h7 h8;rw[G4 ix n hk V7,h5];have hc:=Cj (op:=[124,124]) (o:=5) (mk:=.or) (λp=>Ci (by omega) p) (λa b k=>rfl) (λa b=>rfl) (Cj (op:=[38,38]) (o:=4) (mk:=.and) (λp=>Ci (by omega) p) (λa b k=>rfl) (λa b=>rfl) ih eI) (xx eI) p2;unfold KU;rw[if_neg (by decide),Qe rfl];unfold iy;cases ho:YX [124,124] Fm.or (YX [38,38] Fm.and (KU ix n)) (XX p2.r).1 with
    | none=>
     rw[ho] at hc;simp only[qP] at hc ⊢;rw[hc]
    | some q=>
     obtain⟨t,v,ts⟩:=q;rw[ho] at hc;obtain⟨p3,e1,e2,e3,e4,e5⟩:=hc;rw[e1];simp only;have s3:=Ht (b:=41) (by omega) p3;cases kh:Ks [41] p3 with
     | mk b p4=>
     rw[kh] at s3;cases b with
     | true=>
      obtain⟨g1,g2,g3,g4⟩:=s3;have ht:=QD Prod.fst (e4.symm.trans g1);have my:=QD Prod.snd (e4.symm.trans g1);simp only at ht my;rw[ht,Gh,Qe rfl,List.tail_cons];refine⟨_,by rw[h6],by rw[g2,e2,h6],by rw[g3,e3,h7],?_,?_⟩
      ·rw[h5];simp only;rw[my]
      ·omega
     | false=>
      obtain⟨g1,rfl⟩:=s3;rw[e4] at g1;simp only at g1;rw[if_neg g1]<;>rfl
   | false=>
    obtain⟨h5,rfl⟩:=s2;simp only[qO] at h5;rw[G5 ix n hk V7];simp only[hQn];have hl:=qO p.r;cases ht:ZN p.r with
    | nil=>
     rw[ht,xq] at hl;rw[<-hl]<;>rfl
    | cons x r=>
     have hx:=xv ht;rw[ht] at hl Wv;rw[<-hl] at h1 h5 ⊢;by_cases kG:VL (x::r)=0
     ·rw[Qe kG];have h4:=hQo kG;have:KU ix (n+1) (XX (x::r)).1=none:=by
       by_cases h2:x=40∨x=41∨x=33
       ·rw[nV h2] at h1 h5 ⊢;simp only[Gh,ne_eq,Option.some.injEq,List.cons.injEq,and_true] at h1 h5;have:x=41:=by omega
        subst this;rfl
       ·by_cases h3:(x=38∨x=124)/\r.head? =some x
        ·cases r with
         | nil=>simp at h3
         | cons y r=>
          simp at h3;obtain⟨h3,rfl⟩:=h3;rw[qM h3];rcases h3 with rfl | rfl<;>rfl
        ·rw[Ch hx h2 h3 h4]<;>rfl
      rw[this]<;>rfl
     ·rw[if_neg kG];obtain⟨XJ,Ka⟩:=S5 kG;rw[Ka,hQk,hQm];have oQV:=xu (l:=r) XJ;rw[oQV] at h1 h5 hl ⊢;simp only[Gh,ne_eq,Option.some.injEq] at h1 h5;unfold KU;rw[if_neg h1,if_neg h5,Qe (hQp XJ)];have Q0:((x::r).dropWhile Ze).length<p.r.length:=by
       rw[Cf XJ];have:=Cg Ze r;simp only[Q6] at Wv;omega
      unfold lF;by_cases o8:(x::r).takeWhile Ze=WC
      ·rw[Qe o8,Qe o8];exact⟨_,rfl,rfl,by simp,by simp only;rw[<-hl],Q0⟩
      ·rw[if_neg o8,if_neg o8];by_cases my:(x::r).takeWhile Ze=cJ
       ·rw[Qe my,Qe my];exact⟨_,rfl,rfl,by simp,by simp only;rw[<-hl],Q0⟩
       ·rw[if_neg my,if_neg my];exact⟨_,rfl,rfl,rfl,by simp only;rw[<-hl],Q0⟩
theorem hQq (ix:List Nat->Option Nat)(n:Nat):xw (iy ix n) (uq ix n):=
 Cj (op:=[124,124]) (o:=5) (mk:=.or) (λp=>Ci (by omega) p) (λ_ _ _=>rfl) (λ_ _=>rfl) (Cj (op:=[38,38]) (o:=4) (mk:=.and) (λp=>Ci (by omega) p) (λ_ _ _=>rfl) (λ_ _=>rfl) (S8 ix n) (ur ix n)) (xx (ur ix n))
theorem hQr (l:List Nat):ZN l=[]↔XX l=([],true):=by
 rw[<-qO l];cases h:ZN l with
 | nil=>simp[xq]
 | cons x r=>
  have hx:=xv h;simp only[reduceCtorEq,false_iff];intro e;by_cases h2:x=40∨x=41∨x=33
  ·rw[nV h2] at e;simp at e
  ·by_cases h3:(x=38∨x=124)/\r.head? =some x
   ·cases r with
    | nil=>simp at h3
    | cons y r=>
     simp at h3;obtain⟨h3,rfl⟩:=h3;rw[qM h3] at e;simp at e
   ·by_cases h4:bm x=true
    ·rw[xu h4] at e;simp at e
    ·rw[Ch hx h2 h3 (by simpa using h4)] at e;simp at e
def Ck (names:List (List Nat))(s:List Nat):List Fz×Int:=if ZQ names then
  if(XX s).2 then match uq (Jj names) (s.length+1) (XX s).1 with
   | none=>([],31)
   | some (t,u,ts)=>if ts≠ [] then([],31)else if u then([],3)else if 512<QG t then([],2)else(Za t 0,0)
  else([],31)
 else([],1)
theorem S9 (names:List (List Nat))(s:List Nat):dP names s=Ck names s:=by
 unfold dP Ck;by_cases hn:ZQ names=true
 ·rw[Qe hn,Qe hn];have hc:=hQq (Jj names) (s.length+1) ⟨s,[],false⟩;simp only at hc;cases ho:uq (Jj names) (s.length+1) (XX s).1 with
  | none=>
   rw[ho] at hc;simp only[qP] at hc;rw[hc];simp
  | some q=>
   obtain⟨t,v,ts⟩:=q;rw[ho] at hc;obtain⟨p2,e1,e2,e3,e4,e5⟩:=hc;rw[e1];simp only at e2 e3 e4 ⊢;simp only[aZ,Ji,Bool.false_or] at e2 e3;have he:=hQr p2.r;rw[e4] at he;by_cases hf:(XX s).2=true
   ·rw[Qe hf];rw[hf] at he;simp only[Prod.mk.injEq,and_true] at he;rw[e3,e2,J4];by_cases cv:ts=[]
    ·rw[if_neg (λh=>h (he.2 cv)),if_neg (c:=ts≠ []) (λh=>h cv)]
    ·rw[Qe (λh=>cv (he.1 h)),Qe cv]
   ·rw[if_neg hf,Qe (λh=>hf (by have:=QD Prod.snd (he.1 h);simpa using this))]
 ·rw[if_neg hn,if_neg hn]
end
section
def V5 (b:Bool)(ts:List (List Nat)):List (List Nat):=if b then [40]::ts++ [[41]] else ts
def Jq (nm:List (List Nat)):Fm->List (List Nat)
 | .c b=>[if b then WC else cJ]
 | .v n=>[nm[n]?.getD []]
 | .not a=>[33]::V5 (decide (ZT a<2)) (Jq nm a)
 | .and a b=>V5 (decide (ZT a<1)) (Jq nm a)++ [38,38]::V5 (decide (ZT b<2)) (Jq nm b)
 | .or a b=>Jq nm a++ [124,124]::V5 (decide (ZT b<1)) (Jq nm b)
theorem hQs (nm:List (List Nat)):∀t:Fm,0<(Jq nm t).length
 | .c _=>Nat.one_pos
 | .v _=>Nat.one_pos
 | .not _=>Nat.succ_pos _
 | .and _ _=>by simp only[Jq,Qq,Q6];omega
 | .or _ _=>by simp only[Jq,Qq,Q6];omega
def Stop (l:List Nat):Prop:=∀b r,l=b::r->Ze b=false
theorem Stop.nil:Stop []:=λ_ _ h=>by cases h
theorem Stop.cons {b:Nat}{r:List Nat}(h:Ze b=false):Stop (b::r):=λ_ _ e=>by cases e;exact h
def nW (w:List Nat):Prop:=(∃b r,w=b::r/\bm b=true)/\∀x∈w,Ze x=true
theorem hQt {w rest:List Nat}(h:∀x∈w,Ze x=true)(hs:Stop rest):(w++rest).takeWhile Ze=w/\(w++rest).dropWhile Ze=rest:=by
 induction w with
 | nil=>
  cases rest with
  | nil=>exact⟨rfl,rfl⟩
  | cons b r=>
   have:=hs b r rfl;rw[aZ,bN,qa,if_neg (by rw[this];decide),if_neg (by rw[this];decide)];exact⟨rfl,rfl⟩
 | cons x w ih=>
  obtain⟨h1,h2⟩:=ih (λy hy=>h y (by simp[hy]));have hx:=h x (by simp);rw[Z5,bN,qa,Qe hx,Qe hx,h1,h2];exact⟨rfl,rfl⟩
theorem hQu {w rest:List Nat}(h:nW w)(hs:Stop rest):XX (w++rest)=(w::(XX rest).1,(XX rest).2):=by
 obtain⟨⟨b,r,rfl,hb⟩,hall⟩:=h;obtain⟨h1,h2⟩:=hQt hall hs;rw[Z5] at h1 h2 ⊢;rw[xu hb,h1,h2]
theorem hQv {w:List Nat}(h:nW w):Hu w=true:=by
 obtain⟨⟨b,r,rfl,hb⟩,_⟩:=h;exact hb
theorem Hv {s:List Nat}(h:az s=true):nW s/\s≠WC/\s≠cJ:=by
 unfold az at h;rw[VJ] at h;obtain⟨h1,h2,h3,h4⟩:=h;cases s with
 | nil=>exact Xd rfl h1
 | cons b r=>
  obtain⟨hl,he⟩:=S5 (x:=b) (r:=r) (by rw[h2];simp);rw[he] at h2;refine⟨⟨⟨b,r,rfl,hl⟩,λx hx=>?_⟩,h3,h4⟩;have:(b::r).takeWhile Ze=b::r:=(List.takeWhile_prefix Ze).eq_of_length h2;rw[<-this] at hx;exact(J0.1 (List.all_takeWhile (p:=Ze) (l:=b::r))) x hx
theorem Ta:nW WC:=⟨⟨116,_,rfl,by decide⟩,by decide⟩
theorem Tb:nW cJ:=⟨⟨102,_,rfl,by decide⟩,by decide⟩
structure NmOk (nm:List (List Nat)) (ix:List Nat->Option Nat):Prop where
 word:∀k,k<nm.length->az (nm[k]?.getD [])=true
 ix:∀k,k<nm.length->ix (nm[k]?.getD [])=some k
def LexS (s:List Nat)(ts:List (List Nat)):Prop:=∀rest,Stop rest->XX (s++rest)=(ts++(XX rest).1,(XX rest).2)
theorem LexS.par {s:List Nat}{ts:List (List Nat)}(h:LexS s ts)(b:Bool):LexS (YF b s) (V5 b ts):=by
 cases b with
 | false=>exact h
 | true=>
  intro rest hs;show XX (40::s++ [41]++rest)=_;rw[Z5,Z5,nV (by omega),ZR,List.singleton_append,h (41::rest) (Stop.cons (by decide)),nV (by omega)];simp[V5]
theorem LexS.word {w:List Nat}(h:nW w):LexS w [w]:=λ_ hs=>hQu h hs
theorem ut {nm:List (List Nat)}{ix:List Nat->Option Nat}(hn:NmOk nm ix):∀(t:Fm),VarsIn nm.length t->LexS (Jy nm t) (Jq nm t)
 | .c b,_=>by
  cases b with
  | true=>exact LexS.word Ta
  | false=>exact LexS.word Tb
 | .v n,h=>LexS.word (Hv (hn.word n h)).1
 | .not a,h=>by
  have ih:=(ut hn a h).par (decide (ZT a<2));intro rest hs;show XX (33::YF _ _++rest)=_;rw[Z5,nV (by omega),ih rest hs]<;>rfl
 | .and a b,h=>by
  have iha:=(ut hn a h.1).par (decide (ZT a<1));have ihb:=(ut hn b h.2).par (decide (ZT b<2));intro rest hs;show XX (YF _ _++ [32,38,38,32]++YF _ _++rest)=_;rw[ZR,ZR,show [32,38,38,32]++(YF (decide (ZT b<2)) (Jy nm b)++rest)=32::38::38::32::(YF (decide (ZT b<2)) (Jy nm b)++rest) from rfl];rw[iha _ (Stop.cons (b:=32) (by decide)),xr (by omega),qM (by omega),xr (by omega),ihb rest hs];simp[Jq]
 | .or a b,h=>by
  have iha:=ut hn a h.1;have ihb:=(ut hn b h.2).par (decide (ZT b<1));intro rest hs;show XX (YF (decide (ZT a<0)) _++ [32,124,124,32]++YF _ _++rest)=_;rw[show decide (ZT a<0)=false from Zn (by omega)];show XX (Jy nm a++ [32,124,124,32]++YF _ _++rest)=_;rw[ZR,ZR,show [32,124,124,32]++(YF (decide (ZT b<1)) (Jy nm b)++rest)=32::124::124::32::(YF (decide (ZT b<1)) (Jy nm b)++rest) from rfl];rw[iha _ (Stop.cons (b:=32) (by decide)),xr (by omega),qM (by omega),xr (by omega),ihb rest hs];simp[Jq]
theorem hQw {nm:List (List Nat)}{ix:List Nat->Option Nat}(hn:NmOk nm ix)(t:Fm)(h:VarsIn nm.length t):XX (ZU nm 0 t)=(Jq nm t,true):=by
 have:=ut hn t h [] Stop.nil;unfold ZU;rw[show decide (ZT t<0)=false from Zn (by omega)];simp only[JZ,xq] at this;exact this
theorem Tc {op:List Nat}{mk:Fm->Fm->Fm}{opt:List (List Nat)->Option (Fm×Bool×List (List Nat))}(hl:lG opt):∀(m m':Nat)(a:Fm)(u:Bool)(ts:List (List Nat)),ts.length<m->ts.length<m'->YH op mk opt m a u ts=YH op mk opt m' a u ts
 | 0,_,_,_,_,h,_=>by omega
 | _+1,0,_,_,_,_,h=>by omega
 | m+1,m'+1,a,u,ts,h,h'=>by
  unfold YH;split
  ·cases ho:opt ts.tail with
   | none=>rfl
   | some q=>
    obtain⟨b,v,Jp⟩:=q;have:=hl _ _ _ _ ho;rw[Bi] at this;exact Tc hl m m' _ _ Jp (by omega) (by omega)
  ·rfl
theorem Cl {op:List Nat}{mk:Fm->Fm->Fm}{opt:List (List Nat)->Option (Fm×Bool×List (List Nat))}{m:Nat}{a:Fm}{u:Bool}{ts:List (List Nat)}(h:ts.head? ≠some op):YH op mk opt (m+1) a u ts=some (a,u,ts):=by
 unfold YH;rw[if_neg h]
theorem Td {op:List Nat}{mk:Fm->Fm->Fm}{opt:List (List Nat)->Option (Fm×Bool×List (List Nat))}(hl:lG opt){m:Nat}{a b:Fm}{u v:Bool}{ts Jp:List (List Nat)}(h:opt ts=some (b,v,Jp)):YH op mk opt ((op::ts).length+m) a u (op::ts)=YH op mk opt (Jp.length+1) (mk a b) (u||v) Jp:=by
 have:=hl _ _ _ _ h;have e:YH op mk opt ((ts.length+m)+1) a u (op::ts)=YH op mk opt (ts.length+m) (mk a b) (u||v) Jp:=by
  rw[YH,Gh,Qe rfl,List.tail_cons,h]
 rw[Q6,show ts.length+1+m=(ts.length+m)+1 by omega,e];exact Tc hl _ _ _ _ _ (by omega) (by omega)
theorem hQx (ix:List Nat->Option Nat)(b:Bool):lF ix (if b then WC else cJ)=(.c b,false):=by cases b<;>rfl
theorem hQy {nm:List (List Nat)}{ix:List Nat->Option Nat}(hn:NmOk nm ix){n:Nat}(h:n<nm.length):lF ix (nm[n]?.getD [])=(.v n,false):=by
 obtain⟨_,h1,h2⟩:=Hv (hn.word n h);unfold lF;rw[if_neg h1,if_neg h2,hn.ix n h]<;>rfl
theorem hQz {w:List Nat}(h:nW w):w≠ [33]/\w≠ [40]/\w≠ [41]/\w≠ [38,38]/\w≠ [124,124]:=by
 obtain⟨⟨b,r,rfl,hb⟩,_⟩:=h;refine⟨?_,?_,?_,?_,?_⟩<;>(intro e;cases e;exact Xd hb (by decide))
theorem Te {ix:List Nat->Option Nat}{n:Nat}{w:List Nat}{rest:List (List Nat)}(h:nW w):KU ix (n+1) (w::rest)=some ((lF ix w).1,(lF ix w).2,rest):=by
 have:=hQz h;unfold KU;rw[if_neg this.1,if_neg this.2.1,Qe (hQv h)]
abbrev uu (ix:List Nat->Option Nat)(n:Nat):=YX [38,38] Fm.and (KU ix n)
abbrev Tf (ix:List Nat->Option Nat)(n:Nat):=YX [124,124] Fm.or (uu ix n)
theorem hQA (ix:List Nat->Option Nat)(n:Nat):lG (uu ix n):=xx (ur ix n)
theorem Tg {op:List Nat}{mk:Fm->Fm->Fm}{opt:List (List Nat)->Option (Fm×Bool×List (List Nat))}{ts Jp:List (List Nat)}{a:Fm}{u:Bool}(h:opt ts=some (a,u,Jp)):YX op mk opt ts=YH op mk opt (Jp.length+1) a u Jp:=by
 unfold YX;rw[h]
def Hw (nm:List (List Nat))(ix:List Nat->Option Nat)(n:Nat):Prop:=∀(t:Fm)(rest:List (List Nat)),VarsIn nm.length t->(V5 (decide (ZT t<2)) (Jq nm t)).length<=n->KU ix n (V5 (decide (ZT t<2)) (Jq nm t)++rest)=some (t,false,rest)
theorem Th {nm:List (List Nat)}{ix:List Nat->Option Nat}{n:Nat}(F:Hw nm ix n):∀(t:Fm)(rest:List (List Nat)),VarsIn nm.length t->(V5 (decide (ZT t<1)) (Jq nm t)).length<=n->
  uu ix n (V5 (decide (ZT t<1)) (Jq nm t)++rest)=YH [38,38] .and (KU ix n) (rest.length+1) t false rest:=by
 intro t;have base:∀t,decide (ZT t<1)=decide (ZT t<2)->∀rest,VarsIn nm.length t->(V5 (decide (ZT t<1)) (Jq nm t)).length<=n->uu ix n (V5 (decide (ZT t<1)) (Jq nm t)++rest)=YH [38,38] .and (KU ix n) (rest.length+1) t false rest:=by
  intro t e rest hv hl;rw[e] at hl ⊢;exact Tg (F t rest hv hl)
 induction t with
 | c b=>exact base _ rfl
 | v k=>exact base _ rfl
 | not a _=>exact base _ rfl
 | or a b _ _=>exact base _ rfl
 | and a b iha _=>
  intro rest hv hl;have e:V5 (decide (ZT (.and a b)<1)) (Jq nm (.and a b))=V5 (decide (ZT a<1)) (Jq nm a)++ [38,38]::V5 (decide (ZT b<2)) (Jq nm b):=rfl;rw[e,Qq,Q6] at hl;rw[e,ZR,Z5,iha _ hv.1 (by omega)];have hf:=F b rest hv.2 (by omega);exact Td (ur ix n) (m:=1) hf
theorem Ti {nm:List (List Nat)}{ix:List Nat->Option Nat}{n:Nat}(F:Hw nm ix n):∀(t:Fm)(rest:List (List Nat)),VarsIn nm.length t->(Jq nm t).length<=n->rest.head? ≠some [38,38]->
  Tf ix n (Jq nm t++rest)=YH [124,124] .or (uu ix n) (rest.length+1) t false rest:=by
 intro t;have base:∀t,decide (ZT t<1)=false->∀rest,VarsIn nm.length t->(Jq nm t).length<=n->rest.head? ≠some [38,38]->Tf ix n (Jq nm t++rest)=YH [124,124] .or (uu ix n) (rest.length+1) t false rest:=by
  intro t e rest hv hl hs;have:=Th F t rest hv (by rw[e];exact hl);rw[e,Cl hs] at this;exact Tg this
 induction t with
 | c b=>exact base _ rfl
 | v k=>exact base _ rfl
 | not a _=>exact base _ rfl
 | and a b _ _=>exact base _ rfl
 | or a b iha _=>
  intro rest hv hl hs;have e:Jq nm (.or a b)=Jq nm a++ [124,124]::V5 (decide (ZT b<1)) (Jq nm b):=rfl;rw[e,Qq,Q6] at hl;rw[e,ZR,Z5,iha _ hv.1 (by omega) (by simp)];have hf:=Th F b rest hv.2 (by omega);rw[Cl hs] at hf;exact Td (hQA ix n) (m:=1) hf
theorem Tj {nm:List (List Nat)}{ix:List Nat->Option Nat}(hn:NmOk nm ix):∀n,Hw nm ix n
 | 0=>λt rest hv hl=>by
  have:∀(b:Bool),0<(V5 b (Jq nm t)).length:=by
   intro b;have:=hQs nm t;cases b with
   | true=>simp[V5]
   | false=>exact this
  have:=this (decide (ZT t<2));omega
 | n+1=>λt rest hv hl=>by
  have F:=Tj hn n;by_cases h2:ZT t<2
  ·rw[X2 h2] at hl ⊢;have e:V5 true (Jq nm t)++rest=[40]::(Jq nm t++ [41]::rest):=by simp[V5]
   have dv:(Jq nm t).length<=n:=by simp[V5] at hl;omega
   rw[e];have ho:=Ti F t ([41]::rest) hv dv (by simp);rw[Cl (by simp)] at ho;unfold KU;have Kp:YX [124,124] Fm.or (YX [38,38] Fm.and (KU ix n)) (Jq nm t++ [41]::rest)=some (t,false,[41]::rest):=ho;rw[if_neg (by decide),Qe rfl,Kp];simp
  ·rw[Zn h2] at hl ⊢;cases t with
   | c b=>
    show KU ix (n+1) ((if b then WC else cJ)::rest)=_;rw[Te (by cases b;exact Tb;exact Ta),hQx]
   | v k=>
    show KU ix (n+1) (nm[k]?.getD []::rest)=_;rw[Te (Hv (hn.word k hv)).1,hQy hn hv]
   | not a=>
    have dv:(V5 (decide (ZT a<2)) (Jq nm a)).length<=n:=by
     have:(V5 false (Jq nm (.not a))).length=(V5 (decide (ZT a<2)) (Jq nm a)).length+1:=rfl;omega
    show KU ix (n+1) ([33]::(V5 (decide (ZT a<2)) (Jq nm a)++rest))=_;unfold KU;rw[Qe rfl,F a rest hv dv]
   | and a b=>exact Xd (show ZT (.and a b)<2 by simp[ZT]) h2
   | or a b=>exact Xd (show ZT (.or a b)<2 by simp[ZT]) h2
theorem hQB {nm:List (List Nat)}{ix:List Nat->Option Nat}(hn:NmOk nm ix)(t:Fm)(hv:VarsIn nm.length t){n:Nat}(hl:(Jq nm t).length<=n):uq ix n (Jq nm t)=some (t,false,[]):=by
 have:=Ti (Tj hn n) t [] hv hl (by simp);rw[JZ,Cl (by simp)] at this;exact this
theorem Cm:∀(n:Nat)(l:List Nat),(Yj n l).1.length<=l.length
 | 0,l=>Xt _
 | n+1,[]=>Xt _
 | n+1,b::l=>by
  have i1:=Cm n l;have i2:=Cm n l.tail;rw[Bi] at i2;simp only[Yj,Q6];split
  ·omega
  ·split
   ·simp only[Q6];omega
   ·split
    ·rename_i h;cases l with
     | nil=>simp at h
     | cons y l=>simp only[Q6] at i2 ⊢;omega
    ·split
     ·rename_i h;have i3:=Cm n (l.dropWhile Ze);have:=Cg Ze l;rw[Cf h];simp only[Q6];omega
     ·simp
theorem hQC {nm:List (List Nat)}(hn:ZQ nm=true)(hi:NmOk nm (Jj nm))(t:Fm)(hv:VarsIn nm.length t)(hs:QG t<=512):dP nm (ZU nm 0 t)=(Za t 0,0):=by
 rw[S9];unfold Ck;have hl:=hQw hi t hv;have ZL:(Jq nm t).length<=(ZU nm 0 t).length+1:=by
  have:=Cm (ZU nm 0 t).length (ZU nm 0 t);have e:Yj (ZU nm 0 t).length (ZU nm 0 t)=(Jq nm t,true):=hl;rw[e] at this;exact Nat.le_succ_of_le this
 rw[Qe hn,hl];simp only;rw[Qe trivial,hQB hi t hv ZL];simp only;rw[if_neg (c:=([]:List (List Nat))≠ []) (λh=>h rfl),if_neg (by decide),if_neg (by omega)]
end
section
theorem Tk (a:ByteArray)(v:Value):∀m:List (ByteArray×Value),a∈m.map Prod.fst->(Zg a v m).map Prod.fst=m.map Prod.fst
 | [],h=>by simp at h
 | (b,u)::m,h=>by
  unfold Zg;by_cases e:a=b
  ·subst e;rw[Qe rfl]<;>rfl
  ·rw[if_neg e,Kr,Tk a v m (by simp only[Kr,Q3] at h;exact h.resolve_left e)];rfl
theorem Hx (a:ByteArray)(v:Value):∀m:List (ByteArray×Value),a∉m.map Prod.fst->(Zg a v m).map Prod.fst=m.map Prod.fst++ [a]
 | [],_=>rfl
 | (b,u)::m,h=>by
  simp only[Kr,Q3,not_or] at h;unfold Zg;rw[if_neg h.1,Kr,Hx a v m h.2]<;>rfl
theorem Tl (a:ByteArray)(v:Value)(m:List (ByteArray×Value))(h:a∈m.map Prod.fst):(Zg a v m).length=m.length:=by
 have:=QD List.length (Tk a v m h);simpa using this
theorem Tm (a:ByteArray)(v:Value)(m:List (ByteArray×Value))(h:a∉m.map Prod.fst):(Zg a v m).length=m.length+1:=by
 have:=QD List.length (Hx a v m h);simpa using this
theorem Tn:∀(l:List (List Nat))(i:Nat)(m:List (ByteArray×Value)),(YV l i m).length<=m.length+l.length
 | [],_,m=>QC _
 | s::l,i,m=>by
  have:=Tn l (i+1) (Zg (Qf s) (.int .i64 (i:Nat)) m);simp only[YV,Q6];by_cases h:Qf s∈m.map Prod.fst
  ·have:=Tl _ (.int .i64 (i:Nat)) m h;omega
  ·have:=Tm _ (.int .i64 (i:Nat)) m h;omega
theorem To:∀(l:List (List Nat))(i:Nat)(m:List (ByteArray×Value)),(∀s∈l,∀x∈s,x<256)->((YV l i m).length=m.length+l.length↔l.Nodup/\∀s∈l,Qf s∉m.map Prod.fst)
 | [],_,m,_=>by simp[YV]
 | s::l,i,m,hb=>by
  have hs:=hb s (by simp);have ih:=To l (i+1) (Zg (Qf s) (.int .i64 (i:Nat)) m) (λt ht=>hb t (by simp[ht]));have ZL:=Tn l (i+1) (Zg (Qf s) (.int .i64 (i:Nat)) m);simp only[YV,Q6];by_cases h:Qf s∈m.map Prod.fst
  ·have hl:=Tl _ (.int .i64 (i:Nat)) m h;constructor
   ·intro e;omega
   ·intro e;exact Xd h (e.2 s (by simp))
  ·have hl:=Tm _ (.int .i64 (i:Nat)) m h;have hk:=Hx _ (.int .i64 (i:Nat)) m h;rw[show m.length+(l.length+1)=(Zg (Qf s) (.int .i64 (i:Nat)) m).length+l.length by omega,ih,hk];simp only[Bj,Xv,not_or,Q3];constructor
   ·rintro⟨h1,h2⟩;refine⟨⟨λhm=>(h2 s hm).2.1 rfl,h1⟩,λt ht=>?_⟩;rcases ht with rfl | ht
    ·exact h
    ·exact(h2 t ht).1
   ·rintro⟨⟨h1,h2⟩,h3⟩;refine⟨h2,λt ht=>⟨h3 t (.inr ht),λe=>?_,by simp⟩⟩;have:=Kg (hb t (by simp[ht])) hs e;subst this;exact h1 ht
theorem Tp {names:List (List Nat)}(hb:KG names):ZQ names=true↔names.all az=true/\names.Nodup/\names.length<=64:=by
 have:=To names 0 [] (λs hs=>(hb s hs).1);simp only[Ji,a8,wv,Jx,not_false_eq_true,implies_true,and_true] at this;unfold ZQ;rw[VJ,this]
theorem Tq (l:List Nat):∀(names:List (List Nat))(i:Nat)(QT:Option Nat),l∉names->dO l names i QT=QT
 | [],_,_,_=>rfl
 | s::names,i,QT,h=>by
  simp only[Q3,not_or] at h;rw[dO,if_neg (λe=>h.1 e.symm),Tq l names (i+1) QT h.2]
theorem Ts:∀(names:List (List Nat))(k i:Nat)(QT:Option Nat)(l:List Nat),names.Nodup->names[k]? =some l->dO l names i QT=some (i+k)
 | [],k,i,QT,l,_,h=>by simp at h
 | s::names,0,i,QT,l,hn,h=>by
  simp at h;subst h;rw[dO,Qe rfl,Tq _ _ _ _ (Bj.1 hn).1]<;>rfl
 | s::names,k+1,i,QT,l,hn,h=>by
  have h':names[k]? =some l:=by simpa using h
  rw[dO,Ts names k (i+1) _ l (Bj.1 hn).2 h'];congr 1;omega
theorem hQD {names:List (List Nat)}(hb:KG names)(h:ZQ names=true):NmOk names (Jj names):=by
 obtain⟨h1,h2,h3⟩:=(Tp hb).1 h;refine⟨λk hk=>?_,λk hk=>?_⟩
 ·rw[XB hk];exact J0.1 h1 _ (PX hk)
 ·rw[XB hk];have:=Ts names k 0 none names[k] h2 (XB hk);rw[a8] at this;exact this
theorem uv:∀(t:Fm)(pre WR:List Fz),RepF (pre++Za t pre.length++WR) t (pre.length+QG t-1)
 | .c b,pre,WR=>by
  show(pre++ [_]++WR)[pre.length+1-1]? =_;simp
 | .v n,pre,WR=>by
  show(pre++ [_]++WR)[pre.length+1-1]? =_;simp
 | .not a,pre,WR=>by
  have pa:=YI a;refine⟨pre.length+QG a-1,by simp only[QG];omega,?_,?_⟩
  ·simp only[QG,Za];rw[ZR,WV (by omega),ZR,WV (by rw[J4];omega),J4,show pre.length+(QG a+1)-1-pre.length-QG a=0 by omega];rfl
  ·have:=uv a pre ([⟨3,0,((pre.length+QG a-1:Nat):Int),0⟩]++WR);simpa [Za] using this
 | .and a b,pre,WR=>by
  have pa:=YI a;have pb:=YI b;refine⟨pre.length+QG a-1,pre.length+QG a+QG b-1,by simp only[QG];omega,by simp only[QG];omega,?_,?_,?_⟩
  ·simp only[QG,Za];rw[ZR,WV (by omega),ZR,WV (by rw[Qq,J4,J4];omega),Qq,J4,J4,show pre.length+(QG a+QG b+1)-1-pre.length-(QG a+QG b)=0 by omega];rfl
  ·have:=uv a pre (Za b (pre.length+QG a)++ [⟨4,0,((pre.length+QG a-1:Nat):Int),((pre.length+QG a+QG b-1:Nat):Int)⟩]++WR);simpa [Za] using this
  ·have:=uv b (pre++Za a pre.length) ([⟨4,0,((pre.length+QG a-1:Nat):Int),((pre.length+QG a+QG b-1:Nat):Int)⟩]++WR);rw[Qq,J4] at this;simpa [Za] using this
 | .or a b,pre,WR=>by
  have pa:=YI a;have pb:=YI b;refine⟨pre.length+QG a-1,pre.length+QG a+QG b-1,by simp only[QG];omega,by simp only[QG];omega,?_,?_,?_⟩
  ·simp only[QG,Za];rw[ZR,WV (by omega),ZR,WV (by rw[Qq,J4,J4];omega),Qq,J4,J4,show pre.length+(QG a+QG b+1)-1-pre.length-(QG a+QG b)=0 by omega];rfl
  ·have:=uv a pre (Za b (pre.length+QG a)++ [⟨5,0,((pre.length+QG a-1:Nat):Int),((pre.length+QG a+QG b-1:Nat):Int)⟩]++WR);simpa [Za] using this
  ·have:=uv b (pre++Za a pre.length) ([⟨5,0,((pre.length+QG a-1:Nat):Int),((pre.length+QG a+QG b-1:Nat):Int)⟩]++WR);rw[Qq,J4] at this;simpa [Za] using this
theorem Hy (t:Fm):gv (Za t 0)=t:=by
 refine Ha ?_;have:=uv t [] [];rw[J4];simpa using this
theorem qQ {α:Type}{l m:List α}{i:Nat}{x:α}(h:(l++m)[i]? =some x):(i<l.length/\l[i]? =some x)∨(l.length<=i/\m[i-l.length]? =some x):=by
 by_cases hi:i<l.length
 ·rw[eK hi] at h;exact .inl ⟨hi,h⟩
 ·rw[WV (by omega)] at h;exact .inr ⟨by omega,h⟩
theorem lH {α:Type}{y x:α}{i:Nat}(h: [y][i]? =some x):i=0/\x=y:=by
 cases i with
 | zero=>simp at h;exact⟨rfl,h.symm⟩
 | succ i=>simp at h
theorem hQE {j i:Nat}(h:j<i):Vt ⟨3,0,(j:Nat),0⟩ i:=by
 refine⟨show 0<=Zo 3 by decide,rfl,?_,rfl⟩;show if 0<Zo 3 then _ else _
 rw[Qe (by decide)];simp only;omega
theorem hQF {j k i:Nat}(h:j<i)(h':k<i):Vt ⟨4,0,(j:Nat),(k:Nat)⟩ i:=by
 refine⟨show 0<=Zo 4 by decide,rfl,?_,?_⟩
 ·show if 0<Zo 4 then _ else _
  rw[Qe (by decide)];simp only;omega
 ·show if 1<Zo 4 then _ else _
  rw[Qe (by decide)];simp only;omega
theorem hQG {j k i:Nat}(h:j<i)(h':k<i):Vt ⟨5,0,(j:Nat),(k:Nat)⟩ i:=by
 refine⟨show 0<=Zo 5 by decide,rfl,?_,?_⟩
 ·show if 0<Zo 5 then _ else _
  rw[Qe (by decide)];simp only;omega
 ·show if 1<Zo 5 then _ else _
  rw[Qe (by decide)];simp only;omega
theorem uw:∀(t:Fm)(k i:Nat)(x:Fz),VarsIn 64 t->(Za t k)[i]? =some x->Vt x (k+i)
 | .c b,k,i,x,_,h=>by
  obtain⟨rfl,rfl⟩:=lH h;cases b<;>exact⟨by decide,rfl,rfl,rfl⟩
 | .v n,k,i,x,hv,h=>by
  obtain⟨rfl,rfl⟩:=lH h;refine⟨show 0<=Zo 2 by decide,?_,rfl,rfl⟩;have:n<64:=hv;rw[Qe rfl];simp only;omega
 | .not a,k,i,x,hv,h=>by
  have pa:=YI a;rcases qQ h with⟨hi,h⟩ | ⟨hi,h⟩
  ·exact uw a k i x hv h
  ·rw[J4] at hi h;obtain⟨e,rfl⟩:=lH h;exact hQE (by omega)
 | .and a b,k,i,x,hv,h=>by
  have pa:=YI a;have pb:=YI b;rcases qQ h with⟨hi,h⟩ | ⟨hi,h⟩
  ·rcases qQ h with⟨hi,h⟩ | ⟨hi,h⟩
   ·exact uw a k i x hv.1 h
   ·rw[J4] at hi h;have:=uw b (k+QG a) (i-QG a) x hv.2 h
    rwa [show k+QG a+(i-QG a)=k+i by omega] at this
  ·rw[Qq,J4,J4] at hi h;obtain⟨e,rfl⟩:=lH h;exact hQF (by omega) (by omega)
 | .or a b,k,i,x,hv,h=>by
  have pa:=YI a;have pb:=YI b;rcases qQ h with⟨hi,h⟩ | ⟨hi,h⟩
  ·rcases qQ h with⟨hi,h⟩ | ⟨hi,h⟩
   ·exact uw a k i x hv.1 h
   ·rw[J4] at hi h;have:=uw b (k+QG a) (i-QG a) x hv.2 h
    rwa [show k+QG a+(i-QG a)=k+i by omega] at this
  ·rw[Qq,J4,J4] at hi h;obtain⟨e,rfl⟩:=lH h;exact hQG (by omega) (by omega)
theorem xy (l m:List Fz):JS (l++m)=JS l++JS m:=by simp[JS]
theorem hQH (j:Nat):JS [⟨3,0,(j:Nat),0⟩]=[j]:=by
 show YW _++ []=_;unfold YW;rw[show Zo (Fz.o ⟨3,0,(j:Nat),0⟩)=1 from rfl];simp
theorem hQI (j k:Nat):JS [⟨4,0,(j:Nat),(k:Nat)⟩]=[j,k]:=by
 show YW _++ []=_;unfold YW;rw[show Zo (Fz.o ⟨4,0,(j:Nat),(k:Nat)⟩)=2 from rfl];simp
theorem hQJ (j k:Nat):JS [⟨5,0,(j:Nat),(k:Nat)⟩]=[j,k]:=by
 show YW _++ []=_;unfold YW;rw[show Zo (Fz.o ⟨5,0,(j:Nat),(k:Nat)⟩)=2 from rfl];simp
theorem ux:∀(t:Fm)(k j:Nat),(JS (Za t k)).count j=if k<=j/\j+1<k+QG t then 1 else 0
 | .c b,k,j=>by
  rw[if_neg (by simp only[QG];omega)];cases b<;>rfl
 | .v n,k,j=>by
  rw[if_neg (by simp only[QG];omega)];rfl
 | .not a,k,j=>by
  have pa:=YI a;show _=if k<=j/\j+1<k+(QG a+1)then 1 else 0
  simp only[Za];rw[xy,Gj,hQH,ux a k j,List.count_singleton];simp only[beq_iff_eq];by_cases h1:k<=j/\j+1<k+QG a
  ·rw[Qe h1,if_neg (by omega),Qe (by omega)]
  ·rw[if_neg h1];by_cases h2:k+QG a-1=j
   ·rw[Qe h2,Qe (by omega)]
   ·rw[if_neg h2,if_neg (by omega)]
 | .and a b,k,j=>by
  have pa:=YI a;have pb:=YI b;show _=if k<=j/\j+1<k+(QG a+QG b+1)then 1 else 0
  simp only[Za];rw[xy,xy,Gj,Gj,hQI,ux a k j,ux b _ j,Bf,List.count_singleton];simp only[beq_iff_eq];by_cases h1:k<=j/\j+1<k+QG a
  ·rw[Qe h1,if_neg (by omega),if_neg (by omega),if_neg (by omega),Qe (by omega)]
  ·rw[if_neg h1];by_cases h2:k+QG a<=j/\j+1<k+QG a+QG b
   ·rw[Qe h2,if_neg (by omega),if_neg (by omega),Qe (by omega)]
   ·rw[if_neg h2];by_cases h3:k+QG a-1=j
    ·rw[if_neg (by omega),Qe h3,Qe (by omega)]
    ·rw[if_neg h3];by_cases h4:k+QG a+QG b-1=j
     ·rw[Qe h4,Qe (by omega)]
     ·rw[if_neg h4,if_neg (by omega)]
 | .or a b,k,j=>by
  have pa:=YI a;have pb:=YI b;show _=if k<=j/\j+1<k+(QG a+QG b+1)then 1 else 0
  simp only[Za];rw[xy,xy,Gj,Gj,hQJ,ux a k j,ux b _ j,Bf,List.count_singleton];simp only[beq_iff_eq];by_cases h1:k<=j/\j+1<k+QG a
  ·rw[Qe h1,if_neg (by omega),if_neg (by omega),if_neg (by omega),Qe (by omega)]
  ·rw[if_neg h1];by_cases h2:k+QG a<=j/\j+1<k+QG a+QG b
   ·rw[Qe h2,if_neg (by omega),if_neg (by omega),Qe (by omega)]
   ·rw[if_neg h2];by_cases h3:k+QG a-1=j
    ·rw[if_neg (by omega),Qe h3,Qe (by omega)]
    ·rw[if_neg h3];by_cases h4:k+QG a+QG b-1=j
     ·rw[Qe h4,Qe (by omega)]
     ·rw[if_neg h4,if_neg (by omega)]
theorem Tt {t:Fm}(hv:VarsIn 64 t)(hs:QG t<=512):FV (Za t 0):=by
 refine⟨by rw[J4];exact hs,by rw[J4];exact YI t,λi x hx=>by have:=uw t 0 i x hv hx;rwa [a8] at this,λi hi=>?_⟩;rw[ux,Qe];rw[J4] at hi;omega
instance decVars (n:Nat):∀t:Fm,Decidable (VarsIn n t)
 | .c _=>isTrue trivial
 | .v k=>inferInstanceAs (Decidable (k<n))
 | .not a=>decVars n a
 | .and a b=> @instDecidableAnd _ _ (decVars n a) (decVars n b)
 | .or a b=> @instDecidableAnd _ _ (decVars n a) (decVars n b)
theorem VarsIn.mono {n m:Nat}(h:n<=m):∀{t:Fm},VarsIn n t->VarsIn m t
 | .c _,_=>trivial
 | .v _,hv=>Ye hv h
 | .not a,hv=>VarsIn.mono (t:=a) h hv
 | .and _ _,hv=>⟨VarsIn.mono h hv.1,VarsIn.mono h hv.2⟩
 | .or _ _,hv=>⟨VarsIn.mono h hv.1,VarsIn.mono h hv.2⟩
theorem uy:∀(t:Fm)(n k:Nat),VarsIn n t->nQ n (Za t k)
 | .c b,n,k,_=>λx hx ho=>by
  simp only[Za,QL] at hx;subst hx;cases b<;>simp at ho
 | .v j,n,k,hv=>λx hx ho=>by
  simp only[Za,QL] at hx;subst hx;have:j<n:=hv;simp only;omega
 | .not a,n,k,hv=>λx hx ho=>by
  simp only[Za,Xv,QL] at hx;rcases hx with hx | rfl
  ·exact uy a n k hv x hx ho
  ·simp at ho
 | .and a b,n,k,hv=>λx hx ho=>by
  simp only[Za,Xv,QL] at hx;rcases hx with(hx | hx) | rfl
  ·exact uy a n k hv.1 x hx ho
  ·exact uy b n _ hv.2 x hx ho
  ·simp at ho
 | .or a b,n,k,hv=>λx hx ho=>by
  simp only[Za,Xv,QL] at hx;rcases hx with(hx | hx) | rfl
  ·exact uy a n k hv.1 x hx ho
  ·exact uy b n _ hv.2 x hx ho
  ·simp at ho
end
end
noncomputable section
section
def Jd (x:Fz)(f:List Fz):Nat×List Fz:=if f.length<=512 then(f.length,f++ [x])else(f.length-1,f)
def KC (bld:Int->List Fz->Nat×List Fz)(op v:Int)(pos:Bool)(num:Int)(f:List Fz):Nat×List Fz:=
 let p:=Jd ⟨2,v,0,0⟩ f
 let a:=if pos then p else Jd ⟨3,0,(p.1:Nat),0⟩ p.2
 if op=4/\num=1 then a else
  let c:=bld num a.2
  Jd ⟨op,0,(a.1:Nat),(c.1:Nat)⟩ c.2
def Zu (
     nd:List Br):Nat->Int->List Fz->Nat×List Fz
 | 0,_,f=>(0,f)
 | m+1,n,f=>if n<2∨512<f.length then Jd ⟨min n 1,0,0,0⟩ f else
   match nd[(n-2).toNat]? with
   | none=>(0,f)
   | some b=>
    if b.l=0 then KC (Zu nd m) 4 b.v true b.h f else
    if b.h=0 then KC (Zu nd m) 4 b.v false b.l f else
    if b.h=1 then KC (Zu nd m) 5 b.v true b.l f else
    if b.l=1 then KC (Zu nd m) 5 b.v false b.h f else
     let hi:=KC (Zu nd m) 4 b.v true b.h f
     let lo:=KC (Zu nd m) 4 b.v false b.l hi.2
     Jd ⟨5,0,(hi.1:Nat),(lo.1:Nat)⟩ lo.2
structure Cn (w:World) (base x:Nat) (NA:Option Addr) (nn nc:Nat) (nd:List Br) (root:Int) (A:Option Addr) (c:Nat) (f:List Fz):Prop where
 blk:Blk w x 277 [.slice NA nn nc,.int .i64 root,.slice A f.length c]
 own:Own w base 280 4 A f.length c (nM f)
 lt:x<base
 top:base<=w.heap.size
 nds:SB w NA nn nc nd
 row:∀ad,NA=some ad->0<nn->ad.block<base/\ad.block≠x
 lim:f.length<=513
def CnTo (w:World)(base x:Nat)(NA:Option Addr)(nn nc:Nat)(nd:List Br)(root:Int)(A:Option Addr)(f:List Fz)(w':World):Prop:=∃A' c',Cn w' base x NA nn nc nd root A' c' f/\Mod (RdS x A) w w'/\Moved w A A'
section
variable {base x:Nat} {NA:Option Addr} {nn nc:Nat} {nd:List Br} {root:Int}
theorem Cn.ext {w w':World}{A:Option Addr}{c:Nat}{f:List Fz}(h:Cn w base x NA nn nc nd root A c f)(k:Ext w w'):Cn w' base x NA nn nc nd root A c f:=
 ⟨h.blk.ext k,h.own.ext k,h.lt,X4 h.top k.size,h.nds.ext k,h.row,h.lim⟩
theorem CnTo.step {w w1 w2:World}{A A1:Option Addr}{f:List Fz}(h:CnTo w1 base x NA nn nc nd root A1 f w2)(hm:Mod (RdS x A) w w1)(hv:Moved w A A1):CnTo w base x NA nn nc nd root A f w2:=by
 obtain⟨A2,c2,h2,XR,Kl⟩:=h;exact⟨A2,c2,h2,RdS.trans hm hv XR,hv.trans Kl hm.size⟩
theorem Cn.keep {w w':World}{A:Option Addr}{c:Nat}{f:List Fz}(h:Cn w base x NA nn nc nd root A c f)(hm:Mod (RdS x A) w w'):SB w' NA nn nc nd:=by
 refine⟨h.nds.1.modS hm ?_,h.nds.2⟩;rintro h0 i ⟨ad,rfl,rfl⟩ hi;obtain⟨r1,r2⟩:=h.row ad rfl h0;rcases hi with hi | hi
 ·exact r2 hi
 ·have:=(h.own.rows _ hi).1;omega
theorem qR (A:Option Addr)(c:Nat)(f:List Fz)(z:Fz)(w:World)(h:Cn w base x NA nn nc nd root A c f):
  Fn Tryz.prog 221 [.pointer (some ⟨x,0,none⟩),.agg z.cells.toArray] w (λv w'=>v= .int .i64 ((Jd z f).1:Nat)/\CnTo w base x NA nn nc nd root A (Jd z f).2 w'):=by
 refine QH (c:={fQU with cuts:=[]}) Qa Tryz.func221 rfl rfl rfl ?_;refine new (λw1 Qd Q9 Qh=>?_);have h1:=h.ext Qd;have eI:=h.lim;have Yb:=h.own.rows;have Xe:=h.lt;have mW:=h.top;have du:¬Ql A x:=λhr=>by have:=(Yb x hr).1;omega
 refine Qp h1.blk rfl ?_;refine Qz (λhl=>?_) (λhl=>?_)
 ·have ZL:f.length<=512:=by omega
  have e:Jd z f=(f.length,f++ [z]):=by unfold Jd;rw[Qe ZL]
  rw[e];refine XL Qa (Mod (Ql A) w1) 8 [(true,0),(true,1),(true,2),(true,3),(true,4),(true,5),(false,6),(false,7)] (by kernel_rfl) (Mod.of_ext _ (Ext.drew w1)) ?_;refine QQ (v:=.slice A f.length c) (λw' Qb=>by rw[(h1.blk.mod Qb du).cell];rfl) ?_;have Lw:¬Ql A w.heap.size:=λhr=>by have:=(Yb _ hr).2;omega
  refine Xo (vs:=z.cells) rfl (λw' Qb j v hj=>by rw[(Qh.mod Qb Lw).cell];exact hj) ?_;refine Xw Qa [z.cells] rfl rfl rfl rfl rfl ⟨rfl,rfl,⟨⟩⟩ rfl (λcs h=>by simp only[QL] at h;subst h;rfl) rfl (by decide) (by decide) ?_;intro w2 Qg Zi Qv;have Xm:=(Ext.drew w1).trans Qg;have h2:=h1.ext Xm;refine⟨Mod.of_ext _ Xm,?_⟩;have mi:Sl w2 4 (some ⟨w1.drew.heap.size,0,none⟩) 1 1 z.cells:=Sl.own (sz:=4) (n:=1) Qv (QC _) (by decide) (by simp[Fz.cells]);refine JH Qa rfl rfl rfl rfl rfl (by decide) rfl rfl ⟨_,rfl⟩ rfl rfl h2.own mi (by intro u hu;simp[Fz.cells] at hu;rcases hu with rfl | rfl | rfl | rfl<;>rfl) (by unfold maxLen;omega) (by show _*32<=_;omega) h2.top ?_;intro A' c' w3 XD oV Dz;have Ky:Mod (Ql A) w1 w3:=(Mod.of_ext (Ql A) Xm).trans XD (λi hi=>.inl hi);refine⟨Ky,?_⟩;refine XQ (h1.blk.mod Ky du) (by simp) (λw4 Zl QX=>?_);refine Qp QX rfl ?_;have hz:=Xm.size;have KV:Mod (RdS x A) w w4:=((Mod.of_ext (RdS x A) Qd).trans Ky (λi hi=>.inl (.inr hi))).trans Zl (λi hi=>.inl (.inl hi));refine Qj ((f.length:Nat):Int) (by omega) (by omega) ?_;refine⟨rfl,A',c',⟨?_,?_,Xe,X4 mW KV.size,h.keep KV,h.row,?_⟩,KV,Dz.back (X4 Qd.size hz)⟩
  ·show Blk w4 x _ [_,_,.slice A' (f++ [z]).length c'];rw[Qq];exact QX
  ·show Own w4 base _ 4 A' (f++ [z]).length c' (nM (f++ [z]));rw[Qq,Sh];exact oV.mod Zl (λk hk e=>by have:=(oV.rows k hk).1;omega)
  ·show(f++ [z]).length<=513;rw[Qq];simp only[Q6,Ji];omega
 ·have ZL:¬f.length<=512:=by omega
  have e:Jd z f=(f.length-1,f):=by unfold Jd;rw[if_neg ZL]
  rw[e];refine Qp h1.blk rfl ?_;refine Qj ((f.length-1:Nat):Int) (by omega) (by omega) ?_;exact⟨rfl,A,c,h1,Mod.of_ext _ Qd,Moved.refl _ _⟩
def Tu (base x:Nat)(NA:Option Addr)(nn nc:Nat)(nd:List Br)(root:Int)(m:Nat):Prop:=∀(n:Int)(f:List Fz)(A:Option Addr)(c:Nat)(w:World),Cn w base x NA nn nc nd root A c f->0<=n->n<m->n<nn+2->
 Fn Tryz.prog 192 [.pointer (some ⟨x,0,none⟩),.int .i64 n] w (λv w'=>v= .int .i64 ((Zu nd m n f).1:Nat)/\CnTo w base x NA nn nc nd root A (Zu nd m n f).2 w')
theorem uz (m:Nat)(H:Tu base x NA nn nc nd root m)(op v:Int)(pos:Bool)(n:Int)(f:List Fz)(A:Option Addr)(c:Nat)(w:World)(h:Cn w base x NA nn nc nd root A c f)(h0:0<=n)(hm:n<m)(hn:n<nn+2):
  Fn Tryz.prog 222 [.pointer (some ⟨x,0,none⟩),.int .i64 op,.int .i64 v,.bool pos,.int .i64 n] w (λu w'=>u= .int .i64 ((KC (Zu nd m) op v pos n f).1:Nat)/\CnTo w base x NA nn nc nd root A (KC (Zu nd m) op v pos n f).2 w'):=by
 refine QH (c:={fQV with cuts:=[2]}) Qa Tryz.func222 rfl rfl rfl ?_;refine call (qR A c f ⟨2,v,0,0⟩ w h) ?_;rintro _ w1 ⟨rfl,A1,c1,h1,Zw,mo⟩;refine eT [] Qa [11] (λa:Nat=>[.int .i64 a]) (λa w'=>a=(if pos then Jd ⟨2,v,0,0⟩ f else Jd ⟨3,0,((Jd ⟨2,v,0,0⟩ f).1:Nat),0⟩ (Jd ⟨2,v,0,0⟩ f).2).1/\CnTo w base x NA nn nc nd root A (if pos then Jd ⟨2,v,0,0⟩ f else Jd ⟨3,0,((Jd ⟨2,v,0,0⟩ f).1:Nat),0⟩ (Jd ⟨2,v,0,0⟩ f).2).2 w') ?_ ?_
 ·refine nK (YT (λhp=>?_) (λhp=>?_))
  ·subst hp;exact⟨_,rfl,rfl,A1,c1,h1,Zw,mo⟩
  ·subst hp;refine call (qR A1 c1 _ ⟨3,0,((Jd ⟨2,v,0,0⟩ f).1:Nat),0⟩ w1 h1) ?_;rintro _ w2 ⟨rfl,h2⟩;exact⟨_,rfl,rfl,h2.step Zw mo⟩
 rintro a w2 ⟨ha,A2,c2,h2,XR,Kl⟩;unfold KC;generalize hq:(if pos then Jd ⟨2,v,0,0⟩ f else Jd ⟨3,0,((Jd ⟨2,v,0,0⟩ f).1:Nat),0⟩ (Jd ⟨2,v,0,0⟩ f).2)=q at*;subst ha;simp only[hq];by_cases Ai:op=4/\n=1
 ·rw[Qe Ai];refine J2 Ai.1 ?_;refine J2 Ai.2 ?_;exact⟨rfl,A2,c2,h2,XR,Kl⟩
 ·rw[if_neg Ai];by_cases h4:op=4
  ·refine J2 h4 ?_;refine XG (λh1=>Ai ⟨h4,h1⟩) ?_;refine call (H n q.2 A2 c2 w2 h2 h0 hm hn) ?_;rintro _ w3 ⟨rfl,A3,c3,h3,XD,aM⟩;refine call (qR A3 c3 _ ⟨op,0,(q.1:Nat),((Zu nd m n q.2).1:Nat)⟩ w3 h3) ?_;rintro _ w4 ⟨rfl,h4⟩;exact⟨rfl,(h4.step XD aM).step XR Kl⟩
  ·refine XG h4 ?_;refine call (H n q.2 A2 c2 w2 h2 h0 hm hn) ?_;rintro _ w3 ⟨rfl,A3,c3,h3,XD,aM⟩;refine call (qR A3 c3 _ ⟨op,0,(q.1:Nat),((Zu nd m n q.2).1:Nat)⟩ w3 h3) ?_;rintro _ w4 ⟨rfl,h4⟩;exact⟨rfl,(h4.step XD aM).step XR Kl⟩
theorem Tv (WQ:aB nd):∀m,Tu base x NA nn nc nd root m
 | 0=>λn f A c w _ h0 hm _=>by omega
 | m+1=>λn f A c w h h0 hm hn=>by
  have ih:=Tv WQ m;have eI:=h.lim;have KQ:nd.length=nn:=h.nds.2;refine QH (c:={fQD with cuts:=[]}) Qa Tryz.func192 rfl rfl rfl ?_;by_cases h1:n<2
  ·have e:Zu nd (m+1) n f=Jd ⟨min n 1,0,0,0⟩ f:=by rw[Zu,Qe (.inl h1)]
   rw[e];refine Zq h1 ?_;refine norm (m:=min n 1) (by rw[Jb];split<;>split<;>omega) ?_;refine call (qR A c f ⟨min n 1,0,0,0⟩ w h) ?_;rintro _ w1 ⟨rfl,h1⟩;exact⟨rfl,h1⟩
  refine XF h1 ?_;refine Qp h.blk rfl ?_;by_cases h2:512<f.length
  ·have e:Zu nd (m+1) n f=Jd ⟨min n 1,0,0,0⟩ f:=by rw[Zu,Qe (.inr h2)]
   rw[e];refine Zq (by omega) ?_;refine norm (m:=min n 1) (by rw[Jb];split<;>split<;>omega) ?_;refine call (qR A c f ⟨min n 1,0,0,0⟩ w h) ?_;rintro _ w1 ⟨rfl,h1⟩;exact⟨rfl,h1⟩
  refine XF (by omega) ?_;have hj:(n-2).toNat<nd.length:=by omega
  have hx:=XB hj;generalize nd[(n-2).toNat]=y at hx;obtain⟨x1,x2,x3,x4⟩:=WQ _ _ hx;have e:Zu nd (m+1) n f=(if y.l=0 then KC (Zu nd m) 4 y.v true y.h f else
    if y.h=0 then KC (Zu nd m) 4 y.v false y.l f else
    if y.h=1 then KC (Zu nd m) 5 y.v true y.l f else
    if y.l=1 then KC (Zu nd m) 5 y.v false y.h f else
     Jd ⟨5,0,((KC (Zu nd m) 4 y.v true y.h f).1:Nat),((KC (Zu nd m) 4 y.v false y.l (KC (Zu nd m) 4 y.v true y.h f).2).1:Nat)⟩ (KC (Zu nd m) 4 y.v false y.l (KC (Zu nd m) 4 y.v true y.h f).2).2):=by
   rw[Zu,if_neg (by omega),hx]
  rw[e];refine Qy h.blk rfl ?_;refine Qj (((n-2).toNat:Nat):Int) (by omega) (by have:=h.nds.1.le;have:=h.nds.1.cap;simp only[maxLen] at this;omega) ?_;refine Zz WY h.nds rfl (by omega) (λad z hy dA=>?_);have jp:z=y:=Option.some.inj (hy.symm.trans hx);subst jp;refine JN (vs:=z.cells) rfl dA ?_;refine new (λw1 Qd Q9 Qh=>?_);refine Qw Qh rfl (sc rfl) (λw2 cm Zi KJ=>?_);have Qg:Ext w w2:=XV Qd Qh cm;have o9:Mod (RdS x A) w w2:=Mod.of_ext _ Qg;have JC:=h.ext Qg;have jr:¬RdS x A w.heap.size:=λe=>by
   have:=h.blk.lt;rcases e with e | e
   ·omega
   ·have:=(h.own.rows _ e).2;omega
  refine Qp KJ rfl ?_;refine Zd (λc1=>?_) (λc1=>?_)
  ·rw[Qe c1];refine Qy KJ rfl ?_;refine Qp KJ rfl ?_;refine call (uz m ih 4 z.v true z.h f A c w2 JC x3 (by omega) (by omega)) ?_;rintro _ w3 ⟨rfl,h3⟩;exact⟨rfl,h3.step o9 (Moved.refl _ _)⟩
  rw[if_neg c1];refine Qp KJ rfl ?_;refine Zd (λc2=>?_) (λc2=>?_)
  ·rw[Qe c2];refine Qy KJ rfl ?_;refine Qp KJ rfl ?_;refine call (uz m ih 4 z.v false z.l f A c w2 JC x1 (by omega) (by omega)) ?_;rintro _ w3 ⟨rfl,h3⟩;exact⟨rfl,h3.step o9 (Moved.refl _ _)⟩
  rw[if_neg c2];refine Qp KJ rfl ?_;refine Zd (λc3=>?_) (λc3=>?_)
  ·rw[Qe c3];refine Qy KJ rfl ?_;refine Qp KJ rfl ?_;refine call (uz m ih 5 z.v true z.l f A c w2 JC x1 (by omega) (by omega)) ?_;rintro _ w3 ⟨rfl,h3⟩;exact⟨rfl,h3.step o9 (Moved.refl _ _)⟩
  rw[if_neg c3];refine Qp KJ rfl ?_;refine Zd (λc4=>?_) (λc4=>?_)
  ·rw[Qe c4];refine Qy KJ rfl ?_;refine Qp KJ rfl ?_;refine call (uz m ih 5 z.v false z.h f A c w2 JC x3 (by omega) (by omega)) ?_;rintro _ w3 ⟨rfl,h3⟩;exact⟨rfl,h3.step o9 (Moved.refl _ _)⟩
  rw[if_neg c4];refine Qy KJ rfl ?_;refine Qp KJ rfl ?_;refine call (uz m ih 4 z.v true z.h f A c w2 JC x3 (by omega) (by omega)) ?_;rintro _ w3 ⟨rfl,A3,c3,h3,XD,aM⟩;have Vz:=KJ.mod XD jr;refine Qy Vz rfl ?_;refine Qp Vz rfl ?_;refine call (uz m ih 4 z.v false z.l _ A3 c3 w3 h3 x1 (by omega) (by omega)) ?_;rintro _ w4 ⟨rfl,A4,c4,h4,Zl,oY⟩;refine call (qR A4 c4 _ ⟨5,0,((KC (Zu nd m) 4 z.v true z.h f).1:Nat),((KC (Zu nd m) 4 z.v false z.l (KC (Zu nd m) 4 z.v true z.h f).2).1:Nat)⟩ w4 h4) ?_;rintro _ w5 ⟨rfl,h5⟩;exact⟨rfl,(((h5.step Zl oY).step XD aM)).step o9 (Moved.refl _ _)⟩
end
end
section
def aD (nd:List Br)(root:Int):List Fz×Int:=if XH nd root=0 then(if 512<(Zu nd (root.toNat+1) root []).2.length then([],2)else((Zu nd (root.toNat+1) root []).2,0))else([],XH nd root)
def uA (names:List (List Nat))(nd:List Br)(root:Int):List Nat×Int:=if ZQ names then(if(aD nd root).2=0 then lm names (aD nd root).1 else([],(aD nd root).2))else([],1)
theorem of_fn (A:Option Addr)(n c:Nat)(nd:List Br)(root:Int)(w:World)(h:SB w A n c nd):
  Fn Tryz.prog 133 [Xl A n c root] w (G9 w (aD nd root)):=by
 have Q0:=h.2;refine QH (c:={eQ1 with cuts:=[]}) Qa Tryz.func133 rfl rfl rfl ?_;refine new (λw1 Qd Q9 Qh=>?_);refine Qt Qh rfl ?_;refine call (uf A n c nd root w1 (h.ext Qd)) ?_;rintro v w2 ⟨rfl,Qg⟩;have QR:=Qd.trans Qg;have Qv:=Qh.ext Qg;refine YE (λc1=>?_) (λc1=>?_)
 ·refine⟨none,0,0,?_,QR,?_⟩
  ·unfold aD;rw[if_neg c1]
  ·unfold aD;rw[if_neg c1];exact SlS.nil _
 obtain⟨gY,hv⟩:=gw.1 c1;have WQ:=hv.wf;refine Qt Qv rfl ?_;refine new (λw3 Qi JD Qu=>?_);have QY:=QR.trans Qi;have mQY:=Qg.size;have hC:Cn w3 w3.heap.size w2.heap.size A n c nd root none 0 []:=⟨Qu,Own.nil _ _ _ _,by omega,QC _,h.ext QY,λad e hn=>by
  have h1:=SB.lt (h.ext QR) ad e hn;exact⟨by omega,by omega⟩,by simp⟩
 refine Qp (Qv.ext Qi) rfl ?_;have r0:=hv.2.1;have r1:=hv.2.2.1;refine call (Tv WQ (root.toNat+1) root [] none 0 w3 hC r0 (by omega) (by omega)) ?_;rintro v w4 ⟨rfl,A4,c4,LY,Zl,oY⟩;have Qs:Ext w w4:=Zl.ext QY (λi hi=>by
  rcases hi with rfl | ⟨_,e,_⟩
  ·have:=QR.size;omega
  ·cases e)
 refine Qp LY.blk rfl ?_;refine Qz (λc2=>?_) (λc2=>?_)
 ·have e:aD nd root=([],2):=by unfold aD;rw[Qe c1,Qe (by omega)]
  rw[e];exact⟨none,0,0,rfl,Qs,SlS.nil _⟩
 ·have e:aD nd root=((Zu nd (root.toNat+1) root []).2,0):=by unfold aD;rw[Qe c1,if_neg (by omega)]
  rw[e];refine Qp LY.blk rfl ?_;exact⟨A4,_,c4,rfl,Qs,LY.own.sl,rfl⟩
theorem hQK (names:List (List Nat))(A NA:Option Addr)(n c nn nc:Nat)(nd:List Br)(root:Int)(w:World)(h:Sl w 1 A n c (X9 names))(hb:KG names)(hN:SB w NA nn nc nd)
  (hl:(ZU names 0 (gv (aD nd root).1)).length<=140737488355328):
  Fn Tryz.prog 86 [.slice A n c,Xl NA nn nc root] w (SE w (uA names nd root)):=by
 refine QH (c:={c86 with cuts:=[]}) Qa Tryz.func86 rfl rfl rfl ?_;refine new (λw1 Qd Q9 Qh=>?_);refine call (GZ names A n c w1 (h.ext Qd) hb) ?_;rintro v w2 ⟨v1,rfl,Qg,_⟩;have QR:=Qd.trans Qg;cases XY:ZQ names with
 | false=>
  refine Xc rfl ?_;exact⟨by unfold uA;rw[XY];rfl,QR⟩
 | true=>
  refine Q7 rfl ?_;refine Qt (Qh.ext Qg) rfl ?_;refine call (of_fn NA nn nc nd root w2 (hN.ext QR)) ?_;rintro v w3 ⟨F,m,cF,rfl,Qi,hF⟩;have QY:=QR.trans Qi;have e:uA names nd root=if(aD nd root).2=0 then lm names (aD nd root).1 else([],(aD nd root).2):=by unfold uA;rw[Qe XY]
  refine YE (λc1=>?_) (λc1=>?_)
  ·exact⟨by rw[e,if_neg c1];rfl,QY⟩
  ·refine call (gQR names A F n c m cF _ w3 (h.ext QY) hb hF (λ_ _=>hl)) ?_;rintro v w4 ⟨rfl,Qs⟩;exact⟨by rw[e,Qe c1],QY.trans Qs⟩
end
end
section
section
theorem Hz {w1 w2 w:World}{g:Nat}{r:(List Br×Int)×Int}{A:Option Addr}{n c:Nat}(hE:Ext w w1)(hM:Mod (·=g) w1 w2)(hg:w.heap.size<=g)(hs:SB w1 A n c r.1.1)(hr:∀i,Ql A i->g<i):
  Ext w w2/\SB w2 A n c r.1.1/\∀i,Ql A i->w.heap.size<=i:=
 ⟨hM.ext hE (λi hi=>by omega),⟨hs.1.modS hM (λ_ i hi e=>by have:=hr i hi;omega),hs.2⟩,λi hi=>by have:=hr i hi;omega⟩
end
section
theorem hQL {names:List (List Nat)}(h:names.all (λs=>s.all (λx=>decide (x<256))&&decide (s.length<=100))=true):KG names:=λs hs=>by
 have:=J0.1 h s hs;rw[Z4,VJ] at this;exact⟨λx hx=>by have:=J0.1 this.1 x hx;simpa using this,by omega⟩
theorem hQM {k:Int}(h0:0<=k)(h1:k<=63):Rd0 [⟨k,0,1⟩]:=λj b hb=>by
 obtain⟨rfl,rfl⟩:=lH hb;refine⟨h0,h1,jH 0,?_,(by decide:(0:Int)<=1),?_,(by decide:(0:Int)≠1),by simp,?_,?_⟩
 ·simp only;omega
 ·simp only;omega
 ·rw[iB (by simp only;omega)];simp only;omega
 ·rw[iB (by simp only;omega)];simp only;omega
theorem Co {k:Int}(h0:0<=k)(h1:k<=63):VD [⟨k,0,1⟩] 2:=⟨hQM h0 h1,by decide,by simp,rfl⟩
end
section
end
def X5:List (List Nat):=[[65],[66],[67],[68],[108,111,110,103,95,110,97,109,101],[95],[120,49],[84,82,85,69],[116],[102],[116,114,117],[102,97,108,115,101,101]]
theorem hQN (k:Nat)(w:World)(hk:k<=12):
  Fn Tryz.prog 51 [.int .i64 k] w (λv w'=>∃A c,v= .slice A k c/\Ext w w'/\Sl w' 1 A k c (X9 (X5.take k))):=by
 refine QH (c:={c51 with cuts:=[]}) Qa Tryz.func51 rfl rfl rfl ?_;refine Xw Qa (X5.map (λs=>[.string (Qf s)])) rfl rfl rfl rfl rfl ⟨rfl,rfl,rfl,rfl,rfl,rfl,rfl,rfl,rfl,rfl,rfl,rfl,rfl,rfl,rfl,rfl,rfl,rfl,rfl,rfl,rfl,rfl,rfl,rfl,⟨⟩⟩ rfl (λcs h=>by simp only[ZG] at h;obtain⟨s,_,rfl⟩:=h;rfl) rfl (by decide) (by decide) ?_;intro w1 Qd Q9 Qh;refine jO Qa rfl rfl rfl rfl rfl rfl hk ?_;have hS:Sl w1 1 (some ⟨w.heap.size,0,none⟩) 12 12 (X9 X5):=Sl.own' (n:=12) Qh rfl (by decide);have:=hS.take (m:=k) hk;rw[ga] at this;exact⟨_,12,rfl,Qd,by rw[show X9 (X5.take k)=(X9 X5).take k by simp[X9]];exact this⟩
theorem hQO (k:Nat)(hk:k<=12):KG (X5.take k)/\ZQ (X5.take k)=true/\(X5.take k).length=k:=by
 have hb:KG X5:=hQL (by decide);have hb':KG (X5.take k):=λs hs=>hb s (bf hs)
 have hl:(X5.take k).length=k:=by rw[K5];show min k 12=k;omega
 refine⟨hb',(Tp hb').2 ⟨?_,List.Nodup.sublist (List.take_sublist k X5) (by decide),by omega⟩,hl⟩;have:X5.all az=true:=by decide
 exact J0.2 (λs hs=>J0.1 this s (bf hs))
def WI (v:Nat)(pos:Bool):Fm:=if pos then .v v else .not (.v v)
def YJ (nd:List Br):Nat->Int->Fm
 | 0,_=>.c false
 | m+1,n=>if n<2 then .c (decide (n=1))else match nd[(n-2).toNat]? with
  | none=>.c false
  | some b=>if b.h<2/\b.l<2 then WI b.v.toNat (decide (b.h=1))
   else if b.l=0 then .and (WI b.v.toNat true) (YJ nd m b.h)
   else if b.h=0 then .and (WI b.v.toNat false) (YJ nd m b.l)
   else if b.h=1 then .or (WI b.v.toNat true) (YJ nd m b.l)
   else if b.l=1 then .or (WI b.v.toNat false) (YJ nd m b.h)
   else .or (.and (WI b.v.toNat true) (YJ nd m b.h)) (.and (WI b.v.toNat false) (YJ nd m b.l))
def cf (nd:List Br)(n:Int):Fm:=YJ nd (n.toNat+1) n
theorem Tw {nd:List Br}{m:Nat}{n:Int}(h:n<2):YJ nd (m+1) n= .c (decide (n=1)):=by rw[YJ,Qe h]
theorem Tx {nd:List Br}{m:Nat}{n:Int}{b:Br}(h:¬n<2)(hb:nd[(n-2).toNat]? =some b):YJ nd (m+1) n=if b.h<2/\b.l<2 then WI b.v.toNat (decide (b.h=1))
   else if b.l=0 then .and (WI b.v.toNat true) (YJ nd m b.h)
   else if b.h=0 then .and (WI b.v.toNat false) (YJ nd m b.l)
   else if b.h=1 then .or (WI b.v.toNat true) (YJ nd m b.l)
   else if b.l=1 then .or (WI b.v.toNat false) (YJ nd m b.h)
   else .or (.and (WI b.v.toNat true) (YJ nd m b.h)) (.and (WI b.v.toNat false) (YJ nd m b.l)):=by rw[YJ,if_neg h,hb]
def evF:Fm->(Nat->Bool)->Bool
 | .c b,_=>b
 | .v n,e=>e n
 | .not a,e=> !evF a e
 | .and a b,e=>evF a e&&evF b e
 | .or a b,e=>evF a e||evF b e
theorem qS (v:Nat)(pos:Bool)(e:Nat->Bool):evF (WI v pos) e=(e v==pos):=by
 cases pos<;>cases h:e v<;>simp[WI,evF,h]
theorem Ty {nd:List Br}(h:Rd0 nd)(e:Nat->Bool):∀(m:Nat)(n:Int),0<=n->n<m->n<nd.length+2->evF (YJ nd m n) e=ev nd n e
 | 0,n,h0,hm,_=>by omega
 | m+1,n,h0,hm,hn=>by
  by_cases h2:n<2
  ·rw[Tw h2,JT h2]<;>rfl
  obtain⟨b,hb⟩:=WG h2 hn;obtain⟨b1,b2,b3,b4,b5,b6,b7,b8,b9,bA⟩:=h _ _ hb;have ihl:=Ty h e m b.l b3 (by omega) (by omega);have ihh:=Ty h e m b.h b5 (by omega) (by omega);rw[Tx h2 hb,cM h.wf h2 hb];split
  ·rename_i hc;rw[qS,JT hc.1,JT hc.2];have:b.l=1↔¬b.h=1:=by omega
   by_cases hh:b.h=1
   ·rw[X2 hh,Zn (λhl=>(this.1 hl) hh)];cases e b.v.toNat<;>rfl
   ·rw[Zn hh,X2 (this.2 hh)];cases e b.v.toNat<;>rfl
  ·split
   ·rename_i hl;simp only[evF];rw[qS,ihh,JT (n:=b.l) (by omega),hl];cases e b.v.toNat<;>simp
   ·split
    ·rename_i hh;simp only[evF];rw[qS,ihl,JT (n:=b.h) (by omega),hh];cases e b.v.toNat<;>simp
    ·split
     ·rename_i hh;simp only[evF];rw[qS,ihl,JT (n:=b.h) (by omega),hh];cases e b.v.toNat<;>simp
     ·split
      ·rename_i hl;simp only[evF];rw[qS,ihh,JT (n:=b.l) (by omega),hl];cases e b.v.toNat<;>simp
      ·simp only[evF];rw[qS,qS,ihh,ihl];cases e b.v.toNat<;>simp
theorem qT (x:Fz){f:List Fz}(h:f.length<=513):(Jd x f).2.length=min 513 (f.length+1):=by
 unfold Jd;split
 ·simp;omega
 ·simp only;omega
theorem xz (x:Fz){f:List Fz}(h:f.length+1<=513):Jd x f=(f.length,f++ [x]):=by unfold Jd;rw[Qe (by omega)]
structure BldOk (bld:List Fz->Nat×List Fz) (t:Fm):Prop where
 len:∀f,f.length<=513->(bld f).2.length=min 513 (f.length+QG t)
 eq:∀f,f.length+QG t<=513->bld f=(f.length+QG t-1,f++Za t f.length)
def xA (v:Int)(pos:Bool)(f:List Fz):Nat×List Fz:=let p:=Jd ⟨2,v,0,0⟩ f;if pos then p else Jd ⟨3,0,(p.1:Nat),0⟩ p.2
theorem hQP {v:Int}(hv:0<=v)(pos:Bool):BldOk (xA v pos) (WI v.toNat pos):=by
 have e:(⟨2,v,0,0⟩:Fz)=⟨2,(v.toNat:Nat),0,0⟩:=by rw[Ge hv]
 cases pos with
 | true=>exact⟨λf hf=>by show(Jd _ f).2.length=_;rw[qT _ hf];rfl,λf hf=>by show Jd _ f=_;rw[xz _ hf,e];rfl⟩
 | false=>
  refine⟨λf hf=>?_,λf hf=>?_⟩
  ·show(Jd _ (Jd _ f).2).2.length=min 513 (f.length+2);rw[qT _ (by rw[qT _ hf];omega),qT _ hf];omega
  ·have QZ:f.length+2<=513:=hf;show Jd _ (Jd _ f).2=_;rw[xz _ (f:=f) (by omega)];simp only;rw[xz _ (by simp;omega),e];simp[WI,QG,Za]
theorem HB {b1 b2:List Fz->Nat×List Fz}{t1 t2:Fm}(h1:BldOk b1 t1)(h2:BldOk b2 t2)(op:Int)(mk:Fm->Fm->Fm)(hs:∀a b,QG (mk a b)=QG a+QG b+1)
  (hp:∀a b k,Za (mk a b) k=Za a k++Za b (k+QG a)++ [⟨op,0,((k+QG a-1:Nat):Int),((k+QG a+QG b-1:Nat):Int)⟩]):
  BldOk (λf=>let a:=b1 f;let c:=b2 a.2;Jd ⟨op,0,(a.1:Nat),(c.1:Nat)⟩ c.2) (mk t1 t2):=by
 refine⟨λf hf=>?_,λf hf=>?_⟩
 ·have e1:=h1.len f hf;have e2:=h2.len (b1 f).2 (by omega);simp only;rw[qT _ (by omega),e2,e1,hs];omega
 ·rw[hs] at hf;have p1:=YI t1;have p2:=YI t2;simp only;rw[h1.eq f (by omega)];simp only;have l1:(f++Za t1 f.length).length=f.length+QG t1:=by rw[Qq,J4]
  rw[h2.eq _ (by rw[l1];omega)];simp only;have l2:(f++Za t1 f.length++Za t2 (f++Za t1 f.length).length).length=f.length+QG t1+QG t2:=by rw[Qq,l1,J4]
  rw[xz _ (by rw[l2];omega),l2,hs,hp,l1];simp;omega
theorem Tz (bld:Int->List Fz->Nat×List Fz)(op v:Int)(pos:Bool)(num:Int)(f:List Fz):KC bld op v pos num f=if op=4/\num=1 then xA v pos f else let a:=xA v pos f;let c:=bld num a.2;Jd ⟨op,0,(a.1:Nat),(c.1:Nat)⟩ c.2:=rfl
theorem HC {nd:List Br}(h:Rd0 nd):∀(m:Nat)(n:Int),0<=n->n<m->n<nd.length+2->BldOk (Zu nd m n) (YJ nd m n)
 | 0,n,h0,hm,_=>by omega
 | m+1,n,h0,hm,hn=>by
  by_cases h2:n<2
  ·have e:(⟨min n 1,0,0,0⟩:Fz)=⟨if decide (n=1)then 1 else 0,0,0,0⟩:=by
    rcases(by omega:n=0∨n=1)with rfl | rfl<;>rfl
   rw[Tw h2];refine⟨λf hf=>?_,λf hf=>?_⟩
   ·rw[Zu,Qe (.inl h2),qT _ hf]<;>rfl
   ·rw[Zu,Qe (.inl h2),xz _ hf,e]<;>rfl
  obtain⟨b,hb⟩:=WG h2 hn;obtain⟨b1,b2,b3,b4,b5,b6,b7,b8,b9,bA⟩:=h _ _ hb;have ihl:=HC h m b.l b3 (by omega) (by omega);have ihh:=HC h m b.h b5 (by omega) (by omega);have lit:=λp=>hQP (v:=b.v) b1 p
  have sd:∀(op:Int) (pos:Bool) (num:Int) (t:Fm),¬(op=4/\num=1)->BldOk (Zu nd m num) t->(op=4->BldOk (KC (Zu nd m) op b.v pos num) (.and (WI b.v.toNat pos) t))/\(op=5->BldOk (KC (Zu nd m) op b.v pos num) (.or (WI b.v.toNat pos) t)):=λop pos num t Xq ht=>by
   have e:KC (Zu nd m) op b.v pos num=λf=>let a:=xA b.v pos f;let c:=Zu nd m num a.2;Jd ⟨op,0,(a.1:Nat),(c.1:Nat)⟩ c.2:=by
    funext f;rw[Tz,if_neg Xq]
   rw[e];refine⟨λh4=>?_,λh5=>?_⟩
   ·subst h4;exact HB (lit pos) ht 4 .and (λ_ _=>rfl) (λ_ _ _=>rfl)
   ·subst h5;exact HB (lit pos) ht 5 .or (λ_ _=>rfl) (λ_ _ _=>rfl)
  have short:∀(pos:Bool),KC (Zu nd m) 4 b.v pos 1=xA b.v pos:=λpos=>by funext f;rw[Tz,Qe ⟨rfl,rfl⟩]
  have main:∃B,BldOk B (YJ nd (m+1) n)/\∀f,¬512<f.length->Zu nd (m+1) n f=B f:=by
   rw[Tx h2 hb];have unf:∀f,¬512<f.length->Zu nd (m+1) n f=if b.l=0 then KC (Zu nd m) 4 b.v true b.h f else
     if b.h=0 then KC (Zu nd m) 4 b.v false b.l f else
     if b.h=1 then KC (Zu nd m) 5 b.v true b.l f else
     if b.l=1 then KC (Zu nd m) 5 b.v false b.h f else
      let hi:=KC (Zu nd m) 4 b.v true b.h f
      let lo:=KC (Zu nd m) 4 b.v false b.l hi.2
      Jd ⟨5,0,(hi.1:Nat),(lo.1:Nat)⟩ lo.2:=λf hf=>by
    rw[Zu,if_neg (λhh=>hh.elim h2 hf),hb]
   split
   ·rename_i hc;by_cases hl:b.l=0
    ·have hh:b.h=1:=by omega
     rw[X2 hh];exact⟨_,lit true,λf hf=>by rw[unf f hf,Qe hl,hh,short]⟩
    ·have hh:b.h=0:=by omega
     have XJ:b.l=1:=by omega
     rw[Zn (by omega)];exact⟨_,lit false,λf hf=>by rw[unf f hf,if_neg hl,Qe hh,XJ,short]⟩
   ·rename_i hc;split
    ·rename_i hl;exact⟨_,(sd 4 true b.h _ (by omega) ihh).1 rfl,λf hf=>by rw[unf f hf,Qe hl]⟩
    ·rename_i hl;split
     ·rename_i hh;exact⟨_,(sd 4 false b.l _ (by omega) ihl).1 rfl,λf hf=>by rw[unf f hf,if_neg hl,Qe hh]⟩
     ·rename_i hh;split
      ·rename_i DO;exact⟨_,(sd 5 true b.l _ (by omega) ihl).2 rfl,λf hf=>by rw[unf f hf,if_neg hl,if_neg hh,Qe DO]⟩
      ·rename_i DO;split
       ·rename_i XJ;exact⟨_,(sd 5 false b.h _ (by omega) ihh).2 rfl,λf hf=>by rw[unf f hf,if_neg hl,if_neg hh,if_neg DO,Qe XJ]⟩
       ·rename_i XJ;exact⟨_,HB ((sd 4 true b.h _ (by omega) ihh).1 rfl) ((sd 4 false b.l _ (by omega) ihl).1 rfl) 5 .or (λ_ _=>rfl) (λ_ _ _=>rfl),λf hf=>by rw[unf f hf,if_neg hl,if_neg hh,if_neg DO,if_neg XJ]⟩
  obtain⟨B,hB,fQ⟩:=main;refine⟨λf hf=>?_,λf hf=>?_⟩
  ·by_cases h5:512<f.length
   ·rw[Zu,Qe (.inr h5),qT _ hf];have:=YI (YJ nd (m+1) n);omega
   ·rw[fQ f h5,hB.len f hf]
  ·have:=YI (YJ nd (m+1) n);rw[fQ f (by omega),hB.eq f hf]
theorem TB {nd:List Br}{root:Int}(hv:XH nd root=0):aD nd root=if 512<QG (cf nd root)then([],2)else(Za (cf nd root) 0,0):=by
 obtain⟨_,vd⟩:=gw.1 hv;have B:=HC vd.rd0 (root.toNat+1) root vd.2.1 (by have:=vd.2.1;omega) vd.2.2.1;have e1:=B.len [] (by simp);unfold aD;rw[Qe hv];simp only[Ji,a8] at e1;have:YJ nd (root.toNat+1) root=cf nd root:=rfl;rw[this] at e1;by_cases h:512<QG (cf nd root)
 ·rw[Qe h,Qe (by rw[e1];omega)]
 ·rw[if_neg h,if_neg (by rw[e1];omega)];have e2:=B.eq [] (by simp only[Ji];rw[this];omega);rw[e2,this]<;>rfl
def VIn (k:Nat)(nd:List Br):Prop:=∀b∈nd,b.v<k
theorem VIn.nil (k:Nat):VIn k []:=λb hb=>by simp at hb
theorem VIn.lvl {k:Nat}{nd:List Br}(h:VIn k nd){n:Int}(h2:¬n<2)(hn:n<nd.length+2):Qm nd n<k:=by
 obtain⟨b,hb⟩:=WG h2 hn;rw[dV h2 hb];exact h b (Xk hb)
theorem Rd0.lvl0 {nd:List Br}(h:Rd0 nd){n:Int}(hn:n<nd.length+2):0<=Qm nd n:=by
 by_cases h2:n<2
 ·rw[iB h2];omega
 ·obtain⟨z,hz⟩:=WG h2 hn;rw[dV h2 hz];exact(h _ _ hz).1
theorem hQQ {a b c:Nat}(ha:a<c)(hb:b<c):2^a+2^b<=2^c:=by
 obtain⟨d,rfl⟩:∃d,c=d+1:=⟨c-1,by omega⟩
 have h1:2^a<=2^d:=WW (by decide) (by omega);have h2:2^b<=2^d:=WW (by decide) (by omega);rw[nD];omega
theorem hQS (a:Nat):1<=2^a:=Nat.one_le_two_pow
theorem HD {nd:List Br}(h:Rd0 nd){k:Nat}(hk:VIn k nd):∀(m:Nat)(n:Int)(st:List Br×List Nat),0<=n->n<m->n<nd.length+2->(Zf nd m n st).2.1.length+1<=st.1.length+2^((k:Int)-Qm nd n).toNat
 | 0,n,st,h0,hm,_=>by omega
 | m+1,n,st,h0,hm,hn=>by
  have p:=hQS ((k:Int)-Qm nd n).toNat;by_cases h2:n<2
  ·rw[lq h2];simp only;omega
  by_cases h3:0<st.2[(n-2).toNat]?.getD 0
  ·rw[lr h2 h3];simp only;omega
  obtain⟨b,hb⟩:=WG h2 hn;obtain⟨b1,b2,b3,b4,b5,b6,b7,b8,b9,bA⟩:=h _ _ hb;have gW:=hk b (Xk hb);have hlv:=dV h2 hb;rw[nR h2 h3 hb];have i1:=HD h hk m b.l st b3 (by omega) (by omega);generalize (Zf nd m b.l st)=p1 at*;have i2:=HD h hk m b.h p1.2 b5 (by omega) (by omega);generalize (Zf nd m b.h p1.2)=p2 at*;have:=hQQ (a:=((k:Int)-Qm nd b.l).toNat) (b:=((k:Int)-Qm nd b.h).toNat) (c:=((k:Int)-Qm nd n).toNat) (by omega) (by omega);simp only[Qq,Q6,Ji];omega
theorem HE {nd:List Br}{k:Nat}(hk:VIn k nd):∀(m:Nat)(n:Int)(st:List Br×List Nat),VIn k st.1->VIn k (Zf nd m n st).2.1
 | 0,n,st,h=>h
 | m+1,n,st,h=>by
  by_cases h2:n<2
  ·rw[lq h2];exact h
  by_cases h3:0<st.2[(n-2).toNat]?.getD 0
  ·rw[lr h2 h3];exact h
  cases hb:nd[(n-2).toNat]? with
  | none=>rw[Zf,if_neg h2,if_neg h3,hb];exact h
  | some b=>
   rw[nR h2 h3 hb];have i1:=HE hk m b.l st h;generalize (Zf nd m b.l st)=p1 at*;have i2:=HE hk m b.h p1.2 i1;generalize (Zf nd m b.h p1.2)=p2 at*;intro x hx;simp only[Xv,QL] at hx;rcases hx with hx | rfl
   ·exact i2 x hx
   ·exact hk b (Xk hb)
theorem hQT {nd:List Br}{k:Nat}(hk:VIn k nd)(r:Int):VIn k (bS nd r).1:=HE hk _ _ _ (VIn.nil k)
theorem VD.len {nd:List Br}{r:Int}(h:VD nd r){k:Nat}(hk:VIn k nd):nd.length+1<=2^k:=by
 have i:=HD h.rd0 hk (r.toNat+1) r ([],List.replicate nd.length 0) h.2.1 (by have:=h.2.1;omega) h.2.2.1;have e:(Zf nd (r.toNat+1) r ([],List.replicate nd.length 0)).2.1=nd:=QD Prod.fst h.2.2.2;rw[e] at i;have:=h.rd0.lvl0 h.2.2.1;have p:2^((k:Int)-Qm nd r).toNat<=2^k:=WW (by decide) (by omega);simp only[Ji] at i;omega
theorem hQU {k:Nat}{l:List Br}(h:VIn k l){b:Br}(hb:b.v<k):VIn k (Z6 b l).1:=by
 unfold Z6;split
 ·exact h
 ·split
  ·exact h
  ·intro x hx;simp only[Xv,QL] at hx;rcases hx with hx | rfl
   ·exact h x hx
   ·exact hb
theorem HF {a b:List Br}(ha:VO a)(hb:VO b){k:Nat}(ka:VIn k a)(kb:VIn k b)(op:Int):∀(m:Nat)(x y:Int)(st:List Br×List Tr3),0<=x->0<=y->x<a.length+2->y<b.length+2->VIn k st.1->VIn k (Xs a b op m x y st).2.1
 | 0,_,_,st,_,_,_,_,h=>h
 | m+1,x,y,st,x0,y0,hx,hy,h=>by
  by_cases Xu:x<2/\y<2
  ·rw[ly Xu];exact h
  cases k3:st.2.find? (λt=>decide (t.1=x/\t.2.1=y))with
  | some t=>rw[lz Xu k3];exact h
  | none=>
   have Fy:min (Qm a x) (Qm b y)<k:=by
    by_cases c:x<2
    ·have:=kb.lvl (n:=y) (λc2=>Xu ⟨c,c2⟩) hy;rw[Jb];split<;>omega
    ·have:=ka.lvl (n:=x) c hx;rw[Jb];split<;>omega
   have ZI:min (Qm a x) (Qm b y)<64:=by
    by_cases c:x<2
    ·have:=aC hb (n:=y) (λc2=>Xu ⟨c,c2⟩) (by omega);rw[Jb];split<;>omega
    ·have:=aC ha (n:=x) c (by omega);rw[Jb];split<;>omega
   rw[lA Xu k3 _ rfl];generalize min (Qm a x) (Qm b y)=v at*;obtain⟨s1,s2,s3,s4,s5⟩:=WF ha (n:=x) x0 ZI;obtain⟨t1,t2,t3,t4,t5⟩:=WF hb (n:=y) y0 ZI;have i1:=HF ha hb ka kb op m (Qo a x v).1 (Qo b y v).1 st s1 t1 (by omega) (by omega) h;generalize (Xs a b op m (Qo a x v).1 (Qo b y v).1 st)=r0 at*;have i2:=HF ha hb ka kb op m (Qo a x v).2 (Qo b y v).2 r0.2 s3 t3 (by omega) (by omega) i1;exact hQU i2 Fy
structure Set1 (k:Nat) (nd:List Br) (r:Int) (o:(Nat->Bool)->Bool):Prop where
 vd:VD nd r
 vin:VIn k nd
 mean:∀e,ev nd r e=o e
theorem Set1.len {k:Nat}{nd:List Br}{r:Int}{o:(Nat->Bool)->Bool}(h:Set1 k nd r o)(hk:k<=12):nd.length<=4095:=by
 have:=h.vd.len h.vin;have p:2^k<=2^12:=WW (by decide) hk;omega
theorem Set1.chk {k:Nat}{nd:List Br}{r:Int}{o:(Nat->Bool)->Bool}(h:Set1 k nd r o)(hk:k<=12):XH nd r=0:=Hd (by have:=h.len hk;omega) h.vd
theorem Set1.unique {k k':Nat}{nd X3:List Br}{r r':Int}{o o':(Nat->Bool)->Bool}(h:Set1 k nd r o)(h':Set1 k' X3 r' o')(e:∀x,o x=o' x):(nd,r)=(X3,r'):=
 h.vd.eqv h'.vd (λx=>by rw[h.mean,h'.mean,e])
theorem Set1.congr {k:Nat}{nd:List Br}{r:Int}{o o':(Nat->Bool)->Bool}(h:Set1 k nd r o)(e:∀x,o x=o' x):Set1 k nd r o':=⟨h.vd,h.vin,λx=>(h.mean x).trans (e x)⟩
theorem eX {k:Nat}{a b:List Br}{ra rb:Int}{o o':(Nat->Bool)->Bool}(h:Set1 k a ra o)(h':Set1 k b rb o')(op:Int):Set1 k (V4 a ra b rb op).1 (V4 a ra b rb op).2 (λe=>Kt op (o e) (o' e)):=by
 obtain⟨v,m⟩:=hQj h.vd h'.vd op;refine⟨v,hQT (HF h.vd.dok h'.vd.dok h.vin h'.vin op _ _ _ _ h.vd.2.1 h'.vd.2.1 h.vd.2.2.1 h'.vd.2.2.1 (VIn.nil k)) _,λe=>?_⟩;rw[m e,h.mean,h'.mean]
theorem iC {k:Nat}(hk:k<=12){a b:List Br}{ra rb:Int}{o o':(Nat->Bool)->Bool}(h:Set1 k a ra o)(h':Set1 k b rb o')(op:Int):eW a ra b rb op=(V4 a ra b rb op,0):=by
 have l:=(eX h h' op).len hk;unfold eW;rw[if_neg (λhh=>hh (h.chk hk)),if_neg (λhh=>hh (h'.chk hk))];unfold jU;rw[if_neg (by omega)]
theorem bT (k:Nat)(b:Bool):Set1 k [] (if b then 1 else 0) (λ_=>b):=by
 refine⟨⟨λj x hx=>by simp at hx,by cases b<;>decide,by cases b<;>decide,by cases b<;>rfl⟩,VIn.nil k,λe=>?_⟩;rw[JT (by cases b<;>decide)];cases b<;>rfl
def eY (nm:List (List Nat))(s:List Nat):Except Int Fm:=if ZQ nm then
  if(XX s).2 then match uq (Jj nm) (s.length+1) (XX s).1 with
   | none=>.error 31
   | some (t,u,ts)=>if ts≠ [] then .error 31 else if u then .error 3 else if 512<QG t then .error 2 else .ok t
  else .error 31
 else .error 1
theorem hQV (nm:List (List Nat))(s:List Nat):dP nm s=match eY nm s with
  | .ok t=>(Za t 0,0)
  | .error e=>([],e):=by
 rw[S9];unfold Ck eY;cases ZQ nm with
 | false=>rfl
 | true=>
  cases (XX s).2 with
  | false=>rfl
  | true=>
   simp only[if_true];cases uq (Jj nm) (s.length+1) (XX s).1 with
   | none=>rfl
   | some q=>
    obtain⟨t,u,ts⟩:=q;simp only;by_cases h1:ts≠ []
    ·rw[Qe h1,Qe h1]
    ·rw[if_neg h1,if_neg h1];by_cases h2:u=true
     ·rw[Qe h2,Qe h2]
     ·rw[if_neg h2,if_neg h2];by_cases h3:512<QG t
      ·rw[Qe h3,Qe h3]
      ·rw[if_neg h3,if_neg h3]
def Cp (N:Nat)(opd:List (List Nat)->Option (Fm×Bool×List (List Nat))):Prop:=∀ts t Jp,opd ts=some (t,false,Jp)->VarsIn N t
theorem TC {N:Nat}{op:List Nat}{mk:Fm->Fm->Fm}{opd:List (List Nat)->Option (Fm×Bool×List (List Nat))}(hm:∀a b,VarsIn N a->VarsIn N b->VarsIn N (mk a b))(h:Cp N opd):
  ∀(m:Nat) (a:Fm) (u:Bool) (ts:List (List Nat)) (t:Fm) (Jp:List (List Nat)),(u=false->VarsIn N a)->YH op mk opd m a u ts=some (t,false,Jp)->VarsIn N t
 | 0,a,u,ts,t,Jp,_,hh=>by cases hh
 | m+1,a,u,ts,t,Jp,ha,hh=>by
  unfold YH at hh;split at hh
  ·cases ho:opd ts.tail with
   | none=>rw[ho] at hh;cases hh
   | some q=>
    obtain⟨b,v,rO⟩:=q;rw[ho] at hh;refine TC hm h m _ _ _ t Jp (λhuv=>?_) hh;cases u<;>cases v<;>simp at huv
    exact hm _ _ (ha rfl) (h _ _ _ ho)
  ·cases hh;exact ha rfl
theorem Cq {N:Nat}{op:List Nat}{mk:Fm->Fm->Fm}{opd:List (List Nat)->Option (Fm×Bool×List (List Nat))}(hm:∀a b,VarsIn N a->VarsIn N b->VarsIn N (mk a b))(h:Cp N opd):Cp N (YX op mk opd):=λts t Jp hh=>by
 unfold YX at hh;cases ho:opd ts with
 | none=>rw[ho] at hh;cases hh
 | some q=>
  obtain⟨a,u,rO⟩:=q;rw[ho] at hh;exact TC hm h _ _ _ _ t Jp (λhu=>by subst hu;exact h _ _ _ ho) hh
theorem TD {N:Nat}{ix:List Nat->Option Nat}(hx:∀l n,ix l=some n->n<N):∀n,Cp N (KU ix n)
 | 0=>λts t Jp h=>by cases h
 | n+1=>λts t Jp h=>by
  have ih:=TD hx n;cases ts with
  | nil=>cases h
  | cons w ts=>
   unfold KU at h;split at h
   ·cases ho:KU ix n ts with
    | none=>rw[ho] at h;cases h
    | some q=>
     obtain⟨a,u,rO⟩:=q;rw[ho] at h;cases h;exact show VarsIn N a from ih _ _ _ ho
   split at h
   ·cases ho:YX [124,124] Fm.or (YX [38,38] Fm.and (KU ix n)) ts with
    | none=>rw[ho] at h;cases h
    | some q=>
     obtain⟨a,u,rO⟩:=q;rw[ho] at h;simp only at h;split at h
     ·cases h;exact Cq (mk:=Fm.or) (λ_ _ h h'=>⟨h,h'⟩) (Cq (mk:=Fm.and) (λ_ _ h h'=>⟨h,h'⟩) ih) _ _ _ ho
     ·cases h
   split at h
   ·simp only[Option.some.injEq,Prod.mk.injEq] at h;obtain⟨rfl,h2,_⟩:=h;unfold lF at h2 ⊢;split
    ·trivial
    ·split
     ·trivial
     ·rename_i h3 h4;rw[if_neg h3,if_neg h4] at h2;simp only at h2;cases hi:ix w with
      | none=>rw[hi] at h2;cases h2
      | some k=>exact hx _ _ hi
   ·cases h
theorem TE (l:List Nat)(N:Nat):∀(names:List (List Nat))(i:Nat)(QT:Option Nat),(∀n,QT=some n->n<N)->i+names.length<=N->∀n,dO l names i QT=some n->n<N
 | [],i,QT,ha,_,n,h=>ha n h
 | s::names,i,QT,ha,hl,n,h=>by
  unfold dO at h;refine TE l N names (i+1) _ (λm hm=>?_) (by simp at hl;omega) n h;split at hm
  ·cases hm;simp at hl;omega
  ·exact ha m hm
theorem lI {names:List (List Nat)}{l:List Nat}{n:Nat}(h:Jj names l=some n):n<names.length:=TE l _ names 0 none (λ_ h=>by cases h) (by omega) n h
theorem hQW {nm:List (List Nat)}{s:List Nat}{t:Fm}(h:eY nm s= .ok t):ZQ nm=true/\VarsIn nm.length t/\QG t<=512:=by
 unfold eY at h;split at h
 ·rename_i hn;split at h
  ·split at h
   ·cases h
   ·rename_i t' u ts hw;split at h
    ·cases h
    split at h
    ·cases h
    split at h
    ·cases h
    ·rename_i hu hs;cases h;have hu:u=false:=by simpa using hu
     subst hu;exact⟨hn,Cq (mk:=Fm.or) (λ_ _ h h'=>⟨h,h'⟩) (Cq (mk:=Fm.and) (λ_ _ h h'=>⟨h,h'⟩) (TD (λl n h=>lI h) _)) _ _ _ hw,by omega⟩
  ·cases h
 ·cases h
theorem hQX {nm:List (List Nat)}{s:List Nat}{e:Int}(h:eY nm s= .error e):e=1∨e=2∨e=3∨e=31:=by
 unfold eY at h
 repeat' split at h
 all_goals first | cases h | skip
 all_goals simp
abbrev BF:=(Nat->Bool)->Bool
def VQ (nm:List (List Nat))(s:List Nat):Except Int BF:=match eY nm s with
 | .ok t=>.ok (evF t)
 | .error e=>.error (if e=2 then 2 else 71)
inductive Dir where
 | txt
 | ifd (s:List Nat)
 | elif (s:List Nat)
 | els
 | en
 | inc (s:List Nat)
def ZC:List Nat:=[35,105,102,32]
def pElif:List Nat:=[35,101,108,105,102,32]
def pInc:List Nat:=[35,105,110,99,108,117,100,101,32]
def Ku:List Nat:=[35,101,108,115,101]
def X6:List Nat:=[35,101,110,100]
def Zk (s:List Nat):Dir:=if ZC.isPrefixOf s then .ifd (s.drop 4)else if pInc.isPrefixOf s then .inc (s.drop 9)else if pElif.isPrefixOf s then .elif (s.drop 6)else if s=Ku then .els else if s=X6 then .en else .txt
def QW:List Nat->List (List Nat)
 | []=>[]
 | b::l=>if b=10 then []::QW l else match QW l with
  | []=>[[b]]
  | s::ls=>(b::s)::ls
def Qk (ls:List (List Nat)):List Nat:=ls.flatMap (λs=>s++ [10])
theorem V6 (s:List Nat)(ls:List (List Nat)):Qk (s::ls)=s++10::Qk ls:=by simp[Qk]
theorem xB (ls:List (List Nat)):ls.length<=(Qk ls).length:=by
 induction ls with
 | nil=>exact QC _
 | cons s ls ih=>rw[V6];simp only[Q6,Qq];omega
def lJ (ls:List (List Nat)):Prop:=∀s∈ls,10∉s
theorem hQY (s l:List Nat)(h:10∉s):QW (s++10::l)=s::QW l:=by
 induction s with
 | nil=>simp[QW]
 | cons b s ih=>
  simp only[Q3,not_or] at h;rw[Z5,QW,if_neg (λe=>h.1 e.symm),ih h.2]
theorem qU {ls:List (List Nat)}(h:lJ ls):QW (Qk ls)=ls:=by
 induction ls with
 | nil=>rfl
 | cons s ls ih=>rw[V6,hQY _ _ (h s (by simp)),ih (λt ht=>h t (by simp[ht]))]
def cN (l:List Nat):Prop:=l=[]∨l.getLast? =some 10
theorem nX:∀(l:List Nat),lJ (QW l)
 | []=>λs hs=>by simp[QW] at hs
 | b::l=>by
  have ih:=nX l;intro s hs;unfold QW at hs;split at hs
  ·simp only[Q3] at hs;rcases hs with rfl | hs
   ·simp
   ·exact ih s hs
  ·rename_i hb;cases hl:QW l with
   | nil=>
    rw[hl] at hs;simp only[QL] at hs;subst hs;simpa using λe=>hb e.symm
   | cons t ls=>
    rw[hl] at hs ih;simp only[Q3] at hs;rcases hs with rfl | hs
    ·have:=ih t (by simp);simp only[Q3,not_or];exact⟨λe=>hb e.symm,this⟩
    ·exact ih s (by simp[hs])
theorem aE:∀{l:List Nat},cN l->Qk (QW l)=l
 | [],_=>rfl
 | b::l,h=>by
  have hl:cN l:=by
   cases l with
   | nil=>exact .inl rfl
   | cons c l=>right;rcases h with h | h;cases h;simpa using h
  have ih:=aE hl;unfold QW;split
  ·rename_i hb;subst hb;rw[V6,ih]<;>rfl
  ·rename_i hb;cases Vg:QW l with
   | nil=>
    rw[Vg] at ih;have:l=[]:=ih.symm;subst this;rcases h with h | h
    ·cases h
    ·simp at h;exact Xd h hb
   | cons t ls=>
    rw[Vg] at ih;simp only[V6] at ih ⊢;rw[Z5,ih]
theorem TF (ls:List (List Nat)):cN (Qk ls):=by
 induction ls with
 | nil=>exact .inl rfl
 | cons s ls ih=>
  right
  rw[V6];rcases ih with h | h
  ·rw[h];simp
  ·rw[List.getLast?_append,List.getLast?_cons,h];simp
structure Sg where
 f:Nat
 t:Nat
 fl:Nat
 at_:Nat
 o:BF
structure Gs where
 tx:List Nat
 sg:List Sg
 fr:Bool
structure Se where
 ou:BF
 re:BF
 ot:Bool
 ln:Nat
structure Pl where
 e:Int
 f:Int
 l:Int
def nY (n:Nat):List Sg->List Sg
 | []=>[]
 | [x]=>[{x with t:=n}]
 | x::y::l=>x::nY n (y::l)
theorem iD (n:Nat)(l:List Sg)(x:Sg):nY n (l++ [x])=l++ [{x with t:=n}]:=by
 induction l with
 | nil=>rfl
 | cons y l ih=>
  cases l with
  | nil=>rfl
  | cons z l=>rw[Z5,Z5] at*;rw[nY,ih]<;>rfl
def Vi (s:List Nat)(fl at_:Nat)(k:BF)(g:Gs):Option Gs:=
 if 1048576<g.tx.length+s.length∨(g.fr=true/\g.sg.length=65536)then none
 else some ⟨g.tx++s,nY (g.tx.length+s.length) (if g.fr then g.sg++ [⟨g.tx.length,0,fl,at_,k⟩] else g.sg),false⟩
def cO (ix:List Nat->Option Nat)(rd:List Nat)(s:List Nat):Except Int Nat:=
 if s.length<2∨s.head? ≠some 34∨s.getLast? ≠some 34∨s.count 34≠2 then .error 71
 else match ix ((s.drop 1).take (s.length-2))with
  | none=>.error 73
  | some n=>if n∈rd then .error 73 else .ok n
abbrev ZD (a b:BF):BF:=λe=>a e&&b e
abbrev JI (a b:BF):BF:=λe=>a e && !b e
def ZZ (nm:List (List Nat))(fl d0:Nat)(inc:List Nat->Nat->Nat->BF->Gs->Except Pl Gs):List (List Nat)->Nat->Nat->BF->List Se->Gs->Except Pl Gs
 | [],_,_,_,op,g=>match op with
  | []=>.ok {g with fr:=true}
  | x::_=>.error ⟨72,fl,x.ln⟩
 | s::ls,ln,at_,k,op,g=>match Zk s with
  | .ifd r=>match VQ nm r with
   | .error e=>.error ⟨e,fl,ln+1⟩
   | .ok d=>if d0+op.length=64 then .error ⟨2,fl,ln+1⟩else ZZ nm fl d0 inc ls (ln+1) (at_+s.length+1) (ZD k d) (⟨k,JI k d,false,ln+1⟩::op) {g with fr:=true}
  | .inc r=>match inc r (ln+1) (d0+op.length) k g with
   | .error p=>.error p
   | .ok g'=>ZZ nm fl d0 inc ls (ln+1) (at_+s.length+1) k op {g' with fr:=true}
  | .elif r=>match op with
   | []=>.error ⟨72,fl,ln+1⟩
   | x::Xz=>if x.ot then .error ⟨71,fl,ln+1⟩else match VQ nm r with
    | .error e=>.error ⟨e,fl,ln+1⟩
    | .ok d=>ZZ nm fl d0 inc ls (ln+1) (at_+s.length+1) (ZD x.re d) ({x with re:=JI x.re d}::Xz) {g with fr:=true}
  | .els=>match op with
   | []=>.error ⟨72,fl,ln+1⟩
   | x::Xz=>if x.ot then .error ⟨71,fl,ln+1⟩else ZZ nm fl d0 inc ls (ln+1) (at_+s.length+1) x.re ({x with ot:=true}::Xz) {g with fr:=true}
  | .en=>match op with
   | []=>.error ⟨72,fl,ln+1⟩
   | x::Xz=>ZZ nm fl d0 inc ls (ln+1) (at_+s.length+1) x.ou Xz {g with fr:=true}
  | .txt=>match Vi (s++ [10]) fl at_ k g with
   | none=>.error ⟨2,fl,ln+1⟩
   | some g'=>ZZ nm fl d0 inc ls (ln+1) (at_+s.length+1) k op g'
def WZ (nm:List (List Nat))(fs:List (List Nat×List Nat)):Nat->List Nat->Nat->Nat->BF->Gs->Except Pl Gs
 | 0,_,_,_,_,_=>.error ⟨0,0,0⟩
 | f+1,rd,d,n,k,g=>ZZ nm n d (λr ln d k g=>match cO (Jj (fs.map (·.1))) (n::rd) r with
   | .error e=>.error ⟨e,n,ln⟩
   | .ok m=>if d=64 then .error ⟨2,n,ln⟩else WZ nm fs f (n::rd) (d+1) m k g) (QW ((fs[n]?.map (·.2)).getD [])) 0 0 k [] {g with fr:=true}
def lK (s:List Nat):Bool:=decide (s≠ [])&&s.all (λb=>decide (32<=b)&&b !=34&&b !=127)
def br (l:List Nat):Bool:=decide (l=[])||l.getLast? ==some 10
def cP:List (List Nat×List Nat)->List (List Nat)->Nat->Option Pl
 | [],_,_=>none
 | x::l,seen,i=>if¬(lK x.1=true/\x.1∉seen/\br x.2=true)then some ⟨70,i,0⟩else if 1048576<x.2.length then some ⟨2,i,0⟩else cP l (seen++ [x.1]) (i+1)
def YY (fs:List (List Nat×List Nat)):Option Pl:=if 256<fs.length then some ⟨2, -1,0⟩else cP fs [] 0
def KH (nm:List (List Nat))(fs:List (List Nat×List Nat))(root:List Nat):Except Pl Gs:=
 if ZQ nm=false then .error ⟨30, -1,0⟩else match YY fs with
  | some p=>.error p
  | none=>match Jj (fs.map (·.1)) root with
   | none=>.error ⟨73, -1,0⟩
   | some n=>WZ nm fs 65 [] 0 n (λ_=>true) ⟨[],[],false⟩
theorem jV (A:Option Addr)(n c:Nat)(r m v:Int)(nd:List Br)(w:World)(h:SB w A n c nd)(hm:m<n+2)(fx:v<64):
  Fn Tryz.prog 167 [Xl A n c r,.int .i64 m,.int .i64 v] w (λu w'=>u= .tuple #[.int .i64 (Qo nd m v).1,.int .i64 (Qo nd m v).2]/\Ext w w'):=by
 have Q0:=h.2;have bI:n<=9223372036854775807:=by have:=h.1.le;have:=h.1.cap;simp only[maxLen] at this;omega
 refine QH (c:={fQt with cuts:=[]}) Qa Tryz.func167 rfl rfl rfl ?_;refine new (λw1 Qd Q9 Qh=>?_);refine Qt Qh rfl ?_;refine call (dQ A n c r m nd w1 (h.ext Qd) hm) ?_;rintro u w2 ⟨rfl,Qg⟩;have QR:=Qd.trans Qg;have Qv:=Qh.ext Qg;refine YE (λc1=>?_) (λc1=>?_)
 ·exact⟨by unfold Qo;rw[Qe c1],QR⟩
 ·have vX:¬m<2:=λh2=>by
   unfold Qm at c1;rw[Qe h2] at c1;omega
  have hx:=XB (show(m-2).toNat<nd.length by omega);generalize nd[(m-2).toNat]=b at hx;have e:Qo nd m v=(b.l,b.h):=by unfold Qo;rw[if_neg (by omega),hx]
  rw[e];refine XL Qa (Ext w2) 16 [(true,0),(true,1),(true,2),(true,3),(true,4),(true,5),(true,6),(true,7),(true,8),(true,9),(true,10),(true,11),(true,12),(true,13),(true,14),(true,15)] (by kernel_rfl) (Ext.drew w2) ?_;refine QQ (v:=.slice A n c) (λw' Qb=>by rw[(Qv.ext Qb).cell];rfl) ?_;refine Qj (((m-2).toNat:Nat):Int) (by omega) (by omega) ?_;refine Zz WY (h.ext QR) rfl (by omega) (λp z hz hc=>?_);have pP:z=b:=Option.some.inj (hz.symm.trans hx);subst pP;refine QQ (v:=.int .i64 z.l) (λw' Qb=>Qb.cell (hc 1 _ rfl)) ?_;refine QQ (v:=.slice A n c) (λw' Qb=>by rw[(Qv.ext Qb).cell];rfl) ?_;refine Qj (((m-2).toNat:Nat):Int) (by omega) (by omega) ?_;refine Zz WY (h.ext QR) rfl (by omega) (λp' z' ag Z3=>?_);have OO:z'=z:=Option.some.inj (ag.symm.trans hx);subst OO;refine QQ (v:=.int .i64 z'.h) (λw' Qb=>Qb.cell (Z3 2 _ rfl)) ?_;exact⟨rfl,QR.trans (Ext.drew w2)⟩
def xC (nd:List Br)(b:Br):Option Value:=(KT b nd).map λi=>.int .i64 ((i+2:Nat):Int)
structure Bd (w:World) (base pb km:Nat) (NA:Option Addr) (nc:Nat) (nd:List Br):Prop where
 blk:Blk w pb 177 [.slice NA nd.length nc,.map (some km)]
 own:Own w base 105 3 NA nd.length nc (lv nd)
 known:∃m,MapQ cK w km m/\∀b,XC b m=xC nd b
 lt:pb<base/\km<base/\pb≠km
 top:base<=w.heap.size
theorem Bd.ext {w w':World}{base pb km:Nat}{NA:Option Addr}{nc:Nat}{nd:List Br}(h:Bd w base pb km NA nc nd)(k:Ext w w'):Bd w' base pb km NA nc nd:=
 ⟨h.blk.ext k,h.own.ext k,let ⟨m,h1,h2⟩:=h.known;⟨m,h1.ext k,h2⟩,h.lt,X4 h.top k.size⟩
def BS (pb km:Nat)(NA:Option Addr):Nat->Prop:=λk=>k=pb∨k=km∨Ql NA k
theorem BS.moved {w:World}{pb km:Nat}{A A':Option Addr}(h:Moved w A A'):∀k,BS pb km A' k->BS pb km A k∨w.heap.size<=k:=by
 rintro k (rfl | rfl | hk)
 ·exact .inl (.inl rfl)
 ·exact .inl (.inr (.inl rfl))
 ·rcases h.rows k hk with h | h
  ·exact .inl (.inr (.inr h))
  ·exact .inr h
def hQZ (w:World)(base pb km:Nat)(NA:Option Addr)(nd:List Br)(w':World):Prop:=∃NA' nc',Bd w' base pb km NA' nc' nd/\Mod (BS pb km NA) w w'/\Moved w NA NA'
theorem TG (b x:Br):∀l:List Br,KT x l=none->KT b (l++ [x])=if b=x then some l.length else KT b l
 | [],_=>by
  show(if x=b then some 0 else(none:Option Nat).map (·+1))=_;by_cases h:x=b
  ·rw[Qe h,Qe h.symm]<;>rfl
  ·rw[if_neg h,if_neg (λe=>h e.symm)]<;>rfl
 | y::l,hx=>by
  have hy:y≠x:=λe=>by rw[KT,Qe e] at hx;cases hx
  have hl:KT x l=none:=by
   rw[KT,if_neg hy] at hx;cases hh:KT x l with
   | none=>rfl
   | some k=>rw[hh] at hx;cases hx
  have ih:=TG b x l hl;show(if y=b then some 0 else(KT b (l++ [x])).map (·+1))=if b=x then some (l.length+1)else if y=b then some 0 else(KT b l).map (·+1)
  rw[ih];by_cases h1:b=x
  ·rw[Qe h1,Qe h1,if_neg (λe=>hy (e.trans h1))]<;>rfl
  ·rw[if_neg h1,if_neg h1]
theorem hQ2 {b:Br}{nd:List Br}{i:Nat}(h:b.l≠b.h)(k:KT b nd=some i):Z6 b nd=(nd,((i+2:Nat):Int)):=by unfold Z6;rw[if_neg h,k]
theorem hQ3 {b:Br}{nd:List Br}(h:b.l≠b.h)(k:KT b nd=none):Z6 b nd=(nd++ [b],((nd.length+2:Nat):Int)):=by unfold Z6;rw[if_neg h,k]
theorem TH (base pb km:Nat)(NA:Option Addr)(nc:Nat)(nd:List Br)(b:Br)(w:World)(h:Bd w base pb km NA nc nd)(hl:nd.length+1<=1000000000000):
  Fn Tryz.prog 189 [.pointer (some ⟨pb,0,none⟩),.int .i64 b.v,.int .i64 b.l,.int .i64 b.h] w (λu w'=>u= .int .i64 (Z6 b nd).2/\hQZ w base pb km NA (Z6 b nd).1 w'):=by
 obtain⟨p1,p2,p3⟩:=h.lt;have mW:=h.top;have Yb:=h.own.rows;refine QH (c:={fQA with cuts:=[]}) Qa Tryz.func189 rfl rfl rfl ?_;refine Zd (λc1=>?_) (λc1=>?_)
 ·have e:Z6 b nd=(nd,b.l):=by unfold Z6;rw[Qe c1]
  rw[e];exact⟨rfl,NA,nc,h,Mod.refl _ _,Moved.refl _ _⟩
 refine new (λw1 Qd Q9 Qh=>?_);refine Qw Qh rfl (sc rfl) (λw2 cm Zi Qv=>?_);have Qg:Ext w w2:=XV Qd Qh cm
 replace Qv:Blk w2 w.heap.size 105 b.cells:=Qv;have h2:=h.ext Qg;obtain⟨m,hm,Vp⟩:=h2.known;refine XL Qa (Ext w2) 11 [(true,0),(true,1),(true,2),(true,3),(true,4),(false,5),(true,6),(true,7),(true,8),(true,9),(true,10)] (by kernel_rfl) (Ext.drew w2) ?_;refine QQ (v:=.map (some km)) (λw' Qb=>by rw[(h2.blk.ext Qb).cell];rfl) ?_;refine Xo (vs:=b.cells) rfl (λw' Qb j v hj=>by rw[(Qv.ext Qb).cell];exact hj) ?_;refine GX (kv:=cK) (a:=b) Qa rfl rfl rfl rfl Cc rfl rfl (hm.ext (Ext.drew w2)) ?_;refine⟨Ext.drew w2,?_⟩;have QR:=Qg.trans (Ext.drew w2);have Qu:=Qv.ext (Ext.drew w2);have h3:=h2.ext (Ext.drew w2);have XD:=hm.ext (Ext.drew w2);have JD:w2.heap.size<=w2.drew.heap.size:=(Ext.drew w2).size;generalize w2.drew=w3 at*;cases hf:KT b nd with
 | some i=>
  have ha:XC b m=some (.int .i64 ((i+2:Nat):Int)):=by rw[Vp,xC,hf]<;>rfl
  have de:=hQ2 c1 hf;refine nK (Xc (by rw[ha];rfl) ?_);rw[de];exact⟨by rw[ha];rfl,NA,nc,h3,Mod.of_ext _ QR,Moved.refl _ _⟩
 | none=>
  have ha:XC b m=none:=by rw[Vp,xC,hf]<;>rfl
  have de:=hQ3 c1 hf;refine nK (Q7 (by rw[ha];rfl) ?_);rw[de];have n3:w1.heap.size=w.heap.size+1:=Q9;have FB:¬Ql NA pb:=λhr=>by have:=(Yb _ hr).1;omega
  have FC:¬Ql NA w.heap.size:=λhr=>by have:=(Yb _ hr).2;omega
  refine XL Qa (Mod (Ql NA) w3) 8 [(true,0),(true,1),(true,2),(true,3),(true,4),(true,5),(false,6),(false,7)] (by kernel_rfl) (Mod.of_ext _ (Ext.drew w3)) ?_;refine QQ (v:=.slice NA nd.length nc) (λw' Qb=>by rw[(h3.blk.mod Qb FB).cell];rfl) ?_;refine Xo (vs:=b.cells) rfl (λw' Qb j v hj=>by rw[(Qu.mod Qb FC).cell];exact hj) ?_;refine Xw Qa [b.cells] rfl rfl rfl rfl rfl ⟨rfl,rfl,⟨⟩⟩ rfl (λcs h=>by simp only[QL] at h;subst h;rfl) rfl (by decide) (by decide) ?_;intro w4 Qs KW QX;have Va:=(Ext.drew w3).trans Qs;have h4:=h3.ext Va;refine⟨Mod.of_ext _ Va,?_⟩;have hs4:Sl w4 3 (some ⟨w3.drew.heap.size,0,none⟩) 1 1 b.cells:=Sl.own (sz:=3) (n:=1) QX (QC _) (by decide) (by simp[Br.cells]);refine JH (n:=nd.length) Qa rfl rfl rfl rfl rfl (by decide) rfl rfl ⟨_,rfl⟩ rfl rfl h4.own hs4 (by intro u hu;simp[Br.cells] at hu;rcases hu with rfl | rfl | rfl<;>rfl) (by unfold maxLen;omega) (by show _*24<=_;omega) h4.top ?_;intro A' c' w5 XT bQ7 mQZ;have vp:Mod (Ql NA) w3 w5:=(Mod.of_ext (Ql NA) Va).trans XT (λi hi=>.inl hi);refine⟨vp,?_⟩;have KL:=vp.size;have pQI:=Va.size;have mQ0:=QR.size;refine XQ (h3.blk.mod vp FB) (by simp) (λw6 Vy Xg=>?_);have cj:=Vy.size;have ar:∀i,Ql A' i->base<=i:=λi hi=>(bQ7.rows i hi).1
  have LZ:Blk w6 pb 177 [.slice A' (nd.length+1) c',.map (some km)]:=Xg;refine Qy LZ rfl ?_;refine Qj ((nd.length+2:Nat):Int) (by show((nd.length+1:Nat):Int)+1=_;omega) (by omega) ?_;have hx6:=(Qu.mod vp FC).mod Vy (by show¬w.heap.size=pb;omega);have hq6:MapQ cK w6 km m:=(XD.mod vp (λhr=>by have:=(Yb _ hr).1;omega)).mod Vy (by show¬km=pb;omega);refine XL Qa (Ext w6) 6 [(true,0),(true,1),(true,2),(true,3),(true,4),(true,5)] (by kernel_rfl) (Ext.drew w6) ?_;refine QQ (v:=.map (some km)) (λw' Qb=>by rw[(LZ.ext Qb).cell];rfl) ?_;refine Xo (vs:=b.cells) rfl (λw' Qb j v hj=>by rw[(hx6.ext Qb).cell];exact hj) ?_;refine tV (kv:=cK) (a:=b) Qa rfl rfl rfl rfl Cc rfl rfl rfl (hq6.ext (Ext.drew w6)) (λw8 Jr Yq yF=>?_);have L0:Mod (·=km) w6 w8:=(Mod.of_ext (·=km) (Ext.drew w6)).trans Jr (λi hi=>.inl hi);have Z7:Mod (BS pb km NA) w w3:=Mod.of_ext _ QR;have Jn:Mod (BS pb km NA) w w5:=Z7.trans vp (λi hi=>.inl (.inr (.inr hi)));have Vl:Mod (BS pb km NA) w w6:=Jn.trans Vy (λi hi=>.inl (.inl hi));have ZF:Mod (BS pb km NA) w w8:=Vl.trans L0 (λi hi=>.inl (.inr (.inl hi)));have el:(nd++ [b]).length=nd.length+1:=by simp
  refine⟨rfl,A',c',⟨?_,?_,⟨_,yF,λx=>?_⟩,h.lt,X4 mW ZF.size⟩,ZF,mQZ.back (by omega)⟩
  ·rw[el];exact LZ.mod L0 (by show¬pb=km;omega)
  ·rw[el,Cb];exact(bQ7.mod Vy (λi hi e=>by have:=ar i hi;have e':i=pb:=e;omega)).mod L0 (λi hi e=>by have:=ar i hi;have e':i=km:=e;omega)
  ·rw[bj,Vp,xC,xC,TG x b nd hf];by_cases Jt:x=b
   ·rw[Qe Jt,Qe Jt]<;>rfl
   ·rw[if_neg Jt,if_neg Jt]
theorem Cr (F:Option Addr)(m cf:Nat)(L:List DV)(w:World)(h:SlS DV.cells 2 w F m cf L)(hL:∀x∈L,SB w x.A x.n x.c x.nd):
  Fn Tryz.prog 111 [.slice F m cf] w (λv w'=>v= .int .i64 (cL L)/\Ext w w'):=by
 have Q0:=h.2;have bI:m<=9223372036854775807:=by have:=h.1.le;have:=h.1.cap;simp only[maxLen] at this;omega
 refine QH (c:={eQQ with cuts:=[]}) Qa Tryz.func111 rfl rfl rfl ?_;refine loop Qa [8] (λs:Nat=>[.int .i64 s]) (λs w'=>Ext w w'/\s<=m/\∀(j:Nat) (y:DV),j<s->L[j]? =some y->XH y.nd y.r=0) (λs _=>m-s) 0 rfl ⟨Ext.refl w,Xt _,λj y hj=>Xd hj (by omega)⟩ ?_;rintro s w1 ⟨Qd,hs,hall⟩;refine Qz (λh2=>?_) (λh2=>?_)
 ·refine Zz dS (h.ext Qd) rfl (by omega) (λp x hx hc=>?_);refine JN (vs:=x.cells) rfl hc ?_;refine new (λw2 Qg Zi Qv=>?_);refine Qw Qv rfl (sc rfl) (λw3 Je JD Qu=>?_);have Qi:Ext w w3:=Qd.trans (XV Qg Qv Je);refine Qt Qu rfl ?_;refine call (uf x.A x.n x.c x.nd x.r w3 ((hL x (Xk hx)).ext Qi)) ?_;rintro v w4 ⟨rfl,Qs⟩;refine YE (λc1=>?_) (λc1=>?_)
  ·exact⟨by rw[hQd hall hx c1],Qi.trans Qs⟩
  ·refine Qj ((s+1:Nat):Int) (by omega) (by omega) ?_;refine⟨s+1,rfl,⟨Qi.trans Qs,by omega,λj y hj hy=>?_⟩,by show m-(s+1)<m-s;omega⟩;by_cases Y5:j<s
   ·exact hall j y Y5 hy
   ·have:j=s:=by omega
    subst this;rw[Option.some.inj (hy.symm.trans hx)];exact c1
 ·exact⟨by rw[hQe (λj y hj hy=>hall j y (by omega) hy)],Qd⟩
theorem TI (A:Option Addr)(n c:Nat)(a:List Br)(ra:Int)(w0 w:World)(h:SB w A n c a)(hr:∀i,Ql A i->w0.heap.size<=i)(hE:Ext w0 w):
  Fn Tryz.prog 127 [Xl A n c ra] w (qK w0 (jU (a,ra))):=by
 have Vf:=h.2;refine QH (c:={eQX with cuts:=[]}) Qa Tryz.func127 rfl rfl rfl ?_;refine new (λw1 Qd Q9 Qh=>?_);refine new (λw2 Qg Zi Qv=>?_);have QR:=Qd.trans Qg;refine Qy (Qh.ext Qg) rfl ?_;refine Qz (λc1=>?_) (λc1=>?_)
 ·have e:jU (a,ra)=(([],0),2):=by unfold jU;rw[Qe (show 4096<(a,ra).1.length by simp only;omega)]
  rw[e];refine Qw Qv rfl (sc rfl) (λw3 Je _ Qu=>?_);have Z7:Mod (·=w1.heap.size) w2 w3:=qQT Je rfl;refine Qt Qu rfl ?_;exact⟨none,0,0,rfl,hE.trans (Z7.ext QR (λi hi=>by have:=Qd.size;omega)),SlS.nil _,λi ⟨_,e,_⟩=>by cases e⟩
 ·have e:jU (a,ra)=((a,ra),0):=by unfold jU;rw[if_neg (show¬4096<(a,ra).1.length by simp only;omega)]
  rw[e];refine Qt (Qh.ext Qg) rfl ?_;refine Qw Qv rfl (sc rfl) (λw3 Je _ Qu=>?_);have Z7:Mod (·=w1.heap.size) w2 w3:=qQT Je rfl;refine Qt Qu rfl ?_;refine⟨A,n,c,rfl,hE.trans (Z7.ext QR (λi hi=>by have:=Qd.size;omega)),⟨(h.ext QR).1.modS Z7 (λh0 i hi e=>by obtain⟨ad,rfl,rfl⟩:=hi;have:=SB.lt h ad rfl h0;omega),Vf⟩,hr⟩
theorem HG (k:Int)(w:World)(h0:0<=k)(h1:k<=63):Fn Tryz.prog 34 [.int .i64 k] w (qK w (([⟨k,0,1⟩],2),0)):=by
 refine QH (c:={c34 with cuts:=[]}) Qa Tryz.func34 rfl rfl rfl ?_;refine new (λw1 Qd Q9 Qh=>?_);refine XF (by omega) ?_;refine XF (by omega) ?_;refine Xw Qa [(⟨k,0,1⟩:Br).cells] rfl rfl rfl rfl rfl ⟨rfl,rfl,⟨⟩⟩ rfl (λcs h=>by simp only[QL] at h;subst h;rfl) rfl (by decide) (by decide) ?_;intro w2 Qg Zi Qv;refine Qw (Qh.ext Qg) rfl (sc rfl) (λw3 Je _ Qu=>?_);have Z7:Mod (·=w.heap.size) w2 w3:=qQT Je rfl;refine Qt Qu rfl ?_;refine⟨some ⟨w1.heap.size,0,none⟩,1,1,rfl,Z7.ext (Qd.trans Qg) (λi hi=>by omega),⟨Sl.own (sz:=3) (n:=1) (Qv.mod Z7 (by omega)) (QC _) (by decide) (by simp[Br.cells]),rfl⟩,λi ⟨ad,e,hi⟩=>by cases e;simp only at hi;omega⟩
theorem cQ (b:Bool)(w:World):Fn Tryz.prog 37 [.bool b] w (λv w'=>v=Xl none 0 0 (if b then 1 else 0)/\Ext w w'):=by
 refine QH (c:={c37 with cuts:=[]}) Qa Tryz.func37 rfl rfl rfl ?_;refine new (λw1 Qd Q9 Qh=>?_);cases b with
 | true=>
  refine Xc rfl ?_;refine Qw Qh rfl (sc rfl) (λw3 Je _ Qu=>?_);refine Qt Qu rfl ?_;exact⟨rfl,XV Qd Qh Je⟩
 | false=>
  refine Q7 rfl ?_;refine Qw Qh rfl (sc rfl) (λw3 Je _ Qu=>?_);refine Qt Qu rfl ?_;exact⟨rfl,XV Qd Qh Je⟩
def xD (F:Nat)(op:Int):Prop:=(F=84/\op=0)∨(F=155/\op=1)∨(F=83/\op=3)
theorem HH {F:Nat}{op:Int}(h:xD F op)(x y:Bool)(w:World):Fn Tryz.prog F [.bool x,.bool y] w (λv w'=>v= .bool (Kt op x y)/\w=w'):=by
 rcases h with⟨rfl,rfl⟩ | ⟨rfl,rfl⟩ | ⟨rfl,rfl⟩
 ·refine QH (c:={c84 with cuts:=[]}) Qa Tryz.func84 rfl rfl rfl ?_;cases x with
  | true=>
   refine Xc rfl ?_;exact⟨rfl,rfl⟩
  | false=>
   refine Q7 rfl ?_;exact⟨rfl,rfl⟩
 ·refine QH (c:={fQk with cuts:=[]}) Qa Tryz.func155 rfl rfl rfl ?_;cases x with
  | true=>
   refine Xc rfl ?_;exact⟨rfl,rfl⟩
  | false=>
   refine Q7 rfl ?_;exact⟨rfl,rfl⟩
 ·refine QH (c:={c83 with cuts:=[]}) Qa Tryz.func83 rfl rfl rfl ?_;exact⟨rfl,rfl⟩
theorem hQ5 {F:Nat}{op:Int}(h:xD F op)(ob:Nat)(x y z:Bool)(w:World)(hB:Blk w ob 139 [.func (.func F) #[] #[]]):
  Fn Tryz.prog 129 [.bool x,.bool y,.bool z,.pointer (some ⟨ob,0,none⟩)] w (λv w'=>v= .bool (Kt op x y)/\w=w'):=by
 rcases h with⟨rfl,rfl⟩ | ⟨rfl,rfl⟩ | ⟨rfl,rfl⟩
 ·refine QH (c:={GQ with cuts:=[]}) Qa Tryz.func129 rfl rfl rfl ?_;refine Qy hB rfl ?_;refine call (HH (op:=0) (.inl ⟨rfl,rfl⟩) x y w) ?_;rintro _ _ ⟨rfl,rfl⟩;exact⟨rfl,rfl⟩
 ·refine QH (c:={GQ with cuts:=[]}) Qa Tryz.func129 rfl rfl rfl ?_;refine Qy hB rfl ?_;refine call (HH (op:=1) (.inr (.inl ⟨rfl,rfl⟩)) x y w) ?_;rintro _ _ ⟨rfl,rfl⟩;exact⟨rfl,rfl⟩
 ·refine QH (c:={GQ with cuts:=[]}) Qa Tryz.func129 rfl rfl rfl ?_;refine Qy hB rfl ?_;refine call (HH (op:=3) (.inr (.inr ⟨rfl,rfl⟩)) x y w) ?_;rintro _ _ ⟨rfl,rfl⟩;exact⟨rfl,rfl⟩
theorem qQ0 {α:Type} [DecidableEq α]{P:Program}{ke:Nat}{kv:α->Value}{len elem:Nat}(hu:P.underlying ke=some (.array len elem))
  (heq:∀(a b:α) (w:World),(Op.equal ke (kv a) (kv b)).run P w= .ok (decide (a=b)) w) (hc:∀b a w,(Instr.checkKey b 10000 ke (kv a)).run P w= .ok () w) (hb:∀a,Instr.sameBits 10000 (kv a) (kv a)=true):KeyQ P ke kv:=by
 refine⟨λa m bs w hl=>?_,hc,hb⟩;have key:=GW (P:=P) (ke:=ke) (kv:=kv) a w (λb=>heq a b w) m bs 0 hl;obtain⟨r,h1,h2,h3,h4⟩:=key;refine⟨r,?_,h2,λj v hj v'=>by simpa using (h3 j v hj).2 v',h4⟩;unfold Instr.findKey;simp only[Sem.run_bind,ZX hu,Result.andThen_ok];cases m with
 | nil=>
  simp only[XW,List.zip_nil_left,wv,Instr.findNow,Sem.run_pure];simp[XW,Instr.findAsking] at h1;rw[h1]
 | cons p m=>
  cases bs with
  | nil=>simp at hl
  | cons s bs=>
   have e:XW kv (p::m) (s::bs)={key:=kv p.1,val:=p.2,born:=s}::XW kv m bs:=rfl;rw[e] at h1 ⊢;have hn:Instr.findNow (.array len elem) (kv a) ({key:=kv p.1,val:=p.2,born:=s}::XW kv m bs) 0=none:=by
    simp[Instr.findNow,Instr.sameNow]
   rw[hn];exact h1
abbrev I3:=Int×Int×Int
abbrev dX (t:I3):List Value:=[.int .i64 t.1,.int .i64 t.2.1,.int .i64 t.2.2]
abbrev bU:I3->Value:=λt=>.agg #[.int .i64 t.1,.int .i64 t.2.1,.int .i64 t.2.2]
theorem Cs:Tryz.prog.cellsOf 3=1:=by kernel_rfl
theorem xE (a b:Int)(n:Nat)(w:World):(Op.equalIn (n+1) 3 (.int .i64 a) (.int .i64 b)).run Tryz.prog w= .ok (a==b) w:=by
 simp[Op.equalIn,ZX Tryz.underlying3]
theorem hQ6 (a b:I3)(n:Nat)(w:World):(Op.equalIn (n+2) 242 (bU a) (bU b)).run Tryz.prog w= .ok (decide (a=b)) w:=by
 obtain⟨i,hi⟩:=PY.1 (show(Tryz.prog.info? 3).isSome=true by kernel_rfl);obtain⟨a0,a1,a2⟩:=a;obtain⟨b0,b1,b2⟩:=b;have e:=run_equalIn_array (w:=w) (n+1) #[.int .i64 a0,.int .i64 a1,.int .i64 a2] #[.int .i64 b0,.int .i64 b1,.int .i64 b2] Tryz.underlying242 hi;rw[Cs,show List.range 3=[0,1,2] from rfl] at e;refine e.trans ?_;have p0:∀x y z:Int,(part 3 #[Value.int .i64 x,.int .i64 y,.int .i64 z] (0*1)).run Tryz.prog w= .ok (.int .i64 x) w:=λx y z=>cC k3 rfl w
 have p1:∀x y z:Int,(part 3 #[Value.int .i64 x,.int .i64 y,.int .i64 z] (1*1)).run Tryz.prog w= .ok (.int .i64 y) w:=λx y z=>cC k3 rfl w
 have p2:∀x y z:Int,(part 3 #[Value.int .i64 x,.int .i64 y,.int .i64 z] (2*1)).run Tryz.prog w= .ok (.int .i64 z) w:=λx y z=>cC k3 rfl w
 have dd:decide ((a0,a1,a2)=(b0,b1,b2))=(a0==b0&&(a1==b1&&a2==b2)):=by
  by_cases h0:a0=b0<;>by_cases h1:a1=b1<;>by_cases h2:a2=b2<;>simp[h0,h1,h2]
 rw[dd];simp only[Op.eqItems,Sem.run_bind,p0,Result.andThen_ok,xE];cases h0:a0==b0 with
 | false=>simp
 | true=>
  simp only[Bool.not_true,PS,if_false,Sem.run_bind,p1,Result.andThen_ok,xE,bg];cases h1:a1==b1 with
  | false=>simp
  | true=>
   simp only[Bool.not_true,PS,if_false,Sem.run_bind,p2,Result.andThen_ok,xE,bg];cases h2:a2==b2<;>simp
theorem hQ7 (b:Bool)(a:I3)(n:Nat)(w:World):(Instr.checkKey b (n+2) 242 (bU a)).run Tryz.prog w= .ok () w:=by
 obtain⟨i,hi⟩:=PY.1 (show(Tryz.prog.info? 3).isSome=true by kernel_rfl);have p0:∀x y z:Int,(part 3 #[Value.int .i64 x,.int .i64 y,.int .i64 z] 0).run Tryz.prog w= .ok (.int .i64 x) w:=λx y z=>cC k3 rfl w
 have p1:∀x y z:Int,(part 3 #[Value.int .i64 x,.int .i64 y,.int .i64 z] 1).run Tryz.prog w= .ok (.int .i64 y) w:=λx y z=>cC k3 rfl w
 have p2:∀x y z:Int,(part 3 #[Value.int .i64 x,.int .i64 y,.int .i64 z] 2).run Tryz.prog w= .ok (.int .i64 z) w:=λx y z=>cC k3 rfl w
 have hz:(sizeOf 3).run Tryz.prog w= .ok 1 w:=by rw[<-Cs];exact Go.run_sizeOf w hi
 simp[Instr.checkKey,ZX Tryz.underlying242,ZX Tryz.underlying3,hz,p0,p1,p2,Std.Legacy.Range.forIn_eq_forIn_range',Std.Legacy.Range.size,List.range'_succ]
theorem Ct:KeyQ Tryz.prog 242 bU:=
 qQ0 Tryz.underlying242 (λa b w=>hQ6 a b 9998 w) (λb a w=>hQ7 b a 9998 w) (λa=>by simp[Instr.sameBits])
structure CP where
 ox:Nat
 ob:Nat
 mx:Nat
 lx:Nat
 ax:Nat
 bx:Nat
 pb:Nat
 km:Nat
 mm:Nat
 F:Nat
 D:AD
def CP.caps (p:CP):List Value:=[VP.ptr p.ox,VP.ptr p.mx,VP.ptr p.lx,VP.ptr p.ax,VP.ptr p.bx]
def CP.clo (p:CP):Value:=.func (.func 188) #[] #[VP.ptr p.ox,VP.ptr p.mx,VP.ptr p.lx,VP.ptr p.ax,VP.ptr p.bx]
def CP.lC (p:CP):List Value:=[.slice p.D.A p.D.n p.D.c,.int .i64 p.D.ra,.slice p.D.B p.D.m p.D.d,.int .i64 p.D.rb,.slice none 0 0,.int .i64 0]
structure CK (w:World) (base:Nat) (p:CP):Prop where
 hF:xD p.F p.D.op
 oxb:Blk w p.ox 205 [.func (.func 129) #[] #[VP.ptr p.ob]]
 obb:Blk w p.ob 139 [.func (.func p.F) #[] #[]]
 mxb:Blk w p.mx 272 [.map (some p.mm)]
 lxb:Blk w p.lx 204 p.lC
 axb:Blk w p.ax 273 [p.clo]
 bxb:Blk w p.bx 174 [VP.ptr p.pb]
 as_:SB w p.D.A p.D.n p.D.c p.D.a
 bs:SB w p.D.B p.D.m p.D.d p.D.b
 off:∀k,k=p.ox∨k=p.ob∨k=p.mx∨k=p.lx∨k=p.ax∨k=p.bx->k<base/\k≠p.pb/\k≠p.km/\k≠p.mm
 rowA:∀ad,p.D.A=some ad->0<p.D.n->ad.block<base/\ad.block≠p.pb/\ad.block≠p.km/\ad.block≠p.mm
 rowB:∀ad,p.D.B=some ad->0<p.D.m->ad.block<base/\ad.block≠p.pb/\ad.block≠p.km/\ad.block≠p.mm
def CS (p:CP)(NA:Option Addr):Nat->Prop:=λk=>k=p.mm∨BS p.pb p.km NA k
theorem CS.moved {w:World}{p:CP}{A A':Option Addr}(h:Moved w A A'):∀k,CS p A' k->CS p A k∨w.heap.size<=k:=by
 rintro k (rfl | hk)
 ·exact .inl (.inl rfl)
 ·rcases BS.moved h k hk with h | h
  ·exact .inl (.inr h)
  ·exact .inr h
theorem CS.trans {w w1 w2:World}{p:CP}{A A1:Option Addr}(hm:Mod (CS p A) w w1)(hv:Moved w A A1)(h:Mod (CS p A1) w1 w2):Mod (CS p A) w w2:=hm.trans h (CS.moved hv)
theorem CS.no {p:CP}{base:Nat}{NA:Option Addr}(hr:∀i,Ql NA i->base<=i){k:Nat}(h:k<base/\k≠p.pb/\k≠p.km/\k≠p.mm):¬CS p NA k:=λe=>by
 obtain⟨h1,h2,h3,h4⟩:=h;rcases e with e | e | e | e
 ·exact h4 e
 ·exact h2 e
 ·exact h3 e
 ·have:=hr k e;omega
theorem CK.mod {w w':World}{base:Nat}{p:CP}{NA:Option Addr}(h:CK w base p)(hr:∀i,Ql NA i->base<=i)(hm:Mod (CS p NA) w w'):CK w' base p:=by
 have k:=λk hk=>CS.no (p:=p) hr (h.off k hk)
 refine⟨h.hF,h.oxb.mod hm (k _ (by simp)),h.obb.mod hm (k _ (by simp)),h.mxb.mod hm (k _ (by simp)),h.lxb.mod hm (k _ (by simp)),h.axb.mod hm (k _ (by simp)),h.bxb.mod hm (k _ (by simp)),⟨h.as_.1.modS hm ?_,h.as_.2⟩,⟨h.bs.1.modS hm ?_,h.bs.2⟩,h.off,h.rowA,h.rowB⟩
 ·rintro h0 i ⟨ad,e,rfl⟩;exact CS.no hr (h.rowA ad e h0)
 ·rintro h0 i ⟨ad,e,rfl⟩;exact CS.no hr (h.rowB ad e h0)
theorem CK.ext {w w':World}{base:Nat}{p:CP}(h:CK w base p)(k:Ext w w'):CK w' base p:=
 h.mod (NA:=none) (λi hi=>by obtain⟨_,e,_⟩:=hi;cases e) (Mod.of_ext _ k)
def jW (l:List Tr3)(x y:Int):Option Value:=(l.find? (λt=>decide (t.1=x/\t.2.1=y))).map λt=>.int .i64 t.2.2
structure CSt (w:World) (base:Nat) (p:CP) (NA:Option Addr) (nc:Nat) (st:List Br×List Tr3):Prop where
 bd:Bd w base p.pb p.km NA nc st.1
 memo:∃m,MapQ bU w p.mm m/\∀x y:Int,XC ((x,y,0):I3) m=jW st.2 x y
 lt:p.mm<base/\p.mm≠p.pb/\p.mm≠p.km
theorem CSt.ext {w w':World}{base:Nat}{p:CP}{NA:Option Addr}{nc:Nat}{st:List Br×List Tr3}(h:CSt w base p NA nc st)(k:Ext w w'):CSt w' base p NA nc st:=
 ⟨h.bd.ext k,let ⟨m,h1,h2⟩:=h.memo;⟨m,h1.ext k,h2⟩,h.lt⟩
def CTo (w:World)(base:Nat)(p:CP)(NA:Option Addr)(st:List Br×List Tr3)(w':World):Prop:=∃NA' nc',CSt w' base p NA' nc' st/\Mod (CS p NA) w w'/\Moved w NA NA'
theorem TJ {op x y:Int}(x0:0<=x)(x1:x<2)(y0:0<=y)(y1:y<2):dR op x y=if Kt op (decide (x=1)) (decide (y=1))then 1 else 0:=by
 have h1:=SY (op:=op) x0 x1 y0 y1;have h2:=Hi (op:=op) x0 x1 y0 y1;rw[<-h1];by_cases h:dR op x y=1
 ·rw[X2 h];exact h
 ·rw[Zn h];show dR op x y=0;omega
theorem uB {a b:List Br}(ha:VO a)(hb:VO b)(op:Int):∀(f:Nat)(x y:Int)(st:List Br×List Tr3),0<=x->0<=y->x<a.length+2->y<b.length+2->
  ∀t∈(Xs a b op f x y st).2.2,t∈st.2∨t.1+t.2.1<=x+y
 | 0,x,y,st,_,_,_,_=>λt ht=>.inl ht
 | f+1,x,y,st,x0,y0,hx,hy=>by
  by_cases Xu:x<2/\y<2
  ·rw[ly Xu];exactλt ht=>.inl ht
  cases k:st.2.find? (λt=>decide (t.1=x/\t.2.1=y))with
  | some t=>rw[lz Xu k];exactλt ht=>.inl ht
  | none=>
   have ZI:min (Qm a x) (Qm b y)<64:=by
    by_cases c:x<2
    ·have:=aC hb (n:=y) (λc2=>Xu ⟨c,c2⟩) (by omega);rw[Jb];split<;>omega
    ·have:=aC ha (n:=x) c (by omega);rw[Jb];split<;>omega
   rw[lA Xu k _ rfl];generalize min (Qm a x) (Qm b y)=v at*;obtain⟨s1,s2,s3,s4,s5⟩:=WF ha (n:=x) x0 ZI;obtain⟨t1,t2,t3,t4,t5⟩:=WF hb (n:=y) y0 ZI;have j1:=uB ha hb op f _ _ st s1 t1 (by omega) (by omega);generalize (Xs a b op f (Qo a x v).1 (Qo b y v).1 st)=r0 at*;have j2:=uB ha hb op f _ _ r0.2 s3 t3 (by omega) (by omega);generalize (Xs a b op f (Qo a x v).2 (Qo b y v).2 r0.2)=r1 at*;intro t ht;simp only[Xv,QL] at ht;rcases ht with ht | rfl
   ·rcases j2 t ht with h1 | h1
    ·rcases j1 t h1 with h2 | h2
     ·exact .inl h2
     ·exact .inr (by omega)
    ·exact .inr (by omega)
   ·exact .inr (by simp only;omega)
theorem TK (base:Nat)(p:CP)(ha:VO p.D.a)(hb:VO p.D.b)(eI:p.D.n<=1000000000000/\p.D.m<=1000000000000):∀(m:Nat)(x y:Int)(st:List Br×List Tr3)(NA:Option Addr)(nc:Nat)(w:World),
  CK w base p->CSt w base p NA nc st->0<=x->0<=y->x+y<m->x<p.D.n+2->y<p.D.m+2->(Xs p.D.a p.D.b p.D.op m x y st).2.1.length<=100000000000->
  Fn Tryz.prog 188 (bU (x,y,0)::p.caps) w (λv w'=>v= .int .i64 (Xs p.D.a p.D.b p.D.op m x y st).1/\CTo w base p NA (Xs p.D.a p.D.b p.D.op m x y st).2 w')
 | 0,x,y,st,NA,nc,w,_,_,x0,y0,hm,_,_,_=>by omega
 | m+1,x,y,st,NA,nc,w,hK,hS,x0,y0,hm,hx,hy,XJ=>by
  have ih:=TK base p ha hb eI m;have Vf:p.D.a.length=p.D.n:=hK.as_.2;have fU:p.D.b.length=p.D.m:=hK.bs.2;have mW:=hS.bd.top;have OS:∀i,Ql NA i->base<=i:=λi hi=>(hS.bd.own.rows i hi).1
  refine QH (c:={RW with cuts:=[1]}) Qa Tryz.func188 rfl rfl rfl ?_;refine new (λw1 Qd Q9 Qh=>?_)
  replace Qh:Blk w1 w.heap.size 242 (dX (x,y,0)):=Qh;have Kn:=hK.ext Qd;have Vb:=hS.ext Qd;have oB:w.heap.size<w1.heap.size:=by omega
  refine eT [] Qa [] (λ_:Unit=>[]) (λ_ w'=>w1=w'/\¬(x<2/\y<2)) ?_ ?_
  ·refine index (j:=0) (by decide) ?_;refine Qp Qh rfl ?_;refine Qz (λc1=>?_) (λc1=>?_)
   ·refine index (j:=1) (by decide) ?_;refine Qp Qh rfl ?_;refine Qz (λc2=>?_) (λc2=>?_)
    ·refine index (j:=2) (by decide) ?_;refine Qp Qh rfl ?_;refine Zq (show(0:Int)<2 by decide) ?_;refine Qy Kn.oxb rfl ?_;refine index (j:=0) (by decide) ?_;refine Qp Qh rfl ?_;refine index (j:=1) (by decide) ?_;refine Qp Qh rfl ?_;refine index (j:=2) (by decide) ?_;refine Qp Qh rfl ?_;rw[ly ⟨c1,c2⟩,TJ x0 c1 y0 c2];refine call (hQ5 hK.hF p.ob (decide (x=1)) (decide (y=1)) (decide ((0:Int)=1)) w1 Kn.obb) ?_;rintro v _ ⟨rfl,rfl⟩;cases Kt p.D.op (decide (x=1)) (decide (y=1))with
     | true=>
      refine Xc rfl ?_;exact⟨rfl,NA,nc,Vb,Mod.of_ext _ Qd,Moved.refl _ _⟩
     | false=>
      refine Q7 rfl ?_;exact⟨rfl,NA,nc,Vb,Mod.of_ext _ Qd,Moved.refl _ _⟩
    ·exact⟨(),rfl,rfl,λhh=>c2 hh.2⟩
   ·exact⟨(),rfl,rfl,λhh=>c1 hh.1⟩
  rintro⟨⟩ _ ⟨rfl,Xu⟩;obtain⟨mq,eH,Vp⟩:=Vb.memo;refine Qy Kn.mxb rfl ?_;refine Qt Qh rfl ?_;refine GX (kv:=bU) (a:=((x,y,0):I3)) Qa rfl rfl rfl rfl Ct rfl rfl eH ?_;cases k:st.2.find? (λt=>decide (t.1=x/\t.2.1=y))with
  | some t=>
   have dB:XC ((x,y,0):I3) mq=some (.int .i64 t.2.2):=by rw[Vp,jW,k]<;>rfl
   refine Xc (by rw[dB];rfl) ?_;rw[lz Xu k];exact⟨by rw[dB];rfl,NA,nc,Vb,Mod.of_ext _ Qd,Moved.refl _ _⟩
  | none=>
  have dB:XC ((x,y,0):I3) mq=none:=by rw[Vp,jW,k]<;>rfl
  refine Q7 (by rw[dB];rfl) ?_;have ZI:min (Qm p.D.a x) (Qm p.D.b y)<64:=by
   by_cases c:x<2
   ·have:=aC hb (n:=y) (λc2=>Xu ⟨c,c2⟩) (by omega);rw[Jb];split<;>omega
   ·have:=aC ha (n:=x) c (by omega);rw[Jb];split<;>omega
  have OT:SB w1 none 0 0 []:=SlS.nil _;have qL:∀w',Ext w1 w'->∀(j:Nat) (v:Value),p.lC[j]? =some v->w'.cell? ((⟨p.lx,0,none⟩:Addr).add j)=some v:=λw' Qb j v hj=>by rw[(Kn.lxb.ext Qb).cell];exact hj
  have qN:∀w',Ext w1 w'->∀(j:Nat) (v:Value),(dX (x,y,0))[j]? =some v->w'.cell? ((⟨w.heap.size,0,none⟩:Addr).add j)=some v:=λw' Qb j v hj=>by rw[(Qh.ext Qb).cell];exact hj
  refine XL Qa (Ext w1) 17 [(true,0),(true,1),(true,2),(true,3),(true,5),(true,6),(true,7),(true,8),(true,10),(true,11),(true,12),(true,13),(false,4),(false,9),(false,14),(true,15),(true,16)] (by kernel_rfl) (Ext.drew w1) ?_;refine J3 (j:=0) (by decide) ?_;refine Xo (vs:=[.slice p.D.A p.D.n p.D.c,.int .i64 p.D.ra]) rfl (λw' Qb j v hj=>by
   rw[add_add,(Kn.lxb.ext Qb).cell]
   match j,hj with
   | 0,hj=>exact hj
   | 1,hj=>exact hj) ?_
  refine index (j:=0) (by decide) ?_;refine QQ (v:=.int .i64 x) (λw' Qb=>qN w' Qb 0 _ rfl) ?_;refine J3 (j:=1) (by decide) ?_;refine Xo (vs:=[.slice p.D.B p.D.m p.D.d,.int .i64 p.D.rb]) rfl (λw' Qb j v hj=>by
   rw[add_add,(Kn.lxb.ext Qb).cell]
   match j,hj with
   | 0,hj=>exact hj
   | 1,hj=>exact hj) ?_
  refine index (j:=1) (by decide) ?_;refine QQ (v:=.int .i64 y) (λw' Qb=>qN w' Qb 1 _ rfl) ?_;refine J3 (j:=2) (by decide) ?_;refine Xo (vs:=[.slice none 0 0,.int .i64 0]) rfl (λw' Qb j v hj=>by
   rw[add_add,(Kn.lxb.ext Qb).cell]
   match j,hj with
   | 0,hj=>exact hj
   | 1,hj=>exact hj) ?_
  refine index (j:=2) (by decide) ?_;refine QQ (v:=.int .i64 0) (λw' Qb=>qN w' Qb 2 _ rfl) ?_;refine call (dQ p.D.A p.D.n p.D.c p.D.ra x p.D.a _ (Kn.as_.ext (Ext.drew w1)) (by omega)) ?_;rintro u w2 ⟨rfl,Qg⟩;have Xm:=(Ext.drew w1).trans Qg;refine⟨Xm,?_⟩;refine call (dQ p.D.B p.D.m p.D.d p.D.rb y p.D.b _ (Kn.bs.ext Xm) (by omega)) ?_;rintro u w3 ⟨rfl,Qi⟩;have XI:=Xm.trans Qi;refine⟨XI,?_⟩;refine call (dQ none 0 0 0 0 [] _ (OT.ext XI) (by simp)) ?_;rintro u w4 ⟨rfl,Qs⟩;have JP:=XI.trans Qs;refine⟨JP,?_⟩;have yG:Qm [] 0=64:=rfl;rw[yG];have OU: -9223372036854775808<=min (Qm p.D.a x) (Qm p.D.b y):=by
   have pos:∀{d:List Br},VO d->∀{n:Int},n<d.length+2->0<=Qm d n:=λ{d} hd {n} hn=>by
    by_cases h2:n<2
    ·rw[iB h2];omega
    ·obtain⟨z,hz⟩:=WG h2 hn;rw[dV h2 hz];exact(hd.2 _ _ hz).1
   have p1:=pos ha (n:=x) (by omega);have p2:=pos hb (n:=y) (by omega);rw[Jb];split<;>omega
  have L3:(if(64:Int)<(if Qm p.D.b y<Qm p.D.a x then Qm p.D.b y else Qm p.D.a x)then 64 else(if Qm p.D.b y<Qm p.D.a x then Qm p.D.b y else Qm p.D.a x))=min (Qm p.D.a x) (Qm p.D.b y):=by
   rw[Jb] at ZI ⊢;split at ZI<;>split<;>split<;>omega
  refine norm (m:=min (Qm p.D.a x) (Qm p.D.b y)) L3 ?_;rw[lA Xu k _ rfl] at XJ ⊢;generalize Aj:min (Qm p.D.a x) (Qm p.D.b y)=v at*;have QX:=Qh.ext JP;have V9:=Kn.ext JP;have W9:=Vb.ext JP;have Xr:=Qd.trans JP;have L4:=JP.size;refine new (λw5 Qx KL L5=>?_);refine new (λw6 QN cj L6=>?_);have XK:=Qx.trans QN;have L7:=L5.ext QN;have Xg:=QX.ext XK;have cq:=V9.ext XK;have kt:=W9.ext XK;have XS:=Xr.trans XK;obtain⟨s1,s2,s3,s4,s5⟩:=WF ha (n:=x) x0 ZI;obtain⟨t1,t2,t3,t4,t5⟩:=WF hb (n:=y) y0 ZI;refine loop Qa [64] (λs:Nat=>[.int .i64 s]) (λs w'=>Mod (λi=>i=w4.heap.size∨i=w5.heap.size) w6 w'/\s<=3/\Blk w' w4.heap.size 242 (dX (if 0<s then(Qo p.D.a x v).1 else 0,if 1<s then(Qo p.D.b y v).1 else 0,0))/\Blk w' w5.heap.size 242 (dX (if 0<s then(Qo p.D.a x v).2 else 0,if 1<s then(Qo p.D.b y v).2 else 0,0))) (λs _=>3-s) 0 rfl ⟨Mod.refl _ _,Xt _,L7,L6⟩ ?_;rintro s w7 ⟨Xb,rN,fB,df⟩;have hbz:base<=w4.heap.size:=by have:=Qd.size;omega
  have bQ8:w5.heap.size=w4.heap.size+1:=KL;have Ak:w.heap.size<w4.heap.size:=by omega
  have Am:∀k,k<w4.heap.size->¬(k=w4.heap.size∨k=w5.heap.size):=λk hk e=>by omega
  have hlx:=hK.off p.lx (by simp);have Xf:Ext w w7:=Xb.ext XS (λi hi=>by omega);have pe:Ext w1 w7:=Xb.ext (JP.trans XK) (λi hi=>by omega);have Ys:Ext w4 w7:=Xb.ext XK (λi hi=>by omega);have Q8:=QX.ext Ys;have aa:=V9.ext Ys;have YP:=W9.ext Ys;have WJ:=Xb.size;have nLX:=Am p.lx (by omega);have nB:=Am w.heap.size Ak;have h0:Qo [] 0 v=(0,0):=by unfold Qo;rw[Qe (show Qm [] 0≠v by rw[yG];omega)]
  by_cases hs:s<3
  ·rcases(show s=0∨s=1∨s=2 by omega)with rfl | rfl | rfl
   ·refine Zq (show((0:Nat):Int)<3 by decide) ?_;refine XL Qa (Mod (λi=>i=w4.heap.size∨i=w5.heap.size) w7) 17 [(true,0),(true,1),(true,2),(true,3),(true,4),(true,5),(true,6),(true,7),(true,8),(false,9),(true,10),(true,11),(true,12),(true,13),(false,14),(true,15),(false,16)] (by kernel_rfl) (Mod.of_ext _ (Ext.drew w7)) ?_;refine J3 (j:=0) (by decide) ?_;refine Xo (vs:=[.slice p.D.A p.D.n p.D.c,.int .i64 p.D.ra]) rfl (λw' Qb j v hj=>by
     rw[add_add,(aa.lxb.mod Qb nLX).cell]
     match j,hj with
     | 0,hj=>exact hj
     | 1,hj=>exact hj) ?_
    refine index (j:=0) (by decide) ?_;refine QQ (v:=.int .i64 x) (λw' Qb=>by rw[(Q8.mod Qb nB).cell];rfl) ?_;refine call (jV p.D.A p.D.n p.D.c p.D.ra x v p.D.a _ (aa.as_.ext (Ext.drew w7)) (by omega) ZI) ?_;rintro u w8 ⟨rfl,Xp⟩;have Kz:=(Ext.drew w7).trans Xp;refine⟨Mod.of_ext _ Kz,?_⟩;refine index (j:=0) (by decide) ?_;refine XQ (fB.ext Kz) (by simp) (λw9 Zb i5=>?_);have Vn:Mod (λi=>i=w4.heap.size∨i=w5.heap.size) w7 w9:=(Mod.of_ext _ Kz).trans Zb (λi hi=>.inl (.inl hi));refine⟨Vn,?_⟩;have fy:=Vn.size;refine index (j:=0) (by decide) ?_;refine XQ (((df.ext Kz).mod Zb (by show¬w5.heap.size=w4.heap.size;omega))) (by simp) (λQK ZA fC=>?_);have ae:Mod (λi=>i=w4.heap.size∨i=w5.heap.size) w7 QK:=Vn.trans ZA (λi hi=>.inl (.inr hi));refine⟨ae,?_⟩;have fD:=i5.mod ZA (by show¬w4.heap.size=w5.heap.size;omega);refine Qj ((1:Nat):Int) (by decide) (by decide) ?_;exact⟨1,rfl,⟨Xb.trans ae (λi hi=>.inl hi),by decide,fD,fC⟩,by show 3-1<3-0;decide⟩
   ·refine Zq (show((1:Nat):Int)<3 by decide) ?_;refine XL Qa (Mod (λi=>i=w4.heap.size∨i=w5.heap.size) w7) 17 [(true,0),(true,1),(true,2),(true,3),(true,4),(true,5),(true,6),(true,7),(true,8),(false,9),(true,10),(true,11),(true,12),(true,13),(false,14),(true,15),(false,16)] (by kernel_rfl) (Mod.of_ext _ (Ext.drew w7)) ?_;refine J3 (j:=1) (by decide) ?_;refine Xo (vs:=[.slice p.D.B p.D.m p.D.d,.int .i64 p.D.rb]) rfl (λw' Qb j v hj=>by
     rw[add_add,(aa.lxb.mod Qb nLX).cell]
     match j,hj with
     | 0,hj=>exact hj
     | 1,hj=>exact hj) ?_
    refine index (j:=1) (by decide) ?_;refine QQ (v:=.int .i64 y) (λw' Qb=>by rw[(Q8.mod Qb nB).cell];rfl) ?_;refine call (jV p.D.B p.D.m p.D.d p.D.rb y v p.D.b _ (aa.bs.ext (Ext.drew w7)) (by omega) ZI) ?_;rintro u w8 ⟨rfl,Xp⟩;have Kz:=(Ext.drew w7).trans Xp;refine⟨Mod.of_ext _ Kz,?_⟩;refine index (j:=1) (by decide) ?_;refine XQ (fB.ext Kz) (by simp) (λw9 Zb i5=>?_);have Vn:Mod (λi=>i=w4.heap.size∨i=w5.heap.size) w7 w9:=(Mod.of_ext _ Kz).trans Zb (λi hi=>.inl (.inl hi));refine⟨Vn,?_⟩;have fy:=Vn.size;refine index (j:=1) (by decide) ?_;refine XQ (((df.ext Kz).mod Zb (by show¬w5.heap.size=w4.heap.size;omega))) (by simp) (λQK ZA fC=>?_);have ae:Mod (λi=>i=w4.heap.size∨i=w5.heap.size) w7 QK:=Vn.trans ZA (λi hi=>.inl (.inr hi));refine⟨ae,?_⟩;have fD:=i5.mod ZA (by show¬w4.heap.size=w5.heap.size;omega);refine Qj ((2:Nat):Int) (by decide) (by decide) ?_;exact⟨2,rfl,⟨Xb.trans ae (λi hi=>.inl hi),by decide,fD,fC⟩,by show 3-2<3-1;decide⟩
   ·refine Zq (show((2:Nat):Int)<3 by decide) ?_;refine XL Qa (Mod (λi=>i=w4.heap.size∨i=w5.heap.size) w7) 17 [(true,0),(true,1),(true,2),(true,3),(true,4),(true,5),(true,6),(true,7),(true,8),(false,9),(true,10),(true,11),(true,12),(true,13),(false,14),(true,15),(false,16)] (by kernel_rfl) (Mod.of_ext _ (Ext.drew w7)) ?_;refine J3 (j:=2) (by decide) ?_;refine Xo (vs:=[.slice none 0 0,.int .i64 0]) rfl (λw' Qb j v hj=>by
     rw[add_add,(aa.lxb.mod Qb nLX).cell]
     match j,hj with
     | 0,hj=>exact hj
     | 1,hj=>exact hj) ?_
    refine index (j:=2) (by decide) ?_;refine QQ (v:=.int .i64 0) (λw' Qb=>by rw[(Q8.mod Qb nB).cell];rfl) ?_;refine call (jV none 0 0 0 0 v [] _ (SlS.nil _) (by decide) ZI) ?_;rintro u w8 ⟨rfl,Xp⟩;have Kz:=(Ext.drew w7).trans Xp;refine⟨Mod.of_ext _ Kz,?_⟩;refine index (j:=2) (by decide) ?_;refine XQ (fB.ext Kz) (by simp) (λw9 Zb i5=>?_);have Vn:Mod (λi=>i=w4.heap.size∨i=w5.heap.size) w7 w9:=(Mod.of_ext _ Kz).trans Zb (λi hi=>.inl (.inl hi));refine⟨Vn,?_⟩;have fy:=Vn.size;refine index (j:=2) (by decide) ?_;refine XQ (((df.ext Kz).mod Zb (by show¬w5.heap.size=w4.heap.size;omega))) (by simp) (λQK ZA fC=>?_);have ae:Mod (λi=>i=w4.heap.size∨i=w5.heap.size) w7 QK:=Vn.trans ZA (λi hi=>.inl (.inr hi));refine⟨ae,?_⟩;have fD:=i5.mod ZA (by show¬w4.heap.size=w5.heap.size;omega);refine Qj ((3:Nat):Int) (by decide) (by decide) ?_;rw[h0] at fD fC;exact⟨3,rfl,⟨Xb.trans ae (λi hi=>.inl hi),by decide,fD,fC⟩,by show 3-3<3-2;decide⟩
  ·have:s=3:=by omega
   subst this;refine XF (show¬((3:Nat):Int)<3 by decide) ?_
   replace fB:Blk w7 w4.heap.size 242 (dX ((Qo p.D.a x v).1,(Qo p.D.b y v).1,0)):=fB
   replace df:Blk w7 w5.heap.size 242 (dX ((Qo p.D.a x v).2,(Qo p.D.b y v).2,0)):=df;have fV:Qm p.D.a x=v∨Qm p.D.b y=v:=by rw[<-Aj,Jb];split<;>simp
   have dec:(Qo p.D.a x v).1+(Qo p.D.b y v).1<x+y/\(Qo p.D.a x v).2+(Qo p.D.b y v).2<x+y:=by
    rcases fV with e | e
    ·have:=s5 e;omega
    ·have:=t5 e;omega
   have L8:=uB ha hb p.D.op m (Qo p.D.a x v).1 (Qo p.D.b y v).1 st s1 t1 (by omega) (by omega);have L9:=uB ha hb p.D.op m (Qo p.D.a x v).2 (Qo p.D.b y v).2 (Xs p.D.a p.D.b p.D.op m (Qo p.D.a x v).1 (Qo p.D.b y v).1 st).2 s3 t3 (by omega) (by omega);have mo2:=nT p.D.a p.D.b p.D.op m (Qo p.D.a x v).2 (Qo p.D.b y v).2 (Xs p.D.a p.D.b p.D.op m (Qo p.D.a x v).1 (Qo p.D.b y v).1 st).2;have c1:=ih (Qo p.D.a x v).1 (Qo p.D.b y v).1 st NA nc w7 aa YP s1 t1 (by omega) (by omega) (by omega);have c2:=λN1 n1 w' h1 h2=>ih (Qo p.D.a x v).2 (Qo p.D.b y v).2 (Xs p.D.a p.D.b p.D.op m (Qo p.D.a x v).1 (Qo p.D.b y v).1 st).2 N1 n1 w' h1 h2 s3 t3 (by omega) (by omega) (by omega)
   generalize (Xs p.D.a p.D.b p.D.op m (Qo p.D.a x v).1 (Qo p.D.b y v).1 st)=r0 at*;generalize (Xs p.D.a p.D.b p.D.op m (Qo p.D.a x v).2 (Qo p.D.b y v).2 r0.2)=r1 at*;have ul:=xj ⟨v,r0.1,r1.1⟩ r1.2.1;have ul2:(Z6 ⟨v,r0.1,r1.1⟩ r1.2.1).1.length<=r1.2.1.length+1:=by
    unfold Z6;split
    ·exact Bh _
    ·split
     ·exact Bh _
     ·simp
   simp only at XJ;refine Qy aa.axb rfl ?_;refine Qt fB rfl ?_;refine call (c1 (by omega)) ?_;rintro _ QJ ⟨rfl,N1,n1,mz,Z8,yH⟩;have Ma:=df.lt;have ku:=hS.bd.own.rows;obtain⟨l1,l2,l3⟩:=hS.lt;obtain⟨b1,b2,b3⟩:=hS.bd.lt;have new:∀k,w.heap.size<=k->¬CS p NA k:=λk hk e=>by
    rcases e with e | e | e | e
    ·omega
    ·omega
    ·omega
    ·have:=(ku k e).2;omega
   have fE:=aa.mod OS Z8;have Mb:=df.mod Z8 (new _ (by omega));have Z1:=Q8.mod Z8 (new _ (QC _));have cg:∀i,Ql N1 i->base<=i:=λi hi=>(mz.bd.own.rows i hi).1
   have yI:∀k,w.heap.size<=k->k<w7.heap.size->¬CS p N1 k:=λk hk h7 e=>by
    rcases CS.moved yH k e with e | e
    ·exact new k hk e
    ·omega
   have rP:=Z8.size;have OV:=Q8.lt;refine XL Qa (Mod (CS p N1) QJ) 8 [(true,0),(true,1),(true,2),(true,3),(true,4),(false,5),(false,6),(true,7)] (by kernel_rfl) (Mod.of_ext _ (Ext.drew QJ)) ?_;have nof:=λk hk=>CS.no (p:=p) cg (fE.off k hk)
   refine QQ (v:=VP.ptr p.pb) (λw' Qb=>by rw[(fE.bxb.mod Qb (nof _ (by simp))).cell0];rfl) ?_;refine QQ (v:=p.clo) (λw' Qb=>by rw[(fE.axb.mod Qb (nof _ (by simp))).cell0];rfl) ?_;refine Xo (vs:=dX ((Qo p.D.a x v).2,(Qo p.D.b y v).2,0)) rfl (λw' Qb j v hj=>by rw[(Mb.mod Qb (yI _ (by omega) Ma)).cell];exact hj) ?_;refine call (c2 N1 n1 _ (fE.ext (Ext.drew QJ)) (mz.ext (Ext.drew QJ)) (by omega)) ?_;rintro _ Xa ⟨rfl,N2,n2,ac,VU,vn⟩;have mB:Mod (CS p N1) QJ Xa:=(Mod.of_ext _ (Ext.drew QJ)).trans VU (λi hi=>.inl hi);have yJ:Moved QJ N1 N2:=vn.back (Ext.drew QJ).size;refine⟨mB,?_⟩;have Wl:∀i,Ql N2 i->base<=i:=λi hi=>(ac.bd.own.rows i hi).1
   refine call (TH base p.pb p.km N2 n2 r1.2.1 ⟨v,r0.1,r1.1⟩ Xa ac.bd (by omega)) ?_;rintro _ X1 ⟨rfl,N3,n3,dh,Ky,Mc⟩;have Md:Mod (CS p N2) Xa X1:=Ky.mono (λi hi=>.inl (.inr hi));have mC:Mod (CS p N1) QJ X1:=CS.trans mB yJ Md;refine⟨mC,?_⟩;have mQ1:=fE.mod cg mB;have Me:=fE.mod cg mC;have Vm:=Z1.mod mC (yI _ (QC _) OV);obtain⟨Mf,ym,Mg⟩:=ac.memo;have Mh:MapQ bU X1 p.mm Mf:=ym.mod Ky (λe=>by
    rcases e with e | e | e
    ·exact l2 e
    ·exact l3 e
    ·have:=Wl _ e;omega)
   refine Qy Me.mxb rfl ?_;refine Qt Vm rfl ?_;refine tV (kv:=bU) (a:=((x,y,0):I3)) Qa rfl rfl rfl rfl Ct rfl rfl rfl Mh (λZm K9 mQ2 Mi=>?_);have ZP:∀k,k≠p.mm->¬(k=p.mm):=λk h=>h
   obtain⟨d1,d2,d3⟩:=dh.lt;have Mj:∀i,Ql N3 i->base<=i:=λi hi=>(dh.own.rows i hi).1
   obtain⟨kq,OW,OX⟩:=dh.known;have Mk:Bd Zm base p.pb p.km N3 n3 (Z6 ⟨v,r0.1,r1.1⟩ r1.2.1).1:=⟨dh.blk.mod K9 (λe=>l2 e.symm),dh.own.mod K9 (λi hi e=>by have:=Mj i hi;have e':i=p.mm:=e;omega),⟨kq,OW.mod K9 (λe=>l3 e.symm),OX⟩,dh.lt,X4 dh.top K9.size⟩
   have Ml:Mod (CS p NA) w w7:=Mod.of_ext _ Xf;have mQ3:Moved w NA NA:=Moved.refl _ _;have yK:Mod (CS p NA) w QJ:=Ml.trans Z8 (λi hi=>.inl hi);have yL:Moved w NA N1:=yH.back Xf.size;have Mm:Mod (CS p NA) w X1:=CS.trans yK yL mC;have pf:Mod (CS p NA) w Zm:=Mm.trans K9 (λi hi=>.inl (.inl hi));have Mo:Moved w NA N3:=yL.trans (yJ.trans Mc mB.size) yK.size;refine⟨rfl,N3,n3,⟨Mk,⟨_,Mi,λx' y'=>?_⟩,hS.lt⟩,pf,Mo⟩;have Xq:r1.2.2.find? (λt=>decide (t.1=x/\t.2.1=y))=none:=by
    rw[wx];intro t ht hh;simp only[VJ] at hh;rcases L9 t ht with h1 | h1
    ·rcases L8 t h1 with h2 | h2
     ·have:=wx.1 k t h2;simp only[VJ] at this;exact this hh
     ·omega
    ·omega
   rw[bj,Mg,jW,jW,List.find?_append];by_cases Yz:(x',y')=(x,y)
   ·cases Yz;rw[Qe rfl,Xq];simp
   ·rw[if_neg (λe=>Yz (by cases e;rfl))];have: [(x,y,(Z6 ⟨v,r0.1,r1.1⟩ r1.2.1).2)].find? (λt:Tr3=>decide (t.1=x'/\t.2.1=y'))=none:=by
     rw[Gf]
     ·rfl
     ·simp only[VJ];exactλe=>Yz (by rw[e.1,e.2])
    rw[this];simp
theorem TL (w:World):Fn Tryz.prog 187 [] w (λv w'=>v=VP.ptr (w.heap.size+1)/\Ext w w'/\w'.heap.size=w.heap.size+2/\Blk w' (w.heap.size+1) 177 [.slice none 0 0,.map (some w.heap.size)]/\MapQ cK w' w.heap.size []):=by
 refine QH (c:={fQz with cuts:=[]}) Qa Tryz.func187 rfl rfl rfl ?_;refine tU Qa cK rfl ?_;intro w1 Qd Q9 Zw;refine new (λw2 Qg Zi Qv=>?_);rw[Q9] at Qv;exact⟨by rw[Q9];rfl,Qd.trans Qg,by omega,Qv,Zw.ext Qg⟩
theorem iQa (A:Option Addr)(n c:Nat)(a:List Br)(ra:Int)(B:Option Addr)(m d:Nat)(b:List Br)(rb op:Int)(F ob:Nat)(w:World)(hF:xD F op)(h:SB w A n c a)(h':SB w B m d b)(FD:Blk w ob 139 [.func (.func F) #[] #[]])(ha:VO a)(hb:VO b)(r0:0<=ra)(r1:ra<n+2)(s0:0<=rb)(s1:rb<m+2)(hn:n<=1000000000000)(hm:m<=1000000000000)
  (XJ:(lB a ra b rb op).2.1.length<=100000000000):
  Fn Tryz.prog 128 [.agg #[.slice A n c,.int .i64 ra,.slice B m d,.int .i64 rb,.slice none 0 0,.int .i64 0],.func (.func 129) #[] #[VP.ptr ob]] w (xg w (V4 a ra b rb op)):=by
 have Vf:=h.2;have fU:=h'.2;have qQB:=FD.lt;refine QH (c:={RT with cuts:=[]}) Qa Tryz.func128 rfl rfl rfl ?_;refine new (λw1 Qd Q9 Qh=>?_);refine new (λw2 Qg Zi Qv=>?_);refine new (λw3 Qi JD Qu=>?_);refine call (TL w3) ?_;rintro _ w4 ⟨rfl,Qs,KW,QX,Mp⟩;refine new (λw5 Qx KL QB=>?_);refine XQ (j:=0) QB (by decide) (λw6 Vl Xg=>?_);have XK:Ext w4 w6:=Vl.ext Qx (λi hi=>by omega);refine tU Qa bU rfl ?_;intro w7 Xf WJ Mq;refine new (λw8 Xp Yq Xx=>?_);refine XQ (j:=0) Xx (by decide) (λw9 Zb JO=>?_);have VW:Ext w7 w9:=Zb.ext Xp (λi hi=>by omega);refine new (λQK Zx vm Km=>?_);refine XQ (j:=0) Km (by decide) (λQJ Z8 Z1=>?_);have z6:=Vl.size;have z9:=Zb.size;have DJ:=Z8.size;have fG:Ext w9 QJ:=Z8.ext Zx (λi hi=>by omega);have mD:Ext w6 QJ:=(Xf.trans VW).trans fG;have di:Ext w4 QJ:=XK.trans mD;have Va:=Qs;have mE:Ext w3 QJ:=Qs.trans di;have Wo:Ext w QJ:=((Qd.trans Qg).trans Qi).trans mE
 let D:AD:=⟨A,n,c,a,ra,B,m,d,b,rb,op⟩
 let p:CP:=⟨w1.heap.size,ob,w7.heap.size,w.heap.size,w9.heap.size,w4.heap.size,w3.heap.size+1,w3.heap.size,w6.heap.size,F,D⟩
 have yM:=Z1.lt;have hK:CK QJ QJ.heap.size p:=by
  refine⟨hF,Qv.ext (Qi.trans mE),FD.ext Wo,JO.ext fG,Qh.ext ((Qg.trans Qi).trans mE),Z1,Xg.ext mD,h.ext Wo,h'.ext Wo,λk hk=>?_,λad e h0=>?_,λad e h0=>?_⟩
  ·simp only[p] at hk ⊢;rcases hk with rfl | rfl | rfl | rfl | rfl | rfl<;>omega
  ·have:=SB.lt h ad e h0;simp only[p];omega
  ·have:=SB.lt h' ad e h0;simp only[p];omega
 have hS:CSt QJ QJ.heap.size p none 0 ([],[]):=by
  refine⟨⟨QX.ext di,Own.nil _ _ _ _,⟨[],Mp.ext di,λ_=>rfl⟩,?_,QC _⟩,⟨[],Mq.ext (VW.trans fG),λ_ _=>rfl⟩,?_⟩
  ·simp only[p];omega
  ·simp only[p];omega
 have Xq:∀i,Ql none i->QJ.heap.size<=i:=λi hi=>by obtain⟨_,e,_⟩:=hi;cases e
 have nof:=λk hk=>CS.no (p:=p) Xq (hK.off k hk)
 refine XL Qa (Mod (CS p none) QJ) 14 [(true,0),(true,1),(true,2),(true,3),(true,4),(true,5),(true,6),(true,7),(true,8),(true,9),(true,10),(true,11),(false,12),(false,13)] (by kernel_rfl) (Mod.of_ext _ (Ext.drew QJ)) ?_;refine QQ (v:=VP.ptr p.pb) (λw' Qb=>by rw[(hK.bxb.mod Qb (nof _ (by simp))).cell0];rfl) ?_;refine QQ (v:=p.clo) (λw' Qb=>by rw[(hK.axb.mod Qb (nof _ (by simp))).cell0];rfl) ?_;refine J3 (j:=0) (by decide) ?_;refine QQ (v:=.int .i64 ra) (λw' Qb=>by rw[add_add,(hK.lxb.mod Qb (nof _ (by simp))).cell];rfl) ?_;refine J3 (j:=1) (by decide) ?_;refine QQ (v:=.int .i64 rb) (λw' Qb=>by rw[add_add,(hK.lxb.mod Qb (nof _ (by simp))).cell];rfl) ?_;refine J3 (j:=2) (by decide) ?_;refine QQ (v:=.int .i64 0) (λw' Qb=>by rw[add_add,(hK.lxb.mod Qb (nof _ (by simp))).cell];rfl) ?_;have inv:=xm ha hb op (ra.toNat+rb.toNat+1) ra rb ([],[]) ⟨λj x hx=>by simp at hx,λt ht=>by simp at ht⟩ r0 s0 (by omega) (by omega);refine call (TK QJ.heap.size p ha hb ⟨hn,hm⟩ (ra.toNat+rb.toNat+1) ra rb ([],[]) none 0 _ (hK.ext (Ext.drew QJ)) (hS.ext (Ext.drew QJ)) r0 s0 (by omega) r1 s1 XJ) ?_;rintro _ Xa ⟨rfl,NA,nc,ac,Mr,vn⟩;have VU:Mod (CS p none) QJ Xa:=(Mod.of_ext _ (Ext.drew QJ)).trans Mr (λi hi=>.inl hi);refine⟨VU,?_⟩;have mQ4:(Xs a b op (ra.toNat+rb.toNat+1) ra rb ([],[])).2.1.length<=100000000000:=XJ;have yN:SB Xa NA _ nc _:=⟨ac.bd.own.sl,rfl⟩
 refine call (Hf p.pb (.map (some p.km)) NA _ nc _ _ Xa ac.bd.blk yN inv.1.1 (by show(Xs a b op (ra.toNat+rb.toNat+1) ra rb ([],[])).2.1.length<=_;omega) inv.2.1 inv.2.2 (SB.lt yN)) ?_;rintro _ X1 ⟨OA,k,oc,rfl,XI,ph,iY⟩;have Ky:Mod (CS p none) QJ X1:=VU.trans (Mod.of_ext (CS p none) XI) (λi hi=>.inl hi);refine⟨Ky,?_⟩;have nres:¬CS p none w2.heap.size:=CS.no (p:=p) Xq (by simp only[p];omega);have Vm:=(Qu.ext mE).mod Ky nres;refine Qw Vm rfl (sc rfl) (λZm fw _ Kc=>?_);have K9:Mod (·=w2.heap.size) X1 Zm:=qQT fw rfl;refine Qt Kc rfl ?_;have rQ:Ext w X1:=Ky.ext Wo (λi hi=>by
  rcases hi with e | e | e | ⟨_,e,_⟩
  ·simp only[p] at e;omega
  ·simp only[p] at e;omega
  ·simp only[p] at e;omega
  ·cases e)
 have z12:=VU.size;have nr:∀i,Ql OA i->¬i=w2.heap.size:=λi hi e=>by have:=iY i hi;omega
 refine⟨OA,k,oc,rfl,K9.ext rQ (λi hi=>by omega),⟨ph.1.modS K9 (λ_ i hi=>nr i hi),ph.2⟩,λi hi=>by have:=iY i hi;have:=Wo.size;omega⟩
theorem HI (A:Option Addr)(n c:Nat)(a:List Br)(ra:Int)(B:Option Addr)(m d:Nat)(b:List Br)(rb op:Int)(F:Nat)(w:World)(hF:xD F op)(h:SB w A n c a)(h':SB w B m d b):
  Fn Tryz.prog 82 [Xl A n c ra,Xl B m d rb,.func (.func F) #[] #[]] w (qK w (eW a ra b rb op)):=by
 have Vf:=h.2;have fU:=h'.2;refine QH (c:={c82 with cuts:=[]}) Qa Tryz.func82 rfl rfl rfl ?_;refine new (λw1 Qd Q9 Qh=>?_);refine new (λw2 Qg Zi Qv=>?_);refine new (λw3 Qi JD Qu=>?_);refine new (λw4 Qs KW QX=>?_);have ZE:=Qi.trans Qs;have Xr:=(Qd.trans Qg).trans ZE;have Kc:=(Qh.ext Qg).ext ZE;have mF:=Qv.ext ZE;have kj:=Qu.ext Qs;refine Qt Kc rfl ?_;refine Qt mF rfl ?_;refine Xw Qa [(⟨A,n,c,a,ra⟩:DV).cells,(⟨B,m,d,b,rb⟩:DV).cells] rfl rfl rfl rfl rfl ⟨rfl,rfl,rfl,rfl,⟨⟩⟩ rfl (λcs h=>by simp only[Q3,Jx,or_false] at h;rcases h with rfl | rfl<;>rfl) rfl (by decide) (by decide) ?_;intro w5 Qx KL QB;have Z9:=Xr.trans Qx;have hL:SlS DV.cells 2 w5 (some ⟨w4.heap.size,0,none⟩) 2 2 [⟨A,n,c,a,ra⟩,⟨B,m,d,b,rb⟩]:=⟨Sl.own (sz:=2) (n:=2) QB (QC _) (by decide) (by simp[DV.cells]),rfl⟩
 refine call (Cr _ 2 2 _ w5 hL (λx hx=>by
  simp only[Q3,Jx,or_false] at hx;rcases hx with rfl | rfl
  ·exact h.ext Z9
  ·exact h'.ext Z9)) ?_
 rintro v w6 ⟨rfl,QN⟩;have XK:=Qx.trans QN;have XS:=Xr.trans XK;have mQ5:=QX.ext XK;have pQJ:=XK.size;have ef:cL [(⟨A,n,c,a,ra⟩:DV),⟨B,m,d,b,rb⟩]=if XH a ra≠0 then XH a ra else if XH b rb≠0 then XH b rb else 0:=rfl
 refine YE (λc1=>?_) (λc1=>?_)
 ·have e:eW a ra b rb op=(([],0),cL [(⟨A,n,c,a,ra⟩:DV),⟨B,m,d,b,rb⟩]):=by
   rw[ef] at c1 ⊢;unfold eW;split
   ·rfl
   ·rename_i hh;rw[if_neg hh] at c1;split
    ·rfl
    ·rename_i yE;rw[if_neg yE] at c1;exact Xd rfl c1
  rw[e];refine Qw mQ5 rfl (sc rfl) (λw7 Zs _ Q8=>?_);have Xb:Mod (·=w3.heap.size) w6 w7:=qQT Zs rfl;refine Qt Q8 rfl ?_;exact⟨none,0,0,rfl,Xb.ext XS (λi hi=>by omega),SlS.nil _,λi ⟨_,e,_⟩=>by cases e⟩
 ·rw[ef] at c1;have ca:XH a ra=0:=by
   by_cases hh:XH a ra=0
   ·exact hh
   ·rw[Qe hh] at c1;exact c1
  have cb:XH b rb=0:=by
   rw[if_neg (λhh=>hh ca)] at c1;by_cases hh:XH b rb=0
   ·exact hh
   ·rw[Qe hh] at c1;exact c1
  obtain⟨sa,va⟩:=gw.1 ca;obtain⟨sb,vb⟩:=gw.1 cb;have e:eW a ra b rb op=jU (V4 a ra b rb op):=by unfold eW;rw[if_neg (λhh=>hh ca),if_neg (λhh=>hh cb)]
  rw[e];have hb2:=Hq va vb op;have An:(a.length+2)*(b.length+2)<=4098*4098:=Nat.mul_le_mul (by omega) (by omega);refine Qt (Kc.ext XK) rfl ?_;refine Qt (mF.ext XK) rfl ?_;have FD:Blk w6 w2.heap.size 139 [.func (.func F) #[] #[]]:=kj.ext XK;refine call (iQa A n c a ra B m d b rb op F w2.heap.size w6 hF (h.ext XS) (h'.ext XS) FD va.dok vb.dok va.2.1 (by have:=va.2.2.1;omega) vb.2.1 (by have:=vb.2.2.1;omega) (by omega) (by omega) (by omega)) ?_;rintro v w7 ⟨OA,k,oc,rfl,Xf,yO,Vk⟩;have Ys:=XK.trans Xf;have VV:=Xr.trans Ys;have z67:=XS.size;refine call (TI OA k oc _ _ w4 w7 yO (λi hi=>by have:=Vk i hi;omega) Ys) ?_;rintro v w8 ⟨PA,q,pc,rfl,Xp,yP,vq⟩;refine Qw (QX.ext Xp) rfl (sc rfl) (λw9 bB _ JO=>?_);have Zb:Mod (·=w3.heap.size) w8 w9:=qQT bB rfl;refine Qt JO rfl ?_;refine⟨PA,q,pc,rfl,Zb.ext (Xr.trans Xp) (λi hi=>by omega),⟨yP.1.modS Zb (λ_ i hi e=>by have:=vq i hi;omega),yP.2⟩,λi hi=>by have:=vq i hi;omega⟩
theorem xF (A:Option Addr)(n c:Nat)(a:List Br)(ra:Int)(B:Option Addr)(m d:Nat)(b:List Br)(rb:Int)(w:World)(h:SB w A n c a)(h':SB w B m d b):
  Fn Tryz.prog 36 [Xl A n c ra,Xl B m d rb] w (qK w (eW a ra b rb 0)):=by
 refine QH (c:={c36 with cuts:=[]}) Qa Tryz.func36 rfl rfl rfl ?_;refine new (λw1 Qd Q9 Qh=>?_);refine new (λw2 Qg Zi Qv=>?_);refine new (λw3 Qi JD Qu=>?_);have QY:=(Qd.trans Qg).trans Qi;refine Qt ((Qh.ext Qg).ext Qi) rfl ?_;refine Qt (Qv.ext Qi) rfl ?_;refine call (HI A n c a ra B m d b rb 0 84 w3 (.inl ⟨rfl,rfl⟩) (h.ext QY) (h'.ext QY)) ?_;rintro v w4 ⟨PA,q,pc,rfl,Qs,fo,co⟩;refine Qw (Qu.ext Qs) rfl (sc rfl) (λw5 Js _ QB=>?_);have Jn:Mod (·=w2.heap.size) w4 w5:=qQT Js rfl;refine Qt QB rfl ?_;obtain⟨g1,g2,g3⟩:=Hz (r:=eW a ra b rb 0) (QY.trans Qs) Jn (by omega) fo (λi hi=>by have:=co i hi;omega);exact⟨PA,q,pc,rfl,g1,g2,g3⟩
theorem TM (A:Option Addr)(n c:Nat)(a:List Br)(ra:Int)(B:Option Addr)(m d:Nat)(b:List Br)(rb:Int)(w:World)(h:SB w A n c a)(h':SB w B m d b):
  Fn Tryz.prog 101 [Xl A n c ra,Xl B m d rb] w (qK w (eW a ra b rb 1)):=by
 refine QH (c:={eQH with cuts:=[]}) Qa Tryz.func101 rfl rfl rfl ?_;refine new (λw1 Qd Q9 Qh=>?_);refine new (λw2 Qg Zi Qv=>?_);refine new (λw3 Qi JD Qu=>?_);have QY:=(Qd.trans Qg).trans Qi;refine Qt ((Qh.ext Qg).ext Qi) rfl ?_;refine Qt (Qv.ext Qi) rfl ?_;refine call (HI A n c a ra B m d b rb 1 155 w3 (.inr (.inl ⟨rfl,rfl⟩)) (h.ext QY) (h'.ext QY)) ?_;rintro v w4 ⟨PA,q,pc,rfl,Qs,fo,co⟩;refine Qw (Qu.ext Qs) rfl (sc rfl) (λw5 Js _ QB=>?_);have Jn:Mod (·=w2.heap.size) w4 w5:=qQT Js rfl;refine Qt QB rfl ?_;obtain⟨g1,g2,g3⟩:=Hz (r:=eW a ra b rb 1) (QY.trans Qs) Jn (by omega) fo (λi hi=>by have:=co i hi;omega);exact⟨PA,q,pc,rfl,g1,g2,g3⟩
theorem HJ (A:Option Addr)(n c:Nat)(a:List Br)(ra:Int)(w:World)(h:SB w A n c a):
  Fn Tryz.prog 35 [Xl A n c ra] w (qK w (eW a ra [] 0 3)):=by
 refine QH (c:={c35 with cuts:=[]}) Qa Tryz.func35 rfl rfl rfl ?_;refine new (λw1 Qd Q9 Qh=>?_);refine new (λw2 Qg Zi Qv=>?_);have QR:=Qd.trans Qg;refine Qt (Qh.ext Qg) rfl ?_;refine call (HI A n c a ra none 0 0 [] 0 3 83 w2 (.inr (.inr ⟨rfl,rfl⟩)) (h.ext QR) (SlS.nil _)) ?_;rintro v w4 ⟨PA,q,pc,rfl,Qs,fo,co⟩;refine Qw (Qv.ext Qs) rfl (sc rfl) (λw5 Js _ QB=>?_);have Jn:Mod (·=w1.heap.size) w4 w5:=qQT Js rfl;refine Qt QB rfl ?_;obtain⟨g1,g2,g3⟩:=Hz (r:=eW a ra [] 0 3) (QR.trans Qs) Jn (by omega) fo (λi hi=>by have:=co i hi;omega);exact⟨PA,q,pc,rfl,g1,g2,g3⟩
end
section
section
variable {α:Type} {f:α->List Value} {sz:Nat}
theorem TN (hf:∀x,(f x).length=sz):∀(l:List α)(j:Nat),(l.flatMap f).take (j*sz)=(l.take j).flatMap f
 | [],j=>by simp
 | x::l,0=>by simp
 | x::l,j+1=>by
  rw[VH,nC,VH,<-TN hf l j,tu];rw[Jv (by rw[hf,ik];omega),hf,show(j+1)*sz-sz=j*sz by rw[ik];omega]
theorem TO (hf:∀x,(f x).length=sz):∀(l:List α)(j:Nat),(l.flatMap f).drop (j*sz)=(l.drop j).flatMap f
 | [],j=>by simp
 | x::l,0=>by simp
 | x::l,j+1=>by
  rw[VH,PW,<-TO hf l j,List.drop_append];rw[tv (by rw[hf,ik];omega),hf,show(j+1)*sz-sz=j*sz by rw[ik];omega];rfl
theorem HK (hf:∀x,(f x).length=sz)(l:List α){j:Nat}(x:α)(hj:j<l.length):Vh (j*sz) (f x) (l.flatMap f)=(l.set j x).flatMap f:=by
 have ZL:(j+1)*sz<=l.length*sz:=Y8 _ hj;rw[ik] at ZL;rw[jR _ _ _ (by rw[hf,dN hf];exact ZL),hf,TN hf,<-ik,TO hf,List.set_eq_take_append_cons_drop,Qe hj];simp
theorem iQb (hf:∀x,(f x).length=sz)(h0:0<sz){z:α}{zc:Array Value}(hz:zc.toList=f z)(n:Nat):(madeCells zc (n*sz)).toList=(List.replicate n z).flatMap f:=by
 have Ft:zc.size=sz:=by rw[<-Array.length_toList,hz,hf]
 apply Bc;intro i;by_cases hi:i<n*sz
 ·have hd:i/sz<n:=Nat.div_lt_of_lt_mul (by rw[wy];exact hi);have hr:i % sz<sz:=eM _ h0;have FE:i/sz*sz+i % sz=i:=by rw[wy];exact Nat.div_add_mod i sz
  have g1:(List.replicate n z)[i/sz]? =some z:=by rw[List.getElem?_replicate,Qe hd]
  have g2:=XB (l:=f z) (i:=i % sz) (by rw[hf];exact hr);have g3:=jS hf _ _ _ _ _ g1 g2;rw[FE] at g3;rw[g3];have e:zc[i % zc.size]! =(f z)[i % sz]'(by rw[hf];exact hr):=by
   have h1:zc[i % sz]? =some ((f z)[i % sz]'(by rw[hf];exact hr)):=by rw[<-Array.getElem?_toList,hz];exact g2
   rw[Ft,Array.getElem!_eq_getD,Array.getD_eq_getD_getElem?,h1]<;>rfl
  simp[madeCells,hi,e]
 ·rw[nA (by simp[madeCells];omega),nA (by rw[dN hf];simp;omega)]
theorem iQc (hf:∀x,(f x).length=sz)(h0:0<sz)(z:α){c:Cx}(hg:c.g.Ok){o:Oper}{S:Env}{w:World}{K:Env->World->Prop}{Q:Zj}{t e:Nat}{x y:Operand}{n:Nat}{r re:TyRow}(ho:o.op= .makeSlice t x y)(hr:QU c.g.tys t=some r)(hd:r.d= .slice e)(X8:QU c.g.tys e=some re)(hz:re.z.cells.toList=f z)
  (hs:re.sz=sz) (hx:S.ev x=some (.int .i64 n)) (hy:S.ev y=some (.int .i64 n)) (hb:re.by_*n<=281474976710656) (hn:n<=maxLen)
  (k:∀w1,Ext w w1->w1.heap.size=w.heap.size+1->Blk w1 w.heap.size e ((List.replicate n z).flatMap f)->Xh c S o.dst (.v (.slice (some ⟨w.heap.size,0,none⟩) n n)) (λS=>K S w1)):Zc c o S w K Q:=by
 obtain⟨_,i,hi,X7,cw,cy⟩:=hg.row X8;have Q4:=(hg.row hr).1;rw[hd] at Q4;have cg:=run_make (P:=c.g.P) w t e i re.z Q4 hi cy .i64 .i64 n n (by omega) (by omega) (by rw[cw];omega) (by unfold maxLen at hn;omega);have hm:=iQb hf h0 hz n;rw[X7,hs] at cg;simp only[io] at cg;refine JG (w':=w.alloc (.cells (madeCells re.z.cells (n*sz)) e)) (v:=.slice (some ⟨w.heap.size,0,none⟩) n n) (λa hf=>?_) (k _ (Ext.alloc w _) (by simp) ?_)
 ·have e1:=hf.ev hx;have e2:=hf.ev hy;simp only[execOp,ho,e1,e2];simp at cg ⊢;rw[cg]<;>rfl
 ·rw[<-hm];simpa using Blk.new w e (madeCells re.z.cells (n*sz)).toList
end
end
end Go.Proofs.YtjabbbcdgmlojaaGreatDoor
