/-
  What PPatchWeavesLikeReference rests on, part 2 (wip/shake.py).
  Conditions: none.
-/
import Derived.Test.YtjabbbcdgmlojaaGreatDoorQPPatchWeavesLikeReferencea
set_option linter.all false
set_option linter.deprecated false
set_option maxHeartbeats 12800000
namespace Go.Proofs.YtjabbbcdgmlojaaGreatDoor
open Go Go.RowKit
noncomputable section
section
def Zn (o:Int):Int:=if o=0∨o=1∨o=2 then 0 else if o=3 then 1 else if o=4∨o=5 then 2 else -1
theorem sY (o:Int):((o=0∨o=1∨o=2)/\Zn o=0)∨(o=3/\Zn o=1)∨((o=4∨o=5)/\Zn o=2)∨(Zn o= -1/\o≠0/\o≠1/\o≠2/\o≠3/\o≠4/\o≠5):=by
 unfold Zn;split
 ·left;omega
 ·split
  ·right;left;omega
  ·split
   ·right;right;left;omega
   ·right;right;right;omega
def Vk (x:Fz)(i:Nat):Prop:=0<=Zn x.o/\(if x.o=2 then 0<=x.v/\x.v<64 else x.v=0)/\(if 0<Zn x.o then 0<=x.a/\x.a<i else x.a=0)/\(if 1<Zn x.o then 0<=x.b/\x.b<i else x.b=0)
instance (x:Fz) (i:Nat):Decidable (Vk x i):=by unfold Vk;infer_instance
def Wc (x:Fz):Fz:=⟨x.o,if x.o=2 then x.v else 0,if 0<Zn x.o then x.a else 0,if 1<Zn x.o then x.b else 0⟩
theorem PE (a b c d a' b' c' d':Int):(a==a'&&(b==b'&&(c==c'&&(d==d'&&true))))=decide (a=a'/\b=b'/\c=c'/\d=d'):=by
 rw[jZ];simp only[Jv,beq_iff_eq,Vb,and_true]
theorem PF (x:Fz):(x.o=(Wc x).o/\x.v=(Wc x).v/\x.a=(Wc x).a/\x.b=(Wc x).b)↔((x.o≠2->x.v=0)/\(Zn x.o<=0->x.a=0)/\(Zn x.o<=1->x.b=0)):=by
 unfold Wc;simp only;constructor
 ·rintro⟨_,h1,h2,h3⟩;split at h1<;>split at h2<;>split at h3<;>omega
 ·rintro⟨h1,h2,h3⟩;refine⟨trivial,?_,?_,?_⟩<;>split<;>omega
theorem eQD (x:Fz)(i:Nat)(w:World):Fn Tryz.prog 223 [.agg x.cells.toArray,.int .i64 i] w (λv w'=>v= .int .i64 (if Vk x i then Zn x.o else -1)/\Ext w w'):=by
 refine Qx (c:={dQ5 with cuts:=[3]}) Qa Tryz.func223 rfl rfl rfl ?_;refine new (λw1 Qd Q3 Qh=>?_);refine QC Qh rfl ?_;refine new (λw2 Qg X0 Qv=>?_);refine QB Qv rfl (sc rfl) (λw3 ZZ _ Qw=>?_);have XE:Mod (·=w1.heap.size) w2 w3:=oQh ZZ rfl
 replace Qw:Blk w3 w1.heap.size 280 [.int .i64 x.o,.int .i64 0,.int .i64 0,.int .i64 0]:=Qw;have KS:=(Qh.ext Qg).mod XE (by omega);have Qi:Ext w w3:=XE.ext (Qd.trans Qg) (λi hi=>by omega);refine gO [] Qa [6] (λk:Int=>[.int .i64 k]) (λk w'=>Ext w w'/\Blk w' w.heap.size 280 x.cells/\Blk w' w1.heap.size 280 (Wc x).cells/\k=Zn x.o/\0<=Zn x.o/\(x.o=2->0<=x.v/\x.v<64)) ?_ ?_
 ·refine QC KS rfl ?_;refine XU (λh=>?_) (λh=>?_)
  ·refine⟨_,rfl,Qi,KS,?_,?_,?_,?_⟩
   ·rw[show(Wc x).cells=[.int .i64 x.o,.int .i64 0,.int .i64 0,.int .i64 0] from by simp[Wc,Fz.cells,h,Zn]];exact Qw
   ·rw[h]<;>rfl
   ·rw[h];decide
   ·intro h2;omega
  refine XU (λh1=>?_) (λh1=>?_)
  ·refine⟨_,rfl,Qi,KS,?_,?_,?_,?_⟩
   ·rw[show(Wc x).cells=[.int .i64 x.o,.int .i64 0,.int .i64 0,.int .i64 0] from by simp[Wc,Fz.cells,h1,Zn]];exact Qw
   ·rw[h1]<;>rfl
   ·rw[h1];decide
   ·intro h2;omega
  refine XU (λh2=>?_) (λh2=>?_)
  ·refine Qp KS rfl ?_;refine XQ Qw (by simp) (λw4 X9 Q6=>?_);have YX:=KS.mod X9 (by omega);have Qq:=X9.ext Qi (λi hi=>by omega);refine Qp YX rfl ?_;refine Qt (λh3=>?_) (λh3=>?_)
   ·exact⟨by rw[if_neg (λhf=>by have:=hf.2.1;rw[Qf h2] at this;omega)],Qq⟩
   refine Qp YX rfl ?_;refine Qt (λh4=>?_) (λh4=>?_)
   ·exact⟨by rw[if_neg (λhf=>by have:=hf.2.1;rw[Qf h2] at this;omega)],Qq⟩
   refine⟨_,rfl,Qq,YX,?_,?_,?_,?_⟩
   ·rw[show(Wc x).cells=[.int .i64 x.o,.int .i64 x.v,.int .i64 0,.int .i64 0] from by simp[Wc,Fz.cells,h2,Zn]];exact Q6
   ·rw[h2]<;>rfl
   ·rw[h2];decide
   ·intro _;omega
  refine XU (λh3=>?_) (λh3=>?_)
  ·refine Qp KS rfl ?_;refine XQ Qw (by simp) (λw4 X9 Q6=>?_);have YX:=KS.mod X9 (by omega);have Qq:=X9.ext Qi (λi hi=>by omega);refine⟨_,rfl,Qq,YX,?_,?_,?_,?_⟩
   ·rw[show(Wc x).cells=[.int .i64 x.o,.int .i64 0,.int .i64 x.a,.int .i64 0] from by simp[Wc,Fz.cells,h3,Zn]];exact Q6
   ·rw[h3]<;>rfl
   ·rw[h3];decide
   ·intro _;omega
  have two:(x.o=4∨x.o=5)->∀w4,Mod (·=w1.heap.size) w3 w4->Blk w4 w1.heap.size 280 [.int .i64 x.o,.int .i64 0,.int .i64 x.a,.int .i64 x.b]->Ext w w4/\Blk w4 w.heap.size 280 x.cells/\Blk w4 w1.heap.size 280 (Wc x).cells/\(2:Int)=Zn x.o/\0<=Zn x.o/\(x.o=2->0<=x.v/\x.v<64):=λho w4 X9 Q6=>by
   have e:Zn x.o=2:=by rcases ho with h | h<;>rw[h]<;>rfl
   refine⟨X9.ext Qi (λi hi=>by omega),KS.mod X9 (by omega),?_,e.symm,by omega,by omega⟩;rw[show(Wc x).cells=[.int .i64 x.o,.int .i64 0,.int .i64 x.a,.int .i64 x.b] from by simp[Wc,Fz.cells,h2,e]];exact Q6
  refine XU (λh4=>?_) (λh4=>?_)
  ·refine Qp KS rfl ?_;refine XQ Qw (by simp) (λw4 X9 Q6=>?_);have YX:=KS.mod X9 (by omega);refine Qp YX rfl ?_;refine XQ Q6 (by simp) (λw5 XV QL=>?_);exact⟨_,rfl,two (.inl h4) w5 (X9.trans XV (λi hi=>.inl hi)) QL⟩
  refine XU (λh5=>?_) (λh5=>?_)
  ·refine Qp KS rfl ?_;refine XQ Qw (by simp) (λw4 X9 Q6=>?_);have YX:=KS.mod X9 (by omega);refine Qp YX rfl ?_;refine XQ Q6 (by simp) (λw5 XV QL=>?_);exact⟨_,rfl,two (.inr h5) w5 (X9.trans XV (λi hi=>.inl hi)) QL⟩
  ·have Zr:Zn x.o= -1:=by rcases sY x.o with h | h | h | h<;>omega
   exact⟨by rw[if_neg (λhf=>by have:=hf.1;omega)],Qi⟩
 rintro k w4 ⟨Qq,YX,eY,rfl,h0,hv⟩;have no:¬Vk x i->∀w',Ext w w'->(Value.int .i64 (-1))= .int .i64 (if Vk x i then Zn x.o else -1)/\Ext w w':=λh w' hE=>⟨by rw[if_neg h],hE⟩
 have yes:Vk x i->∀w',Ext w w'->(Value.int .i64 (Zn x.o))= .int .i64 (if Vk x i then Zn x.o else -1)/\Ext w w':=λh w' hE=>⟨by rw[Qf h],hE⟩
 have Zf:=sY x.o;refine Qs YX rfl ?_;refine Qs eY rfl ?_;by_cases hp:x.o=(Wc x).o/\x.v=(Wc x).v/\x.a=(Wc x).a/\x.b=(Wc x).b
 rotate_left
 ·refine Xe (by rw[PE,XS hp];rfl) ?_;refine no (λhf=>hp ((PF x).2 ?_)) _ Qq;obtain⟨f1,f2,f3,f4⟩:=hf;split at f2<;>split at f3<;>split at f4<;>omega
 refine Xv (by rw[PE,XT hp];rfl) ?_;have hq:=(PF x).1 hp;have bad:(x.a<0∨x.b<0∨(0<Zn x.o/\(i<=x.a∨i<=x.b)))->¬Vk x i:=λhb hf=>by
  obtain⟨f1,f2,f3,f4⟩:=hf;split at f3<;>split at f4<;>omega
 refine Qp YX rfl ?_;refine Qt (λh1=>?_) (λh1=>?_)
 ·exact no (bad (.inl h1)) _ Qq
 refine Qp YX rfl ?_;refine Qt (λh2=>?_) (λh2=>?_)
 ·exact no (bad (.inr (.inl h2))) _ Qq
 refine Qt (λh3=>?_) (λh3=>?_)
 ·refine Qp YX rfl ?_;refine Qp YX rfl ?_;refine norm (m:=max x.a x.b) (by rw[Int.max_def];split<;>split<;>omega) ?_;refine Qt (λh4=>?_) (λh4=>?_)
  ·refine no (bad (.inr (.inr ⟨h3,?_⟩))) _ Qq;rw[Int.max_def] at h4;split at h4<;>omega
  ·rw[Int.max_def] at h4;refine yes ⟨h0,?_,?_,?_⟩ _ Qq
   ·split
    ·rename_i h;exact hv h
    ·rename_i h;exact hq.1 h
   ·rw[Qf h3];split at h4<;>omega
   ·split
    ·split at h4<;>omega
    ·exact hq.2.2 (by omega)
 ·refine yes ⟨h0,?_,?_,?_⟩ _ Qq
  ·split
   ·rename_i h;exact hv h
   ·rename_i h;exact hq.1 h
  ·rw[if_neg h3];exact hq.2.1 (by omega)
  ·rw[if_neg (by omega)];exact hq.2.2 (by omega)
end
section
def gT (l:List Bool):List Value:=l.map .bool
theorem PG {l:List Bool}{j:Nat}{b:Bool}(h:l[j]? =some b):(gT l)[j]? =some (.bool b):=by simp[gT,h]
theorem eQE (l:List Bool):(gT l).length=l.length:=by simp[gT]
theorem eQF (l:List Bool)(i:Nat)(b:Bool):gT (l.set i b)=(gT l).set i (.bool b):=by simp[gT,List.map_set]
def YQ (x:Fz):List Nat:=if Zn x.o=2 then [x.a.toNat,x.b.toNat] else if Zn x.o=1 then [x.a.toNat] else []
def JO (f:List Fz):List Nat:=f.flatMap YQ
def FV (f:List Fz):Prop:=f.length<=512/\0<f.length/\(∀i x,f[i]? =some x->Vk x i)/\∀i,i+1<f.length->(JO f).count i=1
open Classical in
def sZ (f:List Fz):Int:=if FV f then 0 else 30
theorem AM {f:List Fz}(h:FV f):sZ f=0:=Qf h
theorem AN {f:List Fz}(h:¬FV f):sZ f=30:=if_neg h
theorem eQG {f:List Fz}:sZ f=0↔FV f:=by
 constructor
 ·intro h;unfold sZ at h;split at h
  ·assumption
  ·cases h
 ·exact AM
theorem eQH (d:List Fz){i:Nat}{x:Fz}(h:d[i]? =some x):JO (d.take (i+1))=JO (d.take i)++YQ x:=by
 simp[JO,KC,h]
theorem eQI {x:Fz}{i:Nat}(h:Vk x i):∀j∈YQ x,j<i:=by
 intro j hj;obtain⟨_,_,h3,h4⟩:=h;unfold YQ at hj;split at hj
 ·rename_i h2;rw[Qf (by omega)] at h3 h4;simp at hj;omega
 ·split at hj
  ·rename_i h2;rw[Qf (by omega)] at h3;simp at hj;omega
  ·simp at hj
theorem eQJ {d:List Fz}{i:Nat}(h:∀j x,j<i->d[j]? =some x->Vk x j):∀j∈JO (d.take i),j+1<i:=by
 intro j hj;simp only[JO,eA] at hj;obtain⟨x,hx,hk⟩:=hj;obtain⟨m,hm,VN⟩:=vm.1 hx;have Xf:m<i:=by simp at hm;omega
 have HQ:d[m]? =some x:=by
  rw[List.getElem_take] at VN;rw[<-VN];exact Xb _
 have:=eQI (h m x Xf HQ) j hk;omega
def eJ (l:List Nat)(n:Nat):List Bool:=(List.range n).map λj=>decide (j∈l)
theorem PH (l:List Nat)(n j:Nat)(hj:j<n):(eJ l n)[j]? =some (decide (j∈l)):=by simp[eJ,hj]
theorem eQK (l:List Nat)(n:Nat):(eJ l n).length=n:=by simp[eJ]
theorem eQL (l:List Nat)(n k:Nat):(eJ l n).set k true=eJ (l++ [k]) n:=by
 unfold eJ;apply List.ext_getElem
 ·simp
 ·intro i h1 h2;simp at h1;simp only[List.getElem_set,List.getElem_map,List.getElem_range,XH,QF];split
  ·rename_i h;subst h;simp
  ·rename_i h;have:¬i=k:=λe=>h e.symm
   simp[this]
theorem eQM (n:Nat):eJ [] n=List.replicate n false:=by
 apply List.ext_getElem
 ·simp[eJ]
 ·intro i h1 h2;simp[eJ]
theorem eQN {d:List Fz}{s:Nat}{x:Fz}(hx:d[s]? =some x)(h:¬Vk x s):¬FV d:=λhv=>h (hv.2.2.1 s x hx)
theorem eQO {d:List Fz}{s:Nat}(hnd:∀j x,j<s->d[j]? =some x->Vk x j)(hs:s<=d.length)(h:¬(JO (d.take s)).Nodup):¬FV d:=λhv=>by
 apply h;rw[List.nodup_iff_count];intro a;by_cases ha:a∈JO (d.take s)
 ·have h1:=eQJ hnd a ha;have h2:=hv.2.2.2 a (by omega);rw[<-h2];have fH:(JO (d.take s)).Sublist (JO d):=by
   have:JO d=JO (d.take s)++JO (d.drop s):=by
    unfold JO;rw[<-bH,mj]
   rw[this];exact List.sublist_append_left _ _
  exact fH.count_le a
 ·rw[List.count_eq_zero.2 ha];omega
theorem eQP {d:List Fz}(h1:d.length<=512)(h2:0<d.length)(hnd:∀j x,j<d.length->d[j]? =some x->Vk x j)(hn:(JO d).Nodup)(hu:∀j,j+1<d.length->j∈JO d):FV d:=
 ⟨h1,h2,λi x hx=>hnd i x (Zw.1 hx).1 hx,λi hi=>by
  have h3:=List.nodup_iff_count.1 hn i;have h4:=List.count_pos_iff.2 (hu i hi);omega⟩
theorem eQQ {w:World}{t:TypeId}{cs cs':List Value}{K:Addr->World->Prop}(h:cs=cs')(k:∀w1,Ext w w1->w1.heap.size=w.heap.size+1->Blk w1 w.heap.size t cs'->K ⟨w.heap.size,0,none⟩ w1):pw w t cs K:=by
 subst h;exact new k
abbrev SF (w:World)(A:Option Addr)(n c:Nat)(f:List Fz):Prop:=SlS Fz.cells 4 w A n c f
def kt (x:Fz):List Int:=[x.a,x.b].take (Zn x.o).toNat
theorem eQR {x:Fz}{i:Nat}(h:Vk x i):(kt x).length=(Zn x.o).toNat/\∀j:Nat,∀a:Int,(kt x)[j]? =some a->0<=a/\a<i/\(YQ x)[j]? =some a.toNat:=by
 obtain⟨h1,_,h3,h4⟩:=h;unfold kt YQ;rcases sY x.o with⟨_,e⟩ | ⟨_,e⟩ | ⟨_,e⟩ | ⟨e,_⟩
 ·rw[e];simp
 ·rw[e] at h3 ⊢;simp at h3;simp;intro j a ha;cases j with
  | zero=>simp at ha;subst ha;simp;omega
  | succ j=>simp at ha
 ·rw[e] at h3 h4 ⊢;simp at h3 h4;simp;intro j a ha
  match j,ha with
  | 0,ha=>simp at ha;subst ha;simp;omega
  | 1,ha=>simp at ha;subst ha;simp;omega
  | j+2,ha=>simp at ha
 ·rw[e] at h1;omega
theorem eQS (x:Fz)(_:0<=Zn x.o):(YQ x).length=(Zn x.o).toNat:=by
 unfold YQ;rcases sY x.o with⟨_,e⟩ | ⟨_,e⟩ | ⟨_,e⟩ | ⟨e,_⟩<;>rw[e]<;>first | rfl | omega
end
section
theorem PI (A:Option Addr)(n c:Nat)(f:List Fz)(w:World)(h:SF w A n c f):
  Fn Tryz.prog 193 [.slice A n c] w (λv w'=>v= .int .i64 (sZ f)/\Ext w w'):=by
 have Xf:=h.2;refine Qx (c:={dQJ with cuts:=[4]}) Qa Tryz.func193 rfl rfl rfl ?_;refine XU (λh1=>?_) (λh1=>?_)
 ·exact⟨by rw[AN (λhv=>by have:=hv.2.1;omega)],Ext.refl w⟩
 refine Qt (λh2=>?_) (λh2=>?_)
 ·exact⟨by rw[AN (λhv=>by have:=hv.1;omega)],Ext.refl w⟩
 refine eQQ (cs':=gT (List.replicate 512 false)) (by kernel_rfl) (λw1 Qd Q3 Qh=>?_);rw[<-eQM] at Qh;refine gO [] Qa [] (λ_:Unit=>[]) (λ_ w'=>Ext w w'/\Blk w' w.heap.size 297 (gT (eJ (JO f) 512))/\(∀j x,j<n->f[j]? =some x->Vk x j)/\(JO f).Nodup) ?_ ?_
 ·refine loop Qa [20] (λs:Nat=>[.int .i64 s]) (λs w'=>Ext w w'/\Blk w' w.heap.size 297 (gT (eJ (JO (f.take s)) 512))/\s<=n/\(∀j x,j<s->f[j]? =some x->Vk x j)/\(JO (f.take s)).Nodup) (λs _=>n-s) 0 rfl ⟨Qd,Qh,Xt _,λj x hj=>Xd hj (by omega),by simp[JO]⟩ ?_;rintro s w2 ⟨Qg,nF,hs,hnd,dk⟩;refine Qt (λh3=>?_) (λh3=>?_)
  ·refine Zh AK (h.ext Qg) rfl (by omega) (λp x hx hc=>?_);refine Kb (vs:=x.cells) rfl hc ?_;refine new (λw3 Qi JF Qw=>?_);refine QB Qw rfl (sc rfl) (λw4 bn K5 Q6=>?_);have Ja:Ext w2 w4:=XY Qi Qw bn;have Qq:=Qg.trans Ja;have hU4:=nF.ext Ja;refine Qs Q6 rfl ?_;refine call (eQD x s w4) ?_;rintro v w5 ⟨rfl,Qz⟩;have QL:=Q6.ext Qz;have bad:¬(Vk x s/\(JO (f.take (s+1))).Nodup)->sZ f=30:=λXa=>by
    refine AN ?_;by_cases eZ:Vk x s
    ·refine eQO (s:=s+1) (λj y hj hy=>?_) (by omega) (λh=>Xa ⟨eZ,h⟩);by_cases KX:j<s
     ·exact hnd j y KX hy
     ·have:j=s:=by omega
      subst this;rw[Option.some.inj (hy.symm.trans hx)];exact eZ
    ·exact eQN hx eZ
   by_cases oS:¬Vk x s
   ·refine Zd (by rw[if_neg oS];decide) ?_;exact⟨by rw[bad (λhh=>oS hh.1)],Qq.trans Qz⟩
   replace oS:=Decidable.not_not.1 oS;have h0:=oS.1;have e5:(if Vk x s then Zn x.o else -1)=((Zn x.o).toNat:Int):=by rw[Qf oS];omega
   rw[e5];refine Xx (by omega) ?_;refine Qp QL rfl ?_;refine Qp QL rfl ?_;refine sG Qa rfl rfl rfl rfl rfl rfl rfl rfl rfl rfl (λw6 Xh fa Xj=>?_);have yR:(Zn x.o).toNat<=2:=by rcases sY x.o with h | h | h | h<;>omega
   refine ct Qa rfl rfl rfl rfl rfl rfl yR ?_;have ZI:=Qz.trans Xh;have HS:=hU4.ext ZI;have XD:=Qq.trans ZI;obtain⟨ol,ok⟩:=eQR oS;have Kk:=eQS x h0;have lQ:Sl w6 1 (some ⟨w5.heap.size,0,none⟩) (Zn x.o).toNat 2 ((kt x).map (Value.int .i64)):=by
    have:=Sl.own (sz:=1) (n:=(Zn x.o).toNat) (c:=2) Xj yR (by decide) (by simpa using yR);rw[WV] at this;simpa [kt,List.map_take] using this
   have hkz:JO (f.take (s+1))=JO (f.take s)++YQ x:=eQH f hx;refine loop Qa [38] (λt:Nat=>[.int .i64 t]) (λt w'=>Mod (·=w.heap.size) w6 w'/\Blk w' w.heap.size 297 (gT (eJ (JO (f.take s)++(YQ x).take t) 512))/\t<=(Zn x.o).toNat/\(JO (f.take s)++(YQ x).take t).Nodup) (λt _=>(Zn x.o).toNat-t) 0 rfl ⟨Mod.refl _ _,by simpa using HS,Xt _,by simpa using dk⟩ ?_;rintro t w7 ⟨Kg,CD,ht,HT⟩;have QY:Ext w w7:=Kg.ext XD (λi hi=>by omega);refine Qt (λh7=>?_) (λh7=>?_)
   ·have V5:t<(kt x).length:=by omega
    have oT:(kt x)[t]? =some (kt x)[t]:=Xb V5;generalize (kt x)[t]=a at oT;obtain⟨a0,ai,ak⟩:=ok t a oT;refine ZF lQ (by omega) (λad u hA hu QR=>?_);simp only[Vi,oT,zP] at hu;cases hu;have kQc:w7.cell? (ad.add t)=some (.int .i64 a):=World.grownBy.cell (Kg.grown (row:=some w.heap.size) (λi hi=>by rw[hi])) QR (by
     rw[pH];cases hA;intro e;have:=(Option.some.inj e)
     have:=Qq.size;have:=Qz.size;have:=Qd.size;have:=nF.lt;simp only at*;omega)
    refine load kQc ?_;have Ka:a.toNat<512:=by omega
    refine AI (j:=a.toNat) (by omega) Ka ?_;refine Qp CD (PG (PH _ _ _ Ka)) ?_;have Wx:(YQ x).take (t+1)=(YQ x).take t++ [a.toNat]:=by rw[KC,ak]<;>rfl
    refine Qt (λh8=>?_) (λh8=>?_)
    ·refine⟨?_,QY⟩;rw[bad];rintro⟨_,U4⟩;rw[hkz] at U4;have fH:(JO (f.take s)++(YQ x).take (t+1)).Nodup:=U4.sublist ((List.Sublist.refl _).append (List.take_sublist _ _));rw[Wx,<-K9,zO] at fH;exact fH.2.2 _ h8 _ (by simp) rfl
    ·refine AI (j:=a.toNat) (by omega) Ka ?_;refine XQ CD (by rw[eQE,eQK];exact Ka) (λw8 Jq XB=>?_);rw[<-eQF,eQL,K9,<-Wx] at XB;refine Qj ((t+1:Nat):Int) (by omega) (by omega) ?_;refine⟨t+1,rfl,⟨Kg.trans Jq (λi hi=>.inl hi),XB,by omega,?_⟩,by show(Zn x.o).toNat-(t+1)<(Zn x.o).toNat-t;omega⟩;rw[Wx,<-K9,zO];refine⟨HT,by simp,λu hu v hv e=>?_⟩;simp only[QF] at hv;subst hv;subst e;exact h8 hu
   ·have e:(YQ x).take t=YQ x:=Zz (by omega);rw[e,<-hkz] at CD HT;refine Qj ((s+1:Nat):Int) (by omega) (by omega) ?_;refine⟨s+1,rfl,⟨QY,CD,by omega,λj y hj hy=>?_,HT⟩,by show n-(s+1)<n-s;omega⟩;by_cases KX:j<s
    ·exact hnd j y KX hy
    ·have:j=s:=by omega
     subst this;rw[Option.some.inj (hy.symm.trans hx)];exact oS
  ·have:s=n:=by omega
   subst this;rw[Zz (by omega)] at nF dk;exact⟨(),rfl,Qg,nF,hnd,dk⟩
 rintro⟨⟩ w2 ⟨Qg,nF,hnd,dk⟩;refine Qj ((n-1:Nat):Int) (by omega) (by omega) ?_;refine ct Qa rfl rfl rfl rfl rfl rfl (by have:=h.1.le;omega) ?_;refine loop Qa [55] (λs:Nat=>[.int .i64 s]) (λs w'=>w2=w'/\s<=n-1/\∀j,j<s->j∈JO f) (λs _=>n-s) 0 rfl ⟨rfl,Xt _,λj hj=>Xd hj (by omega)⟩ ?_;rintro s _ ⟨rfl,hs,hu⟩;refine Qt (λh3=>?_) (λh3=>?_)
 ·refine index (by omega) ?_;refine Qp nF (PG (PH _ _ s (by omega))) ?_;refine cr (Qt (λhm=>?_) (λhm=>?_))
  ·refine Qj ((s+1:Nat):Int) (by omega) (by omega) ?_;refine⟨s+1,rfl,⟨rfl,by omega,λj hj=>?_⟩,by show n-(s+1)<n-s;omega⟩;by_cases KX:j<s
   ·exact hu j KX
   ·have:j=s:=by omega
    rw[this];exact hm
  ·refine⟨?_,Qg⟩;rw[AN (λhv=>?_)];have:=hv.2.2.2 s (by omega);rw[List.count_eq_zero.2 hm] at this;cases this
 ·exact⟨by rw[AM (eQP (by omega) (by omega) (λj x hj hx=>hnd j x (by omega) hx) dk (λj hj=>hu j (by omega)))],Qg⟩
end
section
inductive Fm where
 | c (b:Bool)
 | v (n:Nat)
 | not (a:Fm)
 | and (a b:Fm)
 | or (a b:Fm)
deriving DecidableEq
def RepF (f:List Fz):Fm->Nat->Prop
 | .c b,i=>f[i]? =some ⟨if b then 1 else 0,0,0,0⟩
 | .v n,i=>f[i]? =some ⟨2,(n:Nat),0,0⟩
 | .not a,i=>∃j:Nat,j<i/\f[i]? =some ⟨3,0,(j:Nat),0⟩/\RepF f a j
 | .and a b,i=>∃j k:Nat,j<i/\k<i/\f[i]? =some ⟨4,0,(j:Nat),(k:Nat)⟩/\RepF f a j/\RepF f b k
 | .or a b,i=>∃j k:Nat,j<i/\k<i/\f[i]? =some ⟨5,0,(j:Nat),(k:Nat)⟩/\RepF f a j/\RepF f b k
theorem eQT {x:Fz}{i:Nat}(h:Vk x i):(x=⟨0,0,0,0⟩)∨(x=⟨1,0,0,0⟩)∨(∃n:Nat,n<64/\x=⟨2,n,0,0⟩)∨(∃j:Nat,j<i/\x=⟨3,0,j,0⟩)∨(∃j k:Nat,j<i/\k<i/\(x=⟨4,0,j,k⟩∨x=⟨5,0,j,k⟩)):=by
 obtain⟨o,v,a,b⟩:=x;obtain⟨h1,h2,h3,h4⟩:=h;simp only at h1 h2 h3 h4;rcases sY o with⟨ho,e⟩ | ⟨ho,e⟩ | ⟨ho,e⟩ | ⟨e,_⟩
 ·rw[if_neg (by omega)] at h3 h4;subst h3;subst h4;rcases ho with rfl | rfl | rfl
  ·rw[if_neg (by omega)] at h2;subst h2;exact .inl rfl
  ·rw[if_neg (by omega)] at h2;subst h2;exact .inr (.inl rfl)
  ·rw[Qf rfl] at h2;refine .inr (.inr (.inl ⟨v.toNat,by omega,?_⟩));rw[EQ h2.1]
 ·rw[Qf (by omega)] at h3;rw[if_neg (by omega)] at h4 h2;subst ho;subst h4;subst h2;refine .inr (.inr (.inr (.inl ⟨a.toNat,by omega,?_⟩)));rw[EQ h3.1]
 ·rw[Qf (by omega)] at h3 h4;rw[if_neg (by omega)] at h2;subst h2;refine .inr (.inr (.inr (.inr ⟨a.toNat,b.toNat,by omega,by omega,?_⟩)));rw[EQ h3.1,EQ h4.1];rcases ho with rfl | rfl
  ·exact .inl rfl
  ·exact .inr rfl
 ·omega
theorem PJ {f:List Fz}(h:∀i x,f[i]? =some x->Vk x i):∀i,i<f.length->∃t,RepF f t i:=by
 intro i;induction i using Nat.strongRecOn with
 | _ i ih=>
  intro hi;have hx:=Xb hi;rcases eQT (h i _ hx)with e | e | ⟨n,_,e⟩ | ⟨j,hj,e⟩ | ⟨j,k,hj,hk,e⟩
  ·exact⟨.c false,by rw[e] at hx;exact hx⟩
  ·exact⟨.c true,by rw[e] at hx;exact hx⟩
  ·exact⟨.v n,by rw[e] at hx;exact hx⟩
  ·obtain⟨a,ha⟩:=ih j hj (by omega);exact⟨.not a,j,hj,by rw[e] at hx;exact hx,ha⟩
  ·obtain⟨a,ha⟩:=ih j hj (by omega);obtain⟨b,hb⟩:=ih k hk (by omega);rcases e with e | e
   ·exact⟨.and a b,j,k,hj,hk,by rw[e] at hx;exact hx,ha,hb⟩
   ·exact⟨.or a b,j,k,hj,hk,by rw[e] at hx;exact hx,ha,hb⟩
theorem RepF.lt {f:List Fz}:∀{t:Fm}{i:Nat},RepF f t i->i<f.length
 | .c _,_,h=>(Zw.1 h).1
 | .v _,_,h=>(Zw.1 h).1
 | .not _,_,⟨_,_,h,_⟩=>(Zw.1 h).1
 | .and _ _,_,⟨_,_,_,_,h,_⟩=>(Zw.1 h).1
 | .or _ _,_,⟨_,_,_,_,h,_⟩=>(Zw.1 h).1
def ZR:Fm->Nat
 | .or _ _=>0
 | .and _ _=>1
 | _=>2
def Yw (b:Bool)(s:List Nat):List Nat:=if b then 40::s++ [41] else s
def Jn (nm:List (List Nat)):Fm->List Nat
 | .c b=>if b then Yv else aC
 | .v n=>nm[n]?.getD []
 | .not a=>33::Yw (decide (ZR a<2)) (Jn nm a)
 | .and a b=>Yw (decide (ZR a<1)) (Jn nm a)++ [32,38,38,32]++Yw (decide (ZR b<2)) (Jn nm b)
 | .or a b=>Yw (decide (ZR a<0)) (Jn nm a)++ [32,124,124,32]++Yw (decide (ZR b<1)) (Jn nm b)
def ZS (nm:List (List Nat))(least:Nat)(t:Fm):List Nat:=Yw (decide (ZR t<least)) (Jn nm t)
def VarsIn (n:Nat):Fm->Prop
 | .c _=>True
 | .v k=>k<n
 | .not a=>VarsIn n a
 | .and a b=>VarsIn n a/\VarsIn n b
 | .or a b=>VarsIn n a/\VarsIn n b
theorem eQU (o:Int)(w:World):Fn Tryz.prog 224 [.int .i64 o] w (λv w'=>v= .int .i64 (if o=5 then 0 else if o=4 then 1 else 2)/\w=w'):=by
 refine Qx (c:=dQ6) Qa Tryz.func224 rfl rfl rfl ?_;refine XU (λh=>?_) (λh=>?_)
 ·exact⟨by rw[Qf h],rfl⟩
 refine XU (λh1=>?_) (λh1=>?_)
 ·exact⟨by rw[if_neg h,Qf h1],rfl⟩
 ·exact⟨by rw[if_neg h,if_neg h1],rfl⟩
theorem s6 (u:FrameMode)(base g t:Nat)(rest:List Value)(A:Option Addr)(c:Nat)(out:List Nat)(b:Nat)(w:World)(hl:pI t (rest.length+2))(hb:Bld w base g t rest A c out)(hs:out.length+1<=140737488355328):
  CallsD Tryz.prog 225 [.pointer (some ⟨g,0,none⟩),.int .u8 b].toArray u w (λe u' w'=>u'=u/\∃v,e= .returned v/\(λ_ w'=>∃A' c',Bld w' base g t rest A' c' (out++ [b])/\Mod (BldS g A) w w'/\Moved w A A') v w'):=by
 refine eQz (c:=O6) Qa u Tryz.func225 rfl rfl rfl ?_;obtain⟨pa,ZE,hB⟩:=hb.blk;refine call (Fq g t pa _ rest w hl ZE hB) ?_;rintro v w1 ⟨Zr,Qh⟩;have V4:=hb.own.rows;have lk:=hb.g1;have lP:=hb.top;have hn:¬Qk A g:=λh=>by have:=(V4 g h).1;omega
 have qq:=hb.own.mod Zr (λk hk e=>hn (e▸hk));refine Qp Qh rfl ?_;refine OI Qa rfl rfl rfl rfl rfl rfl rfl rfl ?_;intro w7 QY jQ8 Q4;have jx:Sl w7 1 (some ⟨w1.heap.size,0,none⟩) 1 1 [.int .u8 (b:Int)]:=Sl.own' Q4 rfl (by simp[maxLen]);have jQ9:=Zr.size;have kQa:=QY.size;refine Zk Qa rfl rfl rfl rfl rfl (by decide) rfl rfl ⟨_,rfl⟩ rfl rfl (qq.ext QY) jx (by simp[Jw]) (by unfold maxLen;omega) (by show _*1<=_;omega) (by omega) ?_;intro A' c' w2 XR dP nA;refine XQ ((Qh.ext QY).mod XR hn) (by simp) (λw3 XE Qw=>?_);have qr:=dP.rows;refine⟨A',c',⟨lk,by have:=XR.size;have:=XE.size;omega,⟨_,.inr rfl,by rw[Qy];exact Qw⟩,?_⟩,?_,nA.back (by omega)⟩
 ·rw[Qy,AE];exact dP.mod XE (λk hk e=>by have:=(qr k hk).1;omega)
 ·exact(((Zr.mono (S':=BldS g A) (λi hi=>.inl (.inl hi))).trans (Mod.of_ext (λ_=>False) QY) (λi hi=>hi.elim)).trans XR (λi hi=>.inl (.inr hi))).trans XE (λi hi=>.inl (.inl hi))
end
section
theorem s9 (a b:Value):(#[]++ [a,b].toArray)++ #[]=[a,b].toArray:=by simp
theorem WY:pI 109 2:=by unfold pI;kernel_rfl
def Wr (base g:Nat)(W:World)(A1:Option Addr)(out xs:List Nat)(w':World):Prop:=∃A' c',Bld w' base g 109 [] A' c' (out++xs)/\Mod (BldS g A1) W w'/\Moved W A1 A'
theorem Wr.trans {base g:Nat}{W w1 w2:World}{A1 A':Option Addr}{out xs ys:List Nat}(hm:Mod (BldS g A1) W w1)(hv:Moved W A1 A')(k:Wr base g w1 A' (out++xs) ys w2):Wr base g W A1 out (xs++ys) w2:=by
 obtain⟨A2,c2,hb2,XR,Kd⟩:=k;exact⟨A2,c2,by rw[<-K9];exact hb2,hm.trans XR (BldS.moved hv),hv.trans Kd hm.size⟩
theorem Wr.pre {base g:Nat}{w w2 w':World}{A:Option Addr}{out xs:List Nat}(h:Wr base g w2 A out xs w')(hE:Ext w w2):Wr base g w A out xs w':=by
 obtain⟨A2,c2,hb2,XR,Kd⟩:=h;exact⟨A2,c2,hb2,(Mod.of_ext _ hE).trans XR (λi hi=>.inl hi),Kd.back hE.size⟩
theorem BldS.kept {base g:Nat}{w0 W:World}{A:Option Addr}{c:Nat}{out:List Nat}(h:Bld W base g 109 [] A c out)(hg:w0.heap.size<=g):∀i,BldS g A i->w0.heap.size<=i:=λi hi=>by
 have:=h.g1;rcases hi with rfl | hi
 ·exact hg
 ·have:=(h.own.rows i hi).1;omega
def QG:Fm->Nat
 | .c _=>1
 | .v _=>1
 | .not a=>QG a+1
 | .and a b=>QG a+QG b+1
 | .or a b=>QG a+QG b+1
def V9:Fm->Int
 | .c b=>if b then 1 else 0
 | .v _=>2
 | .not _=>3
 | .and _ _=>4
 | .or _ _=>5
theorem eQV (t:Fm):(if V9 t=5 then(0:Int)else if V9 t=4 then 1 else 2)=(ZR t:Nat):=by
 cases t with
 | c b=>cases b<;>rfl
 | _=>rfl
theorem RepF.node {f:List Fz}{t:Fm}{i:Nat}(h:RepF f t i):∃x,f[i]? =some x/\x.o=V9 t:=by
 cases t with
 | c b=>exact⟨_,h,rfl⟩
 | v n=>exact⟨_,h,rfl⟩
 | not a=>obtain⟨j,_,h,_⟩:=h;exact⟨_,h,rfl⟩
 | and a b=>obtain⟨j,k,_,_,h,_⟩:=h;exact⟨_,h,rfl⟩
 | or a b=>obtain⟨j,k,_,_,h,_⟩:=h;exact⟨_,h,rfl⟩
def AO (base g:Nat)(w0:World)(NA:Option Addr)(nn nc:Nat)(nm:List (List Nat))(FA:Option Addr)(nf cf:Nat)(f:List Fz)(t:Fm):Prop:=
 ∀(i least:Nat) (A:Option Addr) (c:Nat) (out:List Nat) (w:World),Ext w0 w->Bld w base g 109 [] A c out->RepF f t i->VarsIn nn t->out.length+(ZS nm least t).length<=140737488355328->least<=2->
  Fn Tryz.prog 194 [.pointer (some ⟨g,0,none⟩),.slice NA nn nc,.slice FA nf cf,.int .i64 i,.int .i64 least] w (λ_ w'=>Wr base g w A out (ZS nm least t) w')
theorem eQW (base g:Nat)(w0:World)(NA:Option Addr)(nn nc:Nat)(nm:List (List Nat))(FA:Option Addr)(nf cf:Nat)(f:List Fz)(hN:Sl w0 1 NA nn nc (Q9 nm))(JX:Jy nm)(hF:SF w0 FA nf cf f)(HU:w0.heap.size<=g)(t:Fm)(ih:∀u:Fm,QG u<QG t->AO base g w0 NA nn nc nm FA nf cf f u):AO base g w0 NA nn nc nm FA nf cf f t:=by
 intro i least A c out w hE hb hr hv hl ZO;have Kk:=hF.2;have Je:nm.length=nn:=by have:=hN.len;rw[YO] at this;omega
 have hi:=hr.lt;obtain⟨x,hx,yS⟩:=hr.node;refine vX (c:={dQK with cuts:=[]}) Qa Tryz.func194 rfl rfl rfl ?_;refine ZQ (ZB Qa ?_);refine Zh AK (hF.ext hE) rfl (by omega) (λp y hy hc=>?_);have iG:y=x:=Option.some.inj (hy.symm.trans hx);subst iG;refine Kb (vs:=y.cells) rfl hc ?_;refine new (λw1 Qd Q3 Qh=>?_);refine QB Qh rfl (sc rfl) (λw2 ig X0 KD=>?_);have Xu:Ext w w2:=XY Qd Qh ig;have QT:=hE.trans Xu;have hb2:=hb.grow Xu;have lP:=hb.top;have lk:=hb.g1;have iI:¬BldS g A w.heap.size:=λe=>by
  rcases e with e | e
  ·omega
  ·have:=(hb.own.rows _ e).2;omega
 refine ZQ (ZB Qa ?_);refine QC KD rfl ?_;refine call (eQU y.o w2) ?_;rintro v _ ⟨rfl,rfl⟩;rw[yS,eQV];have Jt:(ZS nm least t).length=(Jn nm t).length+(if ZR t<least then 2 else 0):=by
  unfold ZS Yw;split
  ·rename_i h;rw[Qf (by simpa using h)];simp
  ·rename_i h;rw[if_neg (by simpa using h)]<;>rfl
 have ud:∀A' c' out' W w',Bld W base g 109 [] A' c' out'->Mod (BldS g A') W w'->Ext w0 W->Ext w0 w':=λA' c' out' W w' hb hm hE=>hm.ext hE (BldS.kept hb HU)
 refine ZQ ?_;refine ZQ (ZB Qa ?_);by_cases hd:ZR t<least
 ·rw[Qf hd] at Jt;have fI:ZS nm least t=[40]++(Jn nm t++ [41]):=by unfold ZS Yw;rw[Qf (by simpa using hd)];simp
  refine eQx rfl (XT (by omega)) (ZQ (ZB Qa ?_));refine call (Fr base g _ [] _ _ _ 40 w2 WY hb2 (by omega)) ?_;rintro v w3 ⟨A3,c3,nG,XE,aN⟩;generalize dR:out++ [40]=oo at nG;have KS:=KD.mod XE iI;have QQ:=ud _ _ _ _ _ hb2 XE QT;have ue:¬BldS g A3 w.heap.size:=λe=>(BldS.moved aN _ e).elim iI (λh=>by omega)
  refine vW Qa rfl rfl rfl rfl ⟨_,_,_,_,rfl,rfl,?_⟩;have XL:oo.length+(Jn nm t).length<=140737488355327:=by rw[<-dR,Qy];simp only[Xs,JI];omega
  have Ke:=XL
  replace XL:oo.length+(Jn nm t).length<=140737488355328:=by omega
  have fJ:∀w',Mod (BldS g A3) w3 w'->Blk w' w.heap.size 280 y.cells/\Ext w0 w':=λw' hm=>⟨KS.mod hm ue,ud _ _ _ _ _ nG hm QQ⟩
  refine ZQ (ZB Qa ?_);refine QC KS rfl ?_;refine ZB Qa ?_;rw[yS] at*;cases t with
  | c b=>
   cases b with
   | false=>
    refine JN rfl ?_;refine call (jg base g _ [] _ _ _ _ w3 WY nG (by have:(Jn nm (.c false)).length=5:=rfl;rw[this] at XL;exact XL)) ?_;rintro v w9 h9
    replace h9:Wr base g w3 A3 _ (Jn nm (.c false)) w9:=h9;obtain⟨A9,c9,ii,YY,ij⟩:=h9;refine f9 (ga Qa rfl rfl (.inr rfl) (s9 _ _) ((s6 .returning base g _ [] A9 c9 _ 41 w9 WY ii (by rw[Qy];omega)).mono ?_));rintro e u' QE ⟨rfl,v,rfl,XO⟩;refine⟨v,rfl,rfl,?_⟩;show Wr base g w A out (ZS nm least _) QE;rw[fI];exact Wr.pre (Wr.trans XE aN (by rw[dR];exact Wr.trans YY ij XO)) Xu
   | true=>
    refine XW (by decide) ?_;refine JN rfl ?_;refine call (jg base g _ [] _ _ _ _ w3 WY nG (by have:(Jn nm (.c true)).length=4:=rfl;rw[this] at XL;exact XL)) ?_;rintro v w9 h9
    replace h9:Wr base g w3 A3 _ (Jn nm (.c true)) w9:=h9;obtain⟨A9,c9,ii,YY,ij⟩:=h9;refine f9 (ga Qa rfl rfl (.inr rfl) (s9 _ _) ((s6 .returning base g _ [] A9 c9 _ 41 w9 WY ii (by rw[Qy];omega)).mono ?_));rintro e u' QE ⟨rfl,v,rfl,XO⟩;refine⟨v,rfl,rfl,?_⟩;show Wr base g w A out (ZS nm least _) QE;rw[fI];exact Wr.pre (Wr.trans XE aN (by rw[dR];exact Wr.trans YY ij XO)) Xu
  | v n=>
   have hy:y=⟨2,(n:Nat),0,0⟩:=Option.some.inj (hx.symm.trans hr);subst hy;refine XW (by show(2:Int)≠_;decide) ?_;refine XW (by show(2:Int)≠_;decide) ?_;refine JN rfl ?_;refine Qp KS rfl ?_;have hn:n<nn:=hv;have rD:nm[n]? =some nm[n]:=Xb (by omega);have uN:Jn nm (.v n)=nm[n]:=by show nm[n]?.getD []=_;rw[rD]<;>rfl
   rw[uN] at XL;generalize nm[n]=s at*;refine ZF (hN.ext QQ) (by omega) (λad u hA hu QR=>?_);rw[cz rD] at hu;cases hu;refine load QR ?_;refine call (jg base g _ [] _ _ _ _ w3 WY nG (by rw[XC];exact XL)) ?_;rintro v w9 h9;rw[Wa (JX s (Q2 rD)).1] at h9;rw[<-uN] at h9;obtain⟨A9,c9,ii,YY,ij⟩:=h9;refine f9 (ga Qa rfl rfl (.inr rfl) (s9 _ _) ((s6 .returning base g _ [] A9 c9 _ 41 w9 WY ii (by rw[Qy];omega)).mono ?_));rintro e u' QE ⟨rfl,v,rfl,XO⟩;refine⟨v,rfl,rfl,?_⟩;show Wr base g w A out (ZS nm least _) QE;rw[fI];exact Wr.pre (Wr.trans XE aN (by rw[dR];exact Wr.trans YY ij XO)) Xu
  | not a=>
   obtain⟨j,hj,hy,Wy⟩:=hr;have hy:=Option.some.inj (hx.symm.trans hy);subst hy;refine XW (by show(3:Int)≠_;decide) ?_;refine XW (by show(3:Int)≠_;decide) ?_;refine XW (by show(3:Int)≠_;decide) ?_;refine JN rfl ?_;have ZE:Jn nm (.not a)=[33]++ZS nm 2 a:=rfl;rw[ZE,Qy] at XL;simp only[Xs,JI] at XL;refine call (Fr base g _ [] _ _ _ 33 w3 WY nG (by omega)) ?_;rintro v w7 ⟨A7,c7,ik,Kg,KT⟩;obtain⟨xm,QY⟩:=fJ w7 Kg;refine Qp xm rfl ?_;refine call (ih a (by simp only[QG];omega) j 2 A7 c7 _ w7 QY ik Wy hv (by rw[Qy];simp only[Xs,JI];omega) (QD _)) ?_;rintro v w9 h9
   replace h9:=Wr.trans Kg KT h9;rw[<-ZE] at h9;obtain⟨A9,c9,ii,YY,ij⟩:=h9;refine f9 (ga Qa rfl rfl (.inr rfl) (s9 _ _) ((s6 .returning base g _ [] A9 c9 _ 41 w9 WY ii (by rw[Qy];omega)).mono ?_));rintro e u' QE ⟨rfl,v,rfl,XO⟩;refine⟨v,rfl,rfl,?_⟩;show Wr base g w A out (ZS nm least _) QE;rw[fI];exact Wr.pre (Wr.trans XE aN (by rw[dR];exact Wr.trans YY ij XO)) Xu
  | and a b=>
   obtain⟨j,k,hj,hk,hy,Wy,fK⟩:=hr;have hy:=Option.some.inj (hx.symm.trans hy);subst hy;refine XW (by show(4:Int)≠_;decide) ?_;refine XW (by show(4:Int)≠_;decide) ?_;refine XW (by show(4:Int)≠_;decide) ?_;refine XW (by show(4:Int)≠_;decide) ?_;have ZE:Jn nm (.and a b)=(ZS nm 1 a++ [32,38,38,32])++ZS nm 2 b:=rfl;rw[ZE,Qy,Qy] at XL;simp only[Xs,JI] at XL;refine Qp KS rfl ?_;refine call (ih a (by simp only[QG];omega) j 1 _ _ _ w3 QQ nG Wy hv.1 (by omega) (by omega)) ?_;rintro v w7 ⟨A7,c7,ik,Kg,KT⟩;refine sG Qa rfl rfl rfl rfl rfl rfl rfl rfl rfl rfl (λw8 Q7 Ve XB=>?_);refine index (j:=1) (by decide) ?_;refine Qp XB rfl ?_;have Jq:=Kg.trans (Mod.of_ext (BldS g A7) Q7) (BldS.moved KT);refine call (jg base g _ [] _ _ _ _ w8 WY (ik.grow Q7) (by rw[Qy,show(⟨#[32,38,38,32]⟩:ByteArray).size=4 from rfl];omega)) ?_;rintro v w5 h5
   replace h5:=Wr.trans Jq KT (show Wr base g w8 A7 _ [32,38,38,32] w5 from (by obtain⟨A5,c5,aa,XV,Yg⟩:=h5;exact⟨A5,c5,aa,XV,Yg⟩));obtain⟨A5,c5,aa,XV,Yg⟩:=h5;obtain⟨KE,Qz⟩:=fJ w5 XV;refine Qp KE rfl ?_;refine Qj 2 (by show(1:Int)+1=2;decide) (by decide) ?_;refine call (ih b (by simp only[QG];omega) k 2 A5 c5 _ w5 Qz aa fK hv.2 (by rw[Qy,Qy];simp only[Xs,JI];omega) (by omega)) ?_;rintro v w9 h9
   replace h9:=Wr.trans XV Yg h9;rw[<-ZE] at h9;obtain⟨A9,c9,ii,YY,ij⟩:=h9;refine f9 (ga Qa rfl rfl (.inr rfl) (s9 _ _) ((s6 .returning base g _ [] A9 c9 _ 41 w9 WY ii (by rw[Qy];omega)).mono ?_));rintro e u' QE ⟨rfl,v,rfl,XO⟩;refine⟨v,rfl,rfl,?_⟩;show Wr base g w A out (ZS nm least _) QE;rw[fI];exact Wr.pre (Wr.trans XE aN (by rw[dR];exact Wr.trans YY ij XO)) Xu
  | or a b=>
   obtain⟨j,k,hj,hk,hy,Wy,fK⟩:=hr;have hy:=Option.some.inj (hx.symm.trans hy);subst hy;refine XW (by show(5:Int)≠_;decide) ?_;refine XW (by show(5:Int)≠_;decide) ?_;refine XW (by show(5:Int)≠_;decide) ?_;refine XW (by show(5:Int)≠_;decide) ?_;have ZE:Jn nm (.or a b)=(ZS nm 0 a++ [32,124,124,32])++ZS nm 1 b:=rfl;rw[ZE,Qy,Qy] at XL;simp only[Xs,JI] at XL;refine Qp KS rfl ?_;refine call (ih a (by simp only[QG];omega) j 0 _ _ _ w3 QQ nG Wy hv.1 (by omega) (by omega)) ?_;rintro v w7 ⟨A7,c7,ik,Kg,KT⟩;refine sG Qa rfl rfl rfl rfl rfl rfl rfl rfl rfl rfl (λw8 Q7 Ve XB=>?_);refine index (j:=0) (by decide) ?_;refine Qp XB rfl ?_;have Jq:=Kg.trans (Mod.of_ext (BldS g A7) Q7) (BldS.moved KT);refine call (jg base g _ [] _ _ _ _ w8 WY (ik.grow Q7) (by rw[Qy,show(⟨#[32,124,124,32]⟩:ByteArray).size=4 from rfl];omega)) ?_;rintro v w5 h5
   replace h5:=Wr.trans Jq KT (show Wr base g w8 A7 _ [32,124,124,32] w5 from (by obtain⟨A5,c5,aa,XV,Yg⟩:=h5;exact⟨A5,c5,aa,XV,Yg⟩));obtain⟨A5,c5,aa,XV,Yg⟩:=h5;obtain⟨KE,Qz⟩:=fJ w5 XV;refine Qp KE rfl ?_;refine Qj 1 (by show(0:Int)+1=1;decide) (by decide) ?_;refine call (ih b (by simp only[QG];omega) k 1 A5 c5 _ w5 Qz aa fK hv.2 (by rw[Qy,Qy];simp only[Xs,JI];omega) (by omega)) ?_;rintro v w9 h9
   replace h9:=Wr.trans XV Yg h9;rw[<-ZE] at h9;obtain⟨A9,c9,ii,YY,ij⟩:=h9;refine f9 (ga Qa rfl rfl (.inr rfl) (s9 _ _) ((s6 .returning base g _ [] A9 c9 _ 41 w9 WY ii (by rw[Qy];omega)).mono ?_));rintro e u' QE ⟨rfl,v,rfl,XO⟩;refine⟨v,rfl,rfl,?_⟩;show Wr base g w A out (ZS nm least _) QE;rw[fI];exact Wr.pre (Wr.trans XE aN (by rw[dR];exact Wr.trans YY ij XO)) Xu
 ·rw[if_neg hd] at Jt;have fI:ZS nm least t=Jn nm t:=by unfold ZS Yw;rw[if_neg (by simpa using hd)]
  refine eQy rfl (XS (by omega)) (ZB Qa ?_);have XL:out.length+(Jn nm t).length<=140737488355328:=by omega
  have fJ:∀w',Mod (BldS g A) w2 w'->Blk w' w.heap.size 280 y.cells/\Ext w0 w':=λw' hm=>⟨KD.mod hm iI,ud _ _ _ _ _ hb2 hm QT⟩
  refine ZQ (ZB Qa ?_);refine QC KD rfl ?_;refine ZB Qa ?_;rw[yS] at*;cases t with
  | c b=>
   cases b with
   | false=>
    refine JN rfl ?_;refine call (jg base g _ [] _ _ _ _ w2 WY hb2 (by have:(Jn nm (.c false)).length=5:=rfl;rw[this] at XL;exact XL)) ?_;rintro v w9 h9
    replace h9:Wr base g w2 A _ (Jn nm (.c false)) w9:=h9;refine f9 (jh Qa rfl (.inr rfl) ?_);show Wr base g w A out (ZS nm least _) w9;rw[fI];exact Wr.pre h9 Xu
   | true=>
    refine XW (by decide) ?_;refine JN rfl ?_;refine call (jg base g _ [] _ _ _ _ w2 WY hb2 (by have:(Jn nm (.c true)).length=4:=rfl;rw[this] at XL;exact XL)) ?_;rintro v w9 h9
    replace h9:Wr base g w2 A _ (Jn nm (.c true)) w9:=h9;refine f9 (jh Qa rfl (.inr rfl) ?_);show Wr base g w A out (ZS nm least _) w9;rw[fI];exact Wr.pre h9 Xu
  | v n=>
   have hy:y=⟨2,(n:Nat),0,0⟩:=Option.some.inj (hx.symm.trans hr);subst hy;refine XW (by show(2:Int)≠_;decide) ?_;refine XW (by show(2:Int)≠_;decide) ?_;refine JN rfl ?_;refine Qp KD rfl ?_;have hn:n<nn:=hv;have rD:nm[n]? =some nm[n]:=Xb (by omega);have uN:Jn nm (.v n)=nm[n]:=by show nm[n]?.getD []=_;rw[rD]<;>rfl
   rw[uN] at XL;generalize nm[n]=s at*;refine ZF (hN.ext QT) (by omega) (λad u hA hu QR=>?_);rw[cz rD] at hu;cases hu;refine load QR ?_;refine call (jg base g _ [] _ _ _ _ w2 WY hb2 (by rw[XC];exact XL)) ?_;rintro v w9 h9;rw[Wa (JX s (Q2 rD)).1] at h9;rw[<-uN] at h9;refine f9 (jh Qa rfl (.inr rfl) ?_);show Wr base g w A out (ZS nm least _) w9;rw[fI];exact Wr.pre h9 Xu
  | not a=>
   obtain⟨j,hj,hy,Wy⟩:=hr;have hy:=Option.some.inj (hx.symm.trans hy);subst hy;refine XW (by show(3:Int)≠_;decide) ?_;refine XW (by show(3:Int)≠_;decide) ?_;refine XW (by show(3:Int)≠_;decide) ?_;refine JN rfl ?_;have ZE:Jn nm (.not a)=[33]++ZS nm 2 a:=rfl;rw[ZE,Qy] at XL;simp only[Xs,JI] at XL;refine call (Fr base g _ [] _ _ _ 33 w2 WY hb2 (by omega)) ?_;rintro v w7 ⟨A7,c7,ik,Kg,KT⟩;obtain⟨xm,QY⟩:=fJ w7 Kg;refine Qp xm rfl ?_;refine call (ih a (by simp only[QG];omega) j 2 A7 c7 _ w7 QY ik Wy hv (by rw[Qy];simp only[Xs,JI];omega) (QD _)) ?_;rintro v w9 h9
   replace h9:=Wr.trans Kg KT h9;rw[<-ZE] at h9;refine f9 (jh Qa rfl (.inr rfl) ?_);show Wr base g w A out (ZS nm least _) w9;rw[fI];exact Wr.pre h9 Xu
  | and a b=>
   obtain⟨j,k,hj,hk,hy,Wy,fK⟩:=hr;have hy:=Option.some.inj (hx.symm.trans hy);subst hy;refine XW (by show(4:Int)≠_;decide) ?_;refine XW (by show(4:Int)≠_;decide) ?_;refine XW (by show(4:Int)≠_;decide) ?_;refine XW (by show(4:Int)≠_;decide) ?_;have ZE:Jn nm (.and a b)=(ZS nm 1 a++ [32,38,38,32])++ZS nm 2 b:=rfl;rw[ZE,Qy,Qy] at XL;simp only[Xs,JI] at XL;refine Qp KD rfl ?_;refine call (ih a (by simp only[QG];omega) j 1 _ _ _ w2 QT hb2 Wy hv.1 (by omega) (by omega)) ?_;rintro v w7 ⟨A7,c7,ik,Kg,KT⟩;refine sG Qa rfl rfl rfl rfl rfl rfl rfl rfl rfl rfl (λw8 Q7 Ve XB=>?_);refine index (j:=1) (by decide) ?_;refine Qp XB rfl ?_;have Jq:=Kg.trans (Mod.of_ext (BldS g A7) Q7) (BldS.moved KT);refine call (jg base g _ [] _ _ _ _ w8 WY (ik.grow Q7) (by rw[Qy,show(⟨#[32,38,38,32]⟩:ByteArray).size=4 from rfl];omega)) ?_;rintro v w5 h5
   replace h5:=Wr.trans Jq KT (show Wr base g w8 A7 _ [32,38,38,32] w5 from (by obtain⟨A5,c5,aa,XV,Yg⟩:=h5;exact⟨A5,c5,aa,XV,Yg⟩));obtain⟨A5,c5,aa,XV,Yg⟩:=h5;obtain⟨KE,Qz⟩:=fJ w5 XV;refine Qp KE rfl ?_;refine Qj 2 (by show(1:Int)+1=2;decide) (by decide) ?_;refine call (ih b (by simp only[QG];omega) k 2 A5 c5 _ w5 Qz aa fK hv.2 (by rw[Qy,Qy];simp only[Xs,JI];omega) (by omega)) ?_;rintro v w9 h9
   replace h9:=Wr.trans XV Yg h9;rw[<-ZE] at h9;refine f9 (jh Qa rfl (.inr rfl) ?_);show Wr base g w A out (ZS nm least _) w9;rw[fI];exact Wr.pre h9 Xu
  | or a b=>
   obtain⟨j,k,hj,hk,hy,Wy,fK⟩:=hr;have hy:=Option.some.inj (hx.symm.trans hy);subst hy;refine XW (by show(5:Int)≠_;decide) ?_;refine XW (by show(5:Int)≠_;decide) ?_;refine XW (by show(5:Int)≠_;decide) ?_;refine XW (by show(5:Int)≠_;decide) ?_;have ZE:Jn nm (.or a b)=(ZS nm 0 a++ [32,124,124,32])++ZS nm 1 b:=rfl;rw[ZE,Qy,Qy] at XL;simp only[Xs,JI] at XL;refine Qp KD rfl ?_;refine call (ih a (by simp only[QG];omega) j 0 _ _ _ w2 QT hb2 Wy hv.1 (by omega) (by omega)) ?_;rintro v w7 ⟨A7,c7,ik,Kg,KT⟩;refine sG Qa rfl rfl rfl rfl rfl rfl rfl rfl rfl rfl (λw8 Q7 Ve XB=>?_);refine index (j:=0) (by decide) ?_;refine Qp XB rfl ?_;have Jq:=Kg.trans (Mod.of_ext (BldS g A7) Q7) (BldS.moved KT);refine call (jg base g _ [] _ _ _ _ w8 WY (ik.grow Q7) (by rw[Qy,show(⟨#[32,124,124,32]⟩:ByteArray).size=4 from rfl];omega)) ?_;rintro v w5 h5
   replace h5:=Wr.trans Jq KT (show Wr base g w8 A7 _ [32,124,124,32] w5 from (by obtain⟨A5,c5,aa,XV,Yg⟩:=h5;exact⟨A5,c5,aa,XV,Yg⟩));obtain⟨A5,c5,aa,XV,Yg⟩:=h5;obtain⟨KE,Qz⟩:=fJ w5 XV;refine Qp KE rfl ?_;refine Qj 1 (by show(0:Int)+1=1;decide) (by decide) ?_;refine call (ih b (by simp only[QG];omega) k 1 A5 c5 _ w5 Qz aa fK hv.2 (by rw[Qy,Qy];simp only[Xs,JI];omega) (by omega)) ?_;rintro v w9 h9
   replace h9:=Wr.trans XV Yg h9;rw[<-ZE] at h9;refine f9 (jh Qa rfl (.inr rfl) ?_);show Wr base g w A out (ZS nm least _) w9;rw[fI];exact Wr.pre h9 Xu
theorem eQX (base g:Nat)(w0:World)(NA:Option Addr)(nn nc:Nat)(nm:List (List Nat))(FA:Option Addr)(nf cf:Nat)(f:List Fz)(hN:Sl w0 1 NA nn nc (Q9 nm))(JX:Jy nm)(hF:SF w0 FA nf cf f)(HU:w0.heap.size<=g)(t:Fm):AO base g w0 NA nn nc nm FA nf cf f t:=by
 have key:∀(n:Nat) (t:Fm),QG t<n->AO base g w0 NA nn nc nm FA nf cf f t:=by
  intro n;induction n with
  | zero=>intro t h;omega
  | succ n ih=>intro t _;exact eQW base g w0 NA nn nc nm FA nf cf f hN JX hF HU t (λu hu=>ih u (by omega))
 exact key _ t (ez _)
end
section
theorem AP {o v a b o' v' a' b':Int}(h:(⟨o,v,a,b⟩:Fz)=⟨o',v',a',b'⟩):o=o'/\v=v'/\a=a'/\b=b':=by cases h;exact⟨rfl,rfl,rfl,rfl⟩
theorem oQk {f:List Fz}:∀{t t':Fm}{i:Nat},RepF f t i->RepF f t' i->t=t':=by
 intro t;induction t with
 | c b=>
  intro t' i h h';obtain⟨x,hx,ho⟩:=RepF.node h;obtain⟨x',VN,KA⟩:=RepF.node h';have e:=Option.some.inj (hx.symm.trans VN);rw[<-e,ho] at KA;cases t' with
  | c b'=>cases b<;>cases b'<;>first | rfl | (simp[V9] at KA)
  | v n=>cases b<;>simp[V9] at KA
  | not a=>cases b<;>simp[V9] at KA
  | and a c=>cases b<;>simp[V9] at KA
  | or a c=>cases b<;>simp[V9] at KA
 | v n=>
  intro t' i h h';obtain⟨x',VN,KA⟩:=RepF.node h';have e:=Option.some.inj (VN.symm.trans h);rw[e] at KA;cases t' with
  | c b'=>cases b'<;>simp[V9] at KA
  | v n'=>
   have:=AP (Option.some.inj (h.symm.trans h'));congr 1;omega
  | not a=>simp[V9] at KA
  | and a c=>simp[V9] at KA
  | or a c=>simp[V9] at KA
 | not a iha=>
  intro t' i h h';obtain⟨j,hj,hx,ha⟩:=h;obtain⟨x',VN,KA⟩:=RepF.node h';have e:=Option.some.inj (VN.symm.trans hx);rw[e] at KA;cases t' with
  | c b'=>cases b'<;>simp[V9] at KA
  | v n'=>simp[V9] at KA
  | not a'=>
   obtain⟨j',gD,yT,yU⟩:=h';have:=AP (Option.some.inj (hx.symm.trans yT));have ej:j=j':=by omega
   subst ej;rw[iha ha yU]
  | and a c=>simp[V9] at KA
  | or a c=>simp[V9] at KA
 | and a b iha ihb=>
  intro t' i h h';obtain⟨j,k,hj,hk,hx,ha,hb⟩:=h;obtain⟨x',VN,KA⟩:=RepF.node h';have e:=Option.some.inj (VN.symm.trans hx);rw[e] at KA;cases t' with
  | c b'=>cases b'<;>simp[V9] at KA
  | v n'=>simp[V9] at KA
  | not a'=>simp[V9] at KA
  | and a' b'=>
   obtain⟨j',k',gD,Yn,yT,yU,hb'⟩:=h';have:=AP (Option.some.inj (hx.symm.trans yT));have ej:j=j':=by omega
   have ek:k=k':=by omega
   subst ej;subst ek;rw[iha ha yU,ihb hb hb']
  | or a c=>simp[V9] at KA
 | or a b iha ihb=>
  intro t' i h h';obtain⟨j,k,hj,hk,hx,ha,hb⟩:=h;obtain⟨x',VN,KA⟩:=RepF.node h';have e:=Option.some.inj (VN.symm.trans hx);rw[e] at KA;cases t' with
  | c b'=>cases b'<;>simp[V9] at KA
  | v n'=>simp[V9] at KA
  | not a'=>simp[V9] at KA
  | and a c=>simp[V9] at KA
  | or a' b'=>
   obtain⟨j',k',gD,Yn,yT,yU,hb'⟩:=h';have:=AP (Option.some.inj (hx.symm.trans yT));have ej:j=j':=by omega
   have ek:k=k':=by omega
   subst ej;subst ek;rw[iha ha yU,ihb hb hb']
open Classical in
def gb (f:List Fz):Fm:=if h:∃t,RepF f t (f.length-1)then h.choose else .c false
theorem FJ {f:List Fz}{t:Fm}(h:RepF f t (f.length-1)):gb f=t:=by
 have gz:∃t,RepF f t (f.length-1):=⟨t,h⟩
 unfold gb;rw[dif_pos gz];exact oQk gz.choose_spec h
theorem eQY {f:List Fz}(h:FV f):RepF f (gb f) (f.length-1):=by
 obtain⟨t,ht⟩:=PJ h.2.2.1 (f.length-1) (by have:=h.2.1;omega);rw[FJ ht];exact ht
def mM (n:Nat)(f:List Fz):Prop:=∀x∈f,x.o=2->x.v<n
theorem ta {n:Nat}{f:List Fz}(h:mM n f):∀{t:Fm}{i:Nat},RepF f t i->VarsIn n t
 | .c _,_,_=>trivial
 | .v k,_,hr=>by have:=h _ (Q2 hr) rfl;simp only at this;show k<n;omega
 | .not a,_,⟨_,_,_,ha⟩=>show VarsIn n a from ta h ha
 | .and a b,_,⟨_,_,_,_,_,ha,hb⟩=>⟨show VarsIn n a from ta h ha,show VarsIn n b from ta h hb⟩
 | .or a b,_,⟨_,_,_,_,_,ha,hb⟩=>⟨show VarsIn n a from ta h ha,show VarsIn n b from ta h hb⟩
open Classical in
def ku (names:List (List Nat))(f:List Fz):List Nat×Int:=if Zx names then if FV f/\mM names.length f then(ZS names 0 (gb f),0)else([],30)else([],1)
theorem eQZ {names:List (List Nat)}{f:List Fz}(h:Zx names=false):ku names f=([],1):=by unfold ku;rw[h]<;>rfl
theorem PK {names:List (List Nat)}{f:List Fz}(h:Zx names=true)(hv:FV f)(ho:mM names.length f):ku names f=(ZS names 0 (gb f),0):=by unfold ku;rw[Qf h,Qf ⟨hv,ho⟩]
theorem PL {names:List (List Nat)}{f:List Fz}(h:Zx names=true)(hv:¬(FV f/\mM names.length f)):ku names f=([],30):=by unfold ku;rw[Qf h,if_neg hv]
def PM (w:World)(r:List Nat×Int)(v:Value)(w':World):Prop:=v= .tuple #[.string (Qe r.1),.int .i64 r.2]/\Ext w w'
theorem eQ0 {nm:List (List Nat)}(hn:Jy nm):∀(t:Fm),∀x∈Jn nm t,x<256:=by
 have par:∀(b:Bool) (s:List Nat),(∀x∈s,x<256)->∀x∈Yw b s,x<256:=by
  intro b s h x hx;unfold Yw at hx;split at hx
  ·simp only[XH,Q0,Jk,Jm,YK] at hx;rcases hx with rfl | hx | rfl
   ·decide
   ·exact h x hx
   ·decide
  ·exact h x hx
 intro t;induction t with
 | c b=>
  cases b
  ·show∀x∈aC,x<256;decide
  ·show∀x∈Yv,x<256;decide
 | v n=>
  intro x hx;unfold Jn at hx;cases h:nm[n]? with
  | none=>rw[h] at hx;cases hx
  | some s=>rw[h] at hx;exact(hn s (Q2 h)).1 x hx
 | not a ih=>
  intro x hx;unfold Jn at hx;simp only[Q0] at hx;rcases hx with rfl | hx
  ·decide
  ·exact par _ _ ih x hx
 | and a b iha ihb=>
  intro x hx;unfold Jn at hx;simp only[XH,Q0,Jk,Jm] at hx;rcases hx with(hx | hx) | hx
  ·exact par _ _ iha x hx
  ·omega
  ·exact par _ _ ihb x hx
 | or a b iha ihb=>
  intro x hx;unfold Jn at hx;simp only[XH,Q0,Jk,Jm] at hx;rcases hx with(hx | hx) | hx
  ·exact par _ _ iha x hx
  ·omega
  ·exact par _ _ ihb x hx
theorem eQ1 (names:List (List Nat))(A FA:Option Addr)(n c nf cf:Nat)(f:List Fz)(w:World)(h:Sl w 1 A n c (Q9 names))(hb:Jy names)(hF:SF w FA nf cf f)(hl:FV f->mM names.length f->(ZS names 0 (gb f)).length<=140737488355328):
  Fn Tryz.prog 134 [.slice A n c,.slice FA nf cf] w (PM w (ku names f)):=by
 have Kk:=hF.2;have Je:names.length=n:=by have:=h.len;rw[YO] at this;omega
 refine Qx (c:={cQ3 with cuts:=[6]}) Qa Tryz.func134 rfl rfl rfl ?_;refine call (Fy names A n c w h hb) ?_;rintro v w1 ⟨v1,rfl,Qd,_⟩;cases Zm:Zx names with
 | false=>
  refine Xe rfl ?_;exact⟨by rw[eQZ Zm];rfl,Qd⟩
 | true=>
  refine Xv rfl ?_;refine call (PI FA nf cf f w1 (hF.ext Qd)) ?_;rintro v w2 ⟨rfl,Qg⟩;have QT:=Qd.trans Qg;refine Yt (λh1=>?_) (λh1=>?_)
  ·exact⟨by rw[PL Zm (λhh=>h1 (AM hh.1))];rfl,QT⟩
  have hv:=eQG.1 h1;refine gO [] Qa [] (λ_:Unit=>[]) (λ_ w'=>Ext w w'/\mM names.length f) ?_ ?_
  ·refine loop Qa [23] (λs:Nat=>[.int .i64 s]) (λs w'=>Ext w w'/\s<=nf/\∀j x,j<s->f[j]? =some x->x.o=2->x.v<n) (λs _=>nf-s) 0 rfl ⟨QT,Xt _,λj x hj=>Xd hj (by omega)⟩ ?_;rintro s w3 ⟨Qi,hs,hall⟩;refine Qt (λh3=>?_) (λh3=>?_)
   ·refine Zh AK (hF.ext Qi) rfl (by omega) (λp x hx hc=>?_);refine Kb (vs:=x.cells) rfl hc ?_;refine new (λw4 Qq K5 Q6=>?_);refine QB Q6 rfl (sc rfl) (λw5 Jr Kw QL=>?_);have JL:Ext w3 w5:=XY Qq Q6 Jr;have Qz:=Qi.trans JL;have next:(x.o=2->x.v<n)->∀j y,j<s+1->f[j]? =some y->y.o=2->y.v<n:=λhq j y hj hy ho=>by
     by_cases KX:j<s
     ·exact hall j y KX hy ho
     ·have:j=s:=by omega
      subst this;have e:=Option.some.inj (hy.symm.trans hx);subst e;exact hq ho
    refine QC QL rfl ?_;refine XU (λh4=>?_) (λh4=>?_)
    ·refine Qp QL rfl ?_;refine Qt (λh5=>?_) (λh5=>?_)
     ·refine⟨?_,Qz⟩;rw[PL Zm (λhh=>by have:=hh.2 x (Q2 hx) h4;omega)];rfl
     ·refine Qj ((s+1:Nat):Int) (by omega) (by have:=hv.1;omega) ?_;exact⟨s+1,rfl,⟨Qz,by omega,next (λ_=>by omega)⟩,by show nf-(s+1)<nf-s;omega⟩
    ·refine Qj ((s+1:Nat):Int) (by omega) (by have:=hv.1;omega) ?_;exact⟨s+1,rfl,⟨Qz,by omega,next (λho=>Xd ho h4)⟩,by show nf-(s+1)<nf-s;omega⟩
   ·refine⟨(),rfl,Qi,λx hx ho=>?_⟩;obtain⟨j,hj,rfl⟩:=vm.1 hx;rw[Je];exact hall j _ (by omega) (Xb hj) ho
  rintro⟨⟩ w3 ⟨Qi,My⟩;have ht:=eQY hv;have Y1:=hv.2.1;refine new (λw4 Qq K5 Q6=>?_);have hb4:Bld w4 w4.heap.size w3.heap.size 109 [] none 0 []:=⟨by omega,QD _,⟨_,.inl rfl,Q6⟩,Own.nil _ _ _ _⟩
  refine Qj ((nf-1:Nat):Int) (by omega) (by have:=hv.1;omega) ?_;have jN:=hl hv My;rw[Kk] at ht;refine call (eQX w4.heap.size w3.heap.size w3 A n c names FA nf cf f (h.ext Qi) hb (hF.ext Qi) (QD _) (gb f) (nf-1) 0 none 0 [] w4 Qq hb4 ht (by rw[<-Je];exact ta My ht) (by rw[JI];omega) (by omega)) ?_;rintro v w5 ⟨A5,c5,aa,XV,Yg⟩;rw[dw] at aa;have Qz:Ext w w5:=XV.ext (Qi.trans Qq) (λi hi=>by
   rcases hi with rfl | ⟨_,e,_⟩
   ·exact Qi.size
   ·cases e)
  have h8:∀x∈ZS names 0 (gb f),x<256:=by
   unfold ZS Yw;rw[if_neg (by simp)];exact eQ0 hb _
  refine call (eQe w4.heap.size w3.heap.size _ [] A5 c5 _ w5 aa h8 jN) ?_;rintro v w6 ⟨rfl,VY⟩;refine⟨by rw[PK Zm hv My],VY.ext Qz (λi hi=>?_)⟩;have:=(aa.own.rows i hi).1;have:=Qi.size;omega
end
section
structure Br where
 v:Int
 l:Int
 h:Int
deriving DecidableEq
def Br.cells (x:Br):List Value:=[.int .i64 x.v,.int .i64 x.l,.int .i64 x.h]
theorem YR (x:Br):x.cells.length=3:=rfl
abbrev SB (w:World)(A:Option Addr)(n c:Nat)(d:List Br):Prop:=SlS Br.cells 3 w A n c d
def Xg (A:Option Addr)(n c:Nat)(r:Int):Value:=.agg #[.slice A n c,.int .i64 r]
def Ql (d:List Br)(n:Int):Int:=if n<2 then 64 else(d[(n-2).toNat]?.map (·.v)).getD 64
def Ze (nd:List Br):Nat->Int->List Br×List Nat->Int×(List Br×List Nat)
 | 0,n,st=>(n,st)
 | m+1,n,st=>if n<2 then(n,st)else
   if 0<st.2[(n-2).toNat]?.getD 0 then((st.2[(n-2).toNat]?.getD 0:Nat),st)else
    match nd[(n-2).toNat]? with
    | none=>(n,st)
    | some x=>
     let a:=Ze nd m x.l st
     let b:=Ze nd m x.h a.2
     (((b.2.1.length+2:Nat):Int),(b.2.1++ [⟨x.v,a.1,b.1⟩],b.2.2.set (n-2).toNat (b.2.1.length+2)))
def bM (nd:List Br)(r:Int):List Br×Int:=let a:=Ze nd (r.toNat+1) r ([],List.replicate nd.length 0);(a.2.1,a.1)
def WZ (nd:List Br):Prop:=∀(j:Nat)(x:Br),nd[j]? =some x->0<=x.l/\x.l<j+2/\0<=x.h/\x.h<j+2
def gc (nd:List Br)(j:Nat)(b:Br):Prop:=0<=b.v/\b.v<=63/\0<=b.l/\b.l<j+2/\0<=b.h/\b.h<j+2/\b.l≠b.h/\b∉nd.take j/\b.v<Ql nd b.l/\b.v<Ql nd b.h
def VD (nd:List Br)(r:Int):Prop:=(∀(j:Nat)(b:Br),nd[j]? =some b->gc nd j b)/\0<=r/\r<nd.length+2/\bM nd r=(nd,r)
open Classical in
def XK (nd:List Br)(r:Int):Int:=if 4096<nd.length then 2 else if VD nd r then 0 else 20
theorem PN {nd:List Br}{r:Int}(h:4096<nd.length):XK nd r=2:=Qf h
theorem AQ {nd:List Br}{r:Int}(h:¬4096<nd.length)(k:VD nd r):XK nd r=0:=(if_neg h).trans (Qf k)
theorem vY {nd:List Br}{r:Int}(h:¬4096<nd.length)(k:¬VD nd r):XK nd r=20:=(if_neg h).trans (if_neg k)
theorem gf {nd:List Br}{r:Int}:XK nd r=0↔¬4096<nd.length/\VD nd r:=by
 constructor
 ·intro h;unfold XK at h;split at h
  ·cases h
  ·split at h
   ·exact⟨by assumption,by assumption⟩
   ·cases h
 ·exactλh=>AQ h.1 h.2
theorem VD.wf {nd:List Br}{r:Int}(h:VD nd r):WZ nd:=λj x hx=>by
 obtain⟨_,_,h1,h2,h3,h4,_⟩:=h.1 j x hx;exact⟨h1,h2,h3,h4⟩
theorem dF (A:Option Addr)(n c:Nat)(r m:Int)(nd:List Br)(w:World)(h:SB w A n c nd)(hm:m<n+2):
  Fn Tryz.prog 103 [Xg A n c r,.int .i64 m] w (λv w'=>v= .int .i64 (Ql nd m)/\Ext w w'):=by
 have Xf:=h.2;refine Qx (c:={cQH with cuts:=[]}) Qa Tryz.func103 rfl rfl rfl ?_;refine new (λw1 Qd Q3 Qh=>?_);refine Qt (λh1=>?_) (λh1=>?_)
 ·exact⟨by unfold Ql;rw[Qf h1],Qd⟩
 ·refine QC Qh rfl ?_;refine Qj (((m-2).toNat:Nat):Int) (by omega) (by have:=h.1.le;have:=h.1.cap;simp only[maxLen] at this;omega) ?_;refine Zh YR (h.ext Qd) rfl (by omega) (λp x hx hc=>?_);refine load (hc 0 _ rfl) ?_;exact⟨by unfold Ql;rw[if_neg h1,hx];rfl,Qd⟩
theorem kx (a b c a' b' c':Int):(a==a'&&(b==b'&&(c==c'&&true)))=decide (a=a'/\b=b'/\c=c'):=by
 rw[jZ];simp only[Jv,beq_iff_eq,Vb,and_true]
theorem ky {x y:Br}:x=y↔x.v=y.v/\x.l=y.l/\x.h=y.h:=by
 constructor
 ·rintro rfl;exact⟨rfl,rfl,rfl⟩
 ·obtain⟨a,b,c⟩:=x;obtain⟨d,e,f⟩:=y;rintro⟨rfl,rfl,rfl⟩;rfl
theorem PO {α:Type}{l l':List α}{j:Nat}{x y:α}(hx:l[j]? =some x)(hy:l'[j]? =some y)(h:x≠y):l≠l':=λe=>by subst e;exact h (Option.some.inj (hx.symm.trans hy))
theorem PP {α:Type}{l l':List α}{n:Nat}(h1:l.length=n)(h2:l'.length=n)(h:∀j,j<n->l[j]? =l'[j]?):l=l':=by
 apply EN;intro j;by_cases hj:j<n
 ·exact h j hj
 ·rw[mo (by omega),mo (by omega)]
theorem eQ2 (A B:Option Addr)(n c m e:Nat)(l l':List Br)(w:World)(h:SB w A n c l)(h':SB w B m e l'):
  Fn Tryz.prog 158 [.slice A n c,.slice B m e] w (λv w'=>v= .bool (decide (l=l'))/\Ext w w'):=by
 have hl:=h.2;have cg:=h'.2;refine Qx (c:={dQn with cuts:=[]}) Qa Tryz.func158 rfl rfl rfl ?_;refine Yt (λh1=>?_) (λh1=>?_)
 ·exact⟨by rw[XS (λe=>by subst e;omega)],Ext.refl w⟩
 refine loop Qa [13] (λs:Nat=>[.int .i64 s]) (λs w'=>Ext w w'/\s<=n/\∀j,j<s->l[j]? =l'[j]?) (λs _=>n-s) 0 rfl ⟨Ext.refl w,Xt _,λj hj=>Xd hj (by omega)⟩ ?_;rintro s w1 ⟨Qd,hs,hall⟩;refine Qt (λh2=>?_) (λh2=>?_)
 ·refine Xy Qa (Ext w1) 9 [(true,0),(true,1),(true,2),(true,3),(true,4),(true,5),(true,6),(true,7),(true,8)] (by kernel_rfl) (Ext.drew w1) ?_;refine Zh YR (h.ext Qd) rfl (by omega) (λp x hx hc=>?_);refine Xr (vs:=x.cells) rfl (λw' Qb j v hj=>Qb.cell (hc j v hj)) ?_;refine Zh YR (h'.ext Qd) rfl (by omega) (λq y hy Kl=>?_);refine Xr (vs:=y.cells) rfl (λw' Qb j v hj=>Qb.cell (Kl j v hj)) ?_;have WR:=Qd.trans (Ext.drew w1);by_cases Xl:x=y
  ·refine Xv (by rw[kx,XT (ky.1 Xl)];rfl) ?_;refine Qj ((s+1:Nat):Int) (by omega) (by have:=h.1.le;have:=h.1.cap;simp only[maxLen] at this;omega) ?_;refine⟨s+1,rfl,⟨WR,by omega,λj hj=>?_⟩,by show n-(s+1)<n-s;omega⟩;by_cases KX:j<s
   ·exact hall j KX
   ·have:j=s:=by omega
    subst this;rw[hx,hy,Xl]
  ·refine Xe (by rw[kx,XS (λe=>Xl (ky.2 e))];rfl) ?_;exact⟨by rw[XS (PO hx hy Xl)],WR⟩
 ·exact⟨by rw[XT (PP hl (by omega) (λj hj=>hall j (by omega)))],Qd⟩
theorem eQ3 (A B:Option Addr)(n c m e:Nat)(l l':List Br)(r r':Int)(w:World)(h:SB w A n c l)(h':SB w B m e l'):
  Fn Tryz.prog 105 [Xg A n c r,Xg B m e r'] w (λv w'=>v= .bool (decide ((l,r)=(l',r')))/\Ext w w'):=by
 refine Qx (c:={cQJ with cuts:=[]}) Qa Tryz.func105 rfl rfl rfl ?_;refine new (λw1 Qd Q3 Qh=>?_);refine new (λw2 Qg X0 Qv=>?_);have Ji:=Qh.ext Qg;have QT:=Qd.trans Qg;refine Qp Ji rfl ?_;refine Qp Qv rfl ?_;refine XU (λh1=>?_) (λh1=>?_)
 ·refine QC Ji rfl ?_;refine QC Qv rfl ?_;refine call (eQ2 A B n c m e l l' w2 (h.ext QT) (h'.ext QT)) ?_;rintro v w3 ⟨rfl,Qi⟩;refine⟨?_,QT.trans Qi⟩;congr 1;exact mB.2 ⟨λe=>by rw[e,h1],λe=>by cases e;rfl⟩
 ·exact⟨by rw[XS (λe=>h1 (by cases e;rfl))],QT⟩
end
section
theorem PQ {α:Type} [DecidableEq α]{kv:α->Value}{c:Cx}{o:Oper}{S:Env}{w:World}{K:Env->World->Prop}{Q:Zj}{t ke e:Nat}{r rk:TyRow}{x y:Operand}{q:Nat}{m:List (α×Value)}{a:α}{v:Value}{z:Operand}(hg:c.g.Ok)
  (ho:o.op= .insert t x y z) (iF:o.dst=none) (hr:QX c.g.tys t=some r) (hd:r.d= .map ke e) (bB:QX c.g.tys ke=some rk) (hk:KeyV rk.d kv)
  (hx:S.ev x=some (.map (some q))) (hy:S.ev y=some (kv a)) (hz:S.ev z=some v) (hm:MapAt kv w q m)
  (k:∀w1,w.grownBy w1 (some q)->w1.heap.size=w.heap.size->MapAt kv w1 q (Zg a v m)->K S w1):Zc c o S w K Q:=by
 have h:Zc c {o with op:=.mapUpdate t x y z} S w K Q:=kr hg rfl iF hr hd bB hk hx hy hz hm k;unfold Zc at*;intro b hf;have h1:=h b hf;unfold Oper.wp at*;have e:(execOp b.eval o).run c.g.P w=(execOp b.eval {o with op:=.mapUpdate t x y z}).run c.g.P w:=by simp only[execOp,ho]
 rw[e];generalize (execOp b.eval {o with op:=.mapUpdate t x y z}).run c.g.P w=r at*;cases r with
 | ok n w'=>cases n<;>simp only[Oper.upon] at h1 ⊢ <;> exact h1
 | halt x w'=>cases x<;>simp only[Oper.upon] at h1 ⊢ <;> exact h1
theorem eQ4 {l:List Nat}{j v:Nat}(h:l[j]? =some 0)(hv:0<v):(l.set j v).count 0+1=l.count 0:=by
 induction l generalizing j with
 | nil=>simp at h
 | cons x l ih=>
  cases j with
  | zero=>
   simp at h;subst h;rw[List.set_cons_zero,List.count_cons_of_ne (by omega),List.count_cons_self]
  | succ j=>
   simp at h;have:=ih h;rw[List.set_cons_succ,zQ,zQ];omega
theorem kz {nd:List Br}{m:Nat}{n:Int}{st:List Br×List Nat}(h:n<2):Ze nd (m+1) n st=(n,st):=by rw[Ze,Qf h]
theorem kA {nd:List Br}{m:Nat}{n:Int}{st:List Br×List Nat}(h:¬n<2)(k:0<st.2[(n-2).toNat]?.getD 0):Ze nd (m+1) n st=(((st.2[(n-2).toNat]?.getD 0:Nat):Int),st):=by rw[Ze,if_neg h,Qf k]
theorem mN {nd:List Br}{m:Nat}{n:Int}{st:List Br×List Nat}{x:Br}(h:¬n<2)(k:¬0<st.2[(n-2).toNat]?.getD 0)(hx:nd[(n-2).toNat]? =some x):
  Ze nd (m+1) n st=((((Ze nd m x.h (Ze nd m x.l st).2).2.1.length+2:Nat):Int),((Ze nd m x.h (Ze nd m x.l st).2).2.1++ [⟨x.v,(Ze nd m x.l st).1,(Ze nd m x.h (Ze nd m x.l st).2).1⟩],(Ze nd m x.h (Ze nd m x.l st).2).2.2.set (n-2).toNat ((Ze nd m x.h (Ze nd m x.l st).2).2.1.length+2))):=by
 rw[Ze,if_neg h,if_neg k,hx]
structure VisF (nd:List Br) (n:Int) (st ap:List Br×List Nat):Prop where
 len:ap.2.length=nd.length
 keep:∀k:Nat,n<(k:Int)+2->ap.2[k]? =st.2[k]?
 cnt:ap.1.length+ap.2.count 0<=st.1.length+st.2.count 0
 ge:st.1.length<=ap.1.length
theorem kB {nd:List Br}(hw:WZ nd):∀(m:Nat)(n:Int)(st:List Br×List Nat),0<=n->n<m->n<nd.length+2->st.2.length=nd.length->VisF nd n st (Ze nd m n st).2
 | 0,n,st,h0,hm,_,_=>by omega
 | m+1,n,st,h0,hm,hn,hl=>by
  by_cases h1:n<2
  ·rw[kz h1];exact⟨hl,λ_ _=>rfl,QD _,QD _⟩
  by_cases h2:0<st.2[(n-2).toNat]?.getD 0
  ·rw[kA h1 h2];exact⟨hl,λ_ _=>rfl,QD _,QD _⟩
  have hj:(n-2).toNat<nd.length:=by omega
  have hx:=Xb hj;obtain⟨w1,w2,w3,w4⟩:=hw _ _ hx;rw[mN h1 h2 hx];have f1:=kB hw m nd[(n-2).toNat].l st w1 (by omega) (by omega) hl;have f2:=kB hw m nd[(n-2).toNat].h _ w3 (by omega) (by omega) f1.len;generalize (Ze nd m nd[(n-2).toNat].l st)=a at*;generalize (Ze nd m nd[(n-2).toNat].h a.2)=b at*;have hz:st.2[(n-2).toNat]? =some 0:=by
   have:st.2[(n-2).toNat]? =some st.2[(n-2).toNat]:=Xb (by omega);rw[this] at h2 ⊢;simp only[iY] at h2;congr 1;omega
  have X0:b.2.2[(n-2).toNat]? =some 0:=by rw[f2.keep _ (by omega),f1.keep _ (by omega),hz]
  have hc:=eQ4 (v:=b.2.1.length+2) X0 (by omega);have c1:=f1.cnt;have c2:=f2.cnt;have g1:=f1.ge;have g2:=f2.ge;refine⟨by rw[cj];exact f2.len,λk hk=>?_,?_,?_⟩
  ·rw[fU (by omega),f2.keep k (by omega),f1.keep k (by omega)]
  ·rw[Qy];simp only[Xs,JI];omega
  ·rw[Qy];omega
abbrev aZ:Int->Value:=λn=>.int .i64 n
def MapOk (num:List Nat)(m:List (Int×Value)):Prop:=∀n:Int,0<=n->XJ n m=if n<2 then some (.int .i64 n)else if 0<num[(n-2).toNat]?.getD 0 then some (.int .i64 (num[(n-2).toNat]?.getD 0:Nat))else none
theorem MapOk.set {num:List Nat}{m:List (Int×Value)}(h:MapOk num m){n:Int}(h2:¬n<2)(hl:(n-2).toNat<num.length){v:Nat}(hv:0<v):MapOk (num.set (n-2).toNat v) (Zg n (.int .i64 (v:Nat)) m):=by
 intro k hk;rw[aY];by_cases e:k=n
 ·subst e;rw[Qf rfl,if_neg h2,iZ hl];simp only[iY];rw[Qf hv]
 ·rw[if_neg e,h k hk];by_cases VX:k<2
  ·rw[Qf VX,Qf VX]
  ·rw[if_neg VX,if_neg VX,fU (by omega)]
theorem eQ5 (n:Nat):MapOk (List.replicate n 0) (Zg 1 (.int .i64 1) (Zg 0 (.int .i64 0) [])):=by
 intro k hk;rw[aY,aY];by_cases h1:k=1
 ·subst h1;rfl
 ·rw[if_neg h1];by_cases h0:k=0
  ·subst h0;rfl
  ·rw[if_neg h0,if_neg (by omega),if_neg]
   ·rfl
   ·cases h:(List.replicate n 0)[(k-2).toNat]? with
    | none=>simp
    | some x=>
     have:=ER (Q2 h);rw[this];simp
end
section
def kC (l:List Br):List Value:=l.flatMap Br.cells
theorem AR (l:List Br)(x:Br):kC (l++ [x])=kC l++x.cells:=by simp[kC]
structure VP where
 mb:Nat
 q:Nat
 bb:Nat
 bp:Nat
 fb:Nat
 ob:Nat
def VP.ptr (i:Nat):Value:=.pointer (some ⟨i,0,none⟩)
def VP.clo (p:VP):Value:=.func (.func 157) #[] #[VP.ptr p.mb,VP.ptr p.bb,VP.ptr p.fb,VP.ptr p.ob]
structure VK (w:World) (base:Nat) (p:VP) (NA:Option Addr) (nn nc:Nat) (nd:List Br):Prop where
 mbx:Blk w p.mb 238 [.map (some p.q)]
 bbx:Blk w p.bb 174 [VP.ptr p.bp]
 bpx:∃kv,Blk w p.bp 177 [.slice NA nn nc,kv]
 fbx:Blk w p.fb 215 [p.clo]
 nds:SB w NA nn nc nd
 lt:p.q<base/\p.ob<base
 ne:p.q≠p.ob/\p.q≠p.mb/\p.q≠p.bb/\p.q≠p.bp/\p.q≠p.fb/\p.ob≠p.mb/\p.ob≠p.bb/\p.ob≠p.bp/\p.ob≠p.fb
 lt2:p.mb<base/\p.bb<base/\p.bp<base/\p.fb<base
 row:∀ad,NA=some ad->0<nn->ad.block<base/\ad.block≠p.q/\ad.block≠p.ob
def VS (p:VP)(A:Option Addr):Nat->Prop:=λk=>k=p.q∨k=p.ob∨Qk A k
theorem VS.moved {w:World}{p:VP}{A A':Option Addr}(h:Moved w A A'):∀k,VS p A' k->VS p A k∨w.heap.size<=k:=by
 rintro k (rfl | rfl | hk)
 ·exact .inl (.inl rfl)
 ·exact .inl (.inr (.inl rfl))
 ·rcases h.rows k hk with h | h
  ·exact .inl (.inr (.inr h))
  ·exact .inr h
theorem Mod.cell {S:Nat->Prop}{w w':World}(k:Mod S w w'){a:Addr}{v:Value}(h:w.cell? a=some v)(hn:¬S a.block):w'.cell? a=some v:=by
 have Q5:=World.block_lt_of_cell? w a h;have e:=k.block a.block Q5 hn;unfold World.cell? at h ⊢;rw[e];exact h
theorem Sl.modS {S:Nat->Prop}{w w':World}{sz n c:Nat}{A:Option Addr}{cs:List Value}(h:Sl w sz A n c cs)(k:Mod S w w')(hn:0<n->∀i,Qk A i->¬S i):Sl w' sz A n c cs:=
 ⟨h.len,h.le,h.cap,λh0=>by
  obtain⟨ad,rfl,hc⟩:=h.at_ h0;exact⟨ad,rfl,λj u hu=>k.cell (hc j u hu) (hn h0 _ ⟨ad,rfl,(pH ad j).symm⟩)⟩⟩
theorem FK {α:Type} [DecidableEq α]{kv:α->Value}{c:Cx}{o:Oper}{S:Env}{w:World}{K:Env->World->Prop}{Q:Zj}{t ke e:Nat}{r rk re:TyRow}{x y:Operand}{q:Nat}{m:List (α×Value)}{a:α}{v:Value}(hg:c.g.Ok)
  (ho:o.op= .lookup t x y false) (hr:QX c.g.tys t=some r) (hd:r.d= .map ke e) (bB:QX c.g.tys ke=some rk) (Zb:QX c.g.tys e=some re) (hk:KeyV rk.d kv)
  (hx:S.ev x=some (.map (some q))) (hy:S.ev y=some (kv a)) (hm:MapAt kv w q m) (hv:(XJ a m).getD re.z=v) (k:Xn c S o.dst (.v v) (λS=>K S w)):Zc c o S w K Q:=by
 subst hv;exact cQy hg ho hr hd bB Zb hk hx hy hm k
theorem VK.mod {w w':World}{base:Nat}{p:VP}{NA OA:Option Addr}{nn nc:Nat}{nd:List Br}(h:VK w base p NA nn nc nd)(hr:∀i,Qk OA i->base<=i)(hm:Mod (VS p OA) w w'):VK w' base p NA nn nc nd:=by
 obtain⟨n1,n2,n3,n4,n5,n6,n7,n8,n9⟩:=h.ne;obtain⟨l1,l2,l3,l4⟩:=h.lt2;have key:∀i,i<base->i≠p.q->i≠p.ob->¬VS p OA i:=λi hi hq ho e=>by
  rcases e with e | e | e
  ·exact hq e
  ·exact ho e
  ·have:=hr i e;omega
 obtain⟨kv,Mz⟩:=h.bpx;refine⟨h.mbx.mod hm (key _ l1 n2.symm n6.symm),h.bbx.mod hm (key _ l2 n3.symm n7.symm),⟨kv,Mz.mod hm (key _ l3 n4.symm n8.symm)⟩,h.fbx.mod hm (key _ l4 n5.symm n9.symm),⟨h.nds.1.modS hm ?_,h.nds.2⟩,h.lt,h.ne,h.lt2,h.row⟩;rintro h0 i ⟨ad,rfl,rfl⟩;obtain⟨r1,r2,r3⟩:=h.row ad rfl h0;exact key _ r1 r2 r3
structure VSt (w:World) (base:Nat) (p:VP) (r0:Int) (OA:Option Addr) (oc:Nat) (st:List Br×List Nat):Prop where
 own:Own w base 105 3 OA st.1.length oc (kC st.1)
 obx:Blk w p.ob 32 [.slice OA st.1.length oc,.int .i64 r0]
 mp:∃mm,MapAt aZ w p.q mm/\MapOk st.2 mm
 top:base<=w.heap.size
theorem VSt.ext {w w':World}{base:Nat}{p:VP}{r0:Int}{OA:Option Addr}{oc:Nat}{st:List Br×List Nat}(h:VSt w base p r0 OA oc st)(k:Ext w w'):VSt w' base p r0 OA oc st:=
 ⟨h.own.ext k,h.obx.ext k,let ⟨mm,h1,h2⟩:=h.mp;⟨mm,h1.ext k,h2⟩,X2 h.top k.size⟩
def VTo (w:World)(base:Nat)(p:VP)(r0:Int)(OA:Option Addr)(st:List Br×List Nat)(w':World):Prop:=∃OA' oc',VSt w' base p r0 OA' oc' st/\Mod (VS p OA) w w'/\Moved w OA OA'
theorem PS (base:Nat)(p:VP)(r0:Int)(NA:Option Addr)(nn nc:Nat)(nd:List Br)(Y2:WZ nd)(dk:nn<=1000000000000):∀(m:Nat)(n:Int)(st:List Br×List Nat)(OA:Option Addr)(oc:Nat)(w:World),
  VK w base p NA nn nc nd->VSt w base p r0 OA oc st->0<=n->n<m->n<nn+2->st.2.length=nn->st.1.length+st.2.count 0<=1000000000000->
  Fn Tryz.prog 157 [.int .i64 n,VP.ptr p.mb,VP.ptr p.bb,VP.ptr p.fb,VP.ptr p.ob] w (λv w'=>v= .int .i64 (Ze nd m n st).1/\VTo w base p r0 OA (Ze nd m n st).2 w')
 | 0,n,st,OA,oc,w,_,_,h0,hm,_,_,_=>by omega
 | m+1,n,st,OA,oc,w,hK,hS,h0,hm,hn,hl,hc=>by
  have ih:=PS base p r0 NA nn nc nd Y2 dk m;have Je:nd.length=nn:=hK.nds.2;obtain⟨mm,uO,hmo⟩:=hS.mp;have V4:=hS.own.rows;have nQX:=uO.lt;have nQY:=hS.obx.lt;refine Qx (c:={dQm with cuts:=[]}) Qa Tryz.func157 rfl rfl rfl ?_;refine QC hK.mbx rfl ?_;have ao:=hmo n h0;by_cases h1:n<2
  ·rw[Qf h1] at ao;refine vU (kv:=aZ) (a:=n) (v:=.int .i64 n) (b:=true) Qa rfl rfl rfl rfl rfl (KeyV.int .i64) rfl rfl uO (by rw[ao];rfl) (by rw[ao];rfl) ?_;refine Xe rfl ?_;refine⟨by rw[kz h1],OA,oc,?_,Mod.refl _ _,Moved.refl _ _⟩;rw[kz h1];exact hS
  rw[if_neg h1] at ao;by_cases h2:0<st.2[(n-2).toNat]?.getD 0
  ·rw[Qf h2] at ao;refine vU (kv:=aZ) (a:=n) (v:=.int .i64 (st.2[(n-2).toNat]?.getD 0:Nat)) (b:=true) Qa rfl rfl rfl rfl rfl (KeyV.int .i64) rfl rfl uO (by rw[ao];rfl) (by rw[ao];rfl) ?_;refine Xe rfl ?_;refine⟨by rw[kA h1 h2],OA,oc,?_,Mod.refl _ _,Moved.refl _ _⟩;rw[kA h1 h2];exact hS
  rw[if_neg h2] at ao;refine vU (kv:=aZ) (a:=n) (v:=.int .i64 0) (b:=false) Qa rfl rfl rfl rfl rfl (KeyV.int .i64) rfl rfl uO (by rw[ao];rfl) (by rw[ao];rfl) ?_;refine Xv rfl ?_;have hj:(n-2).toNat<nd.length:=by omega
  have hx:=Xb hj;generalize nd[(n-2).toNat]=x at hx;obtain⟨x1,x2,x3,x4⟩:=Y2 _ _ hx;obtain⟨kv,Mz⟩:=hK.bpx;refine QC hK.bbx rfl ?_;refine QC Mz rfl ?_;refine Qj (((n-2).toNat:Nat):Int) (by omega) (by omega) ?_;refine Zh YR hK.nds rfl (by omega) (λad y hy jO=>?_);have iG:y=x:=Option.some.inj (hy.symm.trans hx);subst iG;refine Kb (vs:=y.cells) rfl jO ?_;refine new (λw1 Qd Q3 Qh=>?_);refine QB Qh rfl (sc rfl) (λw2 ig X0 KD=>?_);have Qg:Ext w w2:=XY Qd Qh ig;have CE:Mod (VS p OA) w w2:=Mod.of_ext _ Qg;have HV:=hK.mod (λi hi=>(V4 i hi).1) CE;have HW:=hS.ext Qg;have iI:¬VS p OA w.heap.size:=λe=>by
   rcases e with e | e | e
   ·omega
   ·omega
   ·have:=(V4 _ e).2;omega
  refine QC HV.fbx rfl ?_;refine Qp KD rfl ?_;have f1:=kB Y2 m y.l st x1 (by omega) (by omega) (by omega);refine call (ih y.l st OA oc w2 HV HW x1 (by omega) (by omega) hl hc) ?_;rintro v w3 ⟨rfl,OA3,HX,nH,Z3,lq⟩;have fc:=HV.mod (λi hi=>(V4 i hi).1) Z3;have KS:=KD.mod Z3 iI;have HM:=nH.own.rows;have ue:¬VS p OA3 w.heap.size:=λe=>(VS.moved lq _ e).elim iI (λh=>by omega)
  refine QC fc.fbx rfl ?_;refine Qp KS rfl ?_;have f2:=kB Y2 m y.h _ x3 (by omega) (by omega) f1.len;have c1:=f1.cnt;have c2:=f2.cnt;refine call (ih y.h _ OA3 HX w3 fc nH x3 (by omega) (by omega) (by rw[f1.len];exact Je) (by omega)) ?_;rintro v w4 ⟨rfl,OA4,U5,Wh,KR,qv⟩;have YX:=KS.mod KR ue;have qw:=Wh.own.rows;have lr:=Z3.trans KR (VS.moved lq);have HY:=lq.trans qv Z3.size;have xo:Mod (VS p OA) w w4:=CE.trans lr (λi hi=>.inl hi);have xp:=HY.back Qg.size;have VZ:=fc.mod (λi hi=>(HM i hi).1) KR;have uP:=mN (m:=m) h1 h2 hx;rw[uP];generalize (Ze nd m y.l st)=a at*;generalize (Ze nd m y.h a.2)=b at*;have mQk:¬Qk OA4 p.ob:=λe=>by have:=(qw _ e).1;have:=hK.lt.2;omega
  have hnq:¬Qk OA4 p.q:=λe=>by have:=(qw _ e).1;have:=hK.lt.1;omega
  refine QC Wh.obx rfl ?_;refine QC YX rfl ?_;refine Xm Qa [(⟨y.v,a.1,b.1⟩:Br).cells] rfl rfl rfl rfl rfl ⟨rfl,rfl,⟨⟩⟩ rfl (λcs h=>by simp only[QF] at h;subst h;rfl) rfl (by decide) (by decide) ?_;intro w5 Qz Kw QL;have fd:=Wh.ext Qz;have fe:Sl w5 3 (some ⟨w4.heap.size,0,none⟩) 1 1 (⟨y.v,a.1,b.1⟩:Br).cells:=Sl.own (sz:=3) (n:=1) QL (QD _) (by decide) (by simp[Br.cells]);refine Zk Qa rfl rfl rfl rfl rfl (by decide) rfl rfl ⟨_,rfl⟩ rfl rfl fd.own fe (by intro u hu;simp[Br.cells] at hu;rcases hu with rfl | rfl | rfl<;>rfl) (by unfold maxLen;omega) (by show _*24<=_;omega) fd.top ?_;intro OA6 CF w6 J5 xq xr;refine KM (fd.obx.mod J5 mQk) (by simp) (λw7 Xi Q4=>?_);have uf:Mod (VS p OA4) w4 w7:=((Mod.of_ext (VS p OA4) Qz).trans J5 (λi hi=>.inl (.inr (.inr hi)))).trans Xi (λi hi=>.inl (.inr (.inl hi)));have ac:=VZ.mod (λi hi=>(qw i hi).1) uf;obtain⟨m4,kQd,kQe⟩:=Wh.mp;have kQf:MapAt aZ w7 p.q m4:=((kQd.ext Qz).mod J5 hnq).mod Xi hK.ne.1;have Xf:b.2.2.length=nd.length:=f2.len;refine QC ac.mbx rfl ?_;refine QC Q4 rfl ?_;refine Qj ((b.2.1.length+2:Nat):Int) (by omega) (by omega) ?_;refine kr (kv:=aZ) (a:=n) Qa rfl rfl rfl rfl rfl (KeyV.int .i64) rfl rfl rfl kQf (λw8 Yh _ U6=>?_);have Zo:Mod (·=p.q) w7 w8:=oQh Yh rfl;have kQg:=kQe.set h1 (by omega) (v:=b.2.1.length+2) (by omega);have kQh:XJ n (Zg n (.int .i64 ((b.2.1.length+2:Nat):Int)) m4)=some (.int .i64 ((b.2.1.length+2:Nat):Int)):=by rw[aY,Qf rfl]
  have qx:Mod (VS p OA4) w4 w8:=uf.trans Zo (λi hi=>.inl (.inl hi));have hK8:=VZ.mod (λi hi=>(qw i hi).1) qx;refine QC hK8.mbx rfl ?_;refine FK (kv:=aZ) (a:=n) (v:=.int .i64 ((b.2.1.length+2:Nat):Int)) Qa rfl rfl rfl rfl rfl (KeyV.int .i64) rfl rfl U6 (by rw[kQh];rfl) ?_;have xu:=xq.rows;have el:(b.2.1++ [(⟨y.v,a.1,b.1⟩:Br)]).length=b.2.1.length+1:=by simp
  refine⟨rfl,OA6,CF,⟨?_,?_,⟨_,U6,kQg⟩,?_⟩,xo.trans qx (VS.moved xp),?_⟩
  ·rw[el,AR];refine(xq.mod Xi (λi hi e=>?_)).mod Zo (λi hi e=>?_)
   ·have:=(xu i hi).1;have:=hK.lt.2;omega
   ·have:=(xu i hi).1;have:=hK.lt.1;omega
  ·rw[el];exact Q4.mod Zo (λe=>hK.ne.1 e.symm)
  ·have:=Wh.top;have:=qx.size;omega
  ·exact xp.trans (xr.back Qz.size) xo.size
end
section
def vZ (w:World)(r:List Br×Int)(v:Value)(w':World):Prop:=∃A n c,v=Xg A n c r.2/\Ext w w'/\SB w' A n c r.1/\∀i,Qk A i->w.heap.size<=i
theorem FL (bp:Nat)(kv:Value)(NA:Option Addr)(nn nc:Nat)(nd:List Br)(root:Int)(w:World)(hb:Blk w bp 177 [.slice NA nn nc,kv])(hN:SB w NA nn nc nd)(Y2:WZ nd)(dk:nn<=1000000000000)(h0:0<=root)(hr:root<nn+2)
  (oQ:∀ad,NA=some ad->0<nn->ad.block<w.heap.size):
  Fn Tryz.prog 104 [.pointer (some ⟨bp,0,none⟩),.int .i64 root] w (vZ w (bM nd root)):=by
 have Je:nd.length=nn:=hN.2;have aR:=hb.lt;refine Qx (c:={cQI with cuts:=[]}) Qa Tryz.func104 rfl rfl rfl ?_;refine new (λw1 Qd Q3 Qh=>?_);refine new (λw2 Qg X0 Qv=>?_);refine new (λw3 Qi JF Qw=>?_);refine QB Qw rfl (sc rfl) (λw4 bn K5 Q6=>?_);have KR:Mod (·=w2.heap.size) w3 w4:=oQh bn rfl;refine vO Qa aZ rfl ?_;intro w5 Qz Kw XV;refine PQ (kv:=aZ) (a:=0) Qa rfl rfl rfl rfl rfl (KeyV.int .i64) rfl rfl rfl XV (λw6 Wg fa VY=>?_);refine PQ (kv:=aZ) (a:=1) Qa rfl rfl rfl rfl rfl (KeyV.int .i64) rfl rfl rfl VY (λw7 ZC WF Kg=>?_);have kQi:Mod (·=w4.heap.size) w5 w7:=(oQh (S:=(·=w4.heap.size)) Wg rfl).trans (oQh (S:=(·=w4.heap.size)) ZC rfl) (λi hi=>.inl hi);refine new (λw8 Q7 Ve XB=>?_);refine KM XB (by simp[JY]) (λw9 X4 Z8=>?_);refine new (λQE X7 nI Jb=>?_);refine KM Jb (by simp[JY]) (λQH Zy ZJ=>?_);have z9:=X4.size;have CG:=Zy.size;have q1:Ext w w4:=KR.ext ((Qd.trans Qg).trans Qi) (λi hi=>by omega);have q2:Ext w4 w7:=kQi.ext Qz (λi hi=>by omega);have q3:Ext w7 w9:=X4.ext Q7 (λi hi=>by omega);have q4:Ext w9 QH:=Zy.ext X7 (λi hi=>by omega);have CH:Ext w QH:=((q1.trans q2).trans q3).trans q4
 let p:VP:=⟨w7.heap.size,w4.heap.size,w.heap.size,bp,w9.heap.size,w2.heap.size⟩
 have ua:Blk QH w.heap.size 174 [VP.ptr bp]:=(((Qh.ext (Qg.trans Qi)).mod KR (by omega)).ext q2).ext (q3.trans q4);have kQj:Blk QH w1.heap.size 32 [.slice none 0 0,.int .i64 0]:=(((Qv.ext Qi).mod KR (by omega)).ext q2).ext (q3.trans q4);have HZ:Blk QH w2.heap.size 32 [.slice none 0 0,.int .i64 0]:=(Q6.ext q2).ext (q3.trans q4);have kQk:Blk QH w7.heap.size 238 [.map (some w4.heap.size)]:=Z8.ext q4;have kQl:MapAt aZ QH w4.heap.size _:=((Kg.ext Q7).mod X4 (by omega)).ext q4;have hK:VK QH QH.heap.size p NA nn nc nd:=by
  refine⟨kQk,ua,⟨kv,hb.ext CH⟩,ZJ,hN.ext CH,⟨?_,?_⟩,⟨?_,?_,?_,?_,?_,?_,?_,?_,?_⟩,⟨?_,?_,?_,?_⟩,λad e hn=>?_⟩
  all_goals try (show(_:Nat)≠_;simp only[p];omega)
  all_goals try (show(_:Nat)<_;simp only[p];omega)
  have:=oQ ad e hn;refine⟨by omega,?_,?_⟩<;>(simp only[p];omega)
 have hS:VSt QH QH.heap.size p 0 none 0 ([],List.replicate nd.length 0):=⟨Own.nil _ _ _ _,HZ,⟨_,kQl,eQ5 _⟩,QD _⟩
 refine QC ZJ rfl ?_;refine call (PS QH.heap.size p 0 NA nn nc nd Y2 dk (root.toNat+1) root ([],List.replicate nd.length 0) none 0 QH hK hS h0 (by omega) hr (by simp[Je]) (by simp;omega)) ?_;rintro v QW ⟨rfl,OA,oc,Wj,VC,ug⟩;have uM:∀i,i≠w4.heap.size->i≠w2.heap.size->¬VS p none i:=λi h1 h2 e=>by
  rcases e with e | e | ⟨_,e,_⟩
  ·exact h1 e
  ·exact h2 e
  ·cases e
 have H0:=kQj.mod VC (uM _ (by omega) (by omega));have V4:=Wj.own.rows;refine XQ Wj.obx (by simp) (λXM J3 Kh=>?_);have il:=H0.mod J3 (by show¬w1.heap.size=w2.heap.size;omega);refine Qs Kh rfl ?_;refine QB il rfl (sc rfl) (λX1 cS _ Jc=>?_);have Kx:Mod (·=w1.heap.size) XM X1:=oQh cS rfl;refine Qs Jc rfl ?_;have Xu:Ext w QW:=VC.ext CH (λi hi=>by
  rcases hi with e | e | ⟨_,e,_⟩
  ·simp only[p] at e;omega
  ·simp only[p] at e;omega
  ·cases e)
 have Jd:Ext w X1:=Kx.ext (J3.ext Xu (λi hi=>by have iJ:i=w2.heap.size:=hi;omega)) (λi hi=>by omega);refine⟨OA,_,oc,rfl,Jd,⟨?_,rfl⟩,λi hi=>X2 CH.size (V4 i hi).1⟩;have:∀i,Qk OA i->QH.heap.size<=i:=λi hi=>(V4 i hi).1
 exact((Wj.own.mod J3 (λi hi e=>by have:=this i hi;have e':i=w2.heap.size:=e;omega)).mod Kx (λi hi e=>by have:=this i hi;omega)).sl
end
section
theorem eQ6 {P:Program}{t:TypeId}{fs:Array Field}{ks:List Nat}{xs ys:Array Value}{b:Bool}{w:World}(hu:P.underlying t=some (.struct fs))(hh:P.stoodInHeld t=false)(hf:pu P 0 fs.toList ks=true)(h:dy ks xs.toList ys.toList=some b)(n:Nat):
  (Op.equalIn (n+2) t (.agg xs) (.agg ys)).run P w= .ok b w:=by
 have ZT:P.fieldsOf t=fs:=by simp[Program.fieldsOf,hu]
 rw[run_equalIn_struct w (n+1) t xs ys (by rw[ZT];exact hu) hh,ZT];exact E7 fs.toList ks 0 _ _ b hf h (λj=>by simp) (λj=>by simp) n w
theorem k3:eC (Tryz.prog.underlying 3)<3:=by rw[Tryz.underlying3];decide
abbrev cA:Br->Value:=λb=>.agg b.cells.toArray
theorem eQ7 (a b:Br)(n:Nat)(w:World):(Op.equalIn (n+2) 105 (cA a) (cA b)).run Tryz.prog w= .ok (decide (a=b)) w:=by
 refine eQ6 (ks:=[0,0,0]) Tryz.underlying105 (by kernel_rfl) (by kernel_rfl) ?_ n;rw[show dy [0,0,0] a.cells.toArray.toList b.cells.toArray.toList=some (a.v==b.v&&(a.l==b.l&&(a.h==b.h&&true))) from rfl,kx];congr 1;exact mB.2 ky.symm
theorem eQ8 (b:Bool)(a:Br)(n:Nat)(w:World):(Instr.checkKey b (n+2) 105 (cA a)).run Tryz.prog w= .ok () w:=by
 simp[Instr.checkKey,ZX Tryz.underlying105,ZX Tryz.underlying3,cA,Br.cells,co k3 (cs:= #[Value.int IntKind.i64 a.v,Value.int IntKind.i64 a.l,Value.int IntKind.i64 a.h]) (n:=0) rfl,co k3 (cs:= #[Value.int IntKind.i64 a.v,Value.int IntKind.i64 a.l,Value.int IntKind.i64 a.h]) (n:=1) rfl,co k3 (cs:= #[Value.int IntKind.i64 a.v,Value.int IntKind.i64 a.l,Value.int IntKind.i64 a.h]) (n:=2) rfl]
theorem AT:KeyQ Tryz.prog 105 cA:=
 oQu Tryz.underlying105 (λa b w=>eQ7 a b 9998 w) (λb a w=>eQ8 b a 9998 w) (λa=>by simp[Br.cells,Instr.sameBits])
theorem FM {α:Type} [DecidableEq α]{kv:α->Value}{c:Cx}{o:Oper}{S:Env}{w:World}{K:Env->World->Prop}{Q:Zj}{t ke e:Nat}{r re:TyRow}{x y:Operand}{q:Nat}{m:List (α×Value)}{a:α}(hg:c.g.Ok)(ho:o.op= .lookup t x y false)(hr:QX c.g.tys t=some r)(hd:r.d= .map ke e)(Zb:QX c.g.tys e=some re)(hk:KeyQ c.g.P ke kv)
  (hx:S.ev x=some (.map (some q))) (hy:S.ev y=some (kv a)) (hm:MapQ kv w q m) {v:Value} (hv:(XJ a m).getD re.z=v)
  (k:Xn c S o.dst (.v v) (λS=>K S w)):Zc c o S w K Q:=by
 refine JJ (w':=w) (λb hf=>?_) k;have e1:=hf.ev hx;have e2:=hf.ev hy;have:=Pg (w:=w) (a:=a) hg hr hd Zb hk hm false;simp only[hv] at this;simp only[execOp,ho,e1,e2];simp only[Sem.run_bind,this,Result.andThen_ok];simp
theorem SB.lt {w:World}{A:Option Addr}{n c:Nat}{d:List Br}(h:SB w A n c d):∀ad,A=some ad->0<n->ad.block<w.heap.size:=by
 intro ad e hn;obtain⟨ad',e',hc⟩:=h.1.at_ hn;cases e.symm.trans e';have hl:=h.1.len;cases Zf:d.flatMap Br.cells with
 | nil=>rw[Zf] at hl;simp at hl;omega
 | cons u us=>
  rw[Zf] at hc;have:=World.block_lt_of_cell? w _ (hc 0 u rfl);rw[pH] at this;exact this
end
section
theorem AU (A:Option Addr)(n c:Nat)(nd:List Br)(root:Int)(w:World)(h:SB w A n c nd):
  Fn Tryz.prog 52 [Xg A n c root] w (λv w'=>v= .int .i64 (XK nd root)/\Ext w w'):=by
 have Xf:=h.2;refine Qx (c:={c52 with cuts:=[4]}) Qa Tryz.func52 rfl rfl rfl ?_;refine new (λw1 Qd Q3 Qh=>?_);refine QC Qh rfl ?_;refine Qt (λh1=>?_) (λh1=>?_)
 ·exact⟨by rw[PN (by omega)],Qd⟩
 have dm:¬4096<nd.length:=by omega
 refine sN Qa cA rfl ?_;intro w2 Qg X0 XR;have QT:=Qd.trans Qg;have Qv:=Qh.ext Qg;refine gO [] Qa [] (λ_:Unit=>[]) (λ_ w'=>Mod (·=w1.heap.size) w2 w'/\∀(j:Nat) (b:Br),j<n->nd[j]? =some b->gc nd j b) ?_ ?_
 ·refine QC Qv rfl ?_;refine loop Qa [15] (λs:Nat=>[.int .i64 s]) (λs w'=>Mod (·=w1.heap.size) w2 w'/\s<=n/\(∀(j:Nat) (b:Br),j<s->nd[j]? =some b->gc nd j b)/\∃m,MapQ cA w' w1.heap.size m/\∀b,(XJ b m).getD (.bool false)= .bool (decide (b∈nd.take s))) (λs _=>n-s) 0 rfl ⟨Mod.refl _ _,Xt _,λj b hj=>Xd hj (by omega),[],XR,λb=>by simp[XJ]⟩ ?_;rintro s w3 ⟨Z3,hs,hall,m,XE,Vg⟩;have Qi:Ext w w3:=Z3.ext QT (λi hi=>by have:=Qd.size;omega);have Qw:=Qv.mod Z3 (by omega);refine Qt (λh2=>?_) (λh2=>?_)
  ·refine Zh YR (h.ext Qi) rfl (by omega) (λp x hx hc=>?_);refine Kb (vs:=x.cells) rfl hc ?_;refine new (λw4 Qq K5 Q6=>?_);refine QB Q6 rfl (sc rfl) (λw5 Jr Kw KE=>?_);have JL:Ext w3 w5:=XY Qq Q6 Jr;have Qz:=Qi.trans JL;have XV:=XE.ext JL;have QL:=Qw.ext JL;have bad:¬gc nd s x->∀w',Ext w w'->(Value.int .i64 20= .int .i64 (XK nd root))/\Ext w w':=λXa w' hE=>⟨by rw[vY dm (λhv=>Xa (hv.1 s x hx))],hE⟩
   refine QC KE rfl ?_;refine Qt (λc1=>?_) (λc1=>?_)
   ·exact bad (λhb=>by have:=hb.1;omega) _ Qz
   refine QC KE rfl ?_;refine Qt (λc2=>?_) (λc2=>?_)
   ·exact bad (λhb=>by have:=hb.2.1;omega) _ Qz
   refine Qp KE rfl ?_;refine Qt (λc3=>?_) (λc3=>?_)
   ·exact bad (λhb=>by have:=hb.2.2.1;omega) _ Qz
   refine Qp KE rfl ?_;refine Qt (λc4=>?_) (λc4=>?_)
   ·exact bad (λhb=>by have:=hb.2.2.2.2.1;omega) _ Qz
   refine Qp KE rfl ?_;refine Qj ((s:Int)+1) rfl (by omega) ?_;refine Qt (λc5=>?_) (λc5=>?_)
   ·exact bad (λhb=>by have:=hb.2.2.2.1;omega) _ Qz
   refine Qp KE rfl ?_;refine Qj ((s:Int)+1) rfl (by omega) ?_;refine Qt (λc6=>?_) (λc6=>?_)
   ·exact bad (λhb=>by have:=hb.2.2.2.2.2.1;omega) _ Qz
   refine Qp KE rfl ?_;refine Qp KE rfl ?_;refine XU (λc7=>?_) (λc7=>?_)
   ·exact bad (λhb=>hb.2.2.2.2.2.2.1 c7) _ Qz
   refine Qs KE rfl ?_;refine FM (kv:=cA) (a:=x) Qa rfl rfl rfl rfl AT rfl rfl XV (Vg x) ?_;refine Qt (λc8=>?_) (λc8=>?_)
   ·exact bad (λhb=>hb.2.2.2.2.2.2.2.1 c8) _ Qz
   refine Xy Qa (Ext w5) 16 [(true,0),(true,1),(true,2),(true,4),(true,5),(false,3),(true,6),(true,7),(true,8),(true,9),(true,10),(true,12),(true,13),(false,11),(true,14),(true,15)] (by kernel_rfl) (Ext.drew w5) ?_;have qB:∀w',Ext w5 w'->∀(j:Nat) (v:Value),[Value.slice A n c,.int .i64 root][j]? =some v->w'.cell? ((⟨w.heap.size,0,none⟩:Addr).add j)=some v:=λw' Qb j v hj=>by rw[(QL.ext Qb).cell];exact hj
   have qX:∀w',Ext w5 w'->∀(j:Nat) (v:Value),x.cells[j]? =some v->w'.cell? ((⟨w3.heap.size,0,none⟩:Addr).add j)=some v:=λw' Qb j v hj=>by rw[(KE.ext Qb).cell];exact hj
   have xv:∀w',Ext w5 w'->w'.cell? (⟨w3.heap.size,0,none⟩:Addr)=some (.int .i64 x.v):=λw' Qb=>by have:=qX w' Qb 0 _ rfl;simpa [Addr.add] using this
   refine Xr (vs:=[.slice A n c,.int .i64 root]) rfl (λw' Qb j v hj=>by have:=qB w' Qb j v hj;simpa [Addr.add] using this) ?_;refine QJ (v:=.int .i64 x.l) (λw' Qb=>qX w' Qb 1 _ rfl) ?_;refine QJ (v:=.int .i64 x.v) (λw' Qb=>xv w' Qb) ?_;refine call (dF A n c root x.l nd _ (h.ext (Qz.trans (Ext.drew w5))) (by omega)) ?_;rintro v w6 ⟨rfl,Xh⟩;have ZI:=(Ext.drew w5).trans Xh;refine⟨ZI,?_⟩;refine Qt (λc9=>?_) (λc9=>?_)
   ·exact bad (λhb=>by have:=hb.2.2.2.2.2.2.2.2.1;omega) _ (Qz.trans ZI)
   refine Xr (vs:=[.slice A n c,.int .i64 root]) rfl (λw' Qb j v hj=>by have:=qB w' Qb j v hj;simpa [Addr.add] using this) ?_;refine QJ (v:=.int .i64 x.h) (λw' Qb=>qX w' Qb 2 _ rfl) ?_;refine QJ (v:=.int .i64 x.v) (λw' Qb=>xv w' Qb) ?_;refine call (dF A n c root x.h nd _ (h.ext (Qz.trans ZI)) (by omega)) ?_;rintro v w7 ⟨rfl,QY⟩;have VE:=ZI.trans QY;refine⟨VE,?_⟩;refine Qt (λsL=>?_) (λsL=>?_)
   ·exact bad (λhb=>by have:=hb.2.2.2.2.2.2.2.2.2;omega) _ (Qz.trans VE)
   have Zm:gc nd s x:=⟨by omega,by omega,by omega,by omega,by omega,by omega,c7,c8,by omega,by omega⟩
   refine Qs (KE.ext VE) rfl ?_;refine sS (kv:=cA) (a:=x) Qa rfl rfl rfl rfl AT rfl rfl rfl (XV.ext VE) (λw8 Zo Ve Jq=>?_);refine Qj ((s+1:Nat):Int) (by omega) (by omega) ?_;refine⟨s+1,rfl,⟨(Z3.trans (Mod.of_ext (·=w1.heap.size) (JL.trans VE)) (λi hi=>.inl hi)).trans Zo (λi hi=>.inl hi),by omega,λj b hj hb=>?_,_,Jq,λb=>?_⟩,by show n-(s+1)<n-s;omega⟩
   ·by_cases KX:j<s
    ·exact hall j b KX hb
    ·have:j=s:=by omega
     subst this;rw[Option.some.inj (hb.symm.trans hx)];exact Zm
   ·rw[aY,KC,hx];by_cases lR:b=x
    ·subst lR;simp
    ·rw[if_neg lR,Vg b];simp[lR]
  ·have:s=n:=by omega
   subst this;exact⟨(),rfl,Z3,hall⟩
 rintro⟨⟩ w3 ⟨Z3,hall⟩;have Qi:Ext w w3:=Z3.ext QT (λi hi=>by have:=Qd.size;omega);have Qw:=Qv.mod Z3 (by omega);refine Qp Qw rfl ?_;refine Qt (λc1=>?_) (λc1=>?_)
 ·exact⟨by rw[vY dm (λhv=>by have:=hv.2.1;omega)],Qi⟩
 refine Qp Qw rfl ?_;refine QC Qw rfl ?_;refine Qj ((n:Int)+1) rfl (by omega) ?_;refine Qt (λc2=>?_) (λc2=>?_)
 ·exact⟨by rw[vY dm (λhv=>by have:=hv.2.2.1;omega)],Qi⟩
 have Y2:WZ nd:=λj x hx=>by
  obtain⟨_,_,h1,h2,h3,h4,_⟩:=hall j x (by have:=(Zw.1 hx).1;omega) hx;exact⟨h1,h2,h3,h4⟩
 refine QC Qw rfl ?_;refine new (λw4 Qq K5 Q6=>?_);have XI:=Qi.trans Qq;have jz:=Qw.ext Qq;refine Qp jz rfl ?_;refine call (FL w3.heap.size (.map none) A n c nd root w4 Q6 (h.ext XI) Y2 (by omega) (by omega) (by omega) (SB.lt (h.ext XI))) ?_;rintro v w5 ⟨OA,m,oc,rfl,Qz,hO5,_⟩;refine new (λw6 Xh fa Xj=>?_);refine QB Xj rfl (sc rfl) (λw7 ZC WF xm=>?_);have VE:Ext w5 w7:=XY Xh Xj ZC;have Ki:=(XI.trans Qz).trans VE;refine Qs xm rfl ?_;refine Qs ((jz.ext Qz).ext VE) rfl ?_;refine call (eQ3 OA A m oc n c _ nd _ root w7 (hO5.ext VE) (h.ext Ki)) ?_;rintro v w8 ⟨rfl,Q7⟩;have V0:=Ki.trans Q7;refine cr (Qt (λc3=>?_) (λc3=>?_))
 ·exact⟨by rw[AQ dm ⟨λj b hb=>hall j b (by have:=(Zw.1 hb).1;omega) hb,by omega,by omega,c3⟩],V0⟩
 ·exact⟨by rw[vY dm (λhv=>c3 hv.2.2.2)],V0⟩
end
section
theorem Blk.cell0 {w:World}{g t:Nat}{cs:List Value}(h:Blk w g t cs):w.cell? ⟨g,0,none⟩=cs[0]? :=by have:=h.cell 0;simpa [Addr.add] using this
theorem wg (A:Option Addr)(n c:Nat)(r m:Int)(nd:List Br)(w:World)(h:SB w A n c nd)(hm:m<n+2):
  Fn Tryz.prog 161 [Xg A n c r,.int .i64 m] w (λv w'=>v= .int .i64 (Ql nd m)/\Ext w w'):=by
 have Xf:=h.2;refine Qx (c:={dQp with cuts:=[]}) Qa Tryz.func161 rfl rfl rfl ?_;refine new (λw1 Qd Q3 Qh=>?_);refine Qt (λh1=>?_) (λh1=>?_)
 ·exact⟨by unfold Ql;rw[Qf h1],Qd⟩
 ·refine QC Qh rfl ?_;refine Qj (((m-2).toNat:Nat):Int) (by omega) (by have:=h.1.le;have:=h.1.cap;simp only[maxLen] at this;omega) ?_;refine Zh YR (h.ext Qd) rfl (by omega) (λp x hx hc=>?_);refine load (hc 0 _ rfl) ?_;exact⟨by unfold Ql;rw[if_neg h1,hx];rfl,Qd⟩
theorem eQ9 (A B:Option Addr)(n c m e:Nat)(l l':List Br)(r r':Int)(w:World)(h:SB w A n c l)(h':SB w B m e l'):
  Fn Tryz.prog 213 [Xg A n c r,Xg B m e r'] w (λv w'=>v= .bool (decide ((l,r)=(l',r')))/\Ext w w'):=by
 have hl:=h.2;have cg:=h'.2;have WQ:n<=9223372036854775807:=by have:=h.1.le;have:=h.1.cap;simp only[maxLen] at this;omega
 refine Qx (c:={dQY with cuts:=[]}) Qa Tryz.func213 rfl rfl rfl ?_;refine new (λw1 Qd Q3 Qh=>?_);refine new (λw2 Qg X0 Qv=>?_);have Ji:=Qh.ext Qg;have QT:=Qd.trans Qg;refine Qp Ji rfl ?_;refine Qp Qv rfl ?_;refine Yt (λh1=>?_) (λh1=>?_)
 ·exact⟨by rw[XS (λe=>h1 (by cases e;rfl))],QT⟩
 refine QC Ji rfl ?_;refine QC Qv rfl ?_;refine Yt (λh2=>?_) (λh2=>?_)
 ·exact⟨by rw[XS (λe=>h2 (by cases e;omega))],QT⟩
 refine loop Qa [5] (λs:Nat=>[.int .i64 s]) (λs w'=>Ext w2 w'/\s<=n/\∀j,j<s->l[j]? =l'[j]?) (λs _=>n-s) 0 rfl ⟨Ext.refl w2,Xt _,λj hj=>Xd hj (by omega)⟩ ?_;rintro s w3 ⟨Qi,hs,hall⟩;have KS:=Ji.ext Qi;have H1:=Qv.ext Qi;have QQ:=QT.trans Qi;refine QC KS rfl ?_;refine Qt (λh3=>?_) (λh3=>?_)
 ·refine Xy Qa (Ext w3) 11 [(true,0),(true,1),(true,2),(true,3),(true,4),(true,5),(true,6),(true,7),(true,8),(true,9),(true,10)] (by kernel_rfl) (Ext.drew w3) ?_;refine QJ (v:=.slice A n c) (λw' Qb=>by rw[(KS.ext Qb).cell];rfl) ?_;refine Zh YR (h.ext QQ) rfl (by omega) (λp x hx hc=>?_);refine Xr (vs:=x.cells) rfl (λw' Qb j v hj=>Qb.cell (hc j v hj)) ?_;refine QJ (v:=.slice B m e) (λw' Qb=>by rw[(H1.ext Qb).cell];rfl) ?_;refine Zh YR (h'.ext QQ) rfl (by omega) (λq y hy Kl=>?_);refine Xr (vs:=y.cells) rfl (λw' Qb j v hj=>Qb.cell (Kl j v hj)) ?_;have WR:=Qi.trans (Ext.drew w3);by_cases Xl:x=y
  ·refine Xv (by rw[kx,XT (ky.1 Xl)];rfl) ?_;refine Qj ((s+1:Nat):Int) (by omega) (by omega) ?_;refine⟨s+1,rfl,⟨WR,by omega,λj hj=>?_⟩,by show n-(s+1)<n-s;omega⟩;by_cases KX:j<s
   ·exact hall j KX
   ·have:j=s:=by omega
    subst this;rw[hx,hy,Xl]
  ·refine Xe (by rw[kx,XS (λe=>Xl (ky.2 e))];rfl) ?_;refine⟨?_,QT.trans WR⟩;rw[XS (λe=>PO hx hy Xl (by cases e;rfl))]
 ·refine⟨?_,QQ⟩;have e1:=PP hl (by omega) (λj hj=>hall j (by omega));rw[XT (by rw[e1,h1])]
theorem fQa (A:Option Addr)(n c:Nat)(r:Int)(s:Nat)(nd:List Br)(x:Br)(w:World)(h:SB w A n c nd)(hx:nd[s]? =some x)(WQ:n<=1000000000000):
  Fn Tryz.prog 212 [Xg A n c r,.int .i64 s] w (λv w'=>∃b,v= .bool b/\(b=true↔gc nd s x)/\Ext w w'):=by
 have Xf:=h.2;have hs:s<nd.length:=(Zw.1 hx).1;refine Qx (c:={dQX with cuts:=[]}) Qa Tryz.func212 rfl rfl rfl ?_;refine new (λw1 Qd Q3 Qh=>?_);refine QC Qh rfl ?_;refine Zh YR (h.ext Qd) rfl (by omega) (λp y hy hc=>?_);have iG:y=x:=Option.some.inj (hy.symm.trans hx);subst iG;refine Kb (vs:=y.cells) rfl hc ?_;refine new (λw4 Qq K5 Q6=>?_);refine QB Q6 rfl (sc rfl) (λw5 Jr Kw KE=>?_);have VF:Ext w1 w5:=XY Qq Q6 Jr;have Qz:=Qd.trans VF;have QL:=Qh.ext VF;have bad:¬gc nd s y->∀w',Ext w w'->∃b,(Value.bool false:Value)= .bool b/\(b=true↔gc nd s y)/\Ext w w':=λXa w' hE=>⟨false,rfl,by simp[Xa],hE⟩
 refine QC KE rfl ?_;refine Qt (λc1=>?_) (λc1=>?_)
 ·exact bad (λhb=>by have:=hb.1;omega) _ Qz
 refine QC KE rfl ?_;refine Qt (λc2=>?_) (λc2=>?_)
 ·exact bad (λhb=>by have:=hb.2.1;omega) _ Qz
 refine Qp KE rfl ?_;refine Qt (λc3=>?_) (λc3=>?_)
 ·exact bad (λhb=>by have:=hb.2.2.1;omega) _ Qz
 refine Qp KE rfl ?_;refine Qt (λc4=>?_) (λc4=>?_)
 ·exact bad (λhb=>by have:=hb.2.2.2.2.1;omega) _ Qz
 refine Qp KE rfl ?_;refine Qj ((s:Int)+2) rfl (by omega) ?_;refine Qt (λc5=>?_) (λc5=>?_)
 ·exact bad (λhb=>by have:=hb.2.2.2.1;omega) _ Qz
 refine Qp KE rfl ?_;refine Qj ((s:Int)+2) rfl (by omega) ?_;refine Qt (λc6=>?_) (λc6=>?_)
 ·exact bad (λhb=>by have:=hb.2.2.2.2.2.1;omega) _ Qz
 refine Qp KE rfl ?_;refine Qp KE rfl ?_;refine XU (λc7=>?_) (λc7=>?_)
 ·exact bad (λhb=>hb.2.2.2.2.2.2.1 c7) _ Qz
 have qB:∀w',Ext w5 w'->∀(j:Nat) (v:Value),[Value.slice A n c,.int .i64 r][j]? =some v->w'.cell? ((⟨w.heap.size,0,none⟩:Addr).add j)=some v:=λw' Qb j v hj=>by rw[(QL.ext Qb).cell];exact hj
 have qX:∀w',Ext w5 w'->∀(j:Nat) (v:Value),y.cells[j]? =some v->w'.cell? ((⟨w1.heap.size,0,none⟩:Addr).add j)=some v:=λw' Qb j v hj=>by rw[(KE.ext Qb).cell];exact hj
 have xv:∀w',Ext w5 w'->w'.cell? (⟨w1.heap.size,0,none⟩:Addr)=some (.int .i64 y.v):=λw' Qb=>by rw[(KE.ext Qb).cell0]<;>rfl
 refine Xy Qa (Ext w5) 16 [(true,0),(true,1),(true,2),(true,4),(true,5),(false,3),(true,6),(true,7),(true,8),(true,9),(true,10),(true,12),(true,13),(false,11),(true,14),(true,15)] (by kernel_rfl) (Ext.drew w5) ?_;refine Xr (vs:=[.slice A n c,.int .i64 r]) rfl (λw' Qb j v hj=>by have:=qB w' Qb j v hj;simpa [Addr.add] using this) ?_;refine QJ (v:=.int .i64 y.l) (λw' Qb=>qX w' Qb 1 _ rfl) ?_;refine QJ (v:=.int .i64 y.v) (λw' Qb=>xv w' Qb) ?_;refine call (wg A n c r y.l nd _ (h.ext (Qz.trans (Ext.drew w5))) (by omega)) ?_;rintro v w6 ⟨rfl,Xh⟩;have ZI:=(Ext.drew w5).trans Xh;refine⟨ZI,?_⟩;refine Qt (λc9=>?_) (λc9=>?_)
 ·exact bad (λhb=>by have:=hb.2.2.2.2.2.2.2.2.1;omega) _ (Qz.trans ZI)
 refine Xr (vs:=[.slice A n c,.int .i64 r]) rfl (λw' Qb j v hj=>by have:=qB w' Qb j v hj;simpa [Addr.add] using this) ?_;refine QJ (v:=.int .i64 y.h) (λw' Qb=>qX w' Qb 2 _ rfl) ?_;refine QJ (v:=.int .i64 y.v) (λw' Qb=>xv w' Qb) ?_;refine call (wg A n c r y.h nd _ (h.ext (Qz.trans ZI)) (by omega)) ?_;rintro v w7 ⟨rfl,QY⟩;have VE:=ZI.trans QY;refine⟨VE,?_⟩;refine Qt (λsL=>?_) (λsL=>?_)
 ·exact bad (λhb=>by have:=hb.2.2.2.2.2.2.2.2.2;omega) _ (Qz.trans VE)
 have Ki:=Qz.trans VE;refine loop Qa [6] (λt:Nat=>[.int .i64 t]) (λt w'=>Ext w7 w'/\t<=s/\y∉nd.take t) (λt _=>s-t) 0 rfl ⟨Ext.refl w7,Xt _,by simp⟩ ?_;rintro t w8 ⟨Q7,ht,Xa⟩;have XB:=(QL.ext VE).ext Q7;have hX8:=(KE.ext VE).ext Q7;have V0:=Ki.trans Q7;refine Qt (λh8=>?_) (λh8=>?_)
 ·refine Xy Qa (Ext w8) 7 [(true,0),(true,1),(true,2),(true,3),(true,4),(true,5),(true,6)] (by kernel_rfl) (Ext.drew w8) ?_;refine QJ (v:=.slice A n c) (λw' Qb=>by rw[(XB.ext Qb).cell];rfl) ?_;refine Zh YR (h.ext V0) rfl (by omega) (λp z hz hc=>?_);refine Xr (vs:=z.cells) rfl (λw' Qb j v hj=>Qb.cell (hc j v hj)) ?_;refine Xr (vs:=y.cells) rfl (λw' Qb j v hj=>by have:=(hX8.ext Qb).cell j;simp[Addr.add] at this;rw[<-hj];simpa [Addr.add] using this) ?_;have WR:=Q7.trans (Ext.drew w8);by_cases Ej:z=y
  ·refine Xe (by rw[kx,XT (ky.1 Ej)]) ?_;refine bad (λhb=>hb.2.2.2.2.2.2.2.1 ?_) _ (Ki.trans WR);subst Ej;exact Q2 (i:=t) (by rw[mt (by omega)];exact hz)
  ·refine Xv (by rw[kx,XS (λe=>Ej (ky.2 e))]) ?_;refine Qj ((t+1:Nat):Int) (by omega) (by omega) ?_;refine⟨t+1,rfl,⟨WR,by omega,?_⟩,by show s-(t+1)<s-t;omega⟩;rw[KC,hz];simp only[zR,XH,QF,not_or];exact⟨Xa,λe=>Ej e.symm⟩
 ·have:t=s:=by omega
  subst this;exact⟨true,rfl,by simp only[true_iff];exact⟨by omega,by omega,by omega,by omega,by omega,by omega,c7,Xa,by omega,by omega⟩,V0⟩
end
section
def kD (l:List Nat):List Value:=l.map λ(x:Nat)=>.int .i64 (x:Int)
theorem PU {l:List Nat}{j x:Nat}(h:l[j]? =some x):(kD l)[j]? =some (.int .i64 (x:Int)):=by simp[kD,h]
theorem fQb (l:List Nat):(kD l).length=l.length:=by simp[kD]
theorem fQc (l:List Nat)(i x:Nat):kD (l.set i x)=(kD l).set i (.int .i64 (x:Int)):=by simp[kD,List.map_set]
def WS (x pg:Nat)(A:Option Addr):Nat->Prop:=λk=>k=x∨k=pg∨Qk A k
theorem WS.moved {w:World}{x pg:Nat}{A A':Option Addr}(h:Moved w A A'):∀k,WS x pg A' k->WS x pg A k∨w.heap.size<=k:=by
 rintro k (rfl | rfl | hk)
 ·exact .inl (.inl rfl)
 ·exact .inl (.inr (.inl rfl))
 ·rcases h.rows k hk with h | h
  ·exact .inl (.inr (.inr h))
  ·exact .inr h
structure Wk (w:World) (base x pg:Nat) (NA:Option Addr) (nn nc:Nat) (nd:List Br) (OA:Option Addr) (oc:Nat) (st:List Br×List Nat):Prop where
 blk:Blk w x 249 [.slice NA nn nc,.slice (some ⟨pg,0,none⟩) nn nn,.slice OA st.1.length oc]
 num:Blk w pg 3 (kD st.2)
 own:Own w base 105 3 OA st.1.length oc (kC st.1)
 lt:x<base/\pg<base/\x≠pg
 top:base<=w.heap.size
 nds:SB w NA nn nc nd
 row:∀ad,NA=some ad->0<nn->ad.block<base/\ad.block≠x/\ad.block≠pg
 len:st.2.length=nn
theorem Wk.ext {w w':World}{base x pg:Nat}{NA:Option Addr}{nn nc:Nat}{nd:List Br}{OA:Option Addr}{oc:Nat}{st:List Br×List Nat}(h:Wk w base x pg NA nn nc nd OA oc st)(k:Ext w w'):Wk w' base x pg NA nn nc nd OA oc st:=
 ⟨h.blk.ext k,h.num.ext k,h.own.ext k,h.lt,X2 h.top k.size,h.nds.ext k,h.row,h.len⟩
theorem Wk.keep {w w':World}{base x pg:Nat}{NA:Option Addr}{nn nc:Nat}{nd:List Br}{OA:Option Addr}{oc:Nat}{st:List Br×List Nat}(h:Wk w base x pg NA nn nc nd OA oc st)(hm:Mod (WS x pg OA) w w'):SB w' NA nn nc nd:=by
 refine⟨h.nds.1.modS hm ?_,h.nds.2⟩;rintro h0 i ⟨ad,rfl,rfl⟩ hi;obtain⟨r1,r2,r3⟩:=h.row ad rfl h0;rcases hi with hi | hi | hi
 ·exact r2 hi
 ·exact r3 hi
 ·have:=(h.own.rows _ hi).1;omega
def WTo (w:World)(base x pg:Nat)(NA:Option Addr)(nn nc:Nat)(nd:List Br)(OA:Option Addr)(st:List Br×List Nat)(w':World):Prop:=∃OA' oc',Wk w' base x pg NA nn nc nd OA' oc' st/\Mod (WS x pg OA) w w'/\Moved w OA OA'
theorem PV (base x pg:Nat)(NA:Option Addr)(nn nc:Nat)(nd:List Br)(Y2:WZ nd)(dk:nn<=1000000000000):∀(m:Nat)(n:Int)(st:List Br×List Nat)(OA:Option Addr)(oc:Nat)(w:World),
  Wk w base x pg NA nn nc nd OA oc st->0<=n->n<m->n<nn+2->st.1.length+st.2.count 0<=1000000000000->
  Fn Tryz.prog 164 [.pointer (some ⟨x,0,none⟩),.int .i64 n] w (λv w'=>v= .int .i64 (Ze nd m n st).1/\WTo w base x pg NA nn nc nd OA (Ze nd m n st).2 w')
 | 0,n,st,OA,oc,w,_,h0,hm,_,_=>by omega
 | m+1,n,st,OA,oc,w,hK,h0,hm,hn,hc=>by
  have ih:=PV base x pg NA nn nc nd Y2 dk m;have Je:nd.length=nn:=hK.nds.2;have hl:=hK.len;have V4:=hK.own.rows;have nQZ:=hK.blk.lt;have nQ0:=hK.num.lt;obtain⟨lx,lp,lxp⟩:=hK.lt;refine Qx (c:={dQs with cuts:=[]}) Qa Tryz.func164 rfl rfl rfl ?_;by_cases h1:n<2
  ·refine Zd h1 ?_;rw[kz h1];exact⟨rfl,OA,oc,hK,Mod.refl _ _,Moved.refl _ _⟩
  refine Xx h1 ?_;have hj:(n-2).toNat<nn:=by omega
  have hz:st.2[(n-2).toNat]? =some st.2[(n-2).toNat]:=Xb (by omega);refine Qp hK.blk rfl ?_;refine Qj (((n-2).toNat:Nat):Int) (by omega) (by omega) ?_;refine index (by omega) ?_;refine Qp hK.num (PU hz) ?_;have hd:st.2[(n-2).toNat]?.getD 0=st.2[(n-2).toNat]:=by rw[hz]<;>rfl
  by_cases h2:0<st.2[(n-2).toNat]?.getD 0
  ·rw[kA h1 h2];rw[hd] at h2 ⊢;refine Zd (by omega) ?_;refine Qp hK.blk rfl ?_;refine Qj (((n-2).toNat:Nat):Int) (by omega) (by omega) ?_;refine index (by omega) ?_;refine Qp hK.num (PU hz) ?_;exact⟨rfl,OA,oc,hK,Mod.refl _ _,Moved.refl _ _⟩
  refine Xx (by rw[hd] at h2;omega) ?_;have hx:=Xb (show(n-2).toNat<nd.length by omega);generalize nd[(n-2).toNat]=b at hx;obtain⟨x1,x2,x3,x4⟩:=Y2 _ _ hx;rw[mN h1 h2 hx];refine QC hK.blk rfl ?_;refine Qj (((n-2).toNat:Nat):Int) (by omega) (by omega) ?_;refine Zh YR hK.nds rfl (by omega) (λad y hy jO=>?_);have iG:y=b:=Option.some.inj (hy.symm.trans hx);subst iG;refine Kb (vs:=y.cells) rfl jO ?_;refine new (λw1 Qd Q3 Qh=>?_);refine QB Qh rfl (sc rfl) (λw2 ig X0 KD=>?_);have Qg:Ext w w2:=XY Qd Qh ig;have CE:Mod (WS x pg OA) w w2:=Mod.of_ext _ Qg;have iI:¬WS x pg OA w.heap.size:=λe=>by
   rcases e with e | e | e
   ·omega
   ·omega
   ·have:=(V4 _ e).2;omega
  refine Qp KD rfl ?_;have f1:=kB Y2 m y.l st x1 (by omega) (by omega) (by omega);refine call (ih y.l st OA oc w2 (hK.ext Qg) x1 (by omega) (by omega) hc) ?_;rintro v w3 ⟨rfl,OA3,HX,fc,Z3,lq⟩;have KS:=KD.mod Z3 iI;have ue:¬WS x pg OA3 w.heap.size:=λe=>(WS.moved lq _ e).elim iI (λh=>by omega)
  refine Qp KS rfl ?_;have f2:=kB Y2 m y.h _ x3 (by omega) (by omega) f1.len;have c1:=f1.cnt;have c2:=f2.cnt;refine call (ih y.h _ OA3 HX w3 fc x3 (by omega) (by omega) (by omega)) ?_;rintro v w4 ⟨rfl,OA4,U5,VZ,KR,qv⟩;have YX:=KS.mod KR ue;have kQm:¬WS x pg OA4 w.heap.size:=λe=>(WS.moved qv _ e).elim ue (λh=>by have:=Z3.size;omega)
  have lr:=Z3.trans KR (WS.moved lq);have HY:=lq.trans qv Z3.size;have xo:Mod (WS x pg OA) w w4:=CE.trans lr (λi hi=>.inl hi);have xp:=HY.back Qg.size;generalize (Ze nd m y.l st)=a at*;generalize (Ze nd m y.h a.2)=b at*;have qw:=VZ.own.rows;have di:¬Qk OA4 x:=λe=>by have:=(qw _ e).1;omega
  have MB:¬Qk OA4 pg:=λe=>by have:=(qw _ e).1;omega
  refine Xy Qa (Mod (Qk OA4) w4) 12 [(true,0),(true,1),(true,2),(true,3),(true,4),(true,5),(true,6),(true,7),(true,8),(true,9),(false,10),(false,11)] (by kernel_rfl) (Mod.of_ext _ (Ext.drew w4)) ?_;refine QJ (v:=.slice OA4 b.2.1.length U5) (λw' Qb=>by rw[(VZ.blk.mod Qb di).cell];rfl) ?_;refine QJ (v:=.int .i64 y.v) (λw' Qb=>by rw[(YX.mod Qb (λe=>kQm (.inr (.inr e)))).cell];rfl) ?_;refine Xm Qa [(⟨y.v,a.1,b.1⟩:Br).cells] rfl rfl rfl rfl rfl ⟨rfl,rfl,⟨⟩⟩ rfl (λcs h=>by simp only[QF] at h;subst h;rfl) rfl (by decide) (by decide) ?_;intro w5 Qz Kw QL;have aO:=(Ext.drew w4).trans Qz;have jA:=VZ.ext aO;refine⟨Mod.of_ext _ aO,?_⟩;have fe:Sl w5 3 (some ⟨w4.drew.heap.size,0,none⟩) 1 1 (⟨y.v,a.1,b.1⟩:Br).cells:=Sl.own (sz:=3) (n:=1) QL (QD _) (by decide) (by simp[Br.cells]);refine Zk Qa rfl rfl rfl rfl rfl (by decide) rfl rfl ⟨_,rfl⟩ rfl rfl jA.own fe (by intro u hu;simp[Br.cells] at hu;rcases hu with rfl | rfl | rfl<;>rfl) (by unfold maxLen;omega) (by show _*24<=_;omega) jA.top ?_;intro OA6 CF w6 J5 xq xr;have nJ:Mod (Qk OA4) w4 w6:=(Mod.of_ext (Qk OA4) aO).trans J5 (λi hi=>.inl hi);refine⟨nJ,?_⟩;refine XQ (VZ.blk.mod nJ di) (by simp) (λw7 Xi Q4=>?_);have H3:=(VZ.num.mod nJ MB).mod Xi (λe=>lxp e.symm);have Xf:b.2.2.length=nn:=VZ.len;refine Xy Qa (Ext w7) 13 [(true,0),(true,1),(true,2),(true,3),(true,4),(true,5),(true,6),(true,7),(true,8),(true,9),(true,10),(true,11),(true,12)] (by kernel_rfl) (Ext.drew w7) ?_;refine QJ (v:=.slice (some ⟨pg,0,none⟩) nn nn) (λw' Qb=>by rw[(Q4.ext Qb).cell];rfl) ?_;refine Qj (((n-2).toNat:Nat):Int) (by omega) (by omega) ?_;refine QJ (v:=.slice OA6 (b.2.1.length+1) CF) (λw' Qb=>by rw[(Q4.ext Qb).cell];rfl) ?_;refine Qj ((b.2.1.length+2:Nat):Int) (by omega) (by omega) ?_;refine index (by omega) ?_;refine XQ (H3.ext (Ext.drew w7)) (by rw[fQb];omega) (λw8 Zo XB=>?_);rw[<-fQc] at XB;have xw:=(Q4.ext (Ext.drew w7)).mod Zo lxp;refine Qp xw rfl ?_;refine Qj ((b.2.1.length+2:Nat):Int) (by omega) (by omega) ?_;have qx:Mod (WS x pg OA4) w4 w8:=(((nJ.mono (λi hi=>.inl (.inr (.inr hi)))).trans Xi (λi hi=>.inl (.inl hi))).trans (Mod.of_ext (WS x pg OA4) (Ext.drew w7)) (λi hi=>.inl hi)).trans Zo (λi hi=>.inl (.inr (.inl hi)));have xu:=xq.rows;have el:(b.2.1++ [(⟨y.v,a.1,b.1⟩:Br)]).length=b.2.1.length+1:=by simp
  refine⟨rfl,OA6,CF,⟨?_,?_,?_,hK.lt,?_,VZ.keep qx,hK.row,?_⟩,xo.trans qx (WS.moved xp),?_⟩
  ·rw[el];exact xw
  ·exact XB
  ·rw[el,AR];refine((xq.mod Xi (λi hi e=>?_)).ext (Ext.drew w7)).mod Zo (λi hi e=>?_)
   ·have:=(xu i hi).1;omega
   ·have:=(xu i hi).1;omega
  ·have:=VZ.top;have:=qx.size;omega
  ·rw[cj];exact Xf
  ·exact xp.trans (xr.back aO.size) xo.size
theorem PW (NA:Option Addr)(nn nc:Nat)(nd:List Br)(root:Int)(w:World)(hN:SB w NA nn nc nd)(Y2:WZ nd)(dk:nn<=1000000000000)(h0:0<=root)(hr:root<nn+2):
  Fn Tryz.prog 108 [.slice NA nn nc,.int .i64 root] w (vZ w (bM nd root)):=by
 have Je:nd.length=nn:=hN.2;have oQ:=SB.lt hN;refine Qx (c:={cQL with cuts:=[]}) Qa Tryz.func108 rfl rfl rfl ?_;refine new (λw1 Qd Q3 Qh=>?_);refine AB Qa rfl rfl rfl rfl rfl rfl rfl rfl (by show 8*nn<=_;omega) (by unfold maxLen;omega) (λw2 Qg X0 Qv=>?_);refine new (λw3 Qi JF Qw=>?_);have QQ:=(Qd.trans Qg).trans Qi;have hW:Wk w3 w3.heap.size w2.heap.size w1.heap.size NA nn nc nd none 0 ([],List.replicate nd.length 0):=by
  refine⟨Qw,?_,Own.nil _ _ _ _,⟨by omega,by omega,by omega⟩,QD _,hN.ext QQ,λad e hn=>?_,by simp[Je]⟩
  ·have:=Qv.ext Qi;rw[Je];simpa [kD] using this
  ·have:=oQ ad e hn;exact⟨by omega,by omega,by omega⟩
 refine call (PV w3.heap.size w2.heap.size w1.heap.size NA nn nc nd Y2 dk (root.toNat+1) root _ none 0 w3 hW h0 (by omega) hr (by simp;omega)) ?_;rintro v w4 ⟨rfl,OA,oc,hK,KR,qv⟩;refine Qp hK.blk rfl ?_;have bV:=((Qh.ext Qg).ext Qi).mod KR (λe=>by
  rcases e with e | e | ⟨_,e,_⟩
  ·omega
  ·omega
  ·cases e)
 refine QB bV rfl (sc rfl) (λw5 Jr _ QL=>?_);have Z9:Mod (·=w.heap.size) w4 w5:=oQh Jr rfl;refine Qs QL rfl ?_;have Qq:Ext w w4:=KR.ext QQ (λi hi=>by
  rcases hi with e | e | ⟨_,e,_⟩
  ·omega
  ·omega
  ·cases e)
 exact⟨OA,_,oc,rfl,Z9.ext Qq (λi hi=>by omega),⟨(hK.own.mod Z9 (λi hi e=>by have:=(hK.own.rows i hi).1;omega)).sl,rfl⟩,λi hi=>X2 QQ.size (hK.own.rows i hi).1⟩
theorem fQd (A:Option Addr)(n c:Nat)(nd:List Br)(root:Int)(w:World)(h:SB w A n c nd)(hn:n<=1000000000000):
  Fn Tryz.prog 175 [Xg A n c root] w (λv w'=>∃b,v= .bool b/\(b=true↔VD nd root)/\Ext w w'):=by
 have Xf:=h.2;refine Qx (c:={dQC with cuts:=[]}) Qa Tryz.func175 rfl rfl rfl ?_;refine new (λw1 Qd Q3 Qh=>?_);have bad:¬VD nd root->∀w',Ext w w'->∃b,(Value.bool false:Value)= .bool b/\(b=true↔VD nd root)/\Ext w w':=λXa w' hE=>⟨false,rfl,by simp[Xa],hE⟩
 refine Qp Qh rfl ?_;refine Qt (λc1=>?_) (λc1=>?_)
 ·exact bad (λhv=>by have:=hv.2.1;omega) _ Qd
 refine Qp Qh rfl ?_;refine QC Qh rfl ?_;refine Qj ((n:Int)+2) rfl (by omega) ?_;refine Qt (λc2=>?_) (λc2=>?_)
 ·exact bad (λhv=>by have:=hv.2.2.1;omega) _ Qd
 refine loop Qa [3] (λs:Nat=>[.int .i64 s]) (λs w'=>Ext w1 w'/\s<=n/\∀(j:Nat) (b:Br),j<s->nd[j]? =some b->gc nd j b) (λs _=>n-s) 0 rfl ⟨Ext.refl _,Xt _,λj b hj=>Xd hj (by omega)⟩ ?_;rintro s w2 ⟨Qg,hs,hall⟩;have Qv:=Qh.ext Qg;have QT:=Qd.trans Qg;refine QC Qv rfl ?_;refine Qt (λh3=>?_) (λh3=>?_)
 ·have hx:nd[s]? =some nd[s]:=Xb (by omega);generalize nd[s]=x at hx;refine Qs Qv rfl ?_;refine call (fQa A n c root s nd x w2 (h.ext QT) hx hn) ?_;rintro v w3 ⟨b,rfl,hb,Qi⟩;refine cr (Kq (λWw=>?_) (λMC=>?_))
  ·refine Qj ((s+1:Nat):Int) (by omega) (by omega) ?_;refine⟨s+1,rfl,⟨Qg.trans Qi,by omega,λj y hj hy=>?_⟩,by show n-(s+1)<n-s;omega⟩;by_cases KX:j<s
   ·exact hall j y KX hy
   ·have:j=s:=by omega
    subst this;rw[Option.some.inj (hy.symm.trans hx)];exact hb.1 Ww
  ·exact bad (λhv=>by have:=hb.2 (hv.1 s x hx);rw[MC] at this;cases this) _ (QT.trans Qi)
 ·have:s=n:=by omega
  subst this;have Y2:WZ nd:=λj x hx=>by
   obtain⟨_,_,h1,h2,h3,h4,_⟩:=hall j x (by have:=(Zw.1 hx).1;omega) hx;exact⟨h1,h2,h3,h4⟩
  refine Xy Qa (Ext w2) 7 [(true,0),(true,1),(true,2),(true,3),(true,4),(false,5),(false,6)] (by kernel_rfl) (Ext.drew w2) ?_;refine Xr (vs:=[.slice A s c,.int .i64 root]) rfl (λw' Qb j v hj=>by rw[(Qv.ext Qb).cell];exact hj) ?_;refine QJ (v:=.slice A s c) (λw' Qb=>by rw[(Qv.ext Qb).cell];rfl) ?_;refine QJ (v:=.int .i64 root) (λw' Qb=>by rw[(Qv.ext Qb).cell];rfl) ?_;have WR:=QT.trans (Ext.drew w2);refine call (PW A s c nd root _ (h.ext WR) Y2 hn (by omega) (by omega)) ?_;rintro v w3 ⟨OA,m,oc,rfl,Qi,Wl,_⟩;have KU:=(Ext.drew w2).trans Qi;refine⟨KU,?_⟩;refine call (eQ9 A OA s c m oc nd _ root _ w3 (h.ext (QT.trans KU)) Wl) ?_;rintro v w4 ⟨rfl,Qq⟩;refine⟨KU.trans Qq,?_⟩;refine⟨_,rfl,?_,(QT.trans KU).trans Qq⟩;rw[Vb];exact⟨λe=>⟨λj b hb=>hall j b (by have:=(Zw.1 hb).1;omega) hb,by omega,by omega,e.symm⟩,λhv=>hv.2.2.2.symm⟩
theorem PX (A:Option Addr)(n c:Nat)(nd:List Br)(root:Int)(w:World)(h:SB w A n c nd):
  Fn Tryz.prog 120 [Xg A n c root] w (λv w'=>v= .int .i64 (XK nd root)/\Ext w w'):=by
 have Xf:=h.2;refine Qx (c:={cQW with cuts:=[]}) Qa Tryz.func120 rfl rfl rfl ?_;refine new (λw1 Qd Q3 Qh=>?_);refine QC Qh rfl ?_;refine Qt (λh1=>?_) (λh1=>?_)
 ·exact⟨by rw[PN (by omega)],Qd⟩
 have dm:¬4096<nd.length:=by omega
 refine Qs Qh rfl ?_;refine call (fQd A n c nd root w1 (h.ext Qd) (by omega)) ?_;rintro v w2 ⟨b,rfl,hb,Qg⟩;refine cr (Kq (λWw=>?_) (λMC=>?_))
 ·exact⟨by rw[AQ dm (hb.1 Ww)],Qd.trans Qg⟩
 ·exact⟨by rw[vY dm (λhv=>by have:=hb.2 hv;rw[MC] at this;cases this)],Qd.trans Qg⟩
end
section
def KN (b:Br):List Br->Option Nat
 | []=>none
 | x::l=>if x=b then some 0 else(KN b l).map (·+1)
theorem PY {b:Br}:∀{l:List Br}{s:Nat},(∀j,j<s->l[j]? ≠some b)->l[s]? =some b->KN b l=some s
 | [],s,_,h=>by simp at h
 | x::l,0,_,h=>by simp at h;simp[KN,h]
 | x::l,s+1,hn,h=>by
  have hx:x≠b:=λe=>hn 0 (by omega) (by simp[e])
  have:=PY (l:=l) (s:=s) (λj hj=>by have:=hn (j+1) (by omega);simpa using this) (by simpa using h);simp[KN,hx,this]
theorem PZ {b:Br}:∀{l:List Br},(∀j,j<l.length->l[j]? ≠some b)->KN b l=none
 | [],_=>rfl
 | x::l,hn=>by
  have hx:x≠b:=λe=>hn 0 (by simp) (by simp[e])
  have:=PZ (l:=l) (λj hj=>by have:=hn (j+1) (by simpa using hj);simpa using this);simp[KN,hx,this]
def Z1 (b:Br)(l:List Br):List Br×Int:=if b.l=b.h then(l,b.l)else match KN b l with
 | some i=>(l,((i+2:Nat):Int))
 | none=>(l++ [b],((l.length+2:Nat):Int))
theorem wh (b:Br)(l:List Br):l.length<=(Z1 b l).1.length:=by
 unfold Z1;split
 ·exact QD _
 ·split
  ·exact QD _
  ·simp
def dG (op x y:Int):Int:=if op=0 then x*y else if op=1 then max x y else if op=3 then 1-x else if op=4 then(1-x)*y else(x+y) % 2
def Qm (d:List Br)(n v:Int):Int×Int:=if Ql d n≠v then(n,n)else match d[(n-2).toNat]? with
 | some b=>(b.l,b.h)
 | none=>(n,n)
abbrev Tr3:=Int×Int×Int
def Xz (a b:List Br)(op:Int):Nat->Int->Int->List Br×List Tr3->Int×(List Br×List Tr3)
 | 0,_,_,st=>(0,st)
 | m+1,x,y,st=>if x<2/\y<2 then(dG op x y,st)else
   match st.2.find? (λt=>decide (t.1=x/\t.2.1=y))with
   | some t=>(t.2.2,st)
   | none=>
    let v:=min (Ql a x) (Ql b y)
    let r0:=Xz a b op m (Qm a x v).1 (Qm b y v).1 st
    let r1:=Xz a b op m (Qm a x v).2 (Qm b y v).2 r0.2
    let u:=Z1 ⟨v,r0.1,r1.1⟩ r1.2.1
    (u.2,(u.1,r1.2.2++ [(x,y,u.2)]))
theorem kE {a b:List Br}{op:Int}{m:Nat}{x y:Int}{st:List Br×List Tr3}(h:x<2/\y<2):Xz a b op (m+1) x y st=(dG op x y,st):=by rw[Xz,Qf h]
theorem kF {a b:List Br}{op:Int}{m:Nat}{x y:Int}{st:List Br×List Tr3}{t:Tr3}(h:¬(x<2/\y<2))(k:st.2.find? (λt=>decide (t.1=x/\t.2.1=y))=some t):Xz a b op (m+1) x y st=(t.2.2,st):=by rw[Xz,if_neg h,k]
theorem kG {a b:List Br}{op:Int}{m:Nat}{x y:Int}{st:List Br×List Tr3}(h:¬(x<2/\y<2))(k:st.2.find? (λt=>decide (t.1=x/\t.2.1=y))=none)(v:Int)(hv:min (Ql a x) (Ql b y)=v):
  Xz a b op (m+1) x y st=((Z1 ⟨v,(Xz a b op m (Qm a x v).1 (Qm b y v).1 st).1,(Xz a b op m (Qm a x v).2 (Qm b y v).2 (Xz a b op m (Qm a x v).1 (Qm b y v).1 st).2).1⟩ (Xz a b op m (Qm a x v).2 (Qm b y v).2 (Xz a b op m (Qm a x v).1 (Qm b y v).1 st).2).2.1).2,
   ((
    Z1 ⟨v,(Xz a b op m (Qm a x v).1 (Qm b y v).1 st).1,(Xz a b op m (Qm a x v).2 (Qm b y v).2 (Xz a b op m (Qm a x v).1 (Qm b y v).1 st).2).1⟩ (Xz a b op m (Qm a x v).2 (Qm b y v).2 (Xz a b op m (Qm a x v).1 (Qm b y v).1 st).2).2.1).1,
    (Xz a b op m (Qm a x v).2 (Qm b y v).2 (Xz a b op m (Qm a x v).1 (Qm b y v).1 st).2).2.2++ [(x,y,(Z1 ⟨v,(Xz a b op m (Qm a x v).1 (Qm b y v).1 st).1,(Xz a b op m (Qm a x v).2 (Qm b y v).2 (Xz a b op m (Qm a x v).1 (Qm b y v).1 st).2).1⟩ (Xz a b op m (Qm a x v).2 (Qm b y v).2 (Xz a b op m (Qm a x v).1 (Qm b y v).1 st).2).2.1).2)])):=by
 subst hv;rw[Xz,if_neg h,k]
theorem mO (a b:List Br)(op:Int):∀(m:Nat)(x y:Int)(st:List Br×List Tr3),st.1.length<=(Xz a b op m x y st).2.1.length/\st.2.length<=(Xz a b op m x y st).2.2.length
 | 0,x,y,st=>⟨QD _,QD _⟩
 | m+1,x,y,st=>by
  by_cases h:x<2/\y<2
  ·rw[kE h];exact⟨QD _,QD _⟩
  cases k:st.2.find? (λt=>decide (t.1=x/\t.2.1=y))with
  | some t=>rw[kF h k];exact⟨QD _,QD _⟩
  | none=>
   rw[kG h k _ rfl];have h1:=mO a b op m (Qm a x (min (Ql a x) (Ql b y))).1 (Qm b y (min (Ql a x) (Ql b y))).1 st;have h2:=mO a b op m (Qm a x (min (Ql a x) (Ql b y))).2 (Qm b y (min (Ql a x) (Ql b y))).2 (Xz a b op m (Qm a x (min (Ql a x) (Ql b y))).1 (Qm b y (min (Ql a x) (Ql b y))).1 st).2;refine⟨X2 (X2 h1.1 h2.1) (wh _ _),?_⟩;simp only[Qy];omega
def Vw (nd:List Br):Prop:=WZ nd/\∀(j:Nat)(b:Br),nd[j]? =some b->0<=b.v/\b.v<=63
theorem VD.dok {nd:List Br}{r:Int}(h:VD nd r):Vw nd:=⟨h.wf,λj b hb=>⟨(h.1 j b hb).1,(h.1 j b hb).2.1⟩⟩
theorem WC {nd:List Br}(h:Vw nd){n v:Int}(h0:0<=n)(dS:v<64):0<=(Qm nd n v).1/\(Qm nd n v).1<=n/\0<=(Qm nd n v).2/\(Qm nd n v).2<=n/\(Ql nd n=v->(Qm nd n v).1<n/\(Qm nd n v).2<n):=by
 unfold Qm;split
 ·rename_i hv;exact⟨h0,mv _,h0,mv _,λe=>Xd e hv⟩
 ·rename_i hv;have hv:=Decidable.not_not.1 hv;have uQ:¬n<2:=λh2=>by
   unfold Ql at hv;rw[Qf h2] at hv;omega
  cases hx:nd[(n-2).toNat]? with
  | none=>
   unfold Ql at hv;rw[if_neg uQ,hx] at hv;simp at hv;omega
  | some b=>
   obtain⟨h1,h2,h3,h4⟩:=h.1 _ _ hx;exact⟨h1,by simp only;omega,h3,by simp only;omega,λ_=>⟨by simp only;omega,by simp only;omega⟩⟩
theorem aE {nd:List Br}(h:Vw nd){n:Int}(h2:¬n<2)(hn:n<nd.length+2):Ql nd n<64:=by
 unfold Ql;have hx:=Xb (show(n-2).toNat<nd.length by omega);rw[if_neg h2,hx];have:=(h.2 _ _ hx).2;simp only[zP,iY];omega
theorem fQe (base:Nat)(A:Option Addr)(n c:Nat)(l:List Br)(b:Br)(w:World)(h:Own w base 105 3 A n c (kC l))(hn:l.length=n)(hb:base<=w.heap.size)(hl:n+1<=1000000000000):
  Fn Tryz.prog 163 [.slice A n c,.agg b.cells.toArray] w (λv w'=>∃A' c',v= .tuple #[.slice A' (Z1 b l).1.length c',.int .i64 (Z1 b l).2]/\Own w' base 105 3 A' (Z1 b l).1.length c' (kC (Z1 b l).1)/\Mod (Qk A) w w'/\Moved w A A'):=by
 have rF:SB w A n c l:=⟨h.sl,hn⟩
 refine Qx (c:={dQr with cuts:=[]}) Qa Tryz.func163 rfl rfl rfl ?_;refine new (λw1 Qd Q3 Qh=>?_);have eX:Mod (Qk A) w w1:=Mod.of_ext _ Qd;refine Qp Qh rfl ?_;refine Qp Qh rfl ?_;refine XU (λh1=>?_) (λh1=>?_)
 ·have e:Z1 b l=(l,b.l):=by unfold Z1;rw[Qf h1]
  rw[e];refine Xy Qa (Ext w1) 5 [(true,0),(true,1),(true,2),(true,3),(true,4)] (by kernel_rfl) (Ext.drew w1) ?_;refine QJ (v:=.int .i64 b.l) (λw' Qb=>by rw[(Qh.ext Qb).cell];rfl) ?_;have WR:=Qd.trans (Ext.drew w1);rw[hn];exact⟨A,c,rfl,h.ext WR,Mod.of_ext _ WR,Moved.refl _ _⟩
 have e0:Z1 b l=match KN b l with
  | some i=>(l,((i+2:Nat):Int))
  | none=>(l++ [b],((l.length+2:Nat):Int)):=by unfold Z1;rw[if_neg h1]
 refine loop Qa [6] (λs:Nat=>[.int .i64 s]) (λs w'=>Ext w1 w'/\s<=n/\∀j,j<s->l[j]? ≠some b) (λs _=>n-s) 0 rfl ⟨Ext.refl _,Xt _,λj hj=>Xd hj (by omega)⟩ ?_;rintro s w2 ⟨Qg,hs,Xa⟩;have QT:=Qd.trans Qg;have Qv:=Qh.ext Qg;refine Qt (λh3=>?_) (λh3=>?_)
 ·refine Xy Qa (Ext w2) 6 [(true,0),(true,1),(true,2),(true,3),(true,4),(true,5)] (by kernel_rfl) (Ext.drew w2) ?_;refine Zh YR (rF.ext QT) rfl (by omega) (λp z hz hc=>?_);refine Xr (vs:=z.cells) rfl (λw' Qb j v hj=>Qb.cell (hc j v hj)) ?_;refine Xr (vs:=b.cells) rfl (λw' Qb j v hj=>by rw[(Qv.ext Qb).cell];exact hj) ?_;have WR:=Qg.trans (Ext.drew w2);by_cases oU:z=b
  ·refine Xe (by rw[kx,XT (ky.1 oU)]) ?_;subst oU;rw[PY Xa hz] at e0;simp only at e0;rw[e0];refine Qj ((s+2:Nat):Int) (by omega) (by omega) ?_;rw[hn];exact⟨A,c,rfl,h.ext (Qd.trans WR),Mod.of_ext _ (Qd.trans WR),Moved.refl _ _⟩
  ·refine Xv (by rw[kx,XS (λe=>oU (ky.2 e))]) ?_;refine Qj ((s+1:Nat):Int) (by omega) (by omega) ?_;refine⟨s+1,rfl,⟨WR,by omega,λj hj=>?_⟩,by show n-(s+1)<n-s;omega⟩;by_cases KX:j<s
   ·exact Xa j KX
   ·have:j=s:=by omega
    subst this;rw[hz];exactλe=>oU (Option.some.inj e)
 ·have:s=n:=by omega
  subst this;rw[PZ (by rw[hn];exact Xa)] at e0;simp only at e0;rw[e0];refine Qs Qv rfl ?_;refine Xm Qa [b.cells] rfl rfl rfl rfl rfl ⟨rfl,rfl,⟨⟩⟩ rfl (λcs h=>by simp only[QF] at h;subst h;rfl) rfl (by decide) (by decide) ?_;intro w3 Qi JF Qw;have QQ:=QT.trans Qi;have qy:Sl w3 3 (some ⟨w2.heap.size,0,none⟩) 1 1 b.cells:=Sl.own (sz:=3) (n:=1) Qw (QD _) (by decide) (by simp[Br.cells]);refine Zk Qa rfl rfl rfl rfl rfl (by decide) rfl rfl ⟨_,rfl⟩ rfl rfl (h.ext QQ) qy (by intro u hu;simp[Br.cells] at hu;rcases hu with rfl | rfl | rfl<;>rfl) (by unfold maxLen;omega) (by show _*24<=_;omega) (X2 hb QQ.size) ?_;intro A' c' w4 KR qz qv;refine Qj ((s+2:Nat):Int) (by omega) (by omega) ?_;have el:(l++ [b]).length=s+1:=by rw[Qy,hn]<;>rfl
  rw[el,hn];refine⟨A',c',rfl,?_,(Mod.of_ext (Qk A) QQ).trans KR (λi hi=>.inl hi),qv.back QQ.size⟩;rw[AR];exact qz
end
section
theorem fQf (pb:Nat)(cs:List Value)(op x y:Int)(w:World)(h:Blk w pb 183 cs)(hc:cs[4]? =some (.int .i64 op))(x0:0<=x)(x1:x<2)(y0:0<=y)(y1:y<2)(ho:op≠3/\op≠4):
  Fn Tryz.prog 160 [.pointer (some ⟨pb,0,none⟩),.int .i64 x,.int .i64 y] w (λv w'=>v= .int .i64 (dG op x y)/\w=w'):=by
 refine Qx (c:={dQo with cuts:=[]}) Qa Tryz.func160 rfl rfl rfl ?_;refine Qp h hc ?_;refine XU (λc0=>?_) (λc0=>?_)
 ·have:0<=x*y/\x*y<=1:=by
   rcases(by omega:x=0∨x=1)with rfl | rfl<;>rcases(by omega:y=0∨y=1)with rfl | rfl<;>decide
  refine Qj (x*y) rfl (by omega) ?_;exact⟨by unfold dG;rw[Qf c0],rfl⟩
 refine XU (λc1=>?_) (λc1=>?_)
 ·refine norm (m:=max x y) (by rw[Int.max_def];split<;>split<;>omega) ?_;exact⟨by unfold dG;rw[if_neg c0,Qf c1],rfl⟩
 ·refine Qj (x+y) rfl (by omega) ?_;refine normIf (m:=(x+y) % 2) (by decide) (Int.tmod_eq_emod_of_nonneg (by omega)) ?_;exact⟨by unfold dG;rw[if_neg c0,if_neg c1,if_neg ho.1,if_neg ho.2],rfl⟩
theorem P0 (A:Option Addr)(n c:Nat)(r m v:Int)(nd:List Br)(w:World)(h:SB w A n c nd)(hm:m<n+2)(dS:v<64):
  Fn Tryz.prog 162 [Xg A n c r,.int .i64 m,.int .i64 v] w (λu w'=>u= .tuple #[.int .i64 (Qm nd m v).1,.int .i64 (Qm nd m v).2]/\Ext w w'):=by
 have Xf:=h.2;have WQ:n<=9223372036854775807:=by have:=h.1.le;have:=h.1.cap;simp only[maxLen] at this;omega
 refine Qx (c:={dQq with cuts:=[]}) Qa Tryz.func162 rfl rfl rfl ?_;refine new (λw1 Qd Q3 Qh=>?_);refine Qs Qh rfl ?_;refine call (wg A n c r m nd w1 (h.ext Qd) hm) ?_;rintro u w2 ⟨rfl,Qg⟩;have QT:=Qd.trans Qg;have Qv:=Qh.ext Qg;refine Yt (λc1=>?_) (λc1=>?_)
 ·exact⟨by unfold Qm;rw[Qf c1],QT⟩
 ·have uQ:¬m<2:=λh2=>by
   unfold Ql at c1;rw[Qf h2] at c1;omega
  have hx:=Xb (show(m-2).toNat<nd.length by omega);generalize nd[(m-2).toNat]=b at hx;have e:Qm nd m v=(b.l,b.h):=by unfold Qm;rw[if_neg (by omega),hx]
  rw[e];refine Xy Qa (Ext w2) 16 [(true,0),(true,1),(true,2),(true,3),(true,4),(true,5),(true,6),(true,7),(true,8),(true,9),(true,10),(true,11),(true,12),(true,13),(true,14),(true,15)] (by kernel_rfl) (Ext.drew w2) ?_;refine QJ (v:=.slice A n c) (λw' Qb=>by rw[(Qv.ext Qb).cell];rfl) ?_;refine Qj (((m-2).toNat:Nat):Int) (by omega) (by omega) ?_;refine Zh YR (h.ext QT) rfl (by omega) (λp z hz hc=>?_);have oU:z=b:=Option.some.inj (hz.symm.trans hx);subst oU;refine QJ (v:=.int .i64 z.l) (λw' Qb=>Qb.cell (hc 1 _ rfl)) ?_;refine QJ (v:=.slice A n c) (λw' Qb=>by rw[(Qv.ext Qb).cell];rfl) ?_;refine Qj (((m-2).toNat:Nat):Int) (by omega) (by omega) ?_;refine Zh YR (h.ext QT) rfl (by omega) (λp' z' YZ Kl=>?_);have MD:z'=z:=Option.some.inj (YZ.symm.trans hx);subst MD;refine QJ (v:=.int .i64 z'.h) (λw' Qb=>Qb.cell (Kl 2 _ rfl)) ?_;exact⟨rfl,QT.trans (Ext.drew w2)⟩
def Tr3.cells (t:Tr3):List Value:=[.int .i64 t.1,.int .i64 t.2.1,.int .i64 t.2.2]
theorem FN (t:Tr3):(Tr3.cells t).length=3:=rfl
def wi (l:List Tr3):List Value:=l.flatMap Tr3.cells
theorem fQg (l:List Tr3)(x:Tr3):wi (l++ [x])=wi l++Tr3.cells x:=by simp[wi]
def AS (pb:Nat)(NA SA:Option Addr):Nat->Prop:=λk=>k=pb∨Qk NA k∨Qk SA k
theorem AS.moved {w:World}{pb:Nat}{NA NA' SA SA':Option Addr}(h:Moved w NA NA')(h':Moved w SA SA'):∀k,AS pb NA' SA' k->AS pb NA SA k∨w.heap.size<=k:=by
 rintro k (rfl | hk | hk)
 ·exact .inl (.inl rfl)
 ·rcases h.rows k hk with h | h
  ·exact .inl (.inr (.inl h))
  ·exact .inr h
 ·rcases h'.rows k hk with h | h
  ·exact .inl (.inr (.inr h))
  ·exact .inr h
structure AD where
 A:Option Addr
 n:Nat
 c:Nat
 a:List Br
 ra:Int
 B:Option Addr
 m:Nat
 d:Nat
 b:List Br
 rb:Int
 op:Int
structure Ap (w0 w:World) (base pb:Nat) (D:AD) (NA:Option Addr) (nc:Nat) (SA:Option Addr) (sc:Nat) (st:List Br×List Tr3):Prop where
 e0:Ext w0 w
 as_:SB w0 D.A D.n D.c D.a
 bs:SB w0 D.B D.m D.d D.b
 p0:w0.heap.size<=pb
 blk:Blk w pb 183 [.slice D.A D.n D.c,.int .i64 D.ra,.slice D.B D.m D.d,.int .i64 D.rb,.int .i64 D.op,.slice NA st.1.length nc,.slice SA st.2.length sc]
 nown:Own w base 105 3 NA st.1.length nc (kC st.1)
 sown:Own w base 242 3 SA st.2.length sc (wi st.2)
 apart:∀i,Qk NA i->¬Qk SA i
 lt:pb<base
 top:base<=w.heap.size
def ATo (w0 w:World)(base pb:Nat)(D:AD)(NA SA:Option Addr)(st:List Br×List Tr3)(w':World):Prop:=∃NA' nc' SA' sc',Ap w0 w' base pb D NA' nc' SA' sc' st/\Mod (AS pb NA SA) w w'/\Moved w NA NA'/\Moved w SA SA'
theorem Ap.grow {w0 w w':World}{base pb:Nat}{D:AD}{NA:Option Addr}{nc:Nat}{SA:Option Addr}{sc:Nat}{st:List Br×List Tr3}(h:Ap w0 w base pb D NA nc SA sc st)(k:Ext w w'):Ap w0 w' base pb D NA nc SA sc st:=
 ⟨h.e0.trans k,h.as_,h.bs,h.p0,h.blk.ext k,h.nown.ext k,h.sown.ext k,h.apart,h.lt,X2 h.top k.size⟩
theorem Ap.kept {w0 w:World}{base pb:Nat}{D:AD}{NA:Option Addr}{nc:Nat}{SA:Option Addr}{sc:Nat}{st:List Br×List Tr3}(h:Ap w0 w base pb D NA nc SA sc st):∀i,AS pb NA SA i->w0.heap.size<=i:=by
 have:=h.p0;have:=h.lt;rintro i (rfl | hi | hi)
 ·omega
 ·have:=(h.nown.rows i hi).1;omega
 ·have:=(h.sown.rows i hi).1;omega
theorem fQh {l:List Tr3}{x y:Int}:∀{s:Nat}{t:Tr3},(∀j u,j<s->l[j]? =some u->¬(u.1=x/\u.2.1=y))->l[s]? =some t->t.1=x/\t.2.1=y->l.find? (λt=>decide (t.1=x/\t.2.1=y))=some t:=by
 induction l with
 | nil=>intro s t _ h;simp at h
 | cons u l ih=>
  intro s t hn h ht;cases s with
  | zero=>simp at h;subst h;rw[bQO (by simp[ht])]
  | succ s=>
   rw[ES (by have:=hn 0 u (by omega) rfl;simpa using this)];exact ih (s:=s) (λj v hj hv=>hn (j+1) v (by omega) (by simpa using hv)) (by simpa using h) ht
theorem fQi {l:List Tr3}{x y:Int}(h:∀j u,j<l.length->l[j]? =some u->¬(u.1=x/\u.2.1=y)):l.find? (λt=>decide (t.1=x/\t.2.1=y))=none:=by
 rw[vo];intro u hu;obtain⟨j,hj,rfl⟩:=vm.1 hu;simpa using h j _ hj (Xb hj)
end
section
theorem P4 (w0:World)(base pb:Nat)(D:AD)(ha:Vw D.a)(hb:Vw D.b)(em:D.n<=1000000000000/\D.m<=1000000000000)(ho:D.op≠3/\D.op≠4):∀(m:Nat)(x y:Int)(st:List Br×List Tr3)(NA SA:Option Addr)(nc sc:Nat)(w:World),
  Ap w0 w base pb D NA nc SA sc st->0<=x->0<=y->x+y<m->x<D.n+2->y<D.m+2->(Xz D.a D.b D.op m x y st).2.1.length<=100000000000->(Xz D.a D.b D.op m x y st).2.2.length<=100000000000->
  Fn Tryz.prog 107 [.pointer (some ⟨pb,0,none⟩),.int .i64 x,.int .i64 y] w (λv w'=>v= .int .i64 (Xz D.a D.b D.op m x y st).1/\ATo w0 w base pb D NA SA (Xz D.a D.b D.op m x y st).2 w')
 | 0,x,y,st,NA,SA,nc,sc,w,_,x0,y0,hm,_,_,_,_=>by omega
 | m+1,x,y,st,NA,SA,nc,sc,w,h,x0,y0,hm,hx,hy,XL,Ke=>by
  have ih:=P4 w0 base pb D ha hb em ho m;have nQ1:=mO D.a D.b D.op (m+1) x y st;have Ka:D.a.length=D.n:=h.as_.2;have aR:D.b.length=D.m:=h.bs.2;refine Qx (c:={cQK with cuts:=[1]}) Qa Tryz.func107 rfl rfl rfl ?_;refine gO [] Qa [] (λ_:Unit=>[]) (λ_ w'=>w=w'/\¬(x<2/\y<2)) ?_ ?_
  ·refine Qt (λc1=>?_) (λc1=>?_)
   ·refine Qt (λc2=>?_) (λc2=>?_)
    ·rw[kE ⟨c1,c2⟩];refine call (fQf pb _ D.op x y w h.blk rfl x0 c1 y0 c2 ho) ?_;rintro v _ ⟨rfl,rfl⟩;exact⟨rfl,NA,nc,SA,sc,h,Mod.refl _ _,Moved.refl _ _,Moved.refl _ _⟩
    ·exact⟨(),rfl,rfl,λhh=>c2 hh.2⟩
   ·exact⟨(),rfl,rfl,λhh=>c1 hh.1⟩
  rintro⟨⟩ _ ⟨rfl,Xl⟩;have ME:SlS Tr3.cells 3 w SA st.2.length sc st.2:=⟨h.sown.sl,rfl⟩
  refine loop Qa [7] (λs:Nat=>[.int .i64 s]) (λs w'=>w=w'/\s<=st.2.length/\∀(j:Nat) (u:Tr3),j<s->st.2[j]? =some u->¬(u.1=x/\u.2.1=y)) (λs _=>st.2.length-s) 0 rfl ⟨rfl,Xt _,λj u hj=>Xd hj (by omega)⟩ ?_;rintro s _ ⟨rfl,hs,Xa⟩;refine Qp h.blk rfl ?_;refine Qt (λh3=>?_) (λh3=>?_)
  ·have again:∀t:Tr3,st.2[s]? =some t->¬(t.1=x/\t.2.1=y)->∀(j:Nat) (u:Tr3),j<s+1->st.2[j]? =some u->¬(u.1=x/\u.2.1=y):=λt ht hn j u hj hu=>by
    by_cases KX:j<s
    ·exact Xa j u KX hu
    ·have:j=s:=by omega
     subst this;rw[Option.some.inj (hu.symm.trans ht)];exact hn
   refine Qp h.blk rfl ?_;refine Zh FN ME rfl (by omega) (λp t ht hc=>?_);refine index (j:=0) (by decide) ?_;refine load (hc 0 _ rfl) ?_;refine XU (λe1=>?_) (λe1=>?_)
   ·refine Qp h.blk rfl ?_;refine Zh FN ME rfl (by omega) (λp' t' ht' Kl=>?_);have yV:t'=t:=Option.some.inj (ht'.symm.trans ht);subst yV;refine index (j:=1) (by decide) ?_;refine load (Kl 1 _ rfl) ?_;refine XU (λe2=>?_) (λe2=>?_)
    ·refine Qp h.blk rfl ?_;refine Zh FN ME rfl (by omega) (λp2 t2 dT KV=>?_);have kQn:t2=t':=Option.some.inj (dT.symm.trans ht);subst kQn;refine index (j:=2) (by decide) ?_;refine load (KV 2 _ rfl) ?_;rw[kF Xl (fQh Xa ht ⟨e1,e2⟩)];exact⟨rfl,NA,nc,SA,sc,h,Mod.refl _ _,Moved.refl _ _,Moved.refl _ _⟩
    ·refine Qj ((s+1:Nat):Int) (by omega) (by omega) ?_;exact⟨s+1,rfl,⟨rfl,by omega,again t' ht (λhh=>e2 hh.2)⟩,by show st.2.length-(s+1)<st.2.length-s;omega⟩
   ·refine Qj ((s+1:Nat):Int) (by omega) (by omega) ?_;exact⟨s+1,rfl,⟨rfl,by omega,again t ht (λhh=>e1 hh.1)⟩,by show st.2.length-(s+1)<st.2.length-s;omega⟩
  have rG:s=st.2.length:=by omega
  subst rG;have MF:=fQi Xa;have CI:=h.e0;refine Xy Qa (Ext w) 13 [(true,0),(true,1),(true,2),(true,3),(true,4),(true,6),(true,7),(true,8),(true,9),(true,10),(false,5),(false,11),(true,12)] (by kernel_rfl) (Ext.drew w) ?_;refine Xr (vs:=[.slice D.A D.n D.c,.int .i64 D.ra]) rfl (λw' Qb j v hj=>by
   rw[add_add,(h.blk.ext Qb).cell]
   match j,hj with
   | 0,hj=>exact hj
   | 1,hj=>exact hj) ?_
  refine Xr (vs:=[.slice D.B D.m D.d,.int .i64 D.rb]) rfl (λw' Qb j v hj=>by
   rw[add_add,(h.blk.ext Qb).cell]
   match j,hj with
   | 0,hj=>exact hj
   | 1,hj=>exact hj) ?_
  refine call (wg D.A D.n D.c D.ra x D.a _ (h.as_.ext (CI.trans (Ext.drew w))) hx) ?_;rintro v w1 ⟨rfl,Qd⟩;have H4:=(Ext.drew w).trans Qd;refine⟨H4,?_⟩;refine call (wg D.B D.m D.d D.rb y D.b w1 (h.bs.ext (CI.trans H4)) hy) ?_;rintro v w2 ⟨rfl,Qg⟩;have QT:=H4.trans Qg;refine⟨QT,?_⟩;refine norm (m:=min (Ql D.a x) (Ql D.b y)) (by rw[Z5];split<;>split<;>omega) ?_;have ZD:min (Ql D.a x) (Ql D.b y)<64:=by
   by_cases c:x<2
   ·have:=aE hb (n:=y) (λc2=>Xl ⟨c,c2⟩) (by omega);rw[Z5];split<;>omega
   ·have:=aE ha (n:=x) c (by omega);rw[Z5];split<;>omega
  have fL:Ql D.a x=min (Ql D.a x) (Ql D.b y)∨Ql D.b y=min (Ql D.a x) (Ql D.b y):=by rw[Z5];split<;>simp
  have uP:=kG (a:=D.a) (b:=D.b) (op:=D.op) (m:=m) Xl MF _ rfl;rw[uP] at XL Ke ⊢;generalize min (Ql D.a x) (Ql D.b y)=v at*;obtain⟨s1,s2,s3,s4,s5⟩:=WC ha (n:=x) x0 ZD;obtain⟨t1,t2,t3,t4,t5⟩:=WC hb (n:=y) y0 ZD;have dec:(Qm D.a x v).1+(Qm D.b y v).1<m/\(Qm D.a x v).2+(Qm D.b y v).2<m:=by
   rcases fL with e | e
   ·have:=s5 e;omega
   ·have:=t5 e;omega
  have h2:=h.grow QT;refine Kb (vs:=[.slice D.A D.n D.c,.int .i64 D.ra]) rfl (λj v hj=>by
   rw[add_add,h2.blk.cell]
   match j,hj with
   | 0,hj=>exact hj
   | 1,hj=>exact hj) ?_
  refine call (P0 D.A D.n D.c D.ra x v D.a w2 (h2.as_.ext h2.e0) hx ZD) ?_;rintro _ w3 ⟨rfl,Qi⟩;have ny:=h2.grow Qi;refine Kb (vs:=[.slice D.B D.m D.d,.int .i64 D.rb]) rfl (λj v hj=>by
   rw[add_add,ny.blk.cell]
   match j,hj with
   | 0,hj=>exact hj
   | 1,hj=>exact hj) ?_
  refine call (P0 D.B D.m D.d D.rb y v D.b w3 (ny.bs.ext ny.e0) hy ZD) ?_;rintro _ w4 ⟨rfl,Qq⟩;have XI:=(QT.trans Qi).trans Qq;have h4:=ny.grow Qq;have mQX:=mO D.a D.b D.op m (Qm D.a x v).1 (Qm D.b y v).1 st;have mQY:=mO D.a D.b D.op m (Qm D.a x v).2 (Qm D.b y v).2 (Xz D.a D.b D.op m (Qm D.a x v).1 (Qm D.b y v).1 st).2;simp only[Qy,Xs,JI] at XL Ke;have ulen:=wh ⟨v,(Xz D.a D.b D.op m (Qm D.a x v).1 (Qm D.b y v).1 st).1,(Xz D.a D.b D.op m (Qm D.a x v).2 (Qm D.b y v).2 (Xz D.a D.b D.op m (Qm D.a x v).1 (Qm D.b y v).1 st).2).1⟩ (Xz D.a D.b D.op m (Qm D.a x v).2 (Qm D.b y v).2 (Xz D.a D.b D.op m (Qm D.a x v).1 (Qm D.b y v).1 st).2).2.1;refine call (ih _ _ st NA SA nc sc w4 h4 s1 t1 dec.1 (by omega) (by omega) (by omega) (by omega)) ?_;rintro _ w5 ⟨rfl,NA5,nc5,SA5,sc5,h5,Z9,H5,H6⟩;refine call (ih _ _ _ NA5 SA5 nc5 sc5 w5 h5 s3 t3 dec.2 (by omega) (by omega) (by omega) (by omega)) ?_;rintro _ w6 ⟨rfl,NA6,nc6,SA6,sc6,h6,J5,xr,HS⟩;have nJ:=Z9.trans J5 (AS.moved H5 H6);have U7:=H5.trans xr Z9.size;have U8:=H6.trans HS Z9.size;generalize (Xz D.a D.b D.op m (Qm D.a x v).1 (Qm D.b y v).1 st)=r0 at*;generalize (Xz D.a D.b D.op m (Qm D.a x v).2 (Qm D.b y v).2 r0.2)=r1 at*;have kQo:=h6.nown.rows;have kQp:=h6.sown.rows;have mQZ:=h6.lt;have mQ0:=h6.top;refine Qp h6.blk rfl ?_;refine call (fQe base NA6 _ nc6 r1.2.1 ⟨v,r0.1,r1.1⟩ w6 h6.nown rfl h6.top (by omega)) ?_;rintro _ w7 ⟨NA7,nc7,rfl,ui,Xi,U9⟩;have Q4:=h6.blk.mod Xi (λe=>by have:=(kQo _ e).1;omega);have KF:=h6.sown.mod Xi (λi hi e=>h6.apart i e hi);generalize Z1 ⟨v,r0.1,r1.1⟩ r1.2.1=u at*;refine XQ Q4 (by simp) (λw8 Zo XB=>?_);have kQq:=ui.mod Zo (λi hi e=>by have:=(ui.rows i hi).1;omega);have bq:=KF.mod Zo (λi hi e=>by have:=(KF.rows i hi).1;omega);refine Qp XB rfl ?_;refine Xm Qa [Tr3.cells (x,y,u.2)] rfl rfl rfl rfl rfl ⟨rfl,rfl,⟨⟩⟩ rfl (λcs h=>by simp only[QF] at h;subst h;rfl) rfl (by decide) (by decide) ?_;intro w9 Xo ff Z8;have CC:Sl w9 3 (some ⟨w8.heap.size,0,none⟩) 1 1 (Tr3.cells (x,y,u.2)):=Sl.own (sz:=3) (n:=1) Z8 (QD _) (by decide) (by simp[Tr3.cells]);have z7:=Xi.size;have z8:=Zo.size;have z9:=Xo.size;refine Zk Qa rfl rfl rfl rfl rfl (by decide) rfl rfl ⟨_,rfl⟩ rfl rfl (bq.ext Xo) CC (by intro u hu;simp[Tr3.cells] at hu;rcases hu with rfl | rfl | rfl<;>rfl) (by unfold maxLen;omega) (by show _*24<=_;omega) (by omega) ?_;intro SA10 H7 QE Zu aQa nK;have kQr:=bq.rows;refine XQ ((XB.ext Xo).mod Zu (λe=>by have:=(kQr _ e).1;omega)) (by simp) (λQH Zy ZJ=>?_);have aQb:∀i,Qk NA7 i->¬Qk SA6 i:=λi hi e=>by
   rcases U9.rows i hi with hh | hh
   ·exact h6.apart i hh e
   ·have:=(kQp i e).2;omega
  have kQs:∀i,Qk NA7 i->¬Qk SA10 i:=λi hi e=>by
   rcases nK.rows i e with hh | hh
   ·exact aQb i hi hh
   ·have:=(ui.rows i hi).2;omega
  have kQt:=((kQq.ext Xo).mod Zu (λi hi e=>aQb i hi e)).mod Zy (λi hi e=>by have:=(ui.rows i hi).1;omega);have qA:=aQa.mod Zy (λi hi e=>by have:=(aQa.rows i hi).1;omega);have aQc:Mod (AS pb NA6 SA6) w6 QH:=((((Xi.mono (λi hi=>.inl (.inr (.inl hi)))).trans Zo (λi hi=>.inl (.inl hi))).trans (Mod.of_ext (AS pb NA6 SA6) Xo) (λi hi=>.inl hi)).trans Zu (λi hi=>.inl (.inr (.inr hi)))).trans Zy (λi hi=>.inl (.inl hi));have mQl:=nJ.trans aQc (AS.moved U7 U8);have el:(r1.2.2++ [((x,y,u.2):Tr3)]).length=r1.2.2.length+1:=by simp
  refine⟨rfl,NA7,nc7,SA10,H7,⟨aQc.ext h6.e0 h6.kept,h.as_,h.bs,h.p0,?_,kQt,?_,kQs,h.lt,?_⟩,(Mod.of_ext (AS pb NA SA) XI).trans mQl (λi hi=>.inl hi),?_,?_⟩
  ·show Blk QH pb _ [_,_,_,_,_,_,.slice SA10 (r1.2.2++ [((x,y,u.2):Tr3)]).length H7];rw[el];exact ZJ
  ·show Own QH base _ 3 SA10 (r1.2.2++ [((x,y,u.2):Tr3)]).length H7 (wi (r1.2.2++ [((x,y,u.2):Tr3)]));rw[el,fQg];exact qA
  ·have:=Zu.size;have:=Zy.size;omega
  ·exact(U7.back XI.size).trans U9 (by have:=XI.size;have:=nJ.size;omega)
  ·exact(U8.back XI.size).trans (nK.back (by omega)) (by have:=XI.size;have:=nJ.size;omega)
end
section
def P5 (st:List Br×List Tr3):Prop:=WZ st.1/\∀t∈st.2,0<=t.2.2/\t.2.2<st.1.length+2
theorem fQj {b:Br}{l:List Br}(hw:WZ l)(h1:0<=b.l)(h2:b.l<l.length+2)(h3:0<=b.h)(h4:b.h<l.length+2):WZ (Z1 b l).1/\0<=(Z1 b l).2/\(Z1 b l).2<(Z1 b l).1.length+2:=by
 have idx:∀{l:List Br} {i:Nat},KN b l=some i->i<l.length:=by
  intro l;induction l with
  | nil=>intro i h;cases h
  | cons x l ih=>
   intro i h;unfold KN at h;split at h
   ·cases h;simp
   ·cases hf:KN b l with
    | none=>rw[hf] at h;cases h
    | some k=>rw[hf] at h;cases h;have:=ih hf;simp;omega
 unfold Z1;split
 ·exact⟨hw,h1,h2⟩
 ·split
  ·rename_i i hi;have:=idx hi;exact⟨hw,by omega,by simp only;omega⟩
  ·refine⟨λj x hx=>?_,by omega,by simp only[Qy,Xs,JI];omega⟩;by_cases hj:j<l.length
   ·rw[ew hj] at hx;exact hw j x hx
   ·rw[aU (by omega)] at hx;have nz:j-l.length=0:=by
     cases hk:j-l.length with
     | zero=>rfl
     | succ k=>rw[hk] at hx;simp at hx
    rw[nz] at hx;simp at hx;subst hx;omega
theorem FO {op x y:Int}(x0:0<=x)(x1:x<2)(y0:0<=y)(y1:y<2):0<=dG op x y/\dG op x y<2:=by
 unfold dG;rcases(by omega:x=0∨x=1)with rfl | rfl<;>rcases(by omega:y=0∨y=1)with rfl | rfl<;>(split<;>first | decide | (split<;>first | decide | (split<;>first | decide | (split<;>decide))))
theorem wj {a b:List Br}(ha:Vw a)(hb:Vw b)(op:Int):∀(m:Nat)(x y:Int)(st:List Br×List Tr3),P5 st->0<=x->0<=y->x<a.length+2->y<b.length+2->
  P5 (Xz a b op m x y st).2/\0<=(Xz a b op m x y st).1/\(Xz a b op m x y st).1<(Xz a b op m x y st).2.1.length+2
 | 0,x,y,st,h,_,_,_,_=>⟨h,mv _,by show(0:Int)<st.1.length+2;omega⟩
 | m+1,x,y,st,h,x0,y0,hx,hy=>by
  by_cases Xl:x<2/\y<2
  ·rw[kE Xl];have:=FO (op:=op) x0 Xl.1 y0 Xl.2;exact⟨h,this.1,by simp only;omega⟩
  cases k:st.2.find? (λt=>decide (t.1=x/\t.2.1=y))with
  | some t=>
   rw[kF Xl k];have:=h.2 t (bQP k);exact⟨h,this.1,this.2⟩
  | none=>
   have ZD:min (Ql a x) (Ql b y)<64:=by
    by_cases c:x<2
    ·have:=aE hb (n:=y) (λc2=>Xl ⟨c,c2⟩) (by omega);rw[Z5];split<;>omega
    ·have:=aE ha (n:=x) c (by omega);rw[Z5];split<;>omega
   rw[kG Xl k _ rfl];generalize min (Ql a x) (Ql b y)=v at*;obtain⟨s1,s2,s3,s4,s5⟩:=WC ha (n:=x) x0 ZD;obtain⟨t1,t2,t3,t4,t5⟩:=WC hb (n:=y) y0 ZD;have i1:=wj ha hb op m (Qm a x v).1 (Qm b y v).1 st h s1 t1 (by omega) (by omega);have m2:=mO a b op m (Qm a x v).2 (Qm b y v).2 (Xz a b op m (Qm a x v).1 (Qm b y v).1 st).2;generalize (Xz a b op m (Qm a x v).1 (Qm b y v).1 st)=r0 at*;have i2:=wj ha hb op m (Qm a x v).2 (Qm b y v).2 r0.2 i1.1 s3 t3 (by omega) (by omega);generalize (Xz a b op m (Qm a x v).2 (Qm b y v).2 r0.2)=r1 at*;have hu:=fQj (b:=⟨v,r0.1,r1.1⟩) (l:=r1.2.1) i2.1.1 i1.2.1 (by have:=i1.2.2;simp only;omega) i2.2.1 i2.2.2;have MG:=wh ⟨v,r0.1,r1.1⟩ r1.2.1;generalize Z1 ⟨v,r0.1,r1.1⟩ r1.2.1=u at*;refine⟨⟨hu.1,λt ht=>?_⟩,hu.2.1,hu.2.2⟩;simp only[XH,QF] at ht;rcases ht with ht | rfl
   ·have:=i2.1.2 t ht;exact⟨this.1,by simp only;omega⟩
   ·exact⟨hu.2.1,hu.2.2⟩
def kH (a:List Br)(ra:Int)(b:List Br)(rb op:Int):Int×(List Br×List Tr3):=Xz a b op (ra.toNat+rb.toNat+1) ra rb ([],[])
def VV (a:List Br)(ra:Int)(b:List Br)(rb op:Int):List Br×Int:=bM (kH a ra b rb op).2.1 (kH a ra b rb op).1
def ji (d:List Br×Int):(List Br×Int)×Int:=if 4096<d.1.length then(([],0),2)else(d,0)
def eK (a:List Br)(ra:Int)(b:List Br)(rb op:Int):(List Br×Int)×Int:=if XK a ra≠0 then(([],0),XK a ra)else if XK b rb≠0 then(([],0),XK b rb)else ji (VV a ra b rb op)
def pM (w:World)(r:(List Br×Int)×Int)(v:Value)(w':World):Prop:=∃A n c,v= .tuple #[Xg A n c r.1.2,.int .i64 r.2]/\Ext w w'/\SB w' A n c r.1.1/\∀i,Qk A i->w.heap.size<=i
theorem fQk (A:Option Addr)(n c:Nat)(a:List Br)(ra:Int)(B:Option Addr)(m d:Nat)(b:List Br)(rb op:Int)(w:World)(h:SB w A n c a)(h':SB w B m d b)(ha:Vw a)(hb:Vw b)(r0:0<=ra)(r1:ra<n+2)(s0:0<=rb)(s1:rb<m+2)(hn:n<=1000000000000)(hm:m<=1000000000000)
  (XL:(kH a ra b rb op).2.1.length<=100000000000) (Ke:(kH a ra b rb op).2.2.length<=100000000000) (ho:op≠3/\op≠4):
  Fn Tryz.prog 58 [Xg A n c ra,Xg B m d rb,.int .i64 op] w (vZ w (VV a ra b rb op)):=by
 have Ka:=h.2;have aR:=h'.2;refine Qx (c:={c58 with cuts:=[]}) Qa Tryz.func58 rfl rfl rfl ?_;refine new (λw1 Qd Q3 Qh=>?_);refine new (λw2 Qg X0 Qv=>?_);refine new (λw3 Qi JF Qw=>?_);have QQ:=(Qd.trans Qg).trans Qi;have Kh:=(Qh.ext Qg).ext Qi;have nL:=Qv.ext Qi;refine Qs Kh rfl ?_;refine Qs nL rfl ?_;refine new (λw4 Qq K5 Q6=>?_);have XI:=QQ.trans Qq
 let D:AD:=⟨A,n,c,a,ra,B,m,d,b,rb,op⟩
 have hA:Ap w3 w4 w4.heap.size w3.heap.size D none 0 none 0 ([],[]):=⟨Qq,h.ext QQ,h'.ext QQ,QD _,Q6,Own.nil _ _ _ _,Own.nil _ _ _ _,(λi hi=>by obtain⟨_,e,_⟩:=hi;cases e),(by omega),QD _⟩
 refine Qp (Kh.ext Qq) rfl ?_;refine Qp (nL.ext Qq) rfl ?_;have inv:=wj ha hb op (ra.toNat+rb.toNat+1) ra rb ([],[]) ⟨λj x hx=>by simp at hx,λt ht=>by simp at ht⟩ r0 s0 (by omega) (by omega);refine call (P4 w3 w4.heap.size w3.heap.size D ha hb ⟨hn,hm⟩ ho (ra.toNat+rb.toNat+1) ra rb ([],[]) none none 0 0 w4 hA r0 s0 (by omega) r1 s1 XL Ke) ?_;rintro v w5 ⟨rfl,NA,nc,SA,sc1,H8,Z9,H5,H6⟩;have Qz:Ext w3 w5:=H8.e0;have J6:=QQ.trans Qz;refine Qp H8.blk rfl ?_;refine call (PW NA _ nc _ _ w5 ⟨H8.nown.sl,rfl⟩ inv.1.1 (by have:(kH a ra b rb op).2.1.length<=100000000000:=XL;exact X2 this (by decide)) inv.2.1 inv.2.2) ?_;rintro v w6 ⟨OA,k,oc,rfl,Xh,cT,ie⟩;refine QB ((Qw.ext Qz).ext Xh) rfl (sc rfl) (λw7 ZC _ Q4=>?_);have Xi:Mod (·=w2.heap.size) w6 w7:=oQh ZC rfl;refine Qs Q4 rfl ?_;have z5:=Qz.size;have nr:∀i,Qk OA i->¬i=w2.heap.size:=λi hi e=>by have:=ie i hi;omega
 refine⟨OA,k,oc,rfl,Xi.ext (J6.trans Xh) (λi hi=>by have:=Qd.size;have:=Qg.size;omega),⟨cT.1.modS Xi (λ_ i hi=>nr i hi),cT.2⟩,λi hi=>by have:=ie i hi;have:=J6.size;omega⟩
theorem P6 (k:Int)(w:World)(h0:0<=k)(h1:k<=63):Fn Tryz.prog 30 [.int .i64 k] w (pM w (([⟨k,0,1⟩],2),0)):=by
 refine Qx (c:={c30 with cuts:=[]}) Qa Tryz.func30 rfl rfl rfl ?_;refine new (λw1 Qd Q3 Qh=>?_);refine Xx (by omega) ?_;refine Xx (by omega) ?_;refine Xm Qa [(⟨k,0,1⟩:Br).cells] rfl rfl rfl rfl rfl ⟨rfl,rfl,⟨⟩⟩ rfl (λcs h=>by simp only[QF] at h;subst h;rfl) rfl (by decide) (by decide) ?_;intro w2 Qg X0 Qv;refine QB (Qh.ext Qg) rfl (sc rfl) (λw3 ZZ _ Qw=>?_);have Z3:Mod (·=w.heap.size) w2 w3:=oQh ZZ rfl;refine Qs Qw rfl ?_;refine⟨some ⟨w1.heap.size,0,none⟩,1,1,rfl,Z3.ext (Qd.trans Qg) (λi hi=>by omega),⟨Sl.own (sz:=3) (n:=1) (Qv.mod Z3 (by omega)) (QD _) (by decide) (by simp[Br.cells]),rfl⟩,λi ⟨ad,e,hi⟩=>by cases e;simp only at hi;omega⟩
end
section
structure DV where
 A:Option Addr
 n:Nat
 c:Nat
 nd:List Br
 r:Int
def DV.cells (x:DV):List Value:=[.slice x.A x.n x.c,.int .i64 x.r]
theorem cB (x:DV):x.cells.length=2:=rfl
def a8:List DV->Int
 | []=>0
 | x::l=>if XK x.nd x.r≠0 then XK x.nd x.r else a8 l
theorem P7 {l:List DV}:∀{s:Nat}{x:DV},(∀j y,j<s->l[j]? =some y->XK y.nd y.r=0)->l[s]? =some x->XK x.nd x.r≠0->a8 l=XK x.nd x.r:=by
 induction l with
 | nil=>intro s x _ h;simp at h
 | cons y l ih=>
  intro s x hn h hx;cases s with
  | zero=>simp at h;subst h;rw[a8,Qf hx]
  | succ s=>
   rw[a8,if_neg (λhh=>hh (hn 0 y (by omega) rfl))];exact ih (s:=s) (λj z hj hz=>hn (j+1) z (by omega) (by simpa using hz)) (by simpa using h) hx
theorem FP {l:List DV}(h:∀j y,j<l.length->l[j]? =some y->XK y.nd y.r=0):a8 l=0:=by
 induction l with
 | nil=>rfl
 | cons y l ih=>
  rw[a8,if_neg (λhh=>hh (h 0 y (by simp) rfl))];exact ih (λj z hj hz=>h (j+1) z (by simpa using hj) (by simpa using hz))
theorem fQl (F:Option Addr)(m cf:Nat)(L:List DV)(w:World)(h:SlS DV.cells 2 w F m cf L)(hL:∀x∈L,SB w x.A x.n x.c x.nd):
  Fn Tryz.prog 121 [.slice F m cf] w (λv w'=>v= .int .i64 (a8 L)/\Ext w w'):=by
 have Xf:=h.2;have WQ:m<=9223372036854775807:=by have:=h.1.le;have:=h.1.cap;simp only[maxLen] at this;omega
 refine Qx (c:={cQX with cuts:=[]}) Qa Tryz.func121 rfl rfl rfl ?_;refine loop Qa [3] (λs:Nat=>[.int .i64 s]) (λs w'=>Ext w w'/\s<=m/\∀(j:Nat) (y:DV),j<s->L[j]? =some y->XK y.nd y.r=0) (λs _=>m-s) 0 rfl ⟨Ext.refl w,Xt _,λj y hj=>Xd hj (by omega)⟩ ?_;rintro s w1 ⟨Qd,hs,hall⟩;refine Qt (λh2=>?_) (λh2=>?_)
 ·refine Zh cB (h.ext Qd) rfl (by omega) (λp x hx hc=>?_);refine Kb (vs:=x.cells) rfl hc ?_;refine call (PX x.A x.n x.c x.nd x.r w1 ((hL x (Q2 hx)).ext Qd)) ?_;rintro v w2 ⟨rfl,Qg⟩;refine Yt (λc1=>?_) (λc1=>?_)
  ·exact⟨by rw[P7 hall hx c1],Qd.trans Qg⟩
  ·refine Qj ((s+1:Nat):Int) (by omega) (by omega) ?_;refine⟨s+1,rfl,⟨Qd.trans Qg,by omega,λj y hj hy=>?_⟩,by show m-(s+1)<m-s;omega⟩;by_cases KX:j<s
   ·exact hall j y KX hy
   ·have:j=s:=by omega
    subst this;rw[Option.some.inj (hy.symm.trans hx)];exact c1
 ·exact⟨by rw[FP (λj y hj hy=>hall j y (by omega) hy)],Qd⟩
end
end
section
section
def dH (nd:List Br):Nat->Int->(Nat->Bool)->Bool
 | 0,n,_=>decide (n=1)
 | m+1,n,e=>if n<2 then decide (n=1)else match nd[(n-2).toNat]? with
  | none=>false
  | some b=>if e b.v.toNat then dH nd m b.h e else dH nd m b.l e
def ev (nd:List Br)(n:Int)(e:Nat->Bool):Bool:=dH nd n.toNat n e
theorem kI {nd:List Br}{m:Nat}{n:Int}{e:Nat->Bool}(h:n<2):dH nd m n e=decide (n=1):=by
 cases m with
 | zero=>rfl
 | succ m=>rw[dH,Qf h]
theorem AW {nd:List Br}(hw:WZ nd):∀(m m':Nat)(n:Int)(e:Nat->Bool),n<=m->n<=m'->dH nd m n e=dH nd m' n e
 | 0,m',n,e,h,_=>by rw[kI (by omega),kI (by omega)]
 | m+1,0,n,e,_,h=>by rw[kI (by omega),kI (by omega)]
 | m+1,m'+1,n,e,h,h'=>by
  by_cases hn:n<2
  ·rw[kI hn,kI hn]
  ·rw[dH,dH,if_neg hn,if_neg hn];cases hb:nd[(n-2).toNat]? with
   | none=>rfl
   | some b=>
    obtain⟨h1,h2,h3,h4⟩:=hw _ _ hb;simp only;rw[AW hw m m' b.h e (by omega) (by omega),AW hw m m' b.l e (by omega) (by omega)]
theorem JP {nd:List Br}{n:Int}{e:Nat->Bool}(h:n<2):ev nd n e=decide (n=1):=kI h
theorem cC {nd:List Br}(hw:WZ nd){n:Int}{e:Nat->Bool}{b:Br}(h:¬n<2)(hb:nd[(n-2).toNat]? =some b):ev nd n e=if e b.v.toNat then ev nd b.h e else ev nd b.l e:=by
 obtain⟨h1,h2,h3,h4⟩:=hw _ _ hb;unfold ev;obtain⟨k,hk⟩:∃k,n.toNat=k+1:=⟨n.toNat-1,by omega⟩
 rw[hk,dH,if_neg h,hb];simp only;rw[AW hw k b.h.toNat b.h e (by omega) (by omega),AW hw k b.l.toNat b.l e (by omega) (by omega)]
def Rd0 (nd:List Br):Prop:=∀(j:Nat)(b:Br),nd[j]? =some b->gc nd j b
theorem Rd0.wf {nd:List Br}(h:Rd0 nd):WZ nd:=λj x hx=>by
 obtain⟨_,_,h1,h2,h3,h4,_⟩:=h j x hx;exact⟨h1,h2,h3,h4⟩
theorem VD.rd0 {nd:List Br}{r:Int}(h:VD nd r):Rd0 nd:=h.1
theorem dI {nd:List Br}{n:Int}{b:Br}(h:¬n<2)(hb:nd[(n-2).toNat]? =some b):Ql nd n=b.v:=by unfold Ql;rw[if_neg h,hb]<;>rfl
def Yx (e:Nat->Bool)(v:Nat)(x:Bool):Nat->Bool:=λk=>if k=v then x else e k
theorem WD {nd:List Br}{n:Int}(h:¬n<2)(hn:n<nd.length+2):∃b,nd[(n-2).toNat]? =some b:=⟨_,Xb (by omega)⟩
theorem dJ {nd:List Br}(h:Rd0 nd)(v:Nat)(x:Bool)(e:Nat->Bool):∀(m:Nat)(n:Int),n.toNat<m->n<nd.length+2->(v:Int)<Ql nd n->ev nd n (Yx e v x)=ev nd n e
 | 0,n,hm,_,_=>by omega
 | m+1,n,hm,hn,hv=>by
  by_cases h2:n<2
  ·rw[JP h2,JP h2]
  obtain⟨b,hb⟩:=WD h2 hn;obtain⟨b1,b2,b3,b4,b5,b6,b7,b8,b9,br⟩:=h _ _ hb;rw[dI h2 hb] at hv;rw[cC h.wf h2 hb,cC h.wf h2 hb,dJ h v x e m b.h (by omega) (by omega) (by omega),dJ h v x e m b.l (by omega) (by omega) (by omega)];have:Yx e v x b.v.toNat=e b.v.toNat:=by unfold Yx;rw[if_neg (by omega)]
  rw[this]
def Eqv (nd:List Br)(n:Int)(X6:List Br)(n':Int):Prop:=∀e,ev nd n e=ev X6 n' e
theorem Eqv.symm {nd X6:List Br}{n n':Int}(h:Eqv nd n X6 n'):Eqv X6 n' nd n:=λe=>(h e).symm
theorem Eqv.trans {nd X6 jB:List Br}{n n' n2:Int}(h:Eqv nd n X6 n')(k:Eqv X6 n' jB n2):Eqv nd n jB n2:=λe=>(h e).trans (k e)
def AX (nd:List Br)(m:Nat):Prop:=∀(n n':Int),0<=n->0<=n'->n<m->n'<m->n<nd.length+2->n'<nd.length+2->Eqv nd n nd n'->n=n'
theorem wk {nd:List Br}(h:Rd0 nd){n:Int}{b:Br}(h2:¬n<2)(hb:nd[(n-2).toNat]? =some b)(hn:n<nd.length+2)(e:Nat->Bool):ev nd n (Yx e b.v.toNat true)=ev nd b.h e/\ev nd n (Yx e b.v.toNat false)=ev nd b.l e:=by
 obtain⟨b1,b2,b3,b4,b5,b6,b7,b8,b9,br⟩:=h _ _ hb;have e1:Yx e b.v.toNat true b.v.toNat=true:=by unfold Yx;rw[Qf rfl]
 have e2:Yx e b.v.toNat false b.v.toNat=false:=by unfold Yx;rw[Qf rfl]
 rw[cC h.wf h2 hb,cC h.wf h2 hb,e1,e2,Qf rfl,if_neg (by decide)];exact⟨dJ h _ _ _ (b.h.toNat+1) _ (by omega) (by omega) (by omega),dJ h _ _ _ (b.l.toNat+1) _ (by omega) (by omega) (by omega)⟩
theorem dep {nd:List Br}(h:Rd0 nd){n:Int}{m:Nat}{b:Br}(hi:AX nd m)(h2:¬n<2)(hb:nd[(n-2).toNat]? =some b)(hn:n<nd.length+2)(hm:n<=m):∃e,ev nd n (Yx e b.v.toNat true)≠ev nd n (Yx e b.v.toNat false):=by
 obtain⟨b1,b2,b3,b4,b5,b6,b7,b8,b9,br⟩:=h _ _ hb;refine Classical.byContradiction (λQK=>b7 ?_);refine hi b.l b.h b3 b5 (by omega) (by omega) (by omega) (by omega) (λe=>?_);have:=wk h h2 hb hn e;rw[<-this.1,<-this.2];refine Classical.byContradiction (λhh=>QK ⟨e,λh3=>hh h3.symm⟩)
theorem td {nd X6:List Br}(h:Rd0 nd){n n':Int}{m:Nat}(hi:AX nd m)(hm:n<=m)(hn:n<nd.length+2)(h2:n'<2)(k:Eqv nd n X6 n'):n<2:=by
 refine Classical.byContradiction (λhh=>?_);obtain⟨b,hb⟩:=WD hh hn;obtain⟨e,he⟩:=dep h hi hh hb hn hm;apply he;rw[k,k,JP h2,JP h2]
theorem tf {nd X6:List Br}(h:Rd0 nd)(h':Rd0 X6){n n':Int}{m:Nat}{b b':Br}(hi:AX nd m)(hm:n<=m)(hn:n<nd.length+2)(Kz:n'<X6.length+2)(h2:¬n<2)(Jp:¬n'<2)(hb:nd[(n-2).toNat]? =some b)(hb':X6[(n'-2).toNat]? =some b')(k:Eqv nd n X6 n'):b'.v<=b.v:=by
 refine Classical.byContradiction (λhh=>?_);obtain⟨e,he⟩:=dep h hi h2 hb hn hm;apply he;obtain⟨b1,_⟩:=h _ _ hb;rw[k,k,dJ h' _ _ _ (n'.toNat+1) _ (by omega) Kz (by rw[dI Jp hb'];omega),dJ h' _ _ _ (n'.toNat+1) _ (by omega) Kz (by rw[dI Jp hb'];omega)]
theorem P8 {nd X6:List Br}(h:Rd0 nd)(h':Rd0 X6){n n':Int}{b b':Br}(hn:n<nd.length+2)(Kz:n'<X6.length+2)(h2:¬n<2)(Jp:¬n'<2)(hb:nd[(n-2).toNat]? =some b)(hb':X6[(n'-2).toNat]? =some b')(k:Eqv nd n X6 n')(hv:b.v=b'.v):Eqv nd b.l X6 b'.l/\Eqv nd b.h X6 b'.h:=by
 refine⟨λe=>?_,λe=>?_⟩
 ·rw[<-(wk h h2 hb hn e).2,<-(wk h' Jp hb' Kz e).2,k,hv]
 ·rw[<-(wk h h2 hb hn e).1,<-(wk h' Jp hb' Kz e).1,k,hv]
theorem tg {nd:List Br}(h:Rd0 nd):∀m,AX nd m
 | 0=>λn n' h0 _ hm _ _ _ _=>by omega
 | m+1=>λn n' h0 uj hm Ek hn Kz k=>by
  have ih:=tg h m;by_cases h2:n<2
  ·have Jp:n'<2:=td h ih (by omega) Kz h2 k.symm;have:=k (λ_=>true);rw[JP h2,JP Jp,mB] at this;omega
  by_cases Jp:n'<2
  ·exact Xd (td h ih (by omega) hn Jp k) h2
  obtain⟨b,hb⟩:=WD h2 hn;obtain⟨b',hb'⟩:=WD Jp Kz;have hv:b.v=b'.v:=Int.le_antisymm (tf h h ih (by omega) Kz hn Jp h2 hb' hb k.symm) (tf h h ih (by omega) hn Kz h2 Jp hb hb' k);obtain⟨k1,k2⟩:=P8 h h hn Kz h2 Jp hb hb' k hv;obtain⟨b1,b2,b3,b4,b5,b6,b7,b8,b9,br⟩:=h _ _ hb;obtain⟨c1,c2,c3,c4,c5,c6,c7,c8,c9,sL⟩:=h _ _ hb';have el:=ih b.l b'.l b3 c3 (by omega) (by omega) (by omega) (by omega) k1;have eh:=ih b.h b'.h b5 c5 (by omega) (by omega) (by omega) (by omega) k2;have ebb:b=b':=by cases b;cases b';simp_all
  subst ebb;rcases Int.lt_trichotomy n n' with Q5 | heq | hgt
  ·exact Xd (Q2 (i:=(n-2).toNat) (by rw[mt (by omega)];exact hb)) c8
  ·exact heq
  ·exact Xd (Q2 (i:=(n'-2).toNat) (by rw[mt (by omega)];exact hb')) b8
theorem inj {nd:List Br}(h:Rd0 nd){n n':Int}(h0:0<=n)(uj:0<=n')(hn:n<nd.length+2)(Kz:n'<nd.length+2)(k:Eqv nd n nd n'):n=n':=
 tg h (nd.length+2) n n' h0 uj (by omega) (by omega) hn Kz k
structure Twin (nd X6:List Br) (st ap:List Br×List Nat):Prop where
 out:st.1=ap.1
 len:st.2.length=nd.length
 len':ap.2.length=X6.length
 num:∀(n n':Int),¬n<2->¬n'<2->n<nd.length+2->n'<X6.length+2->Eqv nd n X6 n'->st.2[(n-2).toNat]? =ap.2[(n'-2).toNat]?
theorem FQ {nd X6:List Br}(h:Rd0 nd)(h':Rd0 X6):∀(m m':Nat)(n n':Int)(st ap:List Br×List Nat),0<=n->0<=n'->n<m->n'<m'->n<nd.length+2->n'<X6.length+2->Eqv nd n X6 n'->Twin nd X6 st ap->
  (Ze nd m n st).1=(Ze X6 m' n' ap).1/\Twin nd X6 (Ze nd m n st).2 (Ze X6 m' n' ap).2
 | 0,m',n,n',st,ap,h0,_,hm,_,_,_,_,_=>by omega
 | m+1,0,n,n',st,ap,_,h0,_,hm,_,_,_,_=>by omega
 | m+1,m'+1,n,n',st,ap,h0,uj,hm,Ek,hn,Kz,k,T=>by
  have I:=tg h (nd.length+2);have I':=tg h' (X6.length+2);by_cases h2:n<2
  ·have Jp:n'<2:=td h' I' (by omega) Kz h2 k.symm;rw[kz h2,kz Jp];have:=k (λ_=>true);rw[JP h2,JP Jp,mB] at this;exact⟨by simp only;omega,T⟩
  have Jp:¬n'<2:=λhh=>h2 (td h I (by omega) hn hh k)
  obtain⟨b,hb⟩:=WD h2 hn;obtain⟨b',hb'⟩:=WD Jp Kz;have MH:=T.num n n' h2 Jp hn Kz k;by_cases h3:0<st.2[(n-2).toNat]?.getD 0
  ·rw[kA h2 h3,kA Jp (by rw[<-MH];exact h3)];exact⟨by simp only;rw[MH],T⟩
  have ny:¬0<ap.2[(n'-2).toNat]?.getD 0:=by rw[<-MH];exact h3
  have hv:b.v=b'.v:=Int.le_antisymm (tf h' h I' (by omega) Kz hn Jp h2 hb' hb k.symm) (tf h h' I (by omega) hn Kz h2 Jp hb hb' k);obtain⟨k1,k2⟩:=P8 h h' hn Kz h2 Jp hb hb' k hv;obtain⟨b1,b2,b3,b4,b5,b6,b7,b8,b9,br⟩:=h _ _ hb;obtain⟨c1,c2,c3,c4,c5,c6,c7,c8,c9,sL⟩:=h' _ _ hb';rw[mN h2 h3 hb,mN Jp ny hb'];obtain⟨e1,T1⟩:=FQ h h' m m' b.l b'.l st ap b3 c3 (by omega) (by omega) (by omega) (by omega) k1 T;generalize (Ze nd m b.l st)=p at*;generalize (Ze X6 m' b'.l ap)=p' at*;obtain⟨e2,T2⟩:=FQ h h' m m' b.h b'.h p.2 p'.2 b5 c5 (by omega) (by omega) (by omega) (by omega) k2 T1;generalize (Ze nd m b.h p.2)=q at*;generalize (Ze X6 m' b'.h p'.2)=q' at*;have rH:=T2.out;refine⟨by simp only;rw[rH],by simp only;rw[rH,hv,e1,e2],by rw[cj];exact T2.len,by rw[cj];exact T2.len',λi i' j2 j2' hi iJ kk=>?_⟩;have l1:=T2.len;have l2:=T2.len';by_cases QN:i=n
  ·subst QN;have:i'=n':=inj h' (by omega) uj iJ Kz (kk.symm.trans k);subst this;simp only;rw[iZ (by omega),iZ (by omega),rH]
  ·have nQ2:i'≠n':=λe=>by
    subst e;exact QN (inj h (by omega) h0 hi hn (kk.trans k.symm))
   simp only;rw[fU (by omega),fU (by omega)];exact T2.num i i' j2 j2' hi iJ kk
theorem fQm (nd X6:List Br):Twin nd X6 ([],List.replicate nd.length 0) ([],List.replicate X6.length 0):=
 ⟨rfl,by simp,by simp,λn n' h2 Jp hn Kz _=>by simp only;rw[List.getElem?_replicate_of_lt (by omega),List.getElem?_replicate_of_lt (by omega)]⟩
theorem P9 {nd X6:List Br}(h:Rd0 nd)(h':Rd0 X6){n n':Int}(h0:0<=n)(uj:0<=n')(hn:n<nd.length+2)(Kz:n'<X6.length+2)(k:Eqv nd n X6 n'):bM nd n=bM X6 n':=by
 obtain⟨e,T⟩:=FQ h h' (n.toNat+1) (n'.toNat+1) n n' _ _ h0 uj (by omega) (by omega) hn Kz k (fQm nd X6);unfold bM;simp only;rw[e,T.out]
theorem VD.eqv {nd X6:List Br}{r r':Int}(h:VD nd r)(h':VD X6 r')(k:Eqv nd r X6 r'):(nd,r)=(X6,r'):=by
 rw[<-h.2.2.2,<-h'.2.2.2];exact P9 h.1 h'.1 h.2.1 h'.2.1 h.2.2.1 h'.2.2.1 k
theorem FR {nd:List Br}(hw:WZ nd)(l:List Br):∀(m:Nat)(n:Int)(e:Nat->Bool),n<nd.length+2->dH (nd++l) m n e=dH nd m n e
 | 0,n,e,_=>rfl
 | m+1,n,e,hn=>by
  by_cases h2:n<2
  ·rw[kI h2,kI h2]
  ·obtain⟨b,hb⟩:=WD h2 hn;obtain⟨h1,Jp,h3,h4⟩:=hw _ _ hb;rw[dH,dH,if_neg h2,if_neg h2,ew (by omega),hb];simp only;rw[FR hw l m b.h e (by omega),FR hw l m b.l e (by omega)]
theorem mP {nd:List Br}(hw:WZ nd)(l:List Br){n:Int}(hn:n<nd.length+2)(e:Nat->Bool):ev (nd++l) n e=ev nd n e:=FR hw l _ n e hn
theorem th {nd:List Br}(l:List Br){n:Int}(hn:n<nd.length+2):Ql (nd++l) n=Ql nd n:=by
 unfold Ql;by_cases h2:n<2
 ·rw[Qf h2,Qf h2]
 ·rw[if_neg h2,if_neg h2,ew (by omega)]
theorem gU {nd:List Br}{n:Int}(h:n<2):Ql nd n=64:=Qf h
theorem Ra {nd X6:List Br}(h:Rd0 nd)(h':Rd0 X6){n n':Int}(hn:n<nd.length+2)(Kz:n'<X6.length+2)(k:Eqv nd n X6 n'):Ql nd n=Ql X6 n':=by
 have I:=tg h (nd.length+2);have I':=tg h' (X6.length+2);by_cases h2:n<2
 ·rw[gU h2,gU (td h' I' (by omega) Kz h2 k.symm)]
 have Jp:¬n'<2:=λhh=>h2 (td h I (by omega) hn hh k)
 obtain⟨b,hb⟩:=WD h2 hn;obtain⟨b',hb'⟩:=WD Jp Kz;rw[dI h2 hb,dI Jp hb'];exact Int.le_antisymm (tf h' h I' (by omega) Kz hn Jp h2 hb' hb k.symm) (tf h h' I (by omega) hn Kz h2 Jp hb hb' k)
theorem Rd0.snoc {nd:List Br}(h:Rd0 nd){b:Br}(hb:gc (nd++ [b]) nd.length b):Rd0 (nd++ [b]):=by
 intro j x hx;by_cases hj:j<nd.length
 ·rw[ew hj] at hx;obtain⟨b1,b2,b3,b4,b5,b6,b7,b8,b9,br⟩:=h _ _ hx;exact⟨b1,b2,b3,b4,b5,b6,b7,by rw[NP (by omega)];exact b8,by rw[th _ (by omega)];exact b9,by rw[th _ (by omega)];exact br⟩
 ·have hl:=(Zw.1 hx).1;simp at hl;have:j=nd.length:=by omega
  subst this;rw[aU (QD _)] at hx;simp at hx;subst hx;exact hb
theorem Rb {nd:List Br}{b:Br}(b1:0<=b.v)(b2:b.v<=63)(b3:0<=b.l)(b4:b.l<nd.length+2)(b5:0<=b.h)(b6:b.h<nd.length+2)(b7:b.l≠b.h)(b8:b∉nd)(b9:b.v<Ql nd b.l)(br:b.v<Ql nd b.h):gc (nd++ [b]) nd.length b:=
 ⟨b1,b2,b3,b4,b5,b6,b7,by rw[NP (QD _),sk];exact b8,by rw[th _ b4];exact b9,by rw[th _ b6];exact br⟩
structure Wi (nd:List Br) (st:List Br×List Nat):Prop where
 rd:Rd0 st.1
 len:st.2.length=nd.length
 num:∀k m:Nat,st.2[k]? =some m->0<m->2<=m/\m<st.1.length+2/\Eqv st.1 (m:Int) nd ((k:Int)+2)
 sur:∀j:Nat,j<st.1.length->∃k:Nat,st.2[k]? =some (j+2)
theorem Wi.start (nd:List Br):Wi nd ([],List.replicate nd.length 0):=
 ⟨λj b hb=>by simp at hb,by simp,λk m hk hm=>by
  have:=ER (Q2 hk);omega,λj hj=>by simp at hj⟩
theorem jZk {nd:List Br}(h:Rd0 nd):∀(m:Nat)(n:Int)(st:List Br×List Nat),0<=n->n<m->n<nd.length+2->Wi nd st->
  Wi nd (Ze nd m n st).2/\0<=(Ze nd m n st).1/\(Ze nd m n st).1<(Ze nd m n st).2.1.length+2/\Eqv (Ze nd m n st).2.1 (Ze nd m n st).1 nd n/\∃l,(Ze nd m n st).2.1=st.1++l
 | 0,n,st,h0,hm,_,_=>by omega
 | m+1,n,st,h0,hm,hn,W=>by
  by_cases h2:n<2
  ·rw[kz h2];exact⟨W,h0,by simp only;omega,λe=>by rw[JP h2,JP h2],[],by simp⟩
  have Q5:(n-2).toNat<st.2.length:=by have:=W.len;omega
  by_cases h3:0<st.2[(n-2).toNat]?.getD 0
  ·rw[kA h2 h3];have hg:=Xb Q5;rw[hg] at h3 ⊢;simp only[iY] at h3 ⊢;obtain⟨q1,q2,q3⟩:=W.num _ _ hg h3;have en:(((n-2).toNat:Nat):Int)+2=n:=by omega
   rw[en] at q3;exact⟨W,by omega,by omega,q3,[],by simp⟩
  obtain⟨b,hb⟩:=WD h2 hn;obtain⟨b1,b2,b3,b4,b5,b6,b7,b8,b9,br⟩:=h _ _ hb;have f1:=kB h.wf m b.l st b3 (by omega) (by omega) W.len;rw[mN h2 h3 hb];obtain⟨W1,p1,p2,p3,l1,p4⟩:=jZk h m b.l st b3 (by omega) (by omega) W;generalize (Ze nd m b.l st)=p at*;have f2:=kB h.wf m b.h p.2 b5 (by omega) (by omega) W1.len;obtain⟨W2,q1,q2,q3,l2,q4⟩:=jZk h m b.h p.2 b5 (by omega) (by omega) W1;generalize (Ze nd m b.h p.2)=q at*;have hz:q.2.2[(n-2).toNat]? =some 0:=by
   rw[f2.keep _ (by omega),f1.keep _ (by omega)];have hg:=Xb Q5;rw[hg] at h3 ⊢;simp only[iY] at h3;congr 1;omega
  have hR:=W2.rd;have H9:p.1<q.2.1.length+2:=by rw[q4,Qy];omega
  have Ia:Eqv q.2.1 p.1 nd b.l:=λe=>by rw[q4,mP W1.rd.wf l2 p2];exact p3 e
  have QK:p.1≠q.1:=λe=>b7 (inj h b3 b5 (by omega) (by omega) (Ia.symm.trans (by rw[e];exact q3)))
  have XL:=Ra hR h H9 (by omega) Ia;have Ke:=Ra hR h q2 (by omega) q3;have mean:∀jB,Rd0 jB->∀(i:Int),¬i<2->jB[(i-2).toNat]? =some ⟨b.v,p.1,q.1⟩->(∀e,ev jB p.1 e=ev q.2.1 p.1 e)->(∀e,ev jB q.1 e=ev q.2.1 q.1 e)->Eqv jB i nd n:=λjB hR2 i hi hx u1 u2 e=>by
   rw[cC hR2.wf hi hx,cC h.wf h2 hb];simp only;rw[u1,u2,Ia e,q3 e]
  have lO:(⟨b.v,p.1,q.1⟩:Br)∉q.2.1:=λQN=>by
   obtain⟨j,hj,hjx⟩:=vm.1 QN;obtain⟨k,hk⟩:=W2.sur j hj;obtain⟨_,_,r3⟩:=W2.num k _ hk (by omega);have XR:=mean q.2.1 hR ((j+2:Nat):Int) (by omega) (by rw[show(((j+2:Nat):Int)-2).toNat=j by omega,Xb hj,hjx]) (λ_=>rfl) (λ_=>rfl);have VX:=(Zw.1 hk).1;have CJ:=W2.len;have:=inj h (n:=(k:Int)+2) (n':=n) (by omega) h0 (by omega) hn (r3.symm.trans XR);have Xp:(n-2).toNat=k:=by omega
   rw[Xp,hk] at hz;cases hz
  have im:Rd0 (q.2.1++ [⟨b.v,p.1,q.1⟩]):=hR.snoc (Rb b1 b2 p1 H9 q1 q2 QK lO (by rw[XL];exact b9) (by rw[Ke];exact br));have uP:Eqv (q.2.1++ [⟨b.v,p.1,q.1⟩]) ((q.2.1.length+2:Nat):Int) nd n:=mean _ im _ (by omega) (by
   rw[show(((q.2.1.length+2:Nat):Int)-2).toNat=q.2.1.length by omega,aU (QD _)];simp) (λe=>mP hR.wf _ H9 e) (λe=>mP hR.wf _ q2 e)
  refine⟨⟨im,by rw[cj];exact W2.len,λk mm hk Z0=>?_,λj hj=>?_⟩,by omega,by simp only[Qy,Xs,JI];omega,uP,l1++(l2++ [⟨b.v,p.1,q.1⟩]),by simp only;rw[q4,p4];simp⟩
  ·simp only at hk ⊢;by_cases Xp:(n-2).toNat=k
   ·subst Xp;rw[iZ (by have:=W2.len;omega)] at hk;cases hk;refine⟨by omega,by simp,?_⟩;rw[show(((n-2).toNat:Nat):Int)+2=n by omega];exact uP
   ·rw[fU Xp] at hk;obtain⟨r1,r2,r3⟩:=W2.num k mm hk Z0;exact⟨r1,by simp;omega,λe=>by rw[mP hR.wf _ (by omega)];exact r3 e⟩
  ·simp only[Qy,Xs,JI] at hj;by_cases d9:j<q.2.1.length
   ·obtain⟨k,hk⟩:=W2.sur j d9;refine⟨k,?_⟩;simp only;rw[fU (λe=>by rw[e,hk] at hz;cases hz)];exact hk
   ·have:j=q.2.1.length:=by omega
    subst this;exact⟨(n-2).toNat,by simp only;rw[iZ (by have:=W2.len;omega)]⟩
theorem fQn {nd:List Br}(h:Rd0 nd){r:Int}(h0:0<=r)(hr:r<nd.length+2):VD (bM nd r).1 (bM nd r).2/\Eqv (bM nd r).1 (bM nd r).2 nd r/\(bM nd r).1.length<=nd.length:=by
 obtain⟨W,w1,w2,w3,_⟩:=jZk h (r.toNat+1) r _ h0 (by omega) hr (Wi.start nd);have f:=(kB h.wf (r.toNat+1) r _ h0 (by omega) hr (Wi.start nd).len).cnt;have e1:(bM nd r).1=(Ze nd (r.toNat+1) r ([],List.replicate nd.length 0)).2.1:=rfl;have e2:(bM nd r).2=(Ze nd (r.toNat+1) r ([],List.replicate nd.length 0)).1:=rfl;rw[<-e1] at w3 w2 f;rw[<-e2] at w3 w2 w1;have hR:Rd0 (bM nd r).1:=W.rd;refine⟨⟨hR,w1,w2,?_⟩,w3,?_⟩
 ·rw[P9 hR h w1 h0 w2 hr w3]
 ·have:=NQ (a:=0) (l:=List.replicate nd.length 0);simp at this f;omega
end
section
theorem Rc {b:Br}:∀{l:List Br}{i:Nat},KN b l=some i->l[i]? =some b
 | [],i,h=>by cases h
 | x::l,i,h=>by
  unfold KN at h;split at h
  ·rename_i hx;cases h;simp[hx]
  ·cases hf:KN b l with
   | none=>rw[hf] at h;cases h
   | some k=>rw[hf] at h;cases h;simpa using Rc hf
theorem Re {b:Br}:∀{l:List Br},KN b l=none->b∉l
 | [],_=>by simp
 | x::l,h=>by
  unfold KN at h;split at h
  ·cases h
  ·rename_i hx;cases hf:KN b l with
   | some k=>rw[hf] at h;cases h
   | none=>simp only[Q0,not_or];exact⟨λe=>hx e.symm,Re hf⟩
structure UniqOk (nd:List Br) (b:Br) (r:List Br×Int):Prop where
 rd:Rd0 r.1
 pos:0<=r.2
 lt:r.2<r.1.length+2
 mean:∀e,ev r.1 r.2 e=if e b.v.toNat then ev nd b.h e else ev nd b.l e
 lvl:b.v<=Ql r.1 r.2
 ext:∃l,r.1=nd++l
theorem fQo {nd:List Br}(h:Rd0 nd){b:Br}(b1:0<=b.v)(b2:b.v<=63)(b3:0<=b.l)(b4:b.l<nd.length+2)(b5:0<=b.h)(b6:b.h<nd.length+2)(b9:b.v<Ql nd b.l)(br:b.v<Ql nd b.h):UniqOk nd b (Z1 b nd):=by
 unfold Z1;split
 ·rename_i he;exact⟨h,b3,b4,λe=>by simp only;rw[<-he];split<;>rfl,by simp only;omega,[],by simp⟩
 ·rename_i QK;split
  ·rename_i i hi;have hx:=Rc hi;have Q5:=(Zw.1 hx).1;have VN:nd[(((i+2:Nat):Int)-2).toNat]? =some b:=by rw[show(((i+2:Nat):Int)-2).toNat=i by omega];exact hx
   have h2:¬(((i+2:Nat):Int)<2):=by omega
   exact⟨h,by simp only;omega,by simp only;omega,λe=>cC h.wf h2 VN,by simp only;rw[dI h2 VN];exact mv _,[],by simp⟩
  ·rename_i hn;have Zm:=Rb b1 b2 b3 b4 b5 b6 QK (Re hn) b9 br;have hR:=h.snoc Zm;have VN:(nd++ [b])[(((nd.length+2:Nat):Int)-2).toNat]? =some b:=by
    rw[show(((nd.length+2:Nat):Int)-2).toNat=nd.length by omega,aU (QD _)];simp
   have h2:¬(((nd.length+2:Nat):Int)<2):=by omega
   exact⟨hR,by simp only;omega,by simp only[Qy,Xs,JI];omega,λe=>by simp only;rw[cC hR.wf h2 VN,mP h.wf _ b6,mP h.wf _ b4],by simp only;rw[dI h2 VN];exact mv _,[b],rfl⟩
theorem Rd0.dok {nd:List Br}(h:Rd0 nd):Vw nd:=⟨h.wf,λj b hb=>⟨(h j b hb).1,(h j b hb).2.1⟩⟩
theorem ti {nd:List Br}(h:Rd0 nd){n v:Int}(_:0<=n)(hn:n<nd.length+2)(hv:v<=Ql nd n)(dS:v<64):
  (∀e,ev nd n e=if e v.toNat then ev nd (Qm nd n v).2 e else ev nd (Qm nd n v).1 e)/\v<Ql nd (Qm nd n v).1/\v<Ql nd (Qm nd n v).2/\(Qm nd n v).1<nd.length+2/\(Qm nd n v).2<nd.length+2:=by
 unfold Qm;split
 ·rename_i QK;exact⟨λe=>by simp,by simp only;omega,by simp only;omega,hn,hn⟩
 ·rename_i he;have he:=Decidable.not_not.1 he;have h2:¬n<2:=λhh=>by rw[gU hh] at he;omega
  obtain⟨b,hb⟩:=WD h2 hn;obtain⟨b1,b2,b3,b4,b5,b6,b7,b8,b9,br⟩:=h _ _ hb;have Vq:=dI h2 hb;simp only[hb];exact⟨λe=>by rw[cC h.wf h2 hb,show v=b.v by omega],by omega,by omega,by omega,by omega⟩
def Kr (op:Int)(x y:Bool):Bool:=if op=0 then x&&y else if op=1 then x||y else if op=3 then !x else if op=4 then !x&&y else x !=y
theorem Rf {op x y:Int}(x0:0<=x)(x1:x<2)(y0:0<=y)(y1:y<2):decide (dG op x y=1)=Kr op (decide (x=1)) (decide (y=1)):=by
 unfold dG Kr;rcases(by omega:x=0∨x=1)with rfl | rfl<;>rcases(by omega:y=0∨y=1)with rfl | rfl<;>(split<;>first | rfl | (split<;>first | rfl | (split<;>first | rfl | (split<;>rfl))))
structure At2I (a b:List Br) (op:Int) (st:List Br×List Tr3):Prop where
 rd:Rd0 st.1
 seen:∀t∈st.2,0<=t.2.2/\t.2.2<st.1.length+2/\(∀e,ev st.1 t.2.2 e=Kr op (ev a t.1 e) (ev b t.2.1 e))/\min (Ql a t.1) (Ql b t.2.1)<=Ql st.1 t.2.2
structure At2R (a b:List Br) (op:Int) (x y:Int) (st:List Br×List Tr3) (r:Int×(List Br×List Tr3)):Prop where
 inv:At2I a b op r.2
 pos:0<=r.1
 lt:r.1<r.2.1.length+2
 mean:∀e,ev r.2.1 r.1 e=Kr op (ev a x e) (ev b y e)
 lvl:min (Ql a x) (Ql b y)<=Ql r.2.1 r.1
 ext:∃l,r.2.1=st.1++l
theorem At2I.ext {a b:List Br}{op:Int}{nd:List Br}{s:List Tr3}(h:At2I a b op (nd,s)){X6:List Br}(hr:Rd0 X6)(he:∃l,X6=nd++l):At2I a b op (X6,s):=by
 obtain⟨l,rfl⟩:=he;refine⟨hr,λt ht=>?_⟩;obtain⟨h1,h2,h3,h4⟩:=h.seen t ht;exact⟨h1,by simp only at h2 ⊢;rw[Qy];omega,λe=>by rw[mP h.rd.wf l h2];exact h3 e,by rw[th l h2];exact h4⟩
theorem FT {a b:List Br}(ha:Rd0 a)(hb:Rd0 b)(op:Int):∀(m:Nat)(x y:Int)(st:List Br×List Tr3),At2I a b op st->0<=x->0<=y->x+y<m->x<a.length+2->y<b.length+2->At2R a b op x y st (Xz a b op m x y st)
 | 0,x,y,st,_,_,_,hm,_,_=>by omega
 | m+1,x,y,st,h,x0,y0,hm,hx,hy=>by
  by_cases Xl:x<2/\y<2
  ·rw[kE Xl];have hc:=FO (op:=op) x0 Xl.1 y0 Xl.2;refine⟨h,hc.1,by simp only;omega,λe=>?_,?_,[],by simp⟩
   ·simp only;rw[JP hc.2,JP Xl.1,JP Xl.2];exact Rf x0 Xl.1 y0 Xl.2
   ·simp only;rw[gU hc.2,gU Xl.1];omega
  cases k:st.2.find? (λt=>decide (t.1=x/\t.2.1=y))with
  | some t=>
   rw[kF Xl k];have hk:=List.find?_some k;simp only[Vb] at hk;obtain⟨rfl,rfl⟩:=hk;obtain⟨h1,h2,h3,h4⟩:=h.seen t (bQP k);exact⟨h,h1,h2,h3,h4,[],by simp⟩
  | none=>
   have ZD:min (Ql a x) (Ql b y)<64:=by
    by_cases c:x<2
    ·have:=aE hb.dok (n:=y) (λc2=>Xl ⟨c,c2⟩) (by omega);rw[Z5];split<;>omega
    ·have:=aE ha.dok (n:=x) c (by omega);rw[Z5];split<;>omega
   have fg:0<=min (Ql a x) (Ql b y):=by
    have pos:∀{d:List Br},Rd0 d->∀{n:Int},n<d.length+2->0<=Ql d n:=λ{d} hd {n} hn=>by
     by_cases h2:n<2
     ·rw[gU h2];omega
     ·obtain⟨z,hz⟩:=WD h2 hn;rw[dI h2 hz];exact(hd _ _ hz).1
    have p1:=pos ha hx;have p2:=pos hb hy;rw[Z5];split<;>omega
   rw[kG Xl k _ rfl];have fL:Ql a x=min (Ql a x) (Ql b y)∨Ql b y=min (Ql a x) (Ql b y):=by rw[Z5];split<;>simp
   have kQu:min (Ql a x) (Ql b y)<=Ql a x:=Int.min_le_left _ _;have aQd:min (Ql a x) (Ql b y)<=Ql b y:=Int.min_le_right _ _;have oJ:At2I a b op st->min (Ql a x) (Ql b y)<=min (Ql a x) (Ql b y):=λ_=>mv _
   generalize hv:min (Ql a x) (Ql b y)=v at*;obtain⟨s1,s2,s3,s4,s5⟩:=WC ha.dok (n:=x) x0 ZD;obtain⟨t1,t2,t3,t4,t5⟩:=WC hb.dok (n:=y) y0 ZD;obtain⟨u1,u2,u3,u4,u5⟩:=ti ha x0 hx kQu ZD;obtain⟨z1,z2,z3,z4,z5⟩:=ti hb y0 hy aQd ZD;have dec:(Qm a x v).1+(Qm b y v).1<m/\(Qm a x v).2+(Qm b y v).2<m:=by
    rcases fL with e | e
    ·have:=s5 e;omega
    ·have:=t5 e;omega
   have i1:=FT ha hb op m _ _ st h s1 t1 dec.1 u4 z4;generalize (Xz a b op m (Qm a x v).1 (Qm b y v).1 st)=r0 at*;have i2:=FT ha hb op m _ _ r0.2 i1.inv s3 t3 dec.2 u5 z5;generalize (Xz a b op m (Qm a x v).2 (Qm b y v).2 r0.2)=r1 at*;obtain⟨l1,XL⟩:=i1.ext;obtain⟨l2,Ke⟩:=i2.ext;have r0lt:r0.1<r1.2.1.length+2:=by rw[Ke,Qy];have:=i1.lt;omega
   have r0m:∀e,ev r1.2.1 r0.1 e=ev r0.2.1 r0.1 e:=λe=>by rw[Ke,mP i1.inv.rd.wf l2 i1.lt]
   have r0l:Ql r1.2.1 r0.1=Ql r0.2.1 r0.1:=by rw[Ke,th l2 i1.lt]
   have g1:v<Ql r1.2.1 r0.1:=by rw[r0l];have:=i1.lvl;rw[Z5] at this;split at this<;>omega
   have g2:v<Ql r1.2.1 r1.1:=by have:=i2.lvl;rw[Z5] at this;split at this<;>omega
   have U:=fQo i2.inv.rd (b:=⟨v,r0.1,r1.1⟩) fg (by simp only;omega) i1.pos r0lt i2.pos i2.lt g1 g2;have hu3:=U.ext;have hI:=At2I.ext (s:=r1.2.2) i2.inv U.rd U.ext;generalize Z1 ⟨v,r0.1,r1.1⟩ r1.2.1=u at*;have XR:∀e,ev u.1 u.2 e=Kr op (ev a x e) (ev b y e):=λe=>by
    rw[U.mean e,u1 e,z1 e];simp only;split
    ·exact i2.mean e
    ·rw[r0m e];exact i1.mean e
   refine⟨⟨U.rd,λt ht=>?_⟩,U.pos,U.lt,XR,by rw[hv];exact U.lvl,?_⟩
   ·simp only[XH,QF] at ht;rcases ht with ht | rfl
    ·exact hI.seen t ht
    ·exact⟨U.pos,U.lt,XR,by rw[hv];exact U.lvl⟩
   ·obtain⟨l3,hl3⟩:=hu3;exact⟨l1++(l2++l3),by simp only;rw[hl3,Ke,XL];simp⟩
theorem Rg:∀(N:Nat)(l:List Nat),l.Nodup->(∀x∈l,x<N)->l.length<=N
 | 0,l,_,h=>by
  cases l with
  | nil=>simp
  | cons x l=>have:=h x (by simp);omega
 | N+1,l,hn,h=>by
  have h1:=Rg N (l.filter (λx=>decide (x≠N))) (hn.filter _) (λx hx=>by
   rw[Va,Vb] at hx;have:=h x hx.1;omega)
  have h2:l.length=(l.filter (λx=>decide (x≠N))).length+l.count N:=by
   clear h h1 hn;induction l with
   | nil=>rfl
   | cons x l ih=>
    by_cases e:x=N
    ·subst e;rw[List.filter_cons_of_neg (by simp),List.count_cons_self,Xs];omega
    ·rw[List.filter_cons_of_pos (by simpa using e),List.count_cons_of_ne e,Xs,Xs];omega
  have h3:=List.nodup_iff_count.1 hn N;omega
def FU (M:Nat)(t:Tr3):Nat:=t.1.toNat*M+t.2.1.toNat
structure At2B (n m:Nat) (st:List Br×List Tr3):Prop where
 rng:∀t∈st.2,0<=t.1/\t.1<n/\0<=t.2.1/\t.2.1<m
 nod:(st.2.map (FU m)).Nodup
 le:st.1.length<=st.2.length
theorem At2B.bound {n m:Nat}{st:List Br×List Tr3}(h:At2B n m st):st.2.length<=n*m/\st.1.length<=n*m:=by
 have:=Rg (n*m) _ h.nod (λx hx=>by
  simp only[ZM] at hx;obtain⟨t,ht,rfl⟩:=hx;obtain⟨h1,h2,h3,h4⟩:=h.rng t ht;unfold FU;have:(t.1.toNat+1)*m<=n*m:=Y4 _ (by omega);rw[vj] at this;omega)
 rw[ZW] at this;exact⟨this,X2 h.le this⟩
theorem fQp {m:Nat}{x y x' y':Nat}(hy:y<m)(rI:y'<m)(h:x*m+y=x'*m+y'):x=x'/\y=y':=by
 have hx:x=x':=by
  have e1:(x*m+y)/m=x:=by rw[vp,Nat.mul_add_div (by omega),Nat.div_eq_of_lt hy]<;>rfl
  have e2:(x'*m+y')/m=x':=by rw[vp,Nat.mul_add_div (by omega),Nat.div_eq_of_lt rI]<;>rfl
  rw[<-e1,<-e2,h]
 subst hx;exact⟨rfl,by omega⟩
theorem FW {a b:List Br}(ha:Vw a)(hb:Vw b)(op:Int):∀(f:Nat)(x y:Int)(st:List Br×List Tr3),At2B (a.length+2) (b.length+2) st->0<=x->0<=y->x+y<f->x<a.length+2->y<b.length+2->
  At2B (a.length+2) (b.length+2) (Xz a b op f x y st).2/\(∀t∈(Xz a b op f x y st).2.2,t∈st.2∨t.1+t.2.1<=x+y)
 | 0,x,y,st,_,_,_,hm,_,_=>by omega
 | f+1,x,y,st,h,x0,y0,hm,hx,hy=>by
  by_cases Xl:x<2/\y<2
  ·rw[kE Xl];exact⟨h,λt ht=>.inl ht⟩
  cases k:st.2.find? (λt=>decide (t.1=x/\t.2.1=y))with
  | some t=>rw[kF Xl k];exact⟨h,λt ht=>.inl ht⟩
  | none=>
   have ZD:min (Ql a x) (Ql b y)<64:=by
    by_cases c:x<2
    ·have:=aE hb (n:=y) (λc2=>Xl ⟨c,c2⟩) (by omega);rw[Z5];split<;>omega
    ·have:=aE ha (n:=x) c (by omega);rw[Z5];split<;>omega
   rw[kG Xl k _ rfl];have fL:Ql a x=min (Ql a x) (Ql b y)∨Ql b y=min (Ql a x) (Ql b y):=by rw[Z5];split<;>simp
   generalize min (Ql a x) (Ql b y)=v at*;obtain⟨s1,s2,s3,s4,s5⟩:=WC ha (n:=x) x0 ZD;obtain⟨t1,t2,t3,t4,t5⟩:=WC hb (n:=y) y0 ZD;have dec:(Qm a x v).1+(Qm b y v).1<x+y/\(Qm a x v).2+(Qm b y v).2<x+y:=by
    rcases fL with e | e
    ·have:=s5 e;omega
    ·have:=t5 e;omega
   obtain⟨i1,j1⟩:=FW ha hb op f _ _ st h s1 t1 (by omega) (by omega) (by omega);generalize (Xz a b op f (Qm a x v).1 (Qm b y v).1 st)=r0 at*;obtain⟨i2,j2⟩:=FW ha hb op f _ _ r0.2 i1 s3 t3 (by omega) (by omega) (by omega);generalize (Xz a b op f (Qm a x v).2 (Qm b y v).2 r0.2)=r1 at*;have ul:(Z1 ⟨v,r0.1,r1.1⟩ r1.2.1).1.length<=r1.2.1.length+1:=by
    unfold Z1;split
    ·exact zS _
    ·split
     ·exact zS _
     ·simp
   have lO:∀t∈r1.2.2,¬(t.1=x/\t.2.1=y):=λt ht hh=>by
    rcases j2 t ht with h1 | h1
    ·rcases j1 t h1 with h2 | h2
     ·have:=vo.1 k t h2;simp at this;exact this hh.1 hh.2
     ·omega
    ·omega
   refine⟨⟨λt ht=>?_,?_,?_⟩,λt ht=>?_⟩
   ·simp only[XH,QF] at ht;rcases ht with ht | rfl
    ·exact i2.rng t ht
    ·exact⟨x0,by simp only;omega,y0,by simp only;omega⟩
   ·simp only[dx,WA,List.map_nil];rw[zO];refine⟨i2.nod,by simp,λp hp q hq e=>?_⟩;simp only[QF] at hq;subst hq;subst e;simp only[ZM] at hp;obtain⟨t,ht,hk⟩:=hp;obtain⟨r1',r2',r3',r4'⟩:=i2.rng t ht;unfold FU at hk;have:=fQp (m:=b.length+2) (by omega) (by simp only;omega) hk;simp only at this;exact lO t ht ⟨by omega,by omega⟩
   ·simp only[Qy,Xs,JI];have:=i2.le;omega
   ·simp only[XH,QF] at ht;rcases ht with ht | rfl
    ·rcases j2 t ht with h1 | h1
     ·rcases j1 t h1 with h2 | h2
      ·exact .inl h2
      ·exact .inr (by omega)
     ·exact .inr (by omega)
    ·exact .inr (by simp only;omega)
theorem FX {a b:List Br}{ra rb:Int}(ha:VD a ra)(hb:VD b rb)(op:Int):(kH a ra b rb op).2.2.length<=(a.length+2)*(b.length+2)/\(kH a ra b rb op).2.1.length<=(a.length+2)*(b.length+2):=
 (FW ha.dok hb.dok op (ra.toNat+rb.toNat+1) ra rb ([],[]) ⟨λt ht=>by simp at ht,by simp,QD _⟩ ha.2.1 hb.2.1 (by have:=ha.2.1;have:=hb.2.1;omega) ha.2.2.1 hb.2.2.1).1.bound
theorem fQq {a b:List Br}{ra rb:Int}(ha:VD a ra)(hb:VD b rb)(op:Int):VD (VV a ra b rb op).1 (VV a ra b rb op).2/\∀e,ev (VV a ra b rb op).1 (VV a ra b rb op).2 e=Kr op (ev a ra e) (ev b rb e):=by
 have R:=FT ha.rd0 hb.rd0 op (ra.toNat+rb.toNat+1) ra rb ([],[]) ⟨λj x hx=>by simp at hx,λt ht=>by simp at ht⟩ ha.2.1 hb.2.1 (by have:=ha.2.1;have:=hb.2.1;omega) ha.2.2.1 hb.2.2.1;obtain⟨n1,n2,n3⟩:=fQn R.inv.rd R.pos R.lt;exact⟨n1,λe=>(n2 e).trans (R.mean e)⟩
end
section
def Ya:Nat->List Nat->List (List Nat)×Bool
 | 0,_=>([],true)
 | _+1,[]=>([],true)
 | n+1,b::l=>
  if b=32∨b=9 then Ya n l
  else if b=40∨b=41∨b=33 then([b]::(Ya n l).1,(Ya n l).2)
  else if(b=38∨b=124)/\l.head? =some b then([b,b]::(Ya n l.tail).1,(Ya n l.tail).2)
  else if V6 b then((b::l).takeWhile X3::(Ya n ((b::l).dropWhile X3)).1,(Ya n ((b::l).dropWhile X3)).2)
  else([],false)
def XZ (l:List Nat):List (List Nat)×Bool:=Ya l.length l
theorem tj {b:Nat}(h:V6 b=true):X3 b=true:=by unfold X3;rw[h]<;>rfl
theorem AY {b:Nat}{l:List Nat}(h:V6 b=true):(b::l).dropWhile X3=l.dropWhile X3:=by rw[pk,Qf (tj h)]
theorem AZ (p:Nat->Bool)(l:List Nat):(l.dropWhile p).length<=l.length:=(List.dropWhile_suffix p).length_le
theorem wl:∀(n m:Nat)(l:List Nat),l.length<=n->l.length<=m->Ya n l=Ya m l
 | n,m,[],_,_=>by cases n<;>cases m<;>rfl
 | 0,_,b::l,h,_=>by simp at h
 | _+1,0,b::l,_,h=>by simp at h
 | n+1,m+1,b::l,h,h'=>by
  simp only[Xs] at h h';have e1:=wl n m l (by omega) (by omega);have e2:=wl n m l.tail (by rw[zT];omega) (by rw[zT];omega);have hd:=AZ X3 l;have e3:=wl n m (l.dropWhile X3) (by omega) (by omega);simp only[Ya];split
  ·exact e1
  ·split
   ·rw[e1]
   ·split
    ·rw[e2]
    ·split
     ·rename_i hl;rw[AY hl,e3]
     ·rfl
theorem wm:XZ []=([],true):=rfl
theorem wn {b:Nat}{l:List Nat}(h:b=32∨b=9):XZ (b::l)=XZ l:=by
 show Ya (l.length+1) (b::l)=_;rw[Ya,Qf h]<;>rfl
theorem mQ {b:Nat}{l:List Nat}(h:b=40∨b=41∨b=33):XZ (b::l)=([b]::(XZ l).1,(XZ l).2):=by
 show Ya (l.length+1) (b::l)=_;rw[Ya,if_neg (by omega),Qf h]<;>rfl
theorem pN {b:Nat}{l:List Nat}(h:b=38∨b=124):XZ (b::b::l)=([b,b]::(XZ l).1,(XZ l).2):=by
 show Ya ((b::l).length+1) (b::b::l)=_;rw[Ya,if_neg (by omega),if_neg (by omega),Qf ⟨h,rfl⟩];have:=wl (b::l).length l.length l (by simp) (QD _);rw[show(b::l).tail=l from rfl,this]<;>rfl
theorem wo {b:Nat}{l:List Nat}(h:V6 b=true):XZ (b::l)=((b::l).takeWhile X3::(XZ ((b::l).dropWhile X3)).1,(XZ ((b::l).dropWhile X3)).2):=by
 have hb:b=95∨(97<=b/\b<=122)∨(65<=b/\b<=90):=by unfold V6 at h;simp at h;omega
 show Ya (l.length+1) (b::l)=_;rw[Ya,if_neg (by omega),if_neg (by omega),if_neg (by omega),Qf h,AY h];have:=wl l.length (l.dropWhile X3).length (l.dropWhile X3) (AZ _ _) (QD _);rw[this]<;>rfl
theorem A6 {b:Nat}{l:List Nat}(h1:¬(b=32∨b=9))(h2:¬(b=40∨b=41∨b=33))(h3:¬((b=38∨b=124)/\l.head? =some b))(h4:V6 b=false):XZ (b::l)=([],false):=by
 show Ya (l.length+1) (b::l)=_;rw[Ya,if_neg h1,if_neg h2,if_neg h3,if_neg (by rw[h4];decide)]
theorem pO (l:List Nat):XZ (ZG l)=XZ l:=by
 induction l with
 | nil=>rfl
 | cons b l ih=>
  unfold ZG at*;rw[pk];split
  ·rename_i h;rw[ih,wn];simpa using h
  ·rfl
theorem wq {l:List Nat}{b:Nat}{r:List Nat}(h:ZG l=b::r):¬(b=32∨b=9):=by
 unfold ZG at h;induction l with
 | nil=>cases h
 | cons x l ih=>
  rw[pk] at h;split at h
  ·exact ih h
  ·rename_i hx;cases h;simpa using hx
theorem FY {b:Nat}(hb:b=40∨b=41∨b=33)(p:Ps):match Kn [b] p with
  | (true,p')=>XZ p.r=([b]::(XZ p'.r).1,(XZ p'.r).2)/\p'.f=p.f/\p'.u=p.u/\p'.r.length<p.r.length
  | (false,p')=>(XZ p.r).1.head? ≠some [b]/\p'={p with r:=ZG p.r}:=by
 have hl:=pO p.r;have V5:=sT p.r;rw[vT];cases ht:ZG p.r with
 | nil=>
  rw[ht] at hl;simp only[List.isPrefixOf];refine⟨?_,by simp⟩;rw[<-hl];simp[wm]
 | cons x r=>
  have hx:=wq ht;rw[ht] at hl V5;by_cases ZP:x=b
  ·subst ZP;simp only[List.isPrefixOf,beq_self_eq_true,aV];refine⟨by rw[<-hl,mQ hb];simp,trivial,trivial,by simp at V5 ⊢;omega⟩
  ·have: [b].isPrefixOf (x::r)=false:=by simp[List.isPrefixOf,Ne.symm ZP]
   rw[this];simp only;refine⟨λh=>?_,by simp⟩;rw[<-hl] at h;by_cases h2:x=40∨x=41∨x=33
   ·rw[mQ h2] at h;simp at h;exact ZP h
   ·by_cases h3:(x=38∨x=124)/\r.head? =some x
    ·cases r with
     | nil=>simp at h3
     | cons y r=>
      simp at h3;obtain⟨h3,rfl⟩:=h3;rw[pN h3] at h;simp at h
    ·by_cases h4:V6 x=true
     ·rw[wo h4,WW,Qf (tj h4)] at h;simp at h;exact ZP h.1
     ·rw[A6 hx h2 h3 (by simpa using h4)] at h;simp at h
theorem Bc {b:Nat}(hb:b=38∨b=124)(p:Ps):match Kn [b,b] p with
  | (true,p')=>XZ p.r=([b,b]::(XZ p'.r).1,(XZ p'.r).2)/\p'.f=p.f/\p'.u=p.u/\p'.r.length<p.r.length
  | (false,p')=>(XZ p.r).1.head? ≠some [b,b]/\p'={p with r:=ZG p.r}:=by
 have hl:=pO p.r;have V5:=sT p.r;rw[vT];cases ht:ZG p.r with
 | nil=>
  rw[ht] at hl;simp only[List.isPrefixOf];refine⟨?_,by simp⟩;rw[<-hl];simp[wm]
 | cons x r=>
  have hx:=wq ht;rw[ht] at hl V5;by_cases ZP:x=b/\r.head? =some b
  ·obtain⟨rfl,hr⟩:=ZP;cases r with
   | nil=>simp at hr
   | cons y r=>
    simp at hr;subst hr;simp only[List.isPrefixOf,beq_self_eq_true,aV];refine⟨by rw[<-hl,pN hb];simp,trivial,trivial,by simp at V5 ⊢;omega⟩
  ·have: [b,b].isPrefixOf (x::r)=false:=by
    rw[<-NR];intro h;cases r with
    | nil=>simp[List.isPrefixOf] at h
    | cons y r=>simp[List.isPrefixOf] at h;exact ZP ⟨h.1.symm,by simp[h.2]⟩
   rw[this];simp only;refine⟨λh=>?_,by simp⟩;rw[<-hl] at h;by_cases h2:x=40∨x=41∨x=33
   ·rw[mQ h2] at h;simp at h
   ·by_cases h3:(x=38∨x=124)/\r.head? =some x
    ·cases r with
     | nil=>simp at h3
     | cons y r=>
      simp at h3;obtain⟨h3,rfl⟩:=h3;rw[pN h3] at h;simp at h;exact ZP ⟨h,by simp[h]⟩
    ·by_cases h4:V6 x=true
     ·have ee:X3 b=false:=by rcases hb with rfl | rfl<;>decide
      rw[wo h4,WW,Qf (tj h4)] at h;simp at h;have hi:=tj h4;rw[h.1,ee] at hi;cases hi
     ·rw[A6 hx h2 h3 (by simpa using h4)] at h;simp at h
def Yy (op:List Nat)(mk:Fm->Fm->Fm)(opd:List (List Nat)->Option (Fm×Bool×List (List Nat))):Nat->Fm->Bool->List (List Nat)->Option (Fm×Bool×List (List Nat))
 | 0,_,_,_=>none
 | m+1,a,u,ts=>if ts.head? =some op then
   match opd ts.tail with
   | none=>none
   | some (b,v,Jf)=>Yy op mk opd m (mk a b) (u||v) Jf
  else some (a,u,ts)
def YS (op:List Nat)(mk:Fm->Fm->Fm)(opd:List (List Nat)->Option (Fm×Bool×List (List Nat)))(ts:List (List Nat)):Option (Fm×Bool×List (List Nat)):=match opd ts with
 | none=>none
 | some (a,u,Jf)=>Yy op mk opd (Jf.length+1) a u Jf
def Be (t:List Nat):Bool:=match t with
 | []=>false
 | b::_=>V6 b
def kJ (ix:List Nat->Option Nat)(t:List Nat):Fm×Bool:=if t=Yv then(.c true,false)else if t=aC then(.c false,false)else(.v ((ix t).getD 0),(ix t).isNone)
def KO (ix:List Nat->Option Nat):Nat->List (List Nat)->Option (Fm×Bool×List (List Nat))
 | 0,_=>none
 | _+1,[]=>none
 | n+1,t::ts=>if t=[33] then
   match KO ix n ts with
   | none=>none
   | some (a,u,Jf)=>some (.not a,u,Jf)
  else if t=[40] then
   match YS [124,124] .or (YS [38,38] .and (KO ix n)) ts with
   | none=>none
   | some (a,u,Jf)=>if Jf.head? =some [41] then some (a,u,Jf.tail)else none
  else if Be t then some ((kJ ix t).1,(kJ ix t).2,ts)else none
def tk (ix:List Nat->Option Nat)(n:Nat)(ts:List (List Nat)):Option (Fm×Bool×List (List Nat)):=YS [124,124] .or (YS [38,38] .and (KO ix n)) ts
def X8:Fm->Nat->List Fz
 | .c b,_=>[⟨if b then 1 else 0,0,0,0⟩]
 | .v n,_=>[⟨2,(n:Nat),0,0⟩]
 | .not a,k=>X8 a k++ [⟨3,0,((k+QG a-1:Nat):Int),0⟩]
 | .and a b,k=>X8 a k++X8 b (k+QG a)++ [⟨4,0,((k+QG a-1:Nat):Int),((k+QG a+QG b-1:Nat):Int)⟩]
 | .or a b,k=>X8 a k++X8 b (k+QG a)++ [⟨5,0,((k+QG a-1:Nat):Int),((k+QG a+QG b-1:Nat):Int)⟩]
theorem J0:∀(t:Fm)(k:Nat),(X8 t k).length=QG t
 | .c _,_=>rfl
 | .v _,_=>rfl
 | .not a,k=>by simp[X8,QG,J0 a k]
 | .and a b,k=>by simp[X8,QG,J0 a k,J0 b,pi]
 | .or a b,k=>by simp[X8,QG,J0 a k,J0 b,pi]
theorem Yz:∀t:Fm,0<QG t
 | .c _=>Nat.one_pos
 | .v _=>Nat.one_pos
 | .not _=>Nat.succ_pos _
 | .and _ _=>Nat.succ_pos _
 | .or _ _=>Nat.succ_pos _
def pP (p:Ps)(r:Option (Nat×Ps))(rt:Option (Fm×Bool×List (List Nat))):Prop:=match rt with
 | none=>r=none
 | some (t,u,ts)=>∃p',r=some (p.f.length+QG t-1,p')/\p'.f=p.f++X8 t p.f.length/\p'.u=(p.u||u)/\XZ p'.r=(ts,(XZ p.r).2)/\p'.r.length<p.r.length
def wr (opd:Ps->Option (Nat×Ps))(opt:List (List Nat)->Option (Fm×Bool×List (List Nat))):Prop:=∀p,pP p (opd p) (opt (XZ p.r).1)
def kK (opt:List (List Nat)->Option (Fm×Bool×List (List Nat))):Prop:=∀ts t u Jf,opt ts=some (t,u,Jf)->Jf.length<ts.length
theorem Rh {op:List Nat}{o:Int}{mk:Fm->Fm->Fm}{opd:Ps->Option (Nat×Ps)}{opt:List (List Nat)->Option (Fm×Bool×List (List Nat))}
  (ce:∀p,match Kn op p with
   | (true,p')=>XZ p.r=(op::(XZ p'.r).1,(XZ p'.r).2)/\p'.f=p.f/\p'.u=p.u/\p'.r.length<p.r.length
   | (false,p')=>(XZ p.r).1.head? ≠some op/\p'={p with r:=ZG p.r})
  (El:∀a b k,X8 (mk a b) k=X8 a k++X8 b (k+QG a)++ [⟨o,0,((k+QG a-1:Nat):Int),((k+QG a+QG b-1:Nat):Int)⟩]) (XG:∀a b,QG (mk a b)=QG a+QG b+1) (H:wr opd opt) (hl:kK opt):
  ∀(m m':Nat) (a:Fm) (u:Bool) (p0 p:Ps),p.f=p0.f++X8 a p0.f.length->p.u=(p0.u||u)->(XZ p.r).2=(XZ p0.r).2->p.r.length<p0.r.length->p.r.length<m->(XZ p.r).1.length<m'->
   pP p0 (f0 op o opd m (p0.f.length+QG a-1) p) (Yy op mk opt m' a u (XZ p.r).1)
 | 0,m',a,u,p0,p,_,_,_,_,h,_=>by omega
 | m+1,0,a,u,p0,p,_,_,_,_,_,h=>by omega
 | m+1,m'+1,a,u,p0,p,hf,hu,Ke,hr,hm,Ek=>by
  have hs:=ce p;unfold f0 Yy;cases oV:Kn op p with
  | mk b p1=>
  rw[oV] at hs;cases b with
  | false=>
   obtain⟨h1,rfl⟩:=hs;rw[if_neg h1];refine⟨_,rfl,hf,hu,?_,?_⟩
   ·simp only;rw[pO,<-Ke]
   ·have:=sT p.r;simp only;omega
  | true=>
   obtain⟨h1,h2,h3,h4⟩:=hs;have hh:=QO Prod.fst h1;have xx:=QO Prod.snd h1;simp only at hh xx;rw[hh,ET,Qf rfl,List.tail_cons];simp only;have hc:=H p1;cases ho:opt (XZ p1.r).1 with
   | none=>
    rw[ho] at hc;simp only[pP] at hc ⊢;rw[hc]
   | some q=>
    obtain⟨t,v,ts⟩:=q;rw[ho] at hc;obtain⟨p2,e1,e2,e3,e4,e5⟩:=hc;rw[e1];simp only;have Q5:=hl _ _ _ _ ho;have pa:=Yz a;have pt:=Yz t;rw[hf] at h2;have Kk:p1.f.length=p0.f.length+QG a:=by rw[h2,Qy,J0]
    have ih:=Rh ce El XG H hl m m' (mk a t) (u||v) p0 {p2 with f:=p2.f++ [⟨o,0,((p0.f.length+QG a-1:Nat):Int),((p1.f.length+QG t-1:Nat):Int)⟩]}
     (by simp only;rw[e2,h2,El,Qy,J0];simp) (by simp only;rw[e3,h3,hu,EU]) (by simp only;rw[e4,<-xx,Ke]) (by simp only;omega) (by simp only;omega)
     (by simp only;rw[e4];simp only;rw[hh] at Ek;simp only[Xs] at Ek;omega)
    simp only[e4] at ih;have hx:p2.f.length=p0.f.length+QG (mk a t)-1:=by rw[e2,Qy,J0,Kk,XG];omega
    rw[hx];exact ih
theorem Bf {op:List Nat}{o:Int}{mk:Fm->Fm->Fm}{opd:Ps->Option (Nat×Ps)}{opt:List (List Nat)->Option (Fm×Bool×List (List Nat))}
  (ce:∀p,match Kn op p with
   | (true,p')=>XZ p.r=(op::(XZ p'.r).1,(XZ p'.r).2)/\p'.f=p.f/\p'.u=p.u/\p'.r.length<p.r.length
   | (false,p')=>(XZ p.r).1.head? ≠some op/\p'={p with r:=ZG p.r})
  (El:∀a b k,X8 (mk a b) k=X8 a k++X8 b (k+QG a)++ [⟨o,0,((k+QG a-1:Nat):Int),((k+QG a+QG b-1:Nat):Int)⟩]) (XG:∀a b,QG (mk a b)=QG a+QG b+1) (H:wr opd opt) (hl:kK opt):wr (Vu op o opd) (YS op mk opt):=λp=>by
 have hc:=H p;unfold Vu YS;cases ho:opt (XZ p.r).1 with
 | none=>
  rw[ho] at hc;simp only[pP] at hc ⊢;rw[hc]
 | some q=>
  obtain⟨t,v,ts⟩:=q;rw[ho] at hc;obtain⟨p2,e1,e2,e3,e4,e5⟩:=hc;rw[e1];simp only;have:=Rh ce El XG H hl (p2.r.length+1) (ts.length+1) t v p p2 e2 e3 (by rw[e4]) e5 (by omega) (by rw[e4];exact ez _);rw[e4] at this;exact this
theorem Ri {op:List Nat}{mk:Fm->Fm->Fm}{opt:List (List Nat)->Option (Fm×Bool×List (List Nat))}(hl:kK opt):∀(m:Nat)(a:Fm)(u:Bool)(ts:List (List Nat))(t:Fm)(v:Bool)(Jf:List (List Nat)),Yy op mk opt m a u ts=some (t,v,Jf)->Jf.length<=ts.length
 | 0,a,u,ts,t,v,Jf,h=>by cases h
 | m+1,a,u,ts,t,v,Jf,h=>by
  unfold Yy at h;split at h
  ·cases ho:opt ts.tail with
   | none=>rw[ho] at h;cases h
   | some q=>
    obtain⟨b,v2,io⟩:=q;rw[ho] at h;have h1:=Ri hl m _ _ _ _ _ _ h;have h2:=hl _ _ _ _ ho;rw[zT] at h2;omega
  ·cases h;exact QD _
theorem wt {op:List Nat}{mk:Fm->Fm->Fm}{opt:List (List Nat)->Option (Fm×Bool×List (List Nat))}(hl:kK opt):kK (YS op mk opt):=λts t u Jf h=>by
 unfold YS at h;cases ho:opt ts with
 | none=>rw[ho] at h;cases h
 | some q=>
  obtain⟨b,v2,io⟩:=q;rw[ho] at h;have h1:=Ri hl _ _ _ _ _ _ _ h;have h2:=hl _ _ _ _ ho;omega
theorem tm (ix:List Nat->Option Nat):∀n,kK (KO ix n)
 | 0=>λts t u Jf h=>by cases h
 | n+1=>λts t u Jf h=>by
  have ih:=tm ix n;cases ts with
  | nil=>cases h
  | cons x ts=>
   unfold KO at h;split at h
   ·cases ho:KO ix n ts with
    | none=>rw[ho] at h;cases h
    | some q=>
     obtain⟨b,v2,io⟩:=q;rw[ho] at h;have:=ih _ _ _ _ ho;cases h;simp;omega
   ·split at h
    ·cases ho:YS [124,124] .or (YS [38,38] .and (KO ix n)) ts with
     | none=>rw[ho] at h;cases h
     | some q=>
      obtain⟨b,v2,io⟩:=q;rw[ho] at h;have:=wt (op:=[124,124]) (mk:=.or) (wt (op:=[38,38]) (mk:=.and) ih) _ _ _ _ ho;simp only at h;split at h
      ·cases h;simp[zT];omega
      ·cases h
    ·split at h
     ·cases h;simp
     ·cases h
theorem fQr (p:Nat->Bool)(l:List Nat):l.take (l.takeWhile p).length=l.takeWhile p:=by
 induction l with
 | nil=>rfl
 | cons x l ih=>
  rw[WW];split
  ·rw[Xs,vi,ih]
  ·rfl
theorem fQs (p:Nat->Bool)(l:List Nat):l.drop (l.takeWhile p).length=l.dropWhile p:=by
 induction l with
 | nil=>rfl
 | cons x l ih=>
  rw[WW,pk];split
  ·rw[Xs,NS,ih]
  ·rfl
theorem fQt (l:List Nat):ZG (ZG l)=ZG l:=by
 cases h:ZG l with
 | nil=>rfl
 | cons b r=>
  have:=wq h;unfold ZG;rw[pk,if_neg (by simpa using this)]
theorem Rj {x:Nat}{r:List Nat}(h:Vt (x::r)≠0):V6 x=true/\Vt (x::r)=((x::r).takeWhile X3).length:=by
 have e:Vt (x::r)=if isDig x then 0 else((x::r).takeWhile X3).length:=rfl
 rw[e] at h ⊢;split at h
 ·exact Xd rfl h
 ·rename_i hd;rw[if_neg hd];refine⟨?_,rfl⟩;rw[WW] at h;split at h
  ·rename_i hi;unfold X3 at hi;rw[Bool.or_eq_true] at hi;exact hi.resolve_right hd
  ·exact Xd rfl h
theorem fQu {x:Nat}{r:List Nat}(h:Vt (x::r)=0):V6 x=false:=by
 have e:Vt (x::r)=if isDig x then 0 else((x::r).takeWhile X3).length:=rfl
 rw[e] at h;rw[<-NR];intro hl;have hb:x=95∨(97<=x/\x<=122)∨(65<=x/\x<=90):=by unfold V6 at hl;simp at hl;omega
 rw[if_neg (by unfold isDig;simp;omega),WW,Qf (tj hl)] at h;simp at h
theorem fQv {x:Nat}{r:List Nat}(h:V6 x=true):Be ((x::r).takeWhile X3)=true:=by
 rw[WW,Qf (tj h)];exact h
theorem Rk (ix:List Nat->Option Nat):∀n,wr (cy ix n) (KO ix n)
 | 0=>λp=>rfl
 | n+1=>λp=>by
  have ih:=Rk ix n;have em:=tm ix n;have s1:=FY (b:=33) (by omega) p;cases hk:Kn [33] p with
  | mk b p1=>
  rw[hk] at s1;cases b with
  | true=>
   obtain⟨h1,h2,h3,h4⟩:=s1;rw[FC ix n hk,h1];have hc:=ih p1;unfold KO;rw[Qf rfl];cases ho:KO ix n (XZ p1.r).1 with
   | none=>
    rw[ho] at hc;simp only[pP] at hc ⊢;rw[hc]
   | some q=>
    obtain⟨t,v,ts⟩:=q;rw[ho] at hc;obtain⟨p2,e1,e2,e3,e4,e5⟩:=hc;rw[e1];have pt:=Yz t;refine⟨(V7 ⟨3,0,((p1.f.length+QG t-1:Nat):Int),0⟩ p2).2,?_,?_,?_,?_,?_⟩
    ·simp only[V7];rw[e2,Qy,J0,h2]<;>rfl
    ·simp only[V7];rw[e2,h2];simp[X8]
    ·simp only[V7];rw[e3,h3]
    ·simp only[V7];rw[e4,h1]
    ·simp only[V7];omega
  | false=>
   obtain⟨h1,rfl⟩:=s1;have s2:=FY (b:=40) (by omega) {p with r:=ZG p.r};cases VX:Kn [40] {p with r:=ZG p.r}with
   | mk b p2=>
   rw[VX] at s2;have V5:=sT p.r;cases b with
   | true=>
    obtain⟨h5,h6,h7,h8⟩:=s2;simp only[pO] at h5 h6 h7 h8;rw[FD ix n hk VX,h5];have hc:=Bf (op:=[124,124]) (o:=5) (mk:=.or) (λp=>Bc (by omega) p) (λa b k=>rfl) (λa b=>rfl) (Bf (op:=[38,38]) (o:=4) (mk:=.and) (λp=>Bc (by omega) p) (λa b k=>rfl) (λa b=>rfl) ih em) (wt em) p2;unfold KO;rw[if_neg (by decide),Qf rfl];unfold gQ;cases ho:YS [124,124] Fm.or (YS [38,38] Fm.and (KO ix n)) (XZ p2.r).1 with
    | none=>
     rw[ho] at hc;simp only[pP] at hc ⊢;rw[hc]
    | some q=>
     obtain⟨t,v,ts⟩:=q;rw[ho] at hc;obtain⟨p3,e1,e2,e3,e4,e5⟩:=hc;rw[e1];simp only;have s3:=FY (b:=41) (by omega) p3;cases jw:Kn [41] p3 with
     | mk b p4=>
     rw[jw] at s3;cases b with
     | true=>
      obtain⟨g1,g2,g3,g4⟩:=s3;have ht:=QO Prod.fst (e4.symm.trans g1);have dT:=QO Prod.snd (e4.symm.trans g1);simp only at ht dT;rw[ht,ET,Qf rfl,List.tail_cons];refine⟨_,by rw[h6],by rw[g2,e2,h6],by rw[g3,e3,h7],?_,?_⟩
      ·rw[h5];simp only;rw[dT]
      ·omega
     | false=>
      obtain⟨g1,rfl⟩:=s3;rw[e4] at g1;simp only at g1;rw[if_neg g1]<;>rfl
   | false=>
    obtain⟨h5,rfl⟩:=s2;simp only[pO] at h5;rw[FE ix n hk VX];simp only[fQt];have hl:=pO p.r;cases ht:ZG p.r with
    | nil=>
     rw[ht,wm] at hl;rw[<-hl]<;>rfl
    | cons x r=>
     have hx:=wq ht;rw[ht] at hl V5;rw[<-hl] at h1 h5 ⊢;by_cases ee:Vt (x::r)=0
     ·rw[Qf ee];have h4:=fQu ee;have:KO ix (n+1) (XZ (x::r)).1=none:=by
       by_cases h2:x=40∨x=41∨x=33
       ·rw[mQ h2] at h1 h5 ⊢;simp only[ET,ne_eq,Option.some.injEq,List.cons.injEq,and_true] at h1 h5;have:x=41:=by omega
        subst this;rfl
       ·by_cases h3:(x=38∨x=124)/\r.head? =some x
        ·cases r with
         | nil=>simp at h3
         | cons y r=>
          simp at h3;obtain⟨h3,rfl⟩:=h3;rw[pN h3];rcases h3 with rfl | rfl<;>rfl
        ·rw[A6 hx h2 h3 h4]<;>rfl
      rw[this]<;>rfl
     ·rw[if_neg ee];obtain⟨XL,Ke⟩:=Rj ee;rw[Ke,fQr,fQs];have mQm:=wo (l:=r) XL;rw[mQm] at h1 h5 hl ⊢;simp only[ET,ne_eq,Option.some.injEq] at h1 h5;unfold KO;rw[if_neg h1,if_neg h5,Qf (fQv XL)];have Xf:((x::r).dropWhile X3).length<p.r.length:=by
       rw[AY XL];have:=AZ X3 r;simp only[Xs] at V5;omega
      unfold kJ;by_cases fh:(x::r).takeWhile X3=Yv
      ·rw[Qf fh,Qf fh];exact⟨_,rfl,rfl,by simp,by simp only;rw[<-hl],Xf⟩
      ·rw[if_neg fh,if_neg fh];by_cases dT:(x::r).takeWhile X3=aC
       ·rw[Qf dT,Qf dT];exact⟨_,rfl,rfl,by simp,by simp only;rw[<-hl],Xf⟩
       ·rw[if_neg dT,if_neg dT];exact⟨_,rfl,rfl,rfl,by simp only;rw[<-hl],Xf⟩
theorem fQw (ix:List Nat->Option Nat)(n:Nat):wr (gQ ix n) (tk ix n):=
 Bf (op:=[124,124]) (o:=5) (mk:=.or) (λp=>Bc (by omega) p) (λ_ _ _=>rfl) (λ_ _=>rfl) (Bf (op:=[38,38]) (o:=4) (mk:=.and) (λp=>Bc (by omega) p) (λ_ _ _=>rfl) (λ_ _=>rfl) (Rk ix n) (tm ix n)) (wt (tm ix n))
theorem fQx (l:List Nat):ZG l=[]↔XZ l=([],true):=by
 rw[<-pO l];cases h:ZG l with
 | nil=>simp[wm]
 | cons x r=>
  have hx:=wq h;simp only[reduceCtorEq,false_iff];intro e;by_cases h2:x=40∨x=41∨x=33
  ·rw[mQ h2] at e;simp at e
  ·by_cases h3:(x=38∨x=124)/\r.head? =some x
   ·cases r with
    | nil=>simp at h3
    | cons y r=>
     simp at h3;obtain⟨h3,rfl⟩:=h3;rw[pN h3] at e;simp at e
   ·by_cases h4:V6 x=true
    ·rw[wo h4] at e;simp at e
    ·rw[A6 hx h2 h3 (by simpa using h4)] at e;simp at e
def Bg (names:List (List Nat))(s:List Nat):List Fz×Int:=if Zx names then
  if(XZ s).2 then match tk (JB names) (s.length+1) (XZ s).1 with
   | none=>([],31)
   | some (t,u,ts)=>if ts≠ [] then([],31)else if u then([],3)else if 512<QG t then([],2)else(X8 t 0,0)
  else([],31)
 else([],1)
theorem Rl (names:List (List Nat))(s:List Nat):dE names s=Bg names s:=by
 unfold dE Bg;by_cases hn:Zx names=true
 ·rw[Qf hn,Qf hn];have hc:=fQw (JB names) (s.length+1) ⟨s,[],false⟩;simp only at hc;cases ho:tk (JB names) (s.length+1) (XZ s).1 with
  | none=>
   rw[ho] at hc;simp only[pP] at hc;rw[hc];simp
  | some q=>
   obtain⟨t,v,ts⟩:=q;rw[ho] at hc;obtain⟨p2,e1,e2,e3,e4,e5⟩:=hc;rw[e1];simp only at e2 e3 e4 ⊢;simp only[dw,JI,Bool.false_or] at e2 e3;have he:=fQx p2.r;rw[e4] at he;by_cases hf:(XZ s).2=true
   ·rw[Qf hf];rw[hf] at he;simp only[Prod.mk.injEq,and_true] at he;rw[e3,e2,J0];by_cases gy:ts=[]
    ·rw[if_neg (λh=>h (he.2 gy)),if_neg (c:=ts≠ []) (λh=>h gy)]
    ·rw[Qf (λh=>gy (he.1 h)),Qf gy]
   ·rw[if_neg hf,Qf (λh=>hf (by have:=QO Prod.snd (he.1 h);simpa using this))]
 ·rw[if_neg hn,if_neg hn]
end
section
def VW (b:Bool)(ts:List (List Nat)):List (List Nat):=if b then [40]::ts++ [[41]] else ts
def Jg (nm:List (List Nat)):Fm->List (List Nat)
 | .c b=>[if b then Yv else aC]
 | .v n=>[nm[n]?.getD []]
 | .not a=>[33]::VW (decide (ZR a<2)) (Jg nm a)
 | .and a b=>VW (decide (ZR a<1)) (Jg nm a)++ [38,38]::VW (decide (ZR b<2)) (Jg nm b)
 | .or a b=>Jg nm a++ [124,124]::VW (decide (ZR b<1)) (Jg nm b)
theorem fQy (nm:List (List Nat)):∀t:Fm,0<(Jg nm t).length
 | .c _=>Nat.one_pos
 | .v _=>Nat.one_pos
 | .not _=>Nat.succ_pos _
 | .and _ _=>by simp only[Jg,Qy,Xs];omega
 | .or _ _=>by simp only[Jg,Qy,Xs];omega
def Stop (l:List Nat):Prop:=∀b r,l=b::r->X3 b=false
theorem Stop.nil:Stop []:=λ_ _ h=>by cases h
theorem Stop.cons {b:Nat}{r:List Nat}(h:X3 b=false):Stop (b::r):=λ_ _ e=>by cases e;exact h
def mR (w:List Nat):Prop:=(∃b r,w=b::r/\V6 b=true)/\∀x∈w,X3 x=true
theorem fQz {w rest:List Nat}(h:∀x∈w,X3 x=true)(hs:Stop rest):(w++rest).takeWhile X3=w/\(w++rest).dropWhile X3=rest:=by
 induction w with
 | nil=>
  cases rest with
  | nil=>exact⟨rfl,rfl⟩
  | cons b r=>
   have:=hs b r rfl;rw[dw,WW,pk,if_neg (by rw[this];decide),if_neg (by rw[this];decide)];exact⟨rfl,rfl⟩
 | cons x w ih=>
  obtain⟨h1,h2⟩:=ih (λy hy=>h y (by simp[hy]));have hx:=h x (by simp);rw[YK,WW,pk,Qf hx,Qf hx,h1,h2];exact⟨rfl,rfl⟩
theorem fQA {w rest:List Nat}(h:mR w)(hs:Stop rest):XZ (w++rest)=(w::(XZ rest).1,(XZ rest).2):=by
 obtain⟨⟨b,r,rfl,hb⟩,hall⟩:=h;obtain⟨h1,h2⟩:=fQz hall hs;rw[YK] at h1 h2 ⊢;rw[wo hb,h1,h2]
theorem Rm {w:List Nat}(h:mR w):Be w=true:=by
 obtain⟨⟨b,r,rfl,hb⟩,_⟩:=h;exact hb
theorem Bh {s:List Nat}(h:Vv s=true):mR s/\s≠Yv/\s≠aC:=by
 unfold Vv at h;rw[Vb] at h;obtain⟨h1,h2,h3,h4⟩:=h;cases s with
 | nil=>exact Xd rfl h1
 | cons b r=>
  obtain⟨hl,he⟩:=Rj (x:=b) (r:=r) (by rw[h2];simp);rw[he] at h2;refine⟨⟨⟨b,r,rfl,hl⟩,λx hx=>?_⟩,h3,h4⟩;have:(b::r).takeWhile X3=b::r:=(List.takeWhile_prefix X3).eq_of_length h2;rw[<-this] at hx;exact(VT.1 (List.all_takeWhile (p:=X3) (l:=b::r))) x hx
theorem Rn:mR Yv:=⟨⟨116,_,rfl,by decide⟩,by decide⟩
theorem Ro:mR aC:=⟨⟨102,_,rfl,by decide⟩,by decide⟩
structure NmOk (nm:List (List Nat)) (ix:List Nat->Option Nat):Prop where
 word:∀k,k<nm.length->Vv (nm[k]?.getD [])=true
 ix:∀k,k<nm.length->ix (nm[k]?.getD [])=some k
def LexS (s:List Nat)(ts:List (List Nat)):Prop:=∀rest,Stop rest->XZ (s++rest)=(ts++(XZ rest).1,(XZ rest).2)
theorem LexS.par {s:List Nat}{ts:List (List Nat)}(h:LexS s ts)(b:Bool):LexS (Yw b s) (VW b ts):=by
 cases b with
 | false=>exact h
 | true=>
  intro rest hs;show XZ (40::s++ [41]++rest)=_;rw[YK,YK,mQ (by omega),K9,List.singleton_append,h (41::rest) (Stop.cons (by decide)),mQ (by omega)];simp[VW]
theorem LexS.word {w:List Nat}(h:mR w):LexS w [w]:=λ_ hs=>fQA h hs
theorem tq {nm:List (List Nat)}{ix:List Nat->Option Nat}(hn:NmOk nm ix):∀(t:Fm),VarsIn nm.length t->LexS (Jn nm t) (Jg nm t)
 | .c b,_=>by
  cases b with
  | true=>exact LexS.word Rn
  | false=>exact LexS.word Ro
 | .v n,h=>LexS.word (Bh (hn.word n h)).1
 | .not a,h=>by
  have ih:=(tq hn a h).par (decide (ZR a<2));intro rest hs;show XZ (33::Yw _ _++rest)=_;rw[YK,mQ (by omega),ih rest hs]<;>rfl
 | .and a b,h=>by
  have iha:=(tq hn a h.1).par (decide (ZR a<1));have ihb:=(tq hn b h.2).par (decide (ZR b<2));intro rest hs;show XZ (Yw _ _++ [32,38,38,32]++Yw _ _++rest)=_;rw[K9,K9,show [32,38,38,32]++(Yw (decide (ZR b<2)) (Jn nm b)++rest)=32::38::38::32::(Yw (decide (ZR b<2)) (Jn nm b)++rest) from rfl];rw[iha _ (Stop.cons (b:=32) (by decide)),wn (by omega),pN (by omega),wn (by omega),ihb rest hs];simp[Jg]
 | .or a b,h=>by
  have iha:=tq hn a h.1;have ihb:=(tq hn b h.2).par (decide (ZR b<1));intro rest hs;show XZ (Yw (decide (ZR a<0)) _++ [32,124,124,32]++Yw _ _++rest)=_;rw[show decide (ZR a<0)=false from XS (by omega)];show XZ (Jn nm a++ [32,124,124,32]++Yw _ _++rest)=_;rw[K9,K9,show [32,124,124,32]++(Yw (decide (ZR b<1)) (Jn nm b)++rest)=32::124::124::32::(Yw (decide (ZR b<1)) (Jn nm b)++rest) from rfl];rw[iha _ (Stop.cons (b:=32) (by decide)),wn (by omega),pN (by omega),wn (by omega),ihb rest hs];simp[Jg]
theorem fQB {nm:List (List Nat)}{ix:List Nat->Option Nat}(hn:NmOk nm ix)(t:Fm)(h:VarsIn nm.length t):XZ (ZS nm 0 t)=(Jg nm t,true):=by
 have:=tq hn t h [] Stop.nil;unfold ZS;rw[show decide (ZR t<0)=false from XS (by omega)];simp only[Yr,wm] at this;exact this
theorem Rp {op:List Nat}{mk:Fm->Fm->Fm}{opt:List (List Nat)->Option (Fm×Bool×List (List Nat))}(hl:kK opt):∀(m m':Nat)(a:Fm)(u:Bool)(ts:List (List Nat)),ts.length<m->ts.length<m'->Yy op mk opt m a u ts=Yy op mk opt m' a u ts
 | 0,_,_,_,_,h,_=>by omega
 | _+1,0,_,_,_,_,h=>by omega
 | m+1,m'+1,a,u,ts,h,h'=>by
  unfold Yy;split
  ·cases ho:opt ts.tail with
   | none=>rfl
   | some q=>
    obtain⟨b,v,Jf⟩:=q;have:=hl _ _ _ _ ho;rw[zT] at this;exact Rp hl m m' _ _ Jf (by omega) (by omega)
  ·rfl
theorem Bi {op:List Nat}{mk:Fm->Fm->Fm}{opt:List (List Nat)->Option (Fm×Bool×List (List Nat))}{m:Nat}{a:Fm}{u:Bool}{ts:List (List Nat)}(h:ts.head? ≠some op):Yy op mk opt (m+1) a u ts=some (a,u,ts):=by
 unfold Yy;rw[if_neg h]
theorem Rq {op:List Nat}{mk:Fm->Fm->Fm}{opt:List (List Nat)->Option (Fm×Bool×List (List Nat))}(hl:kK opt){m:Nat}{a b:Fm}{u v:Bool}{ts Jf:List (List Nat)}(h:opt ts=some (b,v,Jf)):Yy op mk opt ((op::ts).length+m) a u (op::ts)=Yy op mk opt (Jf.length+1) (mk a b) (u||v) Jf:=by
 have:=hl _ _ _ _ h;have e:Yy op mk opt ((ts.length+m)+1) a u (op::ts)=Yy op mk opt (ts.length+m) (mk a b) (u||v) Jf:=by
  rw[Yy,ET,Qf rfl,List.tail_cons,h]
 rw[Xs,show ts.length+1+m=(ts.length+m)+1 by omega,e];exact Rp hl _ _ _ _ _ (by omega) (by omega)
theorem fQC (ix:List Nat->Option Nat)(b:Bool):kJ ix (if b then Yv else aC)=(.c b,false):=by cases b<;>rfl
theorem fQD {nm:List (List Nat)}{ix:List Nat->Option Nat}(hn:NmOk nm ix){n:Nat}(h:n<nm.length):kJ ix (nm[n]?.getD [])=(.v n,false):=by
 obtain⟨_,h1,h2⟩:=Bh (hn.word n h);unfold kJ;rw[if_neg h1,if_neg h2,hn.ix n h]<;>rfl
theorem fQE {w:List Nat}(h:mR w):w≠ [33]/\w≠ [40]/\w≠ [41]/\w≠ [38,38]/\w≠ [124,124]:=by
 obtain⟨⟨b,r,rfl,hb⟩,_⟩:=h;refine⟨?_,?_,?_,?_,?_⟩<;>(intro e;cases e;exact Xd hb (by decide))
theorem Rs {ix:List Nat->Option Nat}{n:Nat}{w:List Nat}{rest:List (List Nat)}(h:mR w):KO ix (n+1) (w::rest)=some ((kJ ix w).1,(kJ ix w).2,rest):=by
 have:=fQE h;unfold KO;rw[if_neg this.1,if_neg this.2.1,Qf (Rm h)]
abbrev tr (ix:List Nat->Option Nat)(n:Nat):=YS [38,38] Fm.and (KO ix n)
abbrev Rt (ix:List Nat->Option Nat)(n:Nat):=YS [124,124] Fm.or (tr ix n)
theorem fQF (ix:List Nat->Option Nat)(n:Nat):kK (tr ix n):=wt (tm ix n)
theorem Ru {op:List Nat}{mk:Fm->Fm->Fm}{opt:List (List Nat)->Option (Fm×Bool×List (List Nat))}{ts Jf:List (List Nat)}{a:Fm}{u:Bool}(h:opt ts=some (a,u,Jf)):YS op mk opt ts=Yy op mk opt (Jf.length+1) a u Jf:=by
 unfold YS;rw[h]
def FZ (nm:List (List Nat))(ix:List Nat->Option Nat)(n:Nat):Prop:=∀(t:Fm)(rest:List (List Nat)),VarsIn nm.length t->(VW (decide (ZR t<2)) (Jg nm t)).length<=n->KO ix n (VW (decide (ZR t<2)) (Jg nm t)++rest)=some (t,false,rest)
theorem Rv {nm:List (List Nat)}{ix:List Nat->Option Nat}{n:Nat}(F:FZ nm ix n):∀(t:Fm)(rest:List (List Nat)),VarsIn nm.length t->(VW (decide (ZR t<1)) (Jg nm t)).length<=n->
  tr ix n (VW (decide (ZR t<1)) (Jg nm t)++rest)=Yy [38,38] .and (KO ix n) (rest.length+1) t false rest:=by
 intro t;have base:∀t,decide (ZR t<1)=decide (ZR t<2)->∀rest,VarsIn nm.length t->(VW (decide (ZR t<1)) (Jg nm t)).length<=n->tr ix n (VW (decide (ZR t<1)) (Jg nm t)++rest)=Yy [38,38] .and (KO ix n) (rest.length+1) t false rest:=by
  intro t e rest hv hl;rw[e] at hl ⊢;exact Ru (F t rest hv hl)
 induction t with
 | c b=>exact base _ rfl
 | v k=>exact base _ rfl
 | not a _=>exact base _ rfl
 | or a b _ _=>exact base _ rfl
 | and a b iha _=>
  intro rest hv hl;have e:VW (decide (ZR (.and a b)<1)) (Jg nm (.and a b))=VW (decide (ZR a<1)) (Jg nm a)++ [38,38]::VW (decide (ZR b<2)) (Jg nm b):=rfl;rw[e,Qy,Xs] at hl;rw[e,K9,YK,iha _ hv.1 (by omega)];have hf:=F b rest hv.2 (by omega);exact Rq (tm ix n) (m:=1) hf
theorem Rw {nm:List (List Nat)}{ix:List Nat->Option Nat}{n:Nat}(F:FZ nm ix n):∀(t:Fm)(rest:List (List Nat)),VarsIn nm.length t->(Jg nm t).length<=n->rest.head? ≠some [38,38]->
  Rt ix n (Jg nm t++rest)=Yy [124,124] .or (tr ix n) (rest.length+1) t false rest:=by
 intro t;have base:∀t,decide (ZR t<1)=false->∀rest,VarsIn nm.length t->(Jg nm t).length<=n->rest.head? ≠some [38,38]->Rt ix n (Jg nm t++rest)=Yy [124,124] .or (tr ix n) (rest.length+1) t false rest:=by
  intro t e rest hv hl hs;have:=Rv F t rest hv (by rw[e];exact hl);rw[e,Bi hs] at this;exact Ru this
 induction t with
 | c b=>exact base _ rfl
 | v k=>exact base _ rfl
 | not a _=>exact base _ rfl
 | and a b _ _=>exact base _ rfl
 | or a b iha _=>
  intro rest hv hl hs;have e:Jg nm (.or a b)=Jg nm a++ [124,124]::VW (decide (ZR b<1)) (Jg nm b):=rfl;rw[e,Qy,Xs] at hl;rw[e,K9,YK,iha _ hv.1 (by omega) (by simp)];have hf:=Rv F b rest hv.2 (by omega);rw[Bi hs] at hf;exact Rq (fQF ix n) (m:=1) hf
theorem Rx {nm:List (List Nat)}{ix:List Nat->Option Nat}(hn:NmOk nm ix):∀n,FZ nm ix n
 | 0=>λt rest hv hl=>by
  have:∀(b:Bool),0<(VW b (Jg nm t)).length:=by
   intro b;have:=fQy nm t;cases b with
   | true=>simp[VW]
   | false=>exact this
  have:=this (decide (ZR t<2));omega
 | n+1=>λt rest hv hl=>by
  have F:=Rx hn n;by_cases h2:ZR t<2
  ·rw[XT h2] at hl ⊢;have e:VW true (Jg nm t)++rest=[40]::(Jg nm t++ [41]::rest):=by simp[VW]
   have cg:(Jg nm t).length<=n:=by simp[VW] at hl;omega
   rw[e];have ho:=Rw F t ([41]::rest) hv cg (by simp);rw[Bi (by simp)] at ho;unfold KO;have KA:YS [124,124] Fm.or (YS [38,38] Fm.and (KO ix n)) (Jg nm t++ [41]::rest)=some (t,false,[41]::rest):=ho;rw[if_neg (by decide),Qf rfl,KA];simp
  ·rw[XS h2] at hl ⊢;cases t with
   | c b=>
    show KO ix (n+1) ((if b then Yv else aC)::rest)=_;rw[Rs (by cases b;exact Ro;exact Rn),fQC]
   | v k=>
    show KO ix (n+1) (nm[k]?.getD []::rest)=_;rw[Rs (Bh (hn.word k hv)).1,fQD hn hv]
   | not a=>
    have cg:(VW (decide (ZR a<2)) (Jg nm a)).length<=n:=by
     have:(VW false (Jg nm (.not a))).length=(VW (decide (ZR a<2)) (Jg nm a)).length+1:=rfl;omega
    show KO ix (n+1) ([33]::(VW (decide (ZR a<2)) (Jg nm a)++rest))=_;unfold KO;rw[Qf rfl,F a rest hv cg]
   | and a b=>exact Xd (show ZR (.and a b)<2 by simp[ZR]) h2
   | or a b=>exact Xd (show ZR (.or a b)<2 by simp[ZR]) h2
theorem fQG {nm:List (List Nat)}{ix:List Nat->Option Nat}(hn:NmOk nm ix)(t:Fm)(hv:VarsIn nm.length t){n:Nat}(hl:(Jg nm t).length<=n):tk ix n (Jg nm t)=some (t,false,[]):=by
 have:=Rw (Rx hn n) t [] hv hl (by simp);rw[Yr,Bi (by simp)] at this;exact this
theorem Bj:∀(n:Nat)(l:List Nat),(Ya n l).1.length<=l.length
 | 0,l=>Xt _
 | n+1,[]=>Xt _
 | n+1,b::l=>by
  have i1:=Bj n l;have i2:=Bj n l.tail;rw[zT] at i2;simp only[Ya,Xs];split
  ·omega
  ·split
   ·simp only[Xs];omega
   ·split
    ·rename_i h;cases l with
     | nil=>simp at h
     | cons y l=>simp only[Xs] at i2 ⊢;omega
    ·split
     ·rename_i h;have i3:=Bj n (l.dropWhile X3);have:=AZ X3 l;rw[AY h];simp only[Xs];omega
     ·simp
theorem fQH {nm:List (List Nat)}(hn:Zx nm=true)(hi:NmOk nm (JB nm))(t:Fm)(hv:VarsIn nm.length t)(hs:QG t<=512):dE nm (ZS nm 0 t)=(X8 t 0,0):=by
 rw[Rl];unfold Bg;have hl:=fQB hi t hv;have ZO:(Jg nm t).length<=(ZS nm 0 t).length+1:=by
  have:=Bj (ZS nm 0 t).length (ZS nm 0 t);have e:Ya (ZS nm 0 t).length (ZS nm 0 t)=(Jg nm t,true):=hl;rw[e] at this;exact Nat.le_succ_of_le this
 rw[Qf hn,hl];simp only;rw[Qf trivial,fQG hi t hv ZO];simp only;rw[if_neg (c:=([]:List (List Nat))≠ []) (λh=>h rfl),if_neg (by decide),if_neg (by omega)]
end
section
theorem Ry (a:ByteArray)(v:Value):∀m:List (ByteArray×Value),a∈m.map Prod.fst->(Zg a v m).map Prod.fst=m.map Prod.fst
 | [],h=>by simp at h
 | (b,u)::m,h=>by
  unfold Zg;by_cases e:a=b
  ·subst e;rw[Qf rfl]<;>rfl
  ·rw[if_neg e,WA,Ry a v m (by simp only[WA,Q0] at h;exact h.resolve_left e)];rfl
theorem F0 (a:ByteArray)(v:Value):∀m:List (ByteArray×Value),a∉m.map Prod.fst->(Zg a v m).map Prod.fst=m.map Prod.fst++ [a]
 | [],_=>rfl
 | (b,u)::m,h=>by
  simp only[WA,Q0,not_or] at h;unfold Zg;rw[if_neg h.1,WA,F0 a v m h.2]<;>rfl
theorem Rz (a:ByteArray)(v:Value)(m:List (ByteArray×Value))(h:a∈m.map Prod.fst):(Zg a v m).length=m.length:=by
 have:=QO List.length (Ry a v m h);simpa using this
theorem RB (a:ByteArray)(v:Value)(m:List (ByteArray×Value))(h:a∉m.map Prod.fst):(Zg a v m).length=m.length+1:=by
 have:=QO List.length (F0 a v m h);simpa using this
theorem RC:∀(l:List (List Nat))(i:Nat)(m:List (ByteArray×Value)),(YP l i m).length<=m.length+l.length
 | [],_,m=>QD _
 | s::l,i,m=>by
  have:=RC l (i+1) (Zg (Qe s) (.int .i64 (i:Nat)) m);simp only[YP,Xs];by_cases h:Qe s∈m.map Prod.fst
  ·have:=Rz _ (.int .i64 (i:Nat)) m h;omega
  ·have:=RB _ (.int .i64 (i:Nat)) m h;omega
theorem RD:∀(l:List (List Nat))(i:Nat)(m:List (ByteArray×Value)),(∀s∈l,∀x∈s,x<256)->((YP l i m).length=m.length+l.length↔l.Nodup/\∀s∈l,Qe s∉m.map Prod.fst)
 | [],_,m,_=>by simp[YP]
 | s::l,i,m,hb=>by
  have hs:=hb s (by simp);have ih:=RD l (i+1) (Zg (Qe s) (.int .i64 (i:Nat)) m) (λt ht=>hb t (by simp[ht]));have ZO:=RC l (i+1) (Zg (Qe s) (.int .i64 (i:Nat)) m);simp only[YP,Xs];by_cases h:Qe s∈m.map Prod.fst
  ·have hl:=Rz _ (.int .i64 (i:Nat)) m h;constructor
   ·intro e;omega
   ·intro e;exact Xd h (e.2 s (by simp))
  ·have hl:=RB _ (.int .i64 (i:Nat)) m h;have hk:=F0 _ (.int .i64 (i:Nat)) m h;rw[show m.length+(l.length+1)=(Zg (Qe s) (.int .i64 (i:Nat)) m).length+l.length by omega,ih,hk];simp only[zU,XH,not_or,Q0];constructor
   ·rintro⟨h1,h2⟩;refine⟨⟨λhm=>(h2 s hm).2.1 rfl,h1⟩,λt ht=>?_⟩;rcases ht with rfl | ht
    ·exact h
    ·exact(h2 t ht).1
   ·rintro⟨⟨h1,h2⟩,h3⟩;refine⟨h2,λt ht=>⟨h3 t (.inr ht),λe=>?_,by simp⟩⟩;have:=Z6 (hb t (by simp[ht])) hs e;subst this;exact h1 ht
theorem F3 {names:List (List Nat)}(hb:Jy names):Zx names=true↔names.all Vv=true/\names.Nodup/\names.length<=64:=by
 have:=RD names 0 [] (λs hs=>(hb s hs).1);simp only[JI,aq,List.map_nil,Jk,not_false_eq_true,implies_true,and_true] at this;unfold Zx;rw[Vb,this]
theorem RE (l:List Nat):∀(names:List (List Nat))(i:Nat)(QU:Option Nat),l∉names->gS l names i QU=QU
 | [],_,_,_=>rfl
 | s::names,i,QU,h=>by
  simp only[Q0,not_or] at h;rw[gS,if_neg (λe=>h.1 e.symm),RE l names (i+1) QU h.2]
theorem RF:∀(names:List (List Nat))(k i:Nat)(QU:Option Nat)(l:List Nat),names.Nodup->names[k]? =some l->gS l names i QU=some (i+k)
 | [],k,i,QU,l,_,h=>by simp at h
 | s::names,0,i,QU,l,hn,h=>by
  simp at h;subst h;rw[gS,Qf rfl,RE _ _ _ _ (zU.1 hn).1]<;>rfl
 | s::names,k+1,i,QU,l,hn,h=>by
  have h':names[k]? =some l:=by simpa using h
  rw[gS,RF names k (i+1) _ l (zU.1 hn).2 h'];congr 1;omega
theorem fQI {names:List (List Nat)}(hb:Jy names)(h:Zx names=true):NmOk names (JB names):=by
 obtain⟨h1,h2,h3⟩:=(F3 hb).1 h;refine⟨λk hk=>?_,λk hk=>?_⟩
 ·rw[Xb hk];exact VT.1 h1 _ (EV hk)
 ·rw[Xb hk];have:=RF names k 0 none names[k] h2 (Xb hk);rw[aq] at this;exact this
theorem tu:∀(t:Fm)(pre WT:List Fz),RepF (pre++X8 t pre.length++WT) t (pre.length+QG t-1)
 | .c b,pre,WT=>by
  show(pre++ [_]++WT)[pre.length+1-1]? =_;simp
 | .v n,pre,WT=>by
  show(pre++ [_]++WT)[pre.length+1-1]? =_;simp
 | .not a,pre,WT=>by
  have pa:=Yz a;refine⟨pre.length+QG a-1,by simp only[QG];omega,?_,?_⟩
  ·simp only[QG,X8];rw[K9,aU (by omega),K9,aU (by rw[J0];omega),J0,show pre.length+(QG a+1)-1-pre.length-QG a=0 by omega];rfl
  ·have:=tu a pre ([⟨3,0,((pre.length+QG a-1:Nat):Int),0⟩]++WT);simpa [X8] using this
 | .and a b,pre,WT=>by
  have pa:=Yz a;have pb:=Yz b;refine⟨pre.length+QG a-1,pre.length+QG a+QG b-1,by simp only[QG];omega,by simp only[QG];omega,?_,?_,?_⟩
  ·simp only[QG,X8];rw[K9,aU (by omega),K9,aU (by rw[Qy,J0,J0];omega),Qy,J0,J0,show pre.length+(QG a+QG b+1)-1-pre.length-(QG a+QG b)=0 by omega];rfl
  ·have:=tu a pre (X8 b (pre.length+QG a)++ [⟨4,0,((pre.length+QG a-1:Nat):Int),((pre.length+QG a+QG b-1:Nat):Int)⟩]++WT);simpa [X8] using this
  ·have:=tu b (pre++X8 a pre.length) ([⟨4,0,((pre.length+QG a-1:Nat):Int),((pre.length+QG a+QG b-1:Nat):Int)⟩]++WT);rw[Qy,J0] at this;simpa [X8] using this
 | .or a b,pre,WT=>by
  have pa:=Yz a;have pb:=Yz b;refine⟨pre.length+QG a-1,pre.length+QG a+QG b-1,by simp only[QG];omega,by simp only[QG];omega,?_,?_,?_⟩
  ·simp only[QG,X8];rw[K9,aU (by omega),K9,aU (by rw[Qy,J0,J0];omega),Qy,J0,J0,show pre.length+(QG a+QG b+1)-1-pre.length-(QG a+QG b)=0 by omega];rfl
  ·have:=tu a pre (X8 b (pre.length+QG a)++ [⟨5,0,((pre.length+QG a-1:Nat):Int),((pre.length+QG a+QG b-1:Nat):Int)⟩]++WT);simpa [X8] using this
  ·have:=tu b (pre++X8 a pre.length) ([⟨5,0,((pre.length+QG a-1:Nat):Int),((pre.length+QG a+QG b-1:Nat):Int)⟩]++WT);rw[Qy,J0] at this;simpa [X8] using this
theorem F4 (t:Fm):gb (X8 t 0)=t:=by
 refine FJ ?_;have:=tu t [] [];rw[J0];simpa using this
theorem pQ {α:Type}{l m:List α}{i:Nat}{x:α}(h:(l++m)[i]? =some x):(i<l.length/\l[i]? =some x)∨(l.length<=i/\m[i-l.length]? =some x):=by
 by_cases hi:i<l.length
 ·rw[ew hi] at h;exact .inl ⟨hi,h⟩
 ·rw[aU (by omega)] at h;exact .inr ⟨by omega,h⟩
theorem kL {α:Type}{y x:α}{i:Nat}(h: [y][i]? =some x):i=0/\x=y:=by
 cases i with
 | zero=>simp at h;exact⟨rfl,h.symm⟩
 | succ i=>simp at h
theorem fQJ {j i:Nat}(h:j<i):Vk ⟨3,0,(j:Nat),0⟩ i:=by
 refine⟨show 0<=Zn 3 by decide,rfl,?_,rfl⟩;show if 0<Zn 3 then _ else _
 rw[Qf (by decide)];simp only;omega
theorem fQK {j k i:Nat}(h:j<i)(h':k<i):Vk ⟨4,0,(j:Nat),(k:Nat)⟩ i:=by
 refine⟨show 0<=Zn 4 by decide,rfl,?_,?_⟩
 ·show if 0<Zn 4 then _ else _
  rw[Qf (by decide)];simp only;omega
 ·show if 1<Zn 4 then _ else _
  rw[Qf (by decide)];simp only;omega
theorem fQL {j k i:Nat}(h:j<i)(h':k<i):Vk ⟨5,0,(j:Nat),(k:Nat)⟩ i:=by
 refine⟨show 0<=Zn 5 by decide,rfl,?_,?_⟩
 ·show if 0<Zn 5 then _ else _
  rw[Qf (by decide)];simp only;omega
 ·show if 1<Zn 5 then _ else _
  rw[Qf (by decide)];simp only;omega
theorem tv:∀(t:Fm)(k i:Nat)(x:Fz),VarsIn 64 t->(X8 t k)[i]? =some x->Vk x (k+i)
 | .c b,k,i,x,_,h=>by
  obtain⟨rfl,rfl⟩:=kL h;cases b<;>exact⟨by decide,rfl,rfl,rfl⟩
 | .v n,k,i,x,hv,h=>by
  obtain⟨rfl,rfl⟩:=kL h;refine⟨show 0<=Zn 2 by decide,?_,rfl,rfl⟩;have:n<64:=hv;rw[Qf rfl];simp only;omega
 | .not a,k,i,x,hv,h=>by
  have pa:=Yz a;rcases pQ h with⟨hi,h⟩ | ⟨hi,h⟩
  ·exact tv a k i x hv h
  ·rw[J0] at hi h;obtain⟨e,rfl⟩:=kL h;exact fQJ (by omega)
 | .and a b,k,i,x,hv,h=>by
  have pa:=Yz a;have pb:=Yz b;rcases pQ h with⟨hi,h⟩ | ⟨hi,h⟩
  ·rcases pQ h with⟨hi,h⟩ | ⟨hi,h⟩
   ·exact tv a k i x hv.1 h
   ·rw[J0] at hi h;have:=tv b (k+QG a) (i-QG a) x hv.2 h
    rwa [show k+QG a+(i-QG a)=k+i by omega] at this
  ·rw[Qy,J0,J0] at hi h;obtain⟨e,rfl⟩:=kL h;exact fQK (by omega) (by omega)
 | .or a b,k,i,x,hv,h=>by
  have pa:=Yz a;have pb:=Yz b;rcases pQ h with⟨hi,h⟩ | ⟨hi,h⟩
  ·rcases pQ h with⟨hi,h⟩ | ⟨hi,h⟩
   ·exact tv a k i x hv.1 h
   ·rw[J0] at hi h;have:=tv b (k+QG a) (i-QG a) x hv.2 h
    rwa [show k+QG a+(i-QG a)=k+i by omega] at this
  ·rw[Qy,J0,J0] at hi h;obtain⟨e,rfl⟩:=kL h;exact fQL (by omega) (by omega)
theorem wu (l m:List Fz):JO (l++m)=JO l++JO m:=by simp[JO]
theorem fQM (j:Nat):JO [⟨3,0,(j:Nat),0⟩]=[j]:=by
 show YQ _++ []=_;unfold YQ;rw[show Zn (Fz.o ⟨3,0,(j:Nat),0⟩)=1 from rfl];simp
theorem fQN (j k:Nat):JO [⟨4,0,(j:Nat),(k:Nat)⟩]=[j,k]:=by
 show YQ _++ []=_;unfold YQ;rw[show Zn (Fz.o ⟨4,0,(j:Nat),(k:Nat)⟩)=2 from rfl];simp
theorem fQO (j k:Nat):JO [⟨5,0,(j:Nat),(k:Nat)⟩]=[j,k]:=by
 show YQ _++ []=_;unfold YQ;rw[show Zn (Fz.o ⟨5,0,(j:Nat),(k:Nat)⟩)=2 from rfl];simp
theorem tw:∀(t:Fm)(k j:Nat),(JO (X8 t k)).count j=if k<=j/\j+1<k+QG t then 1 else 0
 | .c b,k,j=>by
  rw[if_neg (by simp only[QG];omega)];cases b<;>rfl
 | .v n,k,j=>by
  rw[if_neg (by simp only[QG];omega)];rfl
 | .not a,k,j=>by
  have pa:=Yz a;show _=if k<=j/\j+1<k+(QG a+1)then 1 else 0
  simp only[X8];rw[wu,EW,fQM,tw a k j,List.count_singleton];simp only[beq_iff_eq];by_cases h1:k<=j/\j+1<k+QG a
  ·rw[Qf h1,if_neg (by omega),Qf (by omega)]
  ·rw[if_neg h1];by_cases h2:k+QG a-1=j
   ·rw[Qf h2,Qf (by omega)]
   ·rw[if_neg h2,if_neg (by omega)]
 | .and a b,k,j=>by
  have pa:=Yz a;have pb:=Yz b;show _=if k<=j/\j+1<k+(QG a+QG b+1)then 1 else 0
  simp only[X8];rw[wu,wu,EW,EW,fQN,tw a k j,tw b _ j,zQ,List.count_singleton];simp only[beq_iff_eq];by_cases h1:k<=j/\j+1<k+QG a
  ·rw[Qf h1,if_neg (by omega),if_neg (by omega),if_neg (by omega),Qf (by omega)]
  ·rw[if_neg h1];by_cases h2:k+QG a<=j/\j+1<k+QG a+QG b
   ·rw[Qf h2,if_neg (by omega),if_neg (by omega),Qf (by omega)]
   ·rw[if_neg h2];by_cases h3:k+QG a-1=j
    ·rw[if_neg (by omega),Qf h3,Qf (by omega)]
    ·rw[if_neg h3];by_cases h4:k+QG a+QG b-1=j
     ·rw[Qf h4,Qf (by omega)]
     ·rw[if_neg h4,if_neg (by omega)]
 | .or a b,k,j=>by
  have pa:=Yz a;have pb:=Yz b;show _=if k<=j/\j+1<k+(QG a+QG b+1)then 1 else 0
  simp only[X8];rw[wu,wu,EW,EW,fQO,tw a k j,tw b _ j,zQ,List.count_singleton];simp only[beq_iff_eq];by_cases h1:k<=j/\j+1<k+QG a
  ·rw[Qf h1,if_neg (by omega),if_neg (by omega),if_neg (by omega),Qf (by omega)]
  ·rw[if_neg h1];by_cases h2:k+QG a<=j/\j+1<k+QG a+QG b
   ·rw[Qf h2,if_neg (by omega),if_neg (by omega),Qf (by omega)]
   ·rw[if_neg h2];by_cases h3:k+QG a-1=j
    ·rw[if_neg (by omega),Qf h3,Qf (by omega)]
    ·rw[if_neg h3];by_cases h4:k+QG a+QG b-1=j
     ·rw[Qf h4,Qf (by omega)]
     ·rw[if_neg h4,if_neg (by omega)]
theorem RG {t:Fm}(hv:VarsIn 64 t)(hs:QG t<=512):FV (X8 t 0):=by
 refine⟨by rw[J0];exact hs,by rw[J0];exact Yz t,λi x hx=>by have:=tv t 0 i x hv hx;rwa [aq] at this,λi hi=>?_⟩;rw[tw,Qf];rw[J0] at hi;omega
instance decVars (n:Nat):∀t:Fm,Decidable (VarsIn n t)
 | .c _=>isTrue trivial
 | .v k=>inferInstanceAs (Decidable (k<n))
 | .not a=>decVars n a
 | .and a b=> @instDecidableAnd _ _ (decVars n a) (decVars n b)
 | .or a b=> @instDecidableAnd _ _ (decVars n a) (decVars n b)
theorem VarsIn.mono {n m:Nat}(h:n<=m):∀{t:Fm},VarsIn n t->VarsIn m t
 | .c _,_=>trivial
 | .v _,hv=>YL hv h
 | .not a,hv=>VarsIn.mono (t:=a) h hv
 | .and _ _,hv=>⟨VarsIn.mono h hv.1,VarsIn.mono h hv.2⟩
 | .or _ _,hv=>⟨VarsIn.mono h hv.1,VarsIn.mono h hv.2⟩
theorem tz:∀(t:Fm)(n k:Nat),VarsIn n t->mM n (X8 t k)
 | .c b,n,k,_=>λx hx ho=>by
  simp only[X8,QF] at hx;subst hx;cases b<;>simp at ho
 | .v j,n,k,hv=>λx hx ho=>by
  simp only[X8,QF] at hx;subst hx;have:j<n:=hv;simp only;omega
 | .not a,n,k,hv=>λx hx ho=>by
  simp only[X8,XH,QF] at hx;rcases hx with hx | rfl
  ·exact tz a n k hv x hx ho
  ·simp at ho
 | .and a b,n,k,hv=>λx hx ho=>by
  simp only[X8,XH,QF] at hx;rcases hx with(hx | hx) | rfl
  ·exact tz a n k hv.1 x hx ho
  ·exact tz b n _ hv.2 x hx ho
  ·simp at ho
 | .or a b,n,k,hv=>λx hx ho=>by
  simp only[X8,XH,QF] at hx;rcases hx with(hx | hx) | rfl
  ·exact tz a n k hv.1 x hx ho
  ·exact tz b n _ hv.2 x hx ho
  ·simp at ho
end
end
noncomputable section
section
def Z7 (x:Fz)(f:List Fz):Nat×List Fz:=if f.length<=512 then(f.length,f++ [x])else(f.length-1,f)
def Ks (bld:Int->List Fz->Nat×List Fz)(op v:Int)(pos:Bool)(num:Int)(f:List Fz):Nat×List Fz:=
 let p:=Z7 ⟨2,v,0,0⟩ f
 let a:=if pos then p else Z7 ⟨3,0,(p.1:Nat),0⟩ p.2
 if op=4/\num=1 then a else
  let c:=bld num a.2
  Z7 ⟨op,0,(a.1:Nat),(c.1:Nat)⟩ c.2
def Zp (
     nd:List Br):Nat->Int->List Fz->Nat×List Fz
 | 0,_,f=>(0,f)
 | m+1,n,f=>if n<2∨512<f.length then Z7 ⟨min n 1,0,0,0⟩ f else
   match nd[(n-2).toNat]? with
   | none=>(0,f)
   | some b=>
    if b.l=0 then Ks (Zp nd m) 4 b.v true b.h f else
    if b.h=0 then Ks (Zp nd m) 4 b.v false b.l f else
    if b.h=1 then Ks (Zp nd m) 5 b.v true b.l f else
    if b.l=1 then Ks (Zp nd m) 5 b.v false b.h f else
     let hi:=Ks (Zp nd m) 4 b.v true b.h f
     let lo:=Ks (Zp nd m) 4 b.v false b.l hi.2
     Z7 ⟨5,0,(hi.1:Nat),(lo.1:Nat)⟩ lo.2
structure Cn (w:World) (base x:Nat) (NA:Option Addr) (nn nc:Nat) (nd:List Br) (root:Int) (A:Option Addr) (c:Nat) (f:List Fz):Prop where
 blk:Blk w x 277 [.slice NA nn nc,.int .i64 root,.slice A f.length c]
 own:Own w base 280 4 A f.length c (mJ f)
 lt:x<base
 top:base<=w.heap.size
 nds:SB w NA nn nc nd
 row:∀ad,NA=some ad->0<nn->ad.block<base/\ad.block≠x
 lim:f.length<=513
def CnTo (w:World)(base x:Nat)(NA:Option Addr)(nn nc:Nat)(nd:List Br)(root:Int)(A:Option Addr)(f:List Fz)(w':World):Prop:=∃A' c',Cn w' base x NA nn nc nd root A' c' f/\Mod (RdS x A) w w'/\Moved w A A'
section
variable {base x:Nat} {NA:Option Addr} {nn nc:Nat} {nd:List Br} {root:Int}
theorem Cn.ext {w w':World}{A:Option Addr}{c:Nat}{f:List Fz}(h:Cn w base x NA nn nc nd root A c f)(k:Ext w w'):Cn w' base x NA nn nc nd root A c f:=
 ⟨h.blk.ext k,h.own.ext k,h.lt,X2 h.top k.size,h.nds.ext k,h.row,h.lim⟩
theorem CnTo.step {w w1 w2:World}{A A1:Option Addr}{f:List Fz}(h:CnTo w1 base x NA nn nc nd root A1 f w2)(hm:Mod (RdS x A) w w1)(hv:Moved w A A1):CnTo w base x NA nn nc nd root A f w2:=by
 obtain⟨A2,c2,h2,XR,Kd⟩:=h;exact⟨A2,c2,h2,RdS.trans hm hv XR,hv.trans Kd hm.size⟩
theorem Cn.keep {w w':World}{A:Option Addr}{c:Nat}{f:List Fz}(h:Cn w base x NA nn nc nd root A c f)(hm:Mod (RdS x A) w w'):SB w' NA nn nc nd:=by
 refine⟨h.nds.1.modS hm ?_,h.nds.2⟩;rintro h0 i ⟨ad,rfl,rfl⟩ hi;obtain⟨r1,r2⟩:=h.row ad rfl h0;rcases hi with hi | hi
 ·exact r2 hi
 ·have:=(h.own.rows _ hi).1;omega
theorem pR (A:Option Addr)(c:Nat)(f:List Fz)(z:Fz)(w:World)(h:Cn w base x NA nn nc nd root A c f):
  Fn Tryz.prog 221 [.pointer (some ⟨x,0,none⟩),.agg z.cells.toArray] w (λv w'=>v= .int .i64 ((Z7 z f).1:Nat)/\CnTo w base x NA nn nc nd root A (Z7 z f).2 w'):=by
 refine Qx (c:={dQ3 with cuts:=[]}) Qa Tryz.func221 rfl rfl rfl ?_;refine new (λw1 Qd Q3 Qh=>?_);have h1:=h.ext Qd;have em:=h.lim;have V4:=h.own.rows;have Q5:=h.lt;have lP:=h.top;have di:¬Qk A x:=λhr=>by have:=(V4 x hr).1;omega
 refine Qp h1.blk rfl ?_;refine Qt (λhl=>?_) (λhl=>?_)
 ·have ZO:f.length<=512:=by omega
  have e:Z7 z f=(f.length,f++ [z]):=by unfold Z7;rw[Qf ZO]
  rw[e];refine Xy Qa (Mod (Qk A) w1) 8 [(true,0),(true,1),(true,2),(true,3),(true,4),(true,5),(false,6),(false,7)] (by kernel_rfl) (Mod.of_ext _ (Ext.drew w1)) ?_;refine QJ (v:=.slice A f.length c) (λw' Qb=>by rw[(h1.blk.mod Qb di).cell];rfl) ?_;have HL:¬Qk A w.heap.size:=λhr=>by have:=(V4 _ hr).2;omega
  refine Xr (vs:=z.cells) rfl (λw' Qb j v hj=>by rw[(Qh.mod Qb HL).cell];exact hj) ?_;refine Xm Qa [z.cells] rfl rfl rfl rfl rfl ⟨rfl,rfl,⟨⟩⟩ rfl (λcs h=>by simp only[QF] at h;subst h;rfl) rfl (by decide) (by decide) ?_;intro w2 Qg X0 Qv;have Xu:=(Ext.drew w1).trans Qg;have h2:=h1.ext Xu;refine⟨Mod.of_ext _ Xu,?_⟩;have lj:Sl w2 4 (some ⟨w1.drew.heap.size,0,none⟩) 1 1 z.cells:=Sl.own (sz:=4) (n:=1) Qv (QD _) (by decide) (by simp[Fz.cells]);refine Zk Qa rfl rfl rfl rfl rfl (by decide) rfl rfl ⟨_,rfl⟩ rfl rfl h2.own lj (by intro u hu;simp[Fz.cells] at hu;rcases hu with rfl | rfl | rfl | rfl<;>rfl) (by unfold maxLen;omega) (by show _*32<=_;omega) h2.top ?_;intro A' c' w3 XE nC Cu;have J3:Mod (Qk A) w1 w3:=(Mod.of_ext (Qk A) Xu).trans XE (λi hi=>.inl hi);refine⟨J3,?_⟩;refine XQ (h1.blk.mod J3 di) (by simp) (λw4 X9 Q6=>?_);refine Qp Q6 rfl ?_;have hz:=Xu.size;have KR:Mod (RdS x A) w w4:=((Mod.of_ext (RdS x A) Qd).trans J3 (λi hi=>.inl (.inr hi))).trans X9 (λi hi=>.inl (.inl hi));refine Qj ((f.length:Nat):Int) (by omega) (by omega) ?_;refine⟨rfl,A',c',⟨?_,?_,Q5,X2 lP KR.size,h.keep KR,h.row,?_⟩,KR,Cu.back (X2 Qd.size hz)⟩
  ·show Blk w4 x _ [_,_,.slice A' (f++ [z]).length c'];rw[Qy];exact Q6
  ·show Own w4 base _ 4 A' (f++ [z]).length c' (mJ (f++ [z]));rw[Qy,Pq];exact nC.mod X9 (λk hk e=>by have:=(nC.rows k hk).1;omega)
  ·show(f++ [z]).length<=513;rw[Qy];simp only[Xs,JI];omega
 ·have ZO:¬f.length<=512:=by omega
  have e:Z7 z f=(f.length-1,f):=by unfold Z7;rw[if_neg ZO]
  rw[e];refine Qp h1.blk rfl ?_;refine Qj ((f.length-1:Nat):Int) (by omega) (by omega) ?_;exact⟨rfl,A,c,h1,Mod.of_ext _ Qd,Moved.refl _ _⟩
def RH (base x:Nat)(NA:Option Addr)(nn nc:Nat)(nd:List Br)(root:Int)(m:Nat):Prop:=∀(n:Int)(f:List Fz)(A:Option Addr)(c:Nat)(w:World),Cn w base x NA nn nc nd root A c f->0<=n->n<m->n<nn+2->
 Fn Tryz.prog 192 [.pointer (some ⟨x,0,none⟩),.int .i64 n] w (λv w'=>v= .int .i64 ((Zp nd m n f).1:Nat)/\CnTo w base x NA nn nc nd root A (Zp nd m n f).2 w')
theorem tC (m:Nat)(H:RH base x NA nn nc nd root m)(op v:Int)(pos:Bool)(n:Int)(f:List Fz)(A:Option Addr)(c:Nat)(w:World)(h:Cn w base x NA nn nc nd root A c f)(h0:0<=n)(hm:n<m)(hn:n<nn+2):
  Fn Tryz.prog 222 [.pointer (some ⟨x,0,none⟩),.int .i64 op,.int .i64 v,.bool pos,.int .i64 n] w (λu w'=>u= .int .i64 ((Ks (Zp nd m) op v pos n f).1:Nat)/\CnTo w base x NA nn nc nd root A (Ks (Zp nd m) op v pos n f).2 w'):=by
 refine Qx (c:={dQ4 with cuts:=[2]}) Qa Tryz.func222 rfl rfl rfl ?_;refine call (pR A c f ⟨2,v,0,0⟩ w h) ?_;rintro _ w1 ⟨rfl,A1,c1,h1,Zr,ll⟩;refine gO [] Qa [11] (λa:Nat=>[.int .i64 a]) (λa w'=>a=(if pos then Z7 ⟨2,v,0,0⟩ f else Z7 ⟨3,0,((Z7 ⟨2,v,0,0⟩ f).1:Nat),0⟩ (Z7 ⟨2,v,0,0⟩ f).2).1/\CnTo w base x NA nn nc nd root A (if pos then Z7 ⟨2,v,0,0⟩ f else Z7 ⟨3,0,((Z7 ⟨2,v,0,0⟩ f).1:Nat),0⟩ (Z7 ⟨2,v,0,0⟩ f).2).2 w') ?_ ?_
 ·refine cr (Kq (λhp=>?_) (λhp=>?_))
  ·subst hp;exact⟨_,rfl,rfl,A1,c1,h1,Zr,ll⟩
  ·subst hp;refine call (pR A1 c1 _ ⟨3,0,((Z7 ⟨2,v,0,0⟩ f).1:Nat),0⟩ w1 h1) ?_;rintro _ w2 ⟨rfl,h2⟩;exact⟨_,rfl,rfl,h2.step Zr ll⟩
 rintro a w2 ⟨ha,A2,c2,h2,XR,Kd⟩;unfold Ks;generalize hq:(if pos then Z7 ⟨2,v,0,0⟩ f else Z7 ⟨3,0,((Z7 ⟨2,v,0,0⟩ f).1:Nat),0⟩ (Z7 ⟨2,v,0,0⟩ f).2)=q at*;subst ha;simp only[hq];by_cases yW:op=4/\n=1
 ·rw[Qf yW];refine JN yW.1 ?_;refine JN yW.2 ?_;exact⟨rfl,A2,c2,h2,XR,Kd⟩
 ·rw[if_neg yW];by_cases h4:op=4
  ·refine JN h4 ?_;refine XW (λh1=>yW ⟨h4,h1⟩) ?_;refine call (H n q.2 A2 c2 w2 h2 h0 hm hn) ?_;rintro _ w3 ⟨rfl,A3,c3,h3,XE,aN⟩;refine call (pR A3 c3 _ ⟨op,0,(q.1:Nat),((Zp nd m n q.2).1:Nat)⟩ w3 h3) ?_;rintro _ w4 ⟨rfl,h4⟩;exact⟨rfl,(h4.step XE aN).step XR Kd⟩
  ·refine XW h4 ?_;refine call (H n q.2 A2 c2 w2 h2 h0 hm hn) ?_;rintro _ w3 ⟨rfl,A3,c3,h3,XE,aN⟩;refine call (pR A3 c3 _ ⟨op,0,(q.1:Nat),((Zp nd m n q.2).1:Nat)⟩ w3 h3) ?_;rintro _ w4 ⟨rfl,h4⟩;exact⟨rfl,(h4.step XE aN).step XR Kd⟩
theorem RI (Y2:WZ nd):∀m,RH base x NA nn nc nd root m
 | 0=>λn f A c w _ h0 hm _=>by omega
 | m+1=>λn f A c w h h0 hm hn=>by
  have ih:=RI Y2 m;have em:=h.lim;have Je:nd.length=nn:=h.nds.2;refine Qx (c:={dQI with cuts:=[]}) Qa Tryz.func192 rfl rfl rfl ?_;by_cases h1:n<2
  ·have e:Zp nd (m+1) n f=Z7 ⟨min n 1,0,0,0⟩ f:=by rw[Zp,Qf (.inl h1)]
   rw[e];refine Zd h1 ?_;refine norm (m:=min n 1) (by rw[Z5];split<;>split<;>omega) ?_;refine call (pR A c f ⟨min n 1,0,0,0⟩ w h) ?_;rintro _ w1 ⟨rfl,h1⟩;exact⟨rfl,h1⟩
  refine Xx h1 ?_;refine Qp h.blk rfl ?_;by_cases h2:512<f.length
  ·have e:Zp nd (m+1) n f=Z7 ⟨min n 1,0,0,0⟩ f:=by rw[Zp,Qf (.inr h2)]
   rw[e];refine Zd (by omega) ?_;refine norm (m:=min n 1) (by rw[Z5];split<;>split<;>omega) ?_;refine call (pR A c f ⟨min n 1,0,0,0⟩ w h) ?_;rintro _ w1 ⟨rfl,h1⟩;exact⟨rfl,h1⟩
  refine Xx (by omega) ?_;have hj:(n-2).toNat<nd.length:=by omega
  have hx:=Xb hj;generalize nd[(n-2).toNat]=y at hx;obtain⟨x1,x2,x3,x4⟩:=Y2 _ _ hx;have e:Zp nd (m+1) n f=(if y.l=0 then Ks (Zp nd m) 4 y.v true y.h f else
    if y.h=0 then Ks (Zp nd m) 4 y.v false y.l f else
    if y.h=1 then Ks (Zp nd m) 5 y.v true y.l f else
    if y.l=1 then Ks (Zp nd m) 5 y.v false y.h f else
     Z7 ⟨5,0,((Ks (Zp nd m) 4 y.v true y.h f).1:Nat),((Ks (Zp nd m) 4 y.v false y.l (Ks (Zp nd m) 4 y.v true y.h f).2).1:Nat)⟩ (Ks (Zp nd m) 4 y.v false y.l (Ks (Zp nd m) 4 y.v true y.h f).2).2):=by
   rw[Zp,if_neg (by omega),hx]
  rw[e];refine QC h.blk rfl ?_;refine Qj (((n-2).toNat:Nat):Int) (by omega) (by have:=h.nds.1.le;have:=h.nds.1.cap;simp only[maxLen] at this;omega) ?_;refine Zh YR h.nds rfl (by omega) (λad z hy jO=>?_);have iG:z=y:=Option.some.inj (hy.symm.trans hx);subst iG;refine Kb (vs:=z.cells) rfl jO ?_;refine new (λw1 Qd Q3 Qh=>?_);refine QB Qh rfl (sc rfl) (λw2 ig X0 KD=>?_);have Qg:Ext w w2:=XY Qd Qh ig;have nM:Mod (RdS x A) w w2:=Mod.of_ext _ Qg;have Jp:=h.ext Qg;have iI:¬RdS x A w.heap.size:=λe=>by
   have:=h.blk.lt;rcases e with e | e
   ·omega
   ·have:=(h.own.rows _ e).2;omega
  refine Qp KD rfl ?_;refine XU (λc1=>?_) (λc1=>?_)
  ·rw[Qf c1];refine QC KD rfl ?_;refine Qp KD rfl ?_;refine call (tC m ih 4 z.v true z.h f A c w2 Jp x3 (by omega) (by omega)) ?_;rintro _ w3 ⟨rfl,h3⟩;exact⟨rfl,h3.step nM (Moved.refl _ _)⟩
  rw[if_neg c1];refine Qp KD rfl ?_;refine XU (λc2=>?_) (λc2=>?_)
  ·rw[Qf c2];refine QC KD rfl ?_;refine Qp KD rfl ?_;refine call (tC m ih 4 z.v false z.l f A c w2 Jp x1 (by omega) (by omega)) ?_;rintro _ w3 ⟨rfl,h3⟩;exact⟨rfl,h3.step nM (Moved.refl _ _)⟩
  rw[if_neg c2];refine Qp KD rfl ?_;refine XU (λc3=>?_) (λc3=>?_)
  ·rw[Qf c3];refine QC KD rfl ?_;refine Qp KD rfl ?_;refine call (tC m ih 5 z.v true z.l f A c w2 Jp x1 (by omega) (by omega)) ?_;rintro _ w3 ⟨rfl,h3⟩;exact⟨rfl,h3.step nM (Moved.refl _ _)⟩
  rw[if_neg c3];refine Qp KD rfl ?_;refine XU (λc4=>?_) (λc4=>?_)
  ·rw[Qf c4];refine QC KD rfl ?_;refine Qp KD rfl ?_;refine call (tC m ih 5 z.v false z.h f A c w2 Jp x3 (by omega) (by omega)) ?_;rintro _ w3 ⟨rfl,h3⟩;exact⟨rfl,h3.step nM (Moved.refl _ _)⟩
  rw[if_neg c4];refine QC KD rfl ?_;refine Qp KD rfl ?_;refine call (tC m ih 4 z.v true z.h f A c w2 Jp x3 (by omega) (by omega)) ?_;rintro _ w3 ⟨rfl,A3,c3,h3,XE,aN⟩;have KS:=KD.mod XE iI;refine QC KS rfl ?_;refine Qp KS rfl ?_;refine call (tC m ih 4 z.v false z.l _ A3 c3 w3 h3 x1 (by omega) (by omega)) ?_;rintro _ w4 ⟨rfl,A4,c4,h4,X9,nE⟩;refine call (pR A4 c4 _ ⟨5,0,((Ks (Zp nd m) 4 z.v true z.h f).1:Nat),((Ks (Zp nd m) 4 z.v false z.l (Ks (Zp nd m) 4 z.v true z.h f).2).1:Nat)⟩ w4 h4) ?_;rintro _ w5 ⟨rfl,h5⟩;exact⟨rfl,(((h5.step X9 nE).step XE aN)).step nM (Moved.refl _ _)⟩
end
end
section
def aF (nd:List Br)(root:Int):List Fz×Int:=if XK nd root=0 then(if 512<(Zp nd (root.toNat+1) root []).2.length then([],2)else((Zp nd (root.toNat+1) root []).2,0))else([],XK nd root)
def tD (names:List (List Nat))(nd:List Br)(root:Int):List Nat×Int:=if Zx names then(if(aF nd root).2=0 then ku names (aF nd root).1 else([],(aF nd root).2))else([],1)
theorem of_fn (A:Option Addr)(n c:Nat)(nd:List Br)(root:Int)(w:World)(h:SB w A n c nd):
  Fn Tryz.prog 133 [Xg A n c root] w (FI w (aF nd root)):=by
 have Xf:=h.2;refine Qx (c:={cQ2 with cuts:=[]}) Qa Tryz.func133 rfl rfl rfl ?_;refine new (λw1 Qd Q3 Qh=>?_);refine Qs Qh rfl ?_;refine call (AU A n c nd root w1 (h.ext Qd)) ?_;rintro v w2 ⟨rfl,Qg⟩;have QT:=Qd.trans Qg;have Qv:=Qh.ext Qg;refine Yt (λc1=>?_) (λc1=>?_)
 ·refine⟨none,0,0,?_,QT,?_⟩
  ·unfold aF;rw[if_neg c1]
  ·unfold aF;rw[if_neg c1];exact SlS.nil _
 obtain⟨dm,hv⟩:=gf.1 c1;have Y2:=hv.wf;refine Qs Qv rfl ?_;refine new (λw3 Qi JF Qw=>?_);have QQ:=QT.trans Qi;have kQv:=Qg.size;have hC:Cn w3 w3.heap.size w2.heap.size A n c nd root none 0 []:=⟨Qw,Own.nil _ _ _ _,by omega,QD _,h.ext QQ,λad e hn=>by
  have h1:=SB.lt (h.ext QT) ad e hn;exact⟨by omega,by omega⟩,by simp⟩
 refine Qp (Qv.ext Qi) rfl ?_;have r0:=hv.2.1;have r1:=hv.2.2.1;refine call (RI Y2 (root.toNat+1) root [] none 0 w3 hC r0 (by omega) (by omega)) ?_;rintro v w4 ⟨rfl,A4,c4,Ib,X9,nE⟩;have Qq:Ext w w4:=X9.ext QQ (λi hi=>by
  rcases hi with rfl | ⟨_,e,_⟩
  ·have:=QT.size;omega
  ·cases e)
 refine Qp Ib.blk rfl ?_;refine Qt (λc2=>?_) (λc2=>?_)
 ·have e:aF nd root=([],2):=by unfold aF;rw[Qf c1,Qf (by omega)]
  rw[e];exact⟨none,0,0,rfl,Qq,SlS.nil _⟩
 ·have e:aF nd root=((Zp nd (root.toNat+1) root []).2,0):=by unfold aF;rw[Qf c1,if_neg (by omega)]
  rw[e];refine Qp Ib.blk rfl ?_;exact⟨A4,_,c4,rfl,Qq,Ib.own.sl,rfl⟩
theorem fQP (names:List (List Nat))(A NA:Option Addr)(n c nn nc:Nat)(nd:List Br)(root:Int)(w:World)(h:Sl w 1 A n c (Q9 names))(hb:Jy names)(hN:SB w NA nn nc nd)
  (hl:(ZS names 0 (gb (aF nd root).1)).length<=140737488355328):
  Fn Tryz.prog 86 [.slice A n c,Xg NA nn nc root] w (PM w (tD names nd root)):=by
 refine Qx (c:={c86 with cuts:=[]}) Qa Tryz.func86 rfl rfl rfl ?_;refine new (λw1 Qd Q3 Qh=>?_);refine call (Fy names A n c w1 (h.ext Qd) hb) ?_;rintro v w2 ⟨v1,rfl,Qg,_⟩;have QT:=Qd.trans Qg;cases Zm:Zx names with
 | false=>
  refine Xe rfl ?_;exact⟨by unfold tD;rw[Zm];rfl,QT⟩
 | true=>
  refine Xv rfl ?_;refine Qs (Qh.ext Qg) rfl ?_;refine call (of_fn NA nn nc nd root w2 (hN.ext QT)) ?_;rintro v w3 ⟨F,m,cF,rfl,Qi,hF⟩;have QQ:=QT.trans Qi;have e:tD names nd root=if(aF nd root).2=0 then ku names (aF nd root).1 else([],(aF nd root).2):=by unfold tD;rw[Qf Zm]
  refine Yt (λc1=>?_) (λc1=>?_)
  ·exact⟨by rw[e,if_neg c1];rfl,QQ⟩
  ·refine call (eQ1 names A F n c m cF _ w3 (h.ext QQ) hb hF (λ_ _=>hl)) ?_;rintro v w4 ⟨rfl,Qq⟩;exact⟨by rw[e,Qf c1],QQ.trans Qq⟩
end
end
end Go.Proofs.YtjabbbcdgmlojaaGreatDoor
