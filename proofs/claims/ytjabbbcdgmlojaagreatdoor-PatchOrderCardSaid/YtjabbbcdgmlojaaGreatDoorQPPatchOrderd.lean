/-
  What PPatchOrder rests on, part 4 (wip/shake.py).
  Conditions: none.
-/
import Derived.Test.YtjabbbcdgmlojaaGreatDoorQPPatchOrderc
set_option linter.all false
set_option linter.deprecated false
set_option maxHeartbeats 12800000
namespace Go.Proofs.YtjabbbcdgmlojaaGreatDoor
open Go Go.RowKit
noncomputable section
def bB (k:Nat):List Nat:=(([[120],[121],[122],[120,32,121],[],[35],[35,105,102,102],[101,110,100]]:List (List Nat))[k % 8]?).getD []
theorem zo (k:Nat):TxOk (bB k)/\(bB k).length<=4:=by
 have h:k % 8<8:=fA _ (by decide);unfold bB;generalize k % 8=r at h;rcases(show r=0∨r=1∨r=2∨r=3∨r=4∨r=5∨r=6∨r=7 by omega)with rfl | rfl | rfl | rfl | rfl | rfl | rfl | rfl <;>
  exact⟨⟨by decide,by rfl,by decide⟩,by decide⟩
def aL (l:List Nat):List (List Nat):=(l.take 6).map bB
theorem Pm (l:List Nat):(∀s∈aL l,TxOk s/\s.length<=4)/\(aL l).length<=6:=by
 refine⟨λs hs=>?_,?_⟩
 ·obtain⟨k,_,rfl⟩:=ZY.1 hs;exact zo k
 ·unfold aL;simp;omega
def jM (cls:List Nat)(texts:List (List Nat))(c:Nat):List (List Nat):=
 match texts[(cls[c]?).elim 0 (· % 4)]? with
 | some t=>aL t
 | none=>[bB ((cls[c]?).elim 0 (· % 4))]
theorem zp (cls:List Nat)(texts:List (List Nat))(c:Nat):(∀s∈jM cls texts c,TxOk s/\s.length<=4)/\(jM cls texts c).length<=6:=by
 unfold jM;split
 ·exact Pm _
 ·refine⟨λs hs=>?_,(by show 1<=6;decide)⟩;rw[QJ.1 hs];exact zo _
def jN (b c:Nat):Bool:=decide (b % 256=0)||b.testBit c
def VL (b:Nat):List Nat:=(List.range 8).filter (jN b)
theorem Po (b:Nat):(VL b).length<=8:=Ze (tG _ _) (by simp)
theorem rH {b:Nat}(hb:b<=255):VL b≠ []:=by
 intro e;have h:=LB.1 e;have h0:∀c,c<8->jN b c=false:=λc hc=>by have:=h c (kZ.2 hc);simpa using this
 unfold jN at h0;have gp:b≠0:=λe=>by subst e;have:=h0 0 (by decide);simp at this
 refine gp (Nat.eq_of_testBit_eq (λi=>?_));rw[Nat.zero_testBit];by_cases hi:i<8
 ·have:=h0 i hi;rw[Bool.or_eq_false_iff] at this;exact this.2
 ·exact CU (Vy (show b<2^8 by omega) (Wu (by decide) (by omega)))
abbrev Pt:=List Nat×List (List Nat)
def im:List Pt->Nat->List (List Nat)->List Pt
 | [],c,s=>[([c],s)]
 | p::ps,c,s=>if p.2=s then(p.1++ [c],p.2)::ps else p::im ps c s
def dB (single:Bool)(f:Nat->List (List Nat))(ps:List Pt)(c:Nat):List Pt:=if single then ps++ [([c],f c)] else im ps c (f c)
def K7 (single:Bool)(f:Nat->List (List Nat))(S:List Nat):List Pt:=S.foldl (dB single f) []
structure PtOk (f:Nat->List (List Nat)) (S:List Nat) (ps:List Pt):Prop where
 cov:∀c∈S,∃p∈ps,c∈p.1
 tx:∀p∈ps,∀c∈p.1,c∈S/\f c=p.2
 ne:∀p∈ps,p.1≠ []
 dj:∀(i j:Nat) (p q:Pt) (c:Nat),ps[i]? =some p->ps[j]? =some q->c∈p.1->c∈q.1->i=j
theorem PtOk.snoc {f:Nat->List (List Nat)}{S:List Nat}{ps:List Pt}(h:PtOk f S ps){c:Nat}(hc:c∉S):PtOk f (S++ [c]) (ps++ [([c],f c)]):=by
 refine⟨λd hd=>?_,λp hp d hd=>?_,λp hp=>?_,λi j p q d hi hj hp hq=>?_⟩
 ·rcases XB.1 hd with hd | hd
  ·obtain⟨p,h1,h2⟩:=h.cov d hd;exact⟨p,CV _ h1,h2⟩
  ·exact⟨([c],f c),by simp,hd⟩
 ·rcases XB.1 hp with hp | hp
  ·exact⟨CV _ (h.tx p hp d hd).1,(h.tx p hp d hd).2⟩
  ·rw[QJ.1 hp] at hd ⊢;have:d=c:=QJ.1 hd;subst this;exact⟨by simp,rfl⟩
 ·rcases XB.1 hp with hp | hp
  ·exact h.ne p hp
  ·rw[QJ.1 hp];simp
 ·have key:∀i p,(ps++ [([c],f c)])[i]? =some p->d∈p.1->(i<ps.length/\ps[i]? =some p/\d≠c)∨(i=ps.length/\d=c):=λi p hi hp=>by
   by_cases hl:i<ps.length
   ·rw[bY hl] at hi;exact .inl ⟨hl,hi,λe=>hc (e▸(h.tx p (Xe hi) d hp).1)⟩
   ·rw[Ws (by omega)] at hi;have:i-ps.length=0:=by
     by_cases e:i-ps.length=0
     ·exact e
     ·rw[kW (by simp;omega)] at hi;cases hi
    rw[this] at hi;cases hi;exact .inr ⟨by omega,QJ.1 hp⟩
  rcases key i p hi hp with⟨_,a2,a3⟩ | ⟨a1,a2⟩<;>rcases key j q hj hq with⟨_,b2,b3⟩ | ⟨b1,b2⟩
  ·exact h.dj i j p q d a2 b2 hp hq
  ·exact Xm b2 a3
  ·exact Xm a2 b3
  ·omega
theorem PtOk.set {f:Nat->List (List Nat)}{S:List Nat}{ps:List Pt}(h:PtOk f S ps){c k:Nat}{p0:Pt}(hc:c∉S)(hk:ps[k]? =some p0)(hf:f c=p0.2):PtOk f (S++ [c]) (ps.set k (p0.1++ [c],p0.2)):=by
 have Zy:k<ps.length:=(Zt.1 hk).1;have px:=Xe hk;have get:∀i p,(ps.set k (p0.1++ [c],p0.2))[i]? =some p->(i=k/\p=(p0.1++ [c],p0.2))∨(i≠k/\ps[i]? =some p):=λi p hi=>by
  rw[Lp] at hi;by_cases e:k=i
  ·rw[Qe e,Qe (by omega)] at hi;exact .inl ⟨e.symm,(Option.some.inj hi).symm⟩
  ·rw[if_neg e] at hi;exact .inr ⟨λe'=>e e'.symm,hi⟩
 have mem:∀p∈ps.set k (p0.1++ [c],p0.2),p=(p0.1++ [c],p0.2)∨p∈ps:=λp hp=>by
  obtain⟨i,hi⟩:=be.1 hp;rcases get i p hi with⟨_,e⟩ | ⟨_,e⟩
  ·exact .inl e
  ·exact .inr (Xe e)
 refine⟨λd hd=>?_,λp hp d hd=>?_,λp hp=>?_,λi j p q d hi hj hp hq=>?_⟩
 ·have Yq:(p0.1++ [c],p0.2)∈ps.set k (p0.1++ [c],p0.2):=be.2 ⟨k,by rw[Lp,Qe rfl,Qe Zy]⟩;rcases XB.1 hd with hd | hd
  ·obtain⟨p,h1,h2⟩:=h.cov d hd;obtain⟨i,hi⟩:=be.1 h1;by_cases e:i=k
   ·subst e;rw[hk] at hi;cases hi;exact⟨_,Yq,CV _ h2⟩
   ·exact⟨p,be.2 ⟨i,by rw[Lp,if_neg (λe'=>e e'.symm),hi]⟩,h2⟩
  ·exact⟨_,Yq,List.mem_append_right _ hd⟩
 ·rcases mem p hp with rfl | hp
  ·rcases XB.1 hd with hd | hd
   ·exact⟨CV _ (h.tx p0 px d hd).1,(h.tx p0 px d hd).2⟩
   ·rw[QJ.1 hd];exact⟨by simp,hf⟩
  ·exact⟨CV _ (h.tx p hp d hd).1,(h.tx p hp d hd).2⟩
 ·rcases mem p hp with rfl | hp
  ·simp
  ·exact h.ne p hp
 ·have nc:∀(i:Nat) (p:Pt),ps[i]? =some p->c∉p.1:=λi p hi hm=>hc (h.tx p (Xe hi) c hm).1
  rcases get i p hi with⟨rfl,rfl⟩ | ⟨e1,gJ⟩<;>rcases get j q hj with⟨rfl,rfl⟩ | ⟨e2,fi⟩
  ·rfl
  ·rcases XB.1 hp with hp | hp
   ·exact h.dj _ _ _ _ d hk fi hp hq
   ·rw[QJ.1 hp] at hq;exact Xm hq (nc j q fi)
  ·rcases XB.1 hq with hq | hq
   ·exact h.dj _ _ _ _ d gJ hk hp hq
   ·rw[QJ.1 hq] at hp;exact Xm hp (nc i p gJ)
  ·exact h.dj _ _ _ _ d gJ fi hp hq
def fU (ps:List Pt)(s:List (List Nat)):Nat:=(ps.takeWhile (λp=>decide (p.2≠s))).length
theorem gQl (ps:List Pt)(s:List (List Nat)):fU ps s<=ps.length:=(CI _).length_le
theorem uL (c:Nat)(s:List (List Nat)):∀ps:List Pt,(∃p,ps[fU ps s]? =some p/\p.2=s/\im ps c s=ps.set (fU ps s) (p.1++ [c],p.2))∨(fU ps s=ps.length/\im ps c s=ps++ [([c],s)])
 | []=>.inr ⟨rfl,rfl⟩
 | p::ps=>by
  by_cases h:p.2=s
  ·have e:fU (p::ps) s=0:=by unfold fU;simp[h]
   rw[e,im,Qe h];exact .inl ⟨p,rfl,h,rfl⟩
  ·have e:fU (p::ps) s=fU ps s+1:=by unfold fU;simp[h]
   rw[e,im,if_neg h];rcases uL c s ps with⟨q,h1,h2,h3⟩ | ⟨h1,h2⟩
   ·exact .inl ⟨q,by simpa using h1,h2,by rw[h3];rfl⟩
   ·exact .inr ⟨by simp[h1],by rw[h2];rfl⟩
theorem gQm (single:Bool){f:Nat->List (List Nat)}{S:List Nat}{ps:List Pt}(h:PtOk f S ps){c:Nat}(hc:c∉S):PtOk f (S++ [c]) (dB single f ps c):=by
 cases single with
 | true=>exact h.snoc hc
 | false=>
  show PtOk f (S++ [c]) (im ps c (f c));rcases uL c (f c) ps with⟨p,h1,h2,h3⟩ | ⟨_,h2⟩
  ·rw[h3];exact h.set hc h1 h2.symm
  ·rw[h2];exact h.snoc hc
theorem gQn (single:Bool)(f:Nat->List (List Nat))(S:List Nat)(c:Nat):K7 single f (S++ [c])=dB single f (K7 single f S) c:=by
 unfold K7;rw[LC]<;>rfl
theorem EC (single:Bool)(f:Nat->List (List Nat)):∀(S:List Nat),S.Nodup->PtOk f S (K7 single f S):=by
 have key:∀(T S:List Nat) (ps:List Pt),(S++T).Nodup->PtOk f S ps->PtOk f (S++T) (T.foldl (dB single f) ps):=by
  intro T;induction T with
  | nil=>intro S ps _ h;simpa using h
  | cons c T ih=>
   intro S ps hn h;have hc:c∉S:=λhm=>by
    have:=(CH.1 hn).2.2 c hm c (by simp);exact this rfl
   have:=ih (S++ [c]) (dB single f ps c) (by simpa using hn) (gQm single h hc);simpa using this
 intro S hn;have h0:PtOk f [] []:=⟨(λc hc=>by cases hc),(λp hp=>by cases hp),(λp hp=>by cases hp),λi j p q c hi=>by simp at hi⟩
 have:=key S [] [] (by simpa using hn) h0;rw[ep] at this;exact this
theorem gQo (b:Nat):(VL b).Nodup:=(List.nodup_range).sublist (List.filter_sublist)
theorem ED (c:Nat):fR c=λi=>c.testBit i:=by
 funext i;unfold fR;rw[Nat.testBit_eq_decide_div_mod_eq]
def QC (n:Nat)(o:BF):List Nat:=(List.range (2^n)).filter (λc=>o (λi=>c.testBit i))
theorem Z0 {n:Nat}{o:BF}{c:Nat}:c∈QC n o↔c<2^n/\o (λi=>c.testBit i)=true:=by
 unfold QC;rw[KP,kZ]
def zq (n:Nat)(o:BF):Prop:=∀e e',(∀i,i<n->e i=e' i)->o e=o e'
theorem zr:∀(n:Nat)(e:Nat->Bool),∃c,c<2^n/\∀i,i<n->c.testBit i=e i
 | 0,e=>⟨0,by decide,λi hi=>Xm hi (by omega)⟩
 | n+1,e=>by
  obtain⟨c,hc,hb⟩:=zr n e;cases he:e n with
  | false=>
   refine⟨c,Nat.lt_trans hc (Nat.pow_lt_pow_right (by decide) (by omega)),λi hi=>?_⟩;by_cases h:i<n
   ·exact hb i h
   ·have:i=n:=by omega
    subst this;rw[he];exact CU hc
  | true=>
   refine⟨2^n+c,by rw[kY];omega,λi hi=>?_⟩;by_cases h:i<n
   ·rw[Nat.testBit_two_pow_add_gt h,hb i h]
   ·have:i=n:=by omega
    subst this;rw[he,Nat.testBit_two_pow_add_eq,CU hc]<;>rfl
theorem Set1.dep {k:Nat}{nd:List Br}{r:Int}{o:BF}(h:Set1 k nd r o):zq k o:=λe e' he=>by
 rw[<-h.mean,<-h.mean];exact zh h.vd.wf h.vin (λb hb=>by
  obtain⟨j,hj⟩:=be.1 hb;have:=h.vd.1 j b hj;exact this.1) he (r.toNat+1) r (by omega) h.vd.2.2.1
theorem Pp {n:Nat}{o:BF}(h:zq n o){p:BF}(hp:zq n p):(∀e,o e=true->p e=true)↔∀c∈QC n o,p (λi=>c.testBit i)=true:=by
 constructor
 ·exactλk c hc=>k _ (Z0.1 hc).2
 ·intro k e he;obtain⟨c,hc,hb⟩:=zr n e;rw[<-hp _ e hb];exact k c (Z0.2 ⟨hc,by rw[h _ e hb];exact he⟩)
theorem gQp {n:Nat}{o:BF}(h:zq n o):QC n o=[]↔∀e,o e=false:=by
 constructor
 ·intro k e;cases he:o e with
  | false=>rfl
  | true=>
   obtain⟨c,hc,hb⟩:=zr n e;have:c∈QC n o:=Z0.2 ⟨hc,by rw[h _ e hb];exact he⟩;rw[k] at this;cases this
 ·intro k;refine List.eq_nil_iff_forall_not_mem.2 (λc hc=>?_);have:=(Z0.1 hc).2;rw[k] at this;cases this
theorem Set1.root0 {k:Nat}{nd:List Br}{r:Int}{o:BF}(h:Set1 k nd r o):r=0↔QC k o=[]:=by
 rw[gQp h.dep];constructor
 ·rintro rfl e;rw[<-h.mean,Jr (by decide)]<;>rfl
 ·intro h0;have:=h.unique (aH k false) h0;exact QN Prod.snd this
theorem Pq {n:Nat}{o p:BF}{v:Nat}(b:Bool)(hp:∀e,p e=(o e&&(e v==b))):QC n p=(QC n o).filter (λc=>c.testBit v==b):=by
 unfold QC;rw[List.filter_filter];congr 1;funext c;rw[hp,Bool.and_comm]
theorem gQq {n:Nat}{o:BF}:Apt (QC n o) 0 n:=λc hc c' Kc hb=>by
 have h1:=(Z0.1 hc).1;have h2:=(Z0.1 Kc).1;refine Nat.eq_of_testBit_eq (λi=>?_);by_cases hi:i<n
 ·exact hb i (XM _) (by omega)
 ·have e:2^n<=2^i:=Wu (by decide) (by omega);rw[CU (by omega),CU (by omega)]
structure Pr where
 o:BF
 t:List Nat
abbrev bits (c:Nat):Nat->Bool:=λi=>c.testBit i
def fP (ps:List Pr)(c:Nat):List Nat:=((ps.find? (λp=>p.o (bits c))).map (·.t)).getD []
structure PaOk (S:List Nat) (ps:List Pr):Prop where
 cov:∀c∈S,∃p∈ps,p.o (bits c)=true
 dj:∀c∈S,∀(i j:Nat) (p q:Pr),ps[i]? =some p->ps[j]? =some q->p.o (bits c)=true->q.o (bits c)=true->i=j
theorem PaOk.sub {S T:List Nat}{ps:List Pr}(h:PaOk S ps)(hT:∀c∈T,c∈S):PaOk T ps:=⟨λc hc=>h.cov c (hT c hc),λc hc=>h.dj c (hT c hc)⟩
theorem PaOk.get {S:List Nat}{ps:List Pr}(h:PaOk S ps){c:Nat}(hc:c∈S){p:Pr}(hp:p∈ps)(Vx:p.o (bits c)=true):fP ps c=p.t:=by
 unfold fP;cases hf:ps.find? (λp=>p.o (bits c))with
 | none=>
  have:=tD.1 hf p hp;exact Xm Vx this
 | some q=>
  have hq:=List.find?_some hf;have bV:=aQH hf;obtain⟨i,hi⟩:=be.1 hp;obtain⟨j,hj⟩:=be.1 bV;have:=h.dj c hc i j p q hi hj Vx hq;subst this;rw[hi] at hj;cases hj;rfl
theorem gQr {nm:List (List Nat)}{S:List Nat}{ps:List Pr}(h:PaOk S ps)(hS:S≠ []){p:Pr}(hp:p∈ps)(hw:∀c∈S,p.o (bits c)=true)(k v:Nat):XV nm (fP ps) k v S=QU p.t:=
 rF hS (λc hc=>h.get hc hp (hw c hc)) k v
theorem gQs {S:List Nat}{ps:List Pr}(h:PaOk S ps)(hS:S≠ []){v:Nat}(ha:Apt S v 0):∃p∈ps,∀c∈S,p.o (bits c)=true:=by
 obtain⟨c,hc⟩:∃c,c∈S:=⟨_,zm hS⟩
 obtain⟨p,hp,Vx⟩:=h.cov c hc;refine⟨p,hp,λd hd=>?_⟩;rw[ha d hd c hc (λi h1 h2=>by omega)];exact Vx
abbrev cC (S:List Nat)(v:Nat):List Nat:=S.filter (λc=>c.testBit v)
abbrev eP (S:List Nat)(v:Nat):List Nat:=S.filter (λc=> !c.testBit v)
theorem Pu {S:List Nat}{v:Nat}(h:eP S v=[]):cC S v=S:=by
 rw[List.filter_eq_self];intro c hc;have:=LB.1 h c hc;simpa using this
theorem gQt {S:List Nat}{v:Nat}(h:cC S v=[]):eP S v=S:=by
 rw[List.filter_eq_self];intro c hc;have:=LB.1 h c hc;simpa using this
theorem gQu {nm:List (List Nat)}{f:Nat->List Nat}{S:List Nat}(hS:S≠ []){k v:Nat}(h:eP S v=[]):XV nm f (k+1) v S=XV nm f k (v+1) (cC S v):=by
 rw[rG hS,Qe (.inl h),Pu h]
theorem gQv {nm:List (List Nat)}{f:Nat->List Nat}{S:List Nat}(hS:S≠ []){k v:Nat}(h:cC S v=[]):XV nm f (k+1) v S=XV nm f k (v+1) (eP S v):=by
 rw[rG hS,Qe (.inr h),gQt h]
theorem gQw {nm:List (List Nat)}{f:Nat->List Nat}{S:List Nat}(hS:S≠ []){k v:Nat}(h:eP S v≠ [])(h':cC S v≠ []):XV nm f (k+1) v S=if XV nm f k (v+1) (cC S v)=XV nm f k (v+1) (eP S v)then XV nm f k (v+1) (cC S v)else aJ nm v (XV nm f k (v+1) (cC S v)) (XV nm f k (v+1) (eP S v)):=by
 rw[rG hS,if_neg (λe=>e.elim h h')]
theorem gQx {S:List Nat}{v k:Nat}(h:Apt S v (k+1)):Apt (cC S v) (v+1) k:=h.sub (λc hc=>(KP.1 hc).1) (λc hc c' Kc=>by
 rw[(KP.1 hc).2,(KP.1 Kc).2])
theorem gQy {S:List Nat}{v k:Nat}(h:Apt S v (k+1)):Apt (eP S v) (v+1) k:=h.sub (λc hc=>(KP.1 hc).1) (λc hc c' Kc=>by
 have h1:=(KP.1 hc).2;have h2:=(KP.1 Kc).2;simp at h1 h2;rw[h1,h2])
def J7 (n:Nat)(nd:List Br)(r:Int):Bool:=open Classical in decide (XC nd r=0/\∀b∈nd,b.v<n)
def oD (x:DV):BF:=ev x.nd x.r
theorem rI {n:Nat}{nd:List Br}{r:Int}:J7 n nd r=true↔XC nd r=0/\VIn n nd:=by unfold J7;exact decide_eq_true_iff
theorem fV {n:Nat}{x:DV}(h:J7 n x.nd x.r=true):Set1 n x.nd x.r (oD x):=by
 obtain⟨h1,h2⟩:=rI.1 h;exact⟨(eK.1 h1).2,h2,λe=>rfl⟩
theorem io {n:Nat}(hn:n<=12){x:DV}{o:BF}(h:Set1 n x.nd x.r o):J7 n x.nd x.r=true/\∀e,oD x e=o e:=
 ⟨rI.2 ⟨h.chk hn,h.vin⟩,λe=>h.mean e⟩
abbrev fW (n:Nat)(R:List Nat)(o:BF):List Nat:=R.filter (λc=> !o (bits c))
def WO (n:Nat):List Nat->List (DV×List Nat)->Bool
 | R,[]=>decide (R=[])
 | R,p::ps=>(J7 n p.1.nd p.1.r&&decide (QC n (oD p.1)≠ [])&&(QC n (oD p.1)).all (λc=>decide (c∈R))&&KT p.2)&&WO n (fW n R (oD p.1)) ps
def Zi (ps:List (DV×List Nat)):List Pr:=ps.map (λp=>⟨oD p.1,p.2⟩)
def jO (nm:List (List Nat))(d:DV)(ps:List (DV×List Nat)):Except Int (List Nat):=
 if ZJ nm=false∨J7 nm.length d.nd d.r=false then .error 1
 else if WO nm.length (QC nm.length (oD d)) ps=false then .error 290
 else if ps=[] then .ok []
 else if 1048576<(Qo (XV nm (fP (Zi ps)) nm.length 0 (QC nm.length (oD d)))).length then .error 2
 else .ok (Qo (XV nm (fP (Zi ps)) nm.length 0 (QC nm.length (oD d))))
theorem EE {n:Nat}{R:List Nat}{p:DV×List Nat}{ps:List (DV×List Nat)}:WO n R (p::ps)=true↔(J7 n p.1.nd p.1.r=true/\QC n (oD p.1)≠ []/\(∀c∈QC n (oD p.1),c∈R)/\KT p.2=true)/\WO n (fW n R (oD p.1)) ps=true:=by
 rw[WO];simp only[JR,Vl,W5];constructor
 ·rintro⟨⟨⟨⟨h1,h2⟩,h3⟩,h4⟩,h5⟩;exact⟨⟨h1,h2,h3,h4⟩,h5⟩
 ·rintro⟨⟨h1,h2,h3,h4⟩,h5⟩;exact⟨⟨⟨⟨h1,h2⟩,h3⟩,h4⟩,h5⟩
theorem Pv {n:Nat}:∀{ps:List (DV×List Nat)}{R:List Nat},(∀c∈R,c<2^n)->WO n R ps=true->PaOk R (Zi ps)/\(∀p∈ps,J7 n p.1.nd p.1.r=true/\QC n (oD p.1)≠ []/\KT p.2=true/\∀c∈QC n (oD p.1),c∈R)
 | [],R,hR,h=>by
  have:R=[]:=by simpa [WO] using h
  subst this;exact⟨⟨(λc hc=>by cases hc),λc hc=>by cases hc⟩,λp hp=>by cases hp⟩
 | p::ps,R,hR,h=>by
  obtain⟨⟨h1,h2,h3,h4⟩,h5⟩:=EE.1 h;obtain⟨⟨k1,k2⟩,k3⟩:=Pv (R:=fW n R (oD p.1)) (λc hc=>hR c (KP.1 hc).1) h5;have Q7:∀q∈ps,∀c,c<2^n->oD q.1 (bits c)=true->oD p.1 (bits c)=false:=λq hq c hc IA=>by
   have:=(k3 q hq).2.2.2 c (Z0.2 ⟨hc,IA⟩);have:=(KP.1 this).2;simpa using this
  refine⟨⟨λc hc=>?_,λc hc i j a b hi hj ha hb=>?_⟩,λq hq=>?_⟩
  ·cases Vx:oD p.1 (bits c)with
   | true=>exact⟨_,LD,Vx⟩
   | false=>
    obtain⟨q,hq,IA⟩:=k1 c (KP.2 ⟨hc,by simp[Vx]⟩);exact⟨q,tH _ hq,IA⟩
  ·have mC:=hR c hc;cases i with
   | zero=>
    cases j with
    | zero=>rfl
    | succ j=>
     have ea:a=⟨oD p.1,p.2⟩:=by simpa [Zi] using hi.symm
     have hjm:b∈Zi ps:=Xe (by simpa [Zi] using hj);obtain⟨q,hq,rfl⟩:=ZY.1 hjm;subst ea;have:=Q7 q hq c mC hb;exact Xm (ha.symm.trans this) (by decide)
   | succ i=>
    have him:a∈Zi ps:=Xe (by simpa [Zi] using hi);obtain⟨q,hq,rfl⟩:=ZY.1 him;have Vx:=Q7 q hq c mC ha;cases j with
    | zero=>
     have eb:b=⟨oD p.1,p.2⟩:=by simpa [Zi] using hj.symm
     subst eb;exact Xm (hb.symm.trans Vx) (by decide)
    | succ j=>
     have IB:c∈fW n R (oD p.1):=KP.2 ⟨hc,by simp[Vx]⟩;have:=k2 c IB i j _ _ (by simpa [Zi] using hi) (by simpa [Zi] using hj) ha hb;rw[this]
  ·rcases QX.1 hq with rfl | hq
   ·exact⟨h1,h2,h4,h3⟩
   ·obtain⟨a1,a2,a3,a4⟩:=k3 q hq;exact⟨a1,a2,a3,λc hc=>(KP.1 (a4 c hc)).1⟩
theorem gQz (ls:List (List Nat))(A:Option Addr)(n c:Nat)(w:World)(h:Sl w 1 A n c (X4 ls))(hb:∀s∈ls,∀x∈s,x<256):
  Fn Tryz.prog 169 [.slice A n c,.func (.func 47) #[] #[]] w (λu w'=>(∃k:Int,u= .int .i64 k/\(0<=k↔ls.any aK=true))/\Ext w w'):=by
 have hn:ls.length=n:=by have:=h.len;rw[aF] at this;omega
 have ZK:=h.le;have aZ:=h.cap;refine QF (c:={cQm with cuts:=[]}) Qa Tryz.func169 rfl rfl rfl ?_;refine loop Qa [8] (λi:Nat=>[.int .i64 i]) (λi w'=>Ext w w'/\i<=n/\(ls.take i).any aK=false) (λi _=>n-i) 0 rfl ⟨Ext.refl _,XM _,by simp⟩ ?_;rintro i w1 ⟨Qd,hi,Xi⟩;refine QB (λc1=>?_) (λc1=>?_)
 ·have Q7:i<n:=by omega
  have hg:ls[i]? =some ls[i]:=Xs (by omega);have td:=hb _ (Xe hg);generalize ls[i]=l at*;refine Vz (h.ext Qd) Q7 (λad u hA hu Xz=>?_);rw[lm hg] at hu;cases hu;refine load Xz ?_;refine call (zl l w1 td) ?_;rintro _ w2 ⟨rfl,Qg⟩;have YH:(ls.take (i+1)).any aK=aK l:=by rw[VX,hg,List.any_append,Xi];simp
  refine Y3 (λd1=>?_) (λd1=>?_)
  ·have d1:aK l=true:=d1;exact⟨⟨i,rfl,⟨λ_=>tI.2 ⟨l,Xe hg,d1⟩,λ_=>by omega⟩⟩,Qd.trans Qg⟩
  ·have d1:aK l=false:=d1;simp only[maxLen] at aZ;refine Qm ((i+1:Nat):Int) (by show((i:Nat):Int)+1=_;omega) (by omega) ?_;exact⟨i+1,rfl,⟨Qd.trans Qg,Q7,by rw[YH,d1]⟩,by show n-(i+1)<n-i;omega⟩
 ·have Q7:i=n:=by omega
  rw[Q7,Jz (by omega)] at Xi;exact⟨⟨-1,rfl,by rw[Xi];simp⟩,Qd⟩
theorem Pw (ls:List (List Nat))(A:Option Addr)(n c:Nat)(w:World)(h:Sl w 1 A n c (X4 ls))(hb:∀s∈ls,∀x∈s,x<256):
  Fn Tryz.prog 114 [.slice A n c,.func (.func 47) #[] #[]] w (λu w'=>u= .bool (ls.any aK)/\Ext w w'):=by
 refine QF (c:={bQL with cuts:=[]}) Qa Tryz.func114 rfl rfl rfl ?_;refine call (gQz ls A n c w h hb) ?_;rintro _ w1 ⟨⟨k,rfl,hk⟩,Qd⟩;refine⟨?_,Qd⟩;refine QN Value.bool ?_;cases ha:ls.any aK with
 | true=>exact XX (hk.2 ha)
 | false=>exact Zf (λhh=>by rw[hk.1 hh] at ha;cases ha)
theorem Px (l:List Nat)(w:World)(hl:∀x∈l,x<256)(Xb:l.length<=1000000000):
  Fn Tryz.prog 63 [.string (Qf l)] w (λu w'=>u= .bool (KT l)/\Ext w w'):=by
 refine QF (c:={c63 with cuts:=[]}) Qa Tryz.func63 rfl rfl rfl ?_;have fin:∀w1,Ext w w1->ac l=true->∀ls,fO l=ls->∀w2,Ext w1 w2->(Value.bool (!(ls.any aK))= .bool (KT l)/\Ext w w2):=λw1 Qd ht ls KG w2 Qg=>by
  refine⟨?_,Qd.trans Qg⟩;rw[<-KG,yX (lM ht),fQh,Bool.not_not];unfold KT;rw[ht,df]
 by_cases h0:l=[]
 ·subst h0;refine Xc rfl ?_;refine call (yZ [] w hl Xb) ?_;rintro _ w1 ⟨A,c,rfl,Qd,KC⟩;refine call (Pw _ A _ c w1 KC.1 (λs hs=>by simp[fO,ZV] at hs)) ?_;rintro _ w2 ⟨rfl,Qg⟩;exact fin w1 Qd rfl _ rfl w2 Qg
 ·refine Xy (λe=>h0 (JD hl (by simp) e)) ?_;refine call (fQ9 l w hl (by omega)) ?_;rintro _ _ ⟨rfl,rfl⟩;refine Y3 (λd1=>?_) (λd1=>?_)
  ·have d1:(l.getLast? ==some 10)=true:=d1;have ht:ac l=true:=by unfold ac;rw[d1,Bool.or_true]
   refine call (yZ l w hl Xb) ?_;rintro _ w1 ⟨A,c,rfl,Qd,KC⟩;refine call (Pw _ A _ c w1 KC.1 (λs hs x hx=>by
    rw[yX (lM ht)] at hs;obtain⟨r,hr,rfl⟩:=ZY.1 hs;rcases XB.1 hx with hx | hx
    ·have hu:=WG (lM ht);refine hl x ?_;rw[<-hu];exact fz.2 ⟨r,hr,by simp[hx]⟩
    ·rw[QJ.1 hx];decide)) ?_
   rintro _ w2 ⟨rfl,Qg⟩;exact fin w1 Qd ht _ rfl w2 Qg
  ·have d1:(l.getLast? ==some 10)=false:=d1;refine⟨?_,Ext.refl _⟩;unfold KT ac;rw[d1,Zf h0]<;>rfl
theorem gQA (b:Br)(n bx:Nat)(w:World)(hB:Blk w bx 3 [.int .i64 n]):
  Fn Tryz.prog 110 [.agg b.cells.toArray,.pointer (some ⟨bx,0,none⟩)] w (λu w'=>u= .bool (decide ((n:Int)<=b.v))/\Ext w w'):=by
 refine QF (c:={bQI with cuts:=[]}) Qa Tryz.func110 rfl rfl rfl ?_;refine new (λw1 Qd Q2 Qh=>?_);refine Qv Qh rfl ?_;refine Qv (hB.ext Qd) rfl ?_;exact⟨rfl,Qd⟩
theorem gQB (nd:List Br)(A:Option Addr)(m c n bx:Nat)(w:World)(h:SB w A m c nd)(hB:Blk w bx 3 [.int .i64 n]):
  Fn Tryz.prog 165 [.slice A m c,.func (.func 110) #[] #[.pointer (some ⟨bx,0,none⟩)]] w (λu w'=>(∃k:Int,u= .int .i64 k/\(0<=k↔∃b∈nd,(n:Int)<=b.v))/\Ext w w'):=by
 have hn:=h.2;have ZK:=h.1.le;have aZ:=h.1.cap;refine QF (c:={cQj with cuts:=[]}) Qa Tryz.func165 rfl rfl rfl ?_;refine loop Qa [8] (λi:Nat=>[.int .i64 i]) (λi w'=>Ext w w'/\i<=m/\∀b∈nd.take i,¬(n:Int)<=b.v) (λi _=>m-i) 0 rfl ⟨Ext.refl _,XM _,λb hb=>by simp at hb⟩ ?_;rintro i w1 ⟨Qd,hi,Xi⟩;refine QB (λc1=>?_) (λc1=>?_)
 ·have Q7:i<m:=by omega
  refine Zo Y5 (h.ext Qd) rfl Q7 (λp b hb hc=>?_);refine J4 (vs:=b.cells) rfl hc ?_;refine call (gQA b n bx w1 (hB.ext Qd)) ?_;rintro _ w2 ⟨rfl,Qg⟩;have tg:=Xe hb;refine QB (λd1=>?_) (λd1=>?_)
  ·exact⟨⟨i,rfl,⟨λ_=>⟨b,tg,d1⟩,λ_=>by omega⟩⟩,Qd.trans Qg⟩
  ·simp only[maxLen] at aZ;refine Qm ((i+1:Nat):Int) (by show((i:Nat):Int)+1=_;omega) (by omega) ?_;refine⟨i+1,rfl,⟨Qd.trans Qg,Q7,λb' hb'=>?_⟩,by show m-(i+1)<m-i;omega⟩;rw[VX,hb] at hb';rcases XB.1 hb' with hb' | hb'
   ·exact Xi b' hb'
   ·have:b'=b:=by simpa using hb'
    rw[this];exact d1
 ·have Q7:i=m:=by omega
  rw[Q7,Jz (by omega)] at Xi;exact⟨⟨-1,rfl,⟨λhh=>Xm hh (by decide),λ⟨b,hb,hh⟩=>Xm hh (Xi b hb)⟩⟩,Qd⟩
theorem EF (A:Option Addr)(m c n:Nat)(nd:List Br)(r:Int)(w:World)(h:SB w A m c nd):
  Fn Tryz.prog 61 [Xg A m c r,.int .i64 n] w (λu w'=>u= .bool (J7 n nd r)/\Ext w w'):=by
 refine QF (c:={c61 with cuts:=[]}) Qa Tryz.func61 rfl rfl rfl ?_;refine new (λw1 Qd Q2 Qh=>?_);refine new (λw2 Qg X9 Qw=>?_);have Q4:=Qd.trans Qg;refine Qs (Qh.ext Qg) rfl ?_;refine call (yC A m c nd r w2 (h.ext Q4)) ?_;rintro _ w3 ⟨rfl,Qj⟩;have QQ:=Q4.trans Qj;refine Zn (λc1=>?_) (λc1=>?_)
 ·refine Qv ((Qh.ext Qg).ext Qj) rfl ?_;refine call (QF (c:={bQH with cuts:=[]}) (R:=λu w'=>u= .bool (decide (∃b∈nd,(n:Int)<=b.v))/\Ext w3 w') Qa Tryz.func109 rfl rfl rfl ?_) ?_
  ·refine call (gQB nd A m c n w1.heap.size w3 (h.ext QQ) (Qw.ext Qj)) ?_;rintro _ w4 ⟨⟨k,rfl,hk⟩,Qq⟩;refine⟨?_,Qq⟩;refine QN Value.bool ?_;by_cases hh:∃b∈nd,(n:Int)<=b.v
   ·rw[XX hh];exact XX (hk.2 hh)
   ·rw[Zf hh];exact Zf (λh2=>hh (hk.1 h2))
  rintro _ w4 ⟨rfl,Qq⟩;refine⟨?_,QQ.trans Qq⟩;refine QN Value.bool ?_;by_cases hh:∃b∈nd,(n:Int)<=b.v
  ·rw[XX hh]
   symm;refine ez.2 (λho=>?_);obtain⟨b,hb,hv⟩:=hh;have:=(rI.1 ho).2 b hb;omega
  ·rw[Zf hh];exact(rI.2 ⟨c1,λb hb=>by
    apply Classical.byContradiction;intro hv;exact hh ⟨b,hb,by omega⟩⟩).symm
 ·refine⟨?_,QQ⟩;refine QN Value.bool ?_;exact(ez.2 (λho=>c1 (rI.1 ho).1)).symm
theorem gQC {k:Nat}(hk:k<=12)(x y:DV){o o':BF}(w:World)(h:SB w x.A x.n x.c x.nd)(h':SB w y.A y.n y.c y.nd)(s:Set1 k x.nd x.r o)(s':Set1 k y.nd y.r o'):
  Fn Tryz.prog 115 [Xg x.A x.n x.c x.r,Xg none 0 0 0,Xg y.A y.n y.c y.r] w (uK w k (λe=> !o e&&o' e)):=by
 have mV:=h.2;have hyl:=h'.2;have l1:=s.len hk;have l2:=s'.len hk;refine QF (c:={bQM with cuts:=[]}) Qa Tryz.func115 rfl rfl rfl ?_;refine new (λw1 Qd Q2 Qh=>?_);refine new (λw2 Qg X9 Qw=>?_);refine new (λw3 Qj JV Qu=>?_);refine new (λw4 Qq Kz QZ=>?_);have KB:=Qj.trans Qq;have JL:=Qg.trans KB;have XF:=Qd.trans JL;have JN:=Qh.ext JL;have kh:=Qw.ext KB;have iA:=Qu.ext Qq;refine Qs JN rfl ?_;refine Qs kh rfl ?_;refine Qs iA rfl ?_;refine XE Qa [x.cells,(⟨none,0,0,[],0⟩:DV).cells,y.cells] rfl rfl rfl rfl rfl ⟨rfl,rfl,rfl,rfl,rfl,rfl,⟨⟩⟩ rfl (λcs h=>by simp only[QX,Z3,Z9] at h;rcases h with rfl | rfl | rfl<;>rfl) rfl (by decide) (by decide) ?_;intro w5 Qt Kv QH;have Jm:=XF.trans Qt;have hL:SlS DV.cells 2 w5 (some ⟨w4.heap.size,0,none⟩) 3 3 [x,⟨none,0,0,[],0⟩,y]:=⟨Sl.own (sz:=2) (n:=3) QH (QE _) (by decide) (by simp[DV.cells]),rfl⟩
 refine call (yQ _ 3 3 _ w5 hL (λz hz=>by
  simp only[QX,Z3,Z9] at hz;rcases hz with rfl | rfl | rfl
  ·exact h.ext Jm
  ·exact SlS.nil _
  ·exact h'.ext Jm)) ?_
 rintro v w6 ⟨rfl,Q6⟩;have Xx:=Qt.trans Q6;have XG:=XF.trans Xx;have gy:bq [x,(⟨none,0,0,[],0⟩:DV),y]=0:=by
  have e1:XC x.nd x.r=0:=s.chk hk;have e2:XC y.nd y.r=0:=s'.chk hk;have e3:XC ([]:List Br) 0=0:=(aH k false).chk hk;simp[bq,e1,e2,e3]
 rw[gy];refine Wx rfl ?_;refine Qs (JN.ext Xx) rfl ?_;refine Qs (kh.ext Xx) rfl ?_;refine Qs (iA.ext Xx) rfl ?_;have va:=s.vd;have vb:=s'.vd;have hb2:=DR va vb 4;have Cg:(x.nd.length+2)*(y.nd.length+2)<=4098*4098:=Nat.mul_le_mul (by omega) (by omega);refine call (fQn x.A x.n x.c x.nd x.r y.A y.n y.c y.nd y.r w6 (h.ext XG) (h'.ext XG) va.dok vb.dok va.2.1 (by have:=va.2.2.1;omega) vb.2.1 (by have:=vb.2.2.1;omega) (by omega) (by omega) (by omega)) ?_;have c4:Set1 k _ _ (λe=> !o e&&o' e):=(dx s s' 4).congr (λe=>by simp[J5]);have Jf:=fM hk s s' 4;have cX:ii (Vo x.nd x.r y.nd y.r 4)=(Vo x.nd x.r y.nd y.r 4,0):=by unfold ii;rw[if_neg (by have:=c4.len hk;omega)]
 generalize Vo x.nd x.r y.nd y.r 4=D at*;obtain⟨D1,D2⟩:=D;rintro v w7 ⟨OA,m,oc,rfl,Q1,vz,Kg⟩;have VO:=Xx.trans Q1;have St:=XG.size;refine call (N9 OA m oc _ _ w4 w7 vz (λi hi=>by have:=Kg i hi;have:=Xx.size;omega) VO) ?_;rw[cX];rintro v w8 ⟨PA,q,pc,rfl,Q9,vC,mt⟩;refine Qx (QZ.ext Q9) rfl (sc rfl) (λw9 dT _ JM=>?_);have Zc:Mod (·=w3.heap.size) w8 w9:=mQj dT rfl;refine Qs JM rfl ?_;exact⟨PA,q,pc,D1,D2,rfl,Zc.ext (XF.trans Q9) (λi hi=>by omega),⟨vC.1.modS Zc (λ_ i hi e=>by have:=mt i hi;omega),vC.2⟩,c4,λi hi=>by have:=mt i hi;omega⟩
theorem EG (w:World):Fn Tryz.prog 44 [.int .i64 0] w (λ_ w'=>w=w'):=by
 refine QF (c:={Mi with cuts:=[]}) Qa Tryz.func44 rfl rfl rfl ?_;refine Wx rfl ?_;exact rfl
theorem zt (x:DV)(w:World):Fn Tryz.prog 100 [Xg x.A x.n x.c x.r,.int .i64 0] w (λu w'=>u=Xg x.A x.n x.c x.r/\Ext w w'):=by
 refine QF (c:={bQz with cuts:=[]}) Qa Tryz.func100 rfl rfl rfl ?_;refine new (λw1 Qd Q2 Qh=>?_);refine new (λw2 Qg X9 Qw=>?_);refine call (EG w2) ?_;rintro _ _ rfl;refine Qs (Qh.ext Qg) rfl ?_;refine Qx Qw rfl (sc rfl) (λw3 ZT _ Qu=>?_);have ZP:Mod (·=w1.heap.size) w2 w3:=mQj ZT rfl;refine Qs Qu rfl ?_;exact⟨rfl,ZP.ext (Qd.trans Qg) (λi hi=>by omega)⟩
theorem lP {k:Nat}(hk:k<=12)(x y:DV){o o':BF}(w:World)(h:SB w x.A x.n x.c x.nd)(h':SB w y.A y.n y.c y.nd)(s:Set1 k x.nd x.r o)(s':Set1 k y.nd y.r o'):
  Fn Tryz.prog 49 [Xg x.A x.n x.c x.r,Xg y.A y.n y.c y.r] w (eO w k (λe=>o e&&o' e)):=by
 refine QF (c:={c49 with cuts:=[]}) Qa Tryz.func49 rfl rfl rfl ?_;refine new (λw1 Qd Q2 Qh=>?_);refine new (λw2 Qg X9 Qw=>?_);refine new (λw3 Qj JV Qu=>?_);have Yb:=Qg.trans Qj;have QQ:=Qd.trans Yb;refine Qs (Qh.ext Yb) rfl ?_;refine Qs (Qw.ext Qj) rfl ?_;refine call (uC x.A x.n x.c x.nd x.r y.A y.n y.c y.nd y.r w3 (h.ext QQ) (h'.ext QQ)) ?_;rw[fM hk s s' 0];have c1:Set1 k _ _ (λe=>o e&&o' e):=(dx s s' 0).congr (λe=>by simp[J5]);generalize Vo x.nd x.r y.nd y.r 0=D at*;obtain⟨D1,D2⟩:=D;rintro _ w5 ⟨PA,pn,pc,rfl,Qt,o9,an⟩;refine call (zt ⟨PA,pn,pc,D1,D2⟩ w5) ?_;rintro _ w6 ⟨rfl,Q6⟩;have KD:=Qt.trans Q6;refine Qx (Qu.ext KD) rfl (sc rfl) (λw7 Zr _ QY=>?_);have Q8:Mod (·=w2.heap.size) w6 w7:=mQj Zr rfl;refine Qs QY rfl ?_;exact⟨PA,pn,pc,D1,D2,rfl,Q8.ext (QQ.trans KD) (λi hi=>by omega),SB.mod (o9.ext Q6) Q8 (λi hi e=>by have:=an i hi;omega),c1,λi hi=>by have:=an i hi;omega⟩
theorem dC {k:Nat}(hk:k<=12)(x y:DV){o o':BF}(w:World)(h:SB w x.A x.n x.c x.nd)(h':SB w y.A y.n y.c y.nd)(s:Set1 k x.nd x.r o)(s':Set1 k y.nd y.r o'):
  Fn Tryz.prog 64 [Xg x.A x.n x.c x.r,Xg y.A y.n y.c y.r] w (eO w k (λe=>o e && !o' e)):=by
 refine QF (c:={c64 with cuts:=[]}) Qa Tryz.func64 rfl rfl rfl ?_;refine new (λw1 Qd Q2 Qh=>?_);refine new (λw2 Qg X9 Qw=>?_);refine new (λw3 Qj JV Qu=>?_);have Yb:=Qg.trans Qj;have QQ:=Qd.trans Yb;refine Qs (Qw.ext Qj) rfl ?_;refine Qs (Qh.ext Yb) rfl ?_;refine call (gQC hk y x w3 (h'.ext QQ) (h.ext QQ) s' s) ?_;rintro _ w5 ⟨PA,pn,pc,D1,D2,rfl,Qt,o9,gg,an⟩;refine call (zt ⟨PA,pn,pc,D1,D2⟩ w5) ?_;rintro _ w6 ⟨rfl,Q6⟩;have KD:=Qt.trans Q6;refine Qx (Qu.ext KD) rfl (sc rfl) (λw7 Zr _ QY=>?_);have Q8:Mod (·=w2.heap.size) w6 w7:=mQj Zr rfl;refine Qs QY rfl ?_;exact⟨PA,pn,pc,D1,D2,rfl,Q8.ext (QQ.trans KD) (λi hi=>by omega),SB.mod (o9.ext Q6) Q8 (λi hi e=>by have:=an i hi;omega),gg.congr (λe=>by rw[Bool.and_comm]),λi hi=>by have:=an i hi;omega⟩
abbrev JI (ls:List (List Nat)):List Value:=X4 (ls.map (·++ [10]))
theorem zu (ls:List (List Nat)):(JI ls).length=ls.length:=by rw[aF,Jg]
theorem fX {ls:List (List Nat)}{j:Nat}{s:List Nat}(h:ls[j]? =some s):(JI ls)[j]? =some (.string (Qf (s++ [10]))):=lm (by rw[K2,h];rfl)
theorem Sl.from {w:World}{n c l:Nat}{A:Option Addr}{cs:List Value}(h:Sl w 1 A n c cs)(hl:l<=n):Sl w 1 (if c=l then A else A.map (·.add (l*1))) (n-l) (c-l) (cs.drop l):=by
 have h1:=h.len;have h2:=h.le;have h3:=h.cap;refine⟨by rw[Y1];omega,by omega,by omega,λh0=>?_⟩;obtain⟨ad,rfl,hc⟩:=h.at_ (by omega);refine⟨ad.add (l*1),by rw[if_neg (by omega)];rfl,λj u hu=>?_⟩;rw[Addr.add_add,gR];exact hc _ _ (by rw[List.getElem?_drop] at hu;exact hu)
def jP (ls:List (List Nat)):Prop:=∀s∈ls,(∀x∈s,x<256)/\s.length<=1000000000
theorem eQ {s:List Nat}(h:∀x∈s,x<256):∀x∈s++ [10],x<256:=λx hx=>by
 rcases XB.1 hx with hx | hx
 ·exact h x hx
 ·rw[QJ.1 hx];decide
def af (back:Bool)(a:List (List Nat)):List (List Nat):=if back then a.reverse else a
theorem EH (back:Bool)(a:List (List Nat)):(af back a).length=a.length:=by cases back<;>simp[af]
theorem Py {back:Bool}{a:List (List Nat)}{k:Nat}{s:List Nat}(h:(af back a)[k]? =some s):a[if back then a.length-1-k else k]? =some s:=by
 cases back with
 | false=>exact h
 | true=>
  have hk:k<a.length:=by have:=(Zt.1 h).1;rw[EH] at this;exact this
  rw[show af true a=a.reverse from rfl,List.getElem?_reverse hk] at h;exact h
theorem gQD (b:List (List Nat))(k best:Nat)(o:Int):jJ [] b k best o=best:=by cases b<;>rfl
theorem gQE (a:List (List Nat))(k best:Nat)(o:Int):jJ a [] k best o=best:=by cases a<;>rfl
theorem Pz {α:Type}{l:List α}{k:Nat}{x:α}(h:l[k]? =some x):l.drop k=x::l.drop (k+1):=by
 obtain⟨hk,e⟩:=Zt.1 h;rw[cd hk,e]
theorem PB (a b:List (List Nat))(A B:Option Addr)(n c m d:Nat)(back:Bool)(w:World)(h:Sl w 1 A n c (JI a))(h':Sl w 1 B m d (JI b))(ha:jP a)(hb:jP b)(hn:n<=1000000000):
  Fn Tryz.prog 171 [.slice A n c,.slice B m d,.bool back] w (λu w'=>u= .int .i64 (V6 (af back a) (af back b))/\Ext w w'):=by
 have KF:a.length=n:=by have:=h.len;rw[zu] at this;omega
 have ee:b.length=m:=by have:=h'.len;rw[zu] at this;omega
 have IC:m<=9223372036854775807:=by have:=h'.le;have:=h'.cap;simp only[maxLen] at this;omega
 have hA:=EH back a;have hB:=EH back b;refine QF (c:={cQo with cuts:=[]}) Qa Tryz.func171 rfl rfl rfl ?_;refine norm (m:=((min n m:Nat):Int)) (by rw[Nat.min_def];split<;>split<;>omega) ?_;generalize BU:min n m=mn;have Zj:mn<=n:=by omega
 have XL:mn<=m:=by omega
 have Xo:mn=n∨mn=m:=by omega
 refine loop Qa [17,7,8] (λs:Nat×Nat×Int=>[.int .i64 s.1,.int .i64 s.2.1,.int .i64 s.2.2]) (λs w'=>Ext w w'/\s.1<=mn/\s.2.1<=s.1/\ -(s.1:Int)<=s.2.2/\s.2.2<=s.1/\jJ ((af back a).drop s.1) ((af back b).drop s.1) s.1 s.2.1 s.2.2=V6 (af back a) (af back b)) (λs _=>mn-s.1) (0,0,0) rfl ⟨Ext.refl _,XM _,QE _,by simp,by simp,rfl⟩ ?_;rintro⟨k,best,o⟩ w1 ⟨Qd,hk,iN,cM,eW,QT⟩;simp only at hk iN cM eW QT;refine QB (λc1=>?_) (λc1=>?_)
 ·have Xj:k<mn:=by simp only at c1;omega
  obtain⟨x,hx⟩:∃x,(af back a)[k]? =some x:=⟨_,Xs (by omega)⟩
  obtain⟨y,hy⟩:∃y,(af back b)[k]? =some y:=⟨_,Xs (by omega)⟩
  rw[Pz hx,Pz hy,jJ] at QT;have Vi:=Py hx;have pV:=Py hy;have Z2:=ha x (Xe Vi);have iP:=hb y (Xe pV);obtain⟨x0,eY⟩:∃x0,a[k]? =some x0:=⟨_,Xs (by omega)⟩
  obtain⟨y0,Te⟩:∃y0,b[k]? =some y0:=⟨_,Xs (by omega)⟩
  refine XJ Qa (Ext w1) 10 [(true,0),(true,1),(true,2),(true,3),(true,4),(true,5),(true,6),(true,7),(true,8),(true,9)] (by kernel_rfl) (Ext.drew w1) ?_;refine Vz (h.ext Qd) (by omega) (λad u ID hu Xz=>?_);rw[fX eY] at hu;cases hu;refine QL (v:=.string (Qf (x0++ [10]))) (λw' Qb=>Qb.cell Xz) ?_;refine Vz (h'.ext Qd) (by omega) (λad u ID hu Xz=>?_);rw[fX Te] at hu;cases hu;refine QL (v:=.string (Qf (y0++ [10]))) (λw' Qb=>Qb.cell Xz) ?_;cases back with
  | false=>
   refine Xt rfl ?_;have ex:x=x0:=(Option.some.inj (eY.symm.trans Vi)).symm;have ey:y=y0:=(Option.some.inj (Te.symm.trans pV)).symm;subst ex ey;have bM:=Qd.trans (Ext.drew w1);have W4:(Qf (x++ [10])=Qf (y++ [10]))↔x=y:=⟨λhh=>by have:=JD (eQ Z2.1) (eQ iP.1) hh;exact CW this,λhh=>by rw[hh]⟩
   by_cases Xr:x=y
   ·rw[Qe Xr] at QT;refine Xt (by simp[W4.2 Xr]) ?_;refine call (Em (x++ [10]) JG _ (eQ Z2.1) (by decide)) ?_;rintro _ _ ⟨rfl,rfl⟩;rw[OH];cases hp:JG.isPrefixOf x with
    | true=>
     have hd:Yy x=1:=by unfold Yy;rw[Qe hp]
     refine Xc rfl ?_;refine Qm (o+1) rfl (by omega) ?_;have JP:=QT;rw[hd] at JP;by_cases h0:o+1=0
     ·rw[Qe h0] at JP;refine Jp h0 ?_;refine Qm ((k+1:Nat):Int) (by show((k:Nat):Int)+1=_;omega) (by omega) ?_;refine Qm ((k+1:Nat):Int) (by show((k:Nat):Int)+1=_;omega) (by omega) ?_;exact⟨(k+1,k+1,o+1),rfl,⟨bM,Xj,QE _,by show -((k+1:Nat):Int)<=o+1;omega,by show o+1<=((k+1:Nat):Int);omega,JP⟩,by show mn-(k+1)<mn-k;omega⟩
     ·rw[if_neg h0] at JP;refine XP h0 ?_;refine Qm ((k+1:Nat):Int) (by show((k:Nat):Int)+1=_;omega) (by omega) ?_;exact⟨(k+1,best,o+1),rfl,⟨bM,Xj,by show best<=k+1;omega,by show -((k+1:Nat):Int)<=o+1;omega,by show o+1<=((k+1:Nat):Int);omega,JP⟩,by show mn-(k+1)<mn-k;omega⟩
    | false=>
     refine Xt rfl ?_;have QK:(Qf (x++ [10])=Qf (J0++ [10]))↔x=J0:=⟨λhh=>by have:=JD (eQ Z2.1) (by decide) hh;exact CW this,λhh=>by rw[hh]⟩
     by_cases he:x=J0
     ·have hd:Yy x= -1:=by unfold Yy;rw[if_neg (by rw[hp];decide),Qe he]
      refine X7 (QK.2 he) ?_;refine Qm (o-1) rfl (by omega) ?_;have JP:=QT;rw[hd,show o+(-1)=o-1 by omega] at JP;by_cases h0:o-1=0
      ·rw[Qe h0] at JP;refine Jp h0 ?_;refine Qm ((k+1:Nat):Int) (by show((k:Nat):Int)+1=_;omega) (by omega) ?_;refine Qm ((k+1:Nat):Int) (by show((k:Nat):Int)+1=_;omega) (by omega) ?_;exact⟨(k+1,k+1,o-1),rfl,⟨bM,Xj,QE _,by show -((k+1:Nat):Int)<=o-1;omega,by show o-1<=((k+1:Nat):Int);omega,JP⟩,by show mn-(k+1)<mn-k;omega⟩
      ·rw[if_neg h0] at JP;refine XP h0 ?_;refine Qm ((k+1:Nat):Int) (by show((k:Nat):Int)+1=_;omega) (by omega) ?_;exact⟨(k+1,best,o-1),rfl,⟨bM,Xj,by show best<=k+1;omega,by show -((k+1:Nat):Int)<=o-1;omega,by show o-1<=((k+1:Nat):Int);omega,JP⟩,by show mn-(k+1)<mn-k;omega⟩
     ·have hd:Yy x=0:=by unfold Yy;rw[if_neg (by rw[hp];decide),if_neg he]
      refine Xy (λhh=>he (QK.1 hh)) ?_;have JP:=QT;rw[hd,show o+0=o by omega] at JP;by_cases h0:o=0
      ·rw[Qe h0] at JP;refine Jp h0 ?_;refine Qm ((k+1:Nat):Int) (by show((k:Nat):Int)+1=_;omega) (by omega) ?_;refine Qm ((k+1:Nat):Int) (by show((k:Nat):Int)+1=_;omega) (by omega) ?_;exact⟨(k+1,k+1,o),rfl,⟨bM,Xj,QE _,by show -((k+1:Nat):Int)<=o;omega,by show o<=((k+1:Nat):Int);omega,JP⟩,by show mn-(k+1)<mn-k;omega⟩
      ·rw[if_neg h0] at JP;refine XP h0 ?_;refine Qm ((k+1:Nat):Int) (by show((k:Nat):Int)+1=_;omega) (by omega) ?_;exact⟨(k+1,best,o),rfl,⟨bM,Xj,by show best<=k+1;omega,by show -((k+1:Nat):Int)<=o;omega,by show o<=((k+1:Nat):Int);omega,JP⟩,by show mn-(k+1)<mn-k;omega⟩
   ·rw[if_neg Xr] at QT;refine Xc (by rw[Zf (λhh=>Xr (W4.1 hh))];rfl) ?_;exact⟨by rw[<-QT],bM⟩
  | true=>
   refine Xc rfl ?_;refine XJ Qa (Ext w1.drew) 18 [(true,0),(true,1),(true,2),(true,3),(true,4),(true,5),(true,6),(true,7),(true,8),(true,9),(true,10),(true,11),(true,12),(true,13),(true,14),(true,15),(true,16),(true,17)] (by kernel_rfl) (Ext.drew w1.drew) ?_;refine Qm ((a.length-1:Nat):Int) (by omega) (by omega) ?_;refine Qm ((a.length-1-k:Nat):Int) (by omega) (by omega) ?_;refine Vz ((h.ext Qd).ext (Ext.drew w1)) (by omega) (λad u ID hu Xz=>?_);rw[fX (show a[a.length-1-k]? =some x from Vi)] at hu;cases hu;refine QL (v:=.string (Qf (x++ [10]))) (λw' Qb=>Qb.cell Xz) ?_;refine Qm ((b.length-1:Nat):Int) (by omega) (by omega) ?_;refine Qm ((b.length-1-k:Nat):Int) (by omega) (by omega) ?_;refine Vz ((h'.ext Qd).ext (Ext.drew w1)) (by omega) (λad u ID hu Xz=>?_);rw[fX (show b[b.length-1-k]? =some y from pV)] at hu;cases hu;refine QL (v:=.string (Qf (y++ [10]))) (λw' Qb=>Qb.cell Xz) ?_;have bM:=(Qd.trans (Ext.drew w1)).trans (Ext.drew _);have W4:(Qf (x++ [10])=Qf (y++ [10]))↔x=y:=⟨λhh=>by have:=JD (eQ Z2.1) (eQ iP.1) hh;exact CW this,λhh=>by rw[hh]⟩
   by_cases Xr:x=y
   ·rw[Qe Xr] at QT;refine Xt (by simp[W4.2 Xr]) ?_;refine call (Em (x++ [10]) JG _ (eQ Z2.1) (by decide)) ?_;rintro _ _ ⟨rfl,rfl⟩;rw[OH];cases hp:JG.isPrefixOf x with
    | true=>
     have hd:Yy x=1:=by unfold Yy;rw[Qe hp]
     refine Xc rfl ?_;refine Qm (o+1) rfl (by omega) ?_;have JP:=QT;rw[hd] at JP;by_cases h0:o+1=0
     ·rw[Qe h0] at JP;refine Jp h0 ?_;refine Qm ((k+1:Nat):Int) (by show((k:Nat):Int)+1=_;omega) (by omega) ?_;refine Qm ((k+1:Nat):Int) (by show((k:Nat):Int)+1=_;omega) (by omega) ?_;exact⟨(k+1,k+1,o+1),rfl,⟨bM,Xj,QE _,by show -((k+1:Nat):Int)<=o+1;omega,by show o+1<=((k+1:Nat):Int);omega,JP⟩,by show mn-(k+1)<mn-k;omega⟩
     ·rw[if_neg h0] at JP;refine XP h0 ?_;refine Qm ((k+1:Nat):Int) (by show((k:Nat):Int)+1=_;omega) (by omega) ?_;exact⟨(k+1,best,o+1),rfl,⟨bM,Xj,by show best<=k+1;omega,by show -((k+1:Nat):Int)<=o+1;omega,by show o+1<=((k+1:Nat):Int);omega,JP⟩,by show mn-(k+1)<mn-k;omega⟩
    | false=>
     refine Xt rfl ?_;have QK:(Qf (x++ [10])=Qf (J0++ [10]))↔x=J0:=⟨λhh=>by have:=JD (eQ Z2.1) (by decide) hh;exact CW this,λhh=>by rw[hh]⟩
     by_cases he:x=J0
     ·have hd:Yy x= -1:=by unfold Yy;rw[if_neg (by rw[hp];decide),Qe he]
      refine X7 (QK.2 he) ?_;refine Qm (o-1) rfl (by omega) ?_;have JP:=QT;rw[hd,show o+(-1)=o-1 by omega] at JP;by_cases h0:o-1=0
      ·rw[Qe h0] at JP;refine Jp h0 ?_;refine Qm ((k+1:Nat):Int) (by show((k:Nat):Int)+1=_;omega) (by omega) ?_;refine Qm ((k+1:Nat):Int) (by show((k:Nat):Int)+1=_;omega) (by omega) ?_;exact⟨(k+1,k+1,o-1),rfl,⟨bM,Xj,QE _,by show -((k+1:Nat):Int)<=o-1;omega,by show o-1<=((k+1:Nat):Int);omega,JP⟩,by show mn-(k+1)<mn-k;omega⟩
      ·rw[if_neg h0] at JP;refine XP h0 ?_;refine Qm ((k+1:Nat):Int) (by show((k:Nat):Int)+1=_;omega) (by omega) ?_;exact⟨(k+1,best,o-1),rfl,⟨bM,Xj,by show best<=k+1;omega,by show -((k+1:Nat):Int)<=o-1;omega,by show o-1<=((k+1:Nat):Int);omega,JP⟩,by show mn-(k+1)<mn-k;omega⟩
     ·have hd:Yy x=0:=by unfold Yy;rw[if_neg (by rw[hp];decide),if_neg he]
      refine Xy (λhh=>he (QK.1 hh)) ?_;have JP:=QT;rw[hd,show o+0=o by omega] at JP;by_cases h0:o=0
      ·rw[Qe h0] at JP;refine Jp h0 ?_;refine Qm ((k+1:Nat):Int) (by show((k:Nat):Int)+1=_;omega) (by omega) ?_;refine Qm ((k+1:Nat):Int) (by show((k:Nat):Int)+1=_;omega) (by omega) ?_;exact⟨(k+1,k+1,o),rfl,⟨bM,Xj,QE _,by show -((k+1:Nat):Int)<=o;omega,by show o<=((k+1:Nat):Int);omega,JP⟩,by show mn-(k+1)<mn-k;omega⟩
      ·rw[if_neg h0] at JP;refine XP h0 ?_;refine Qm ((k+1:Nat):Int) (by show((k:Nat):Int)+1=_;omega) (by omega) ?_;exact⟨(k+1,best,o),rfl,⟨bM,Xj,by show best<=k+1;omega,by show -((k+1:Nat):Int)<=o;omega,by show o<=((k+1:Nat):Int);omega,JP⟩,by show mn-(k+1)<mn-k;omega⟩
   ·rw[if_neg Xr] at QT;refine Xc (by rw[Zf (λhh=>Xr (W4.1 hh))];rfl) ?_;exact⟨by rw[<-QT],bM⟩
 ·have Xj:k=mn:=by simp only at c1;omega
  subst Xj;refine⟨?_,Qd⟩;rcases Xo with e | e
  ·rw[xJ (by omega),gQD] at QT;rw[<-QT]
  ·rw[xJ (show(af back b).length<=k by omega),gQE] at QT;rw[<-QT]
theorem bC (ls:List (List Nat)):∀u∈X4 ls,Jo u=true:=λu hu=>by
 unfold X4 at hu;obtain⟨s,_,rfl⟩:=ZY.1 hu;rfl
theorem gQF (ls:List (List Nat))(A:Option Addr)(n c:Nat)(w:World)(h:Sl w 1 A n c (X4 ls))(hn:n<=1000000000):
  Fn Tryz.prog 172 [.slice A n c] w (λu w'=>∃A' c',u= .slice A' n c'/\Ext w w'/\Own w' w.heap.size 9 1 A' n c' (X4 ls)):=by
 have hl:ls.length=n:=by have:=h.len;rw[aF] at this;omega
 refine QF (c:={cQp with cuts:=[]}) Qa Tryz.func172 rfl rfl rfl ?_;cases A with
 | none=>
  have h0:n=0:=Classical.byContradiction (λhh=>by obtain⟨ad,e,_⟩:=h.at_ (by omega);cases e);subst h0;have KG:ls=[]:=Y0 hl;subst KG;refine Xc rfl ?_;exact⟨none,0,rfl,Ext.refl _,Own.nil _ _ _ _⟩
 | some a=>
  refine Xt rfl ?_;refine XE Qa [] rfl rfl rfl rfl rfl ⟨⟩ rfl (λcs h=>by cases h) rfl (by decide) (by decide) ?_;intro w1 Qd Q2 Qh;have Tf:Own w1 w.heap.size 9 1 (some ⟨w.heap.size,0,none⟩) 0 0 []:=Own.empty Qh (QE _);refine JE (n:=0) Qa rfl rfl rfl rfl rfl (by decide) rfl rfl ⟨_,rfl⟩ rfl rfl Tf (h.ext Qd) (bC ls) (by unfold maxLen;omega) (by show(0+n)*16<=_;omega) (by omega) ?_;intro A' c' w2 XL cI lX;rw[a8,ep] at cI;refine⟨A',c',by rw[a8],XL.ext Qd (λk hk=>(Tf.rows k hk).1),cI⟩
theorem EI (ls:List (List Nat))(k:Nat):(JI ls).take k=JI (ls.take k):=by simp[JI,X4,List.map_take]
theorem PC (ls:List (List Nat))(k:Nat):(JI ls).drop k=JI (ls.drop k):=by simp[JI,X4,List.map_drop]
theorem gQG (a b:List (List Nat)):JI (a++b)=JI a++JI b:=by simp[JI,X4]
theorem PD {c:Cx}(hg:c.g.Ok){o:Oper}{S:Env}{C:World->Prop}{K:Env->Prop}{t e:Nat}{x y:Operand}{A:Option Addr}{n cp:Nat}{h:Nat}{r:TyRow}(ho:o.op= .slice t x none (some y) none)(hr:QR c.g.tys t=some r)(hd:r.d= .slice e){re:TyRow}(X2:QR c.g.tys e=some re)
  (hx:S.ev x=some (.slice A n cp)) (hy:S.ev y=some (.int .i64 h)) (hh:h<=cp)
  (k:Xf c S o.dst (.v (.slice A h cp)) K):bi c o S C K:=by
 have Q0:=(hg.row hr).1;rw[hd] at Q0;unfold bi;refine⟨_,λa w hf _=>?_,k⟩;have e1:=hf.ev hx;have e2:=hf.ev hy;simp[execOp,ho,e1,e2,Instr.sliceAt,Instr.slice,ZI Q0,Instr.sliceBounds,Instr.sliceBound,asIntOf,hh,run_sizeOf hg X2];intro _;cases A<;>simp[Addr.add]
theorem PE {c:Cx}(hg:c.g.Ok){o:Oper}{S:Env}{C:World->Prop}{K:Env->Prop}{t e:Nat}{x y:Operand}{A:Option Addr}{n cp:Nat}{l:Nat}{r:TyRow}(ho:o.op= .slice t x (some y) none none)(hr:QR c.g.tys t=some r)(hd:r.d= .slice e){re:TyRow}(X2:QR c.g.tys e=some re)
  (hx:S.ev x=some (.slice A n cp)) (hy:S.ev y=some (.int .i64 l)) (hl:l<=n)
  (k:Xf c S o.dst (.v (.slice (if cp=l then A else A.map (·.add (l*re.sz))) (n-l) (cp-l))) K):bi c o S C K:=by
 have Q0:=(hg.row hr).1;rw[hd] at Q0;unfold bi;refine⟨_,λa w hf _=>?_,k⟩;have e1:=hf.ev hx;have e2:=hf.ev hy;simp[execOp,ho,e1,e2,Instr.sliceAt,Instr.slice,ZI Q0,Instr.sliceBounds,Instr.sliceBound,asIntOf,hl,run_sizeOf hg X2]
structure Lo (w0 w:World) (O:Option Addr) (n oc:Nat) (ls:List (List Nat)):Prop where
 e:Ext w0 w
 ow:Own w w0.heap.size 9 1 O n oc (JI ls)
theorem Lo.ext {w0 w w':World}{O:Option Addr}{n oc:Nat}{ls:List (List Nat)}(h:Lo w0 w O n oc ls)(k:Ext w w'):Lo w0 w' O n oc ls:=⟨h.e.trans k,h.ow.ext k⟩
theorem Lo.app {w0 w w':World}{O O':Option Addr}{n m oc oc':Nat}{ls ys:List (List Nat)}(h:Lo w0 w O n oc ls)(hm:Mod (Qi O) w w')(ho:Own w' w0.heap.size 9 1 O' (n+m) oc' (JI ls++JI ys)):Lo w0 w' O' (n+m) oc' (ls++ys):=
 ⟨hm.ext h.e (λk hk=>(h.ow.rows k hk).1),by rw[gQG];exact ho⟩
theorem Lo.len {w0 w:World}{O:Option Addr}{n oc:Nat}{ls:List (List Nat)}(h:Lo w0 w O n oc ls):ls.length=n:=by have:=h.ow.sl.len;rw[zu] at this;omega
theorem ip {w:World}{A:Option Addr}{n c:Nat}{ls:List (List Nat)}(h:Sl w 1 A n c (JI ls)):ls.length=n:=by have:=h.len;rw[zu] at this;omega
theorem Lo.fin {w w0 w1:World}{O:Option Addr}{n oc:Nat}{ls:List (List Nat)}(hE:Ext w w0)(h:Lo w0 w1 O n oc ls):rC w (.slice O n oc) (ls.map (·++ [10])) w1:=⟨O,oc,by rw[Jg,h.len],hE.trans h.e,by rw[Jg,h.len];exact⟨h.ow.sl,λh0=>by obtain⟨g,sp,hA,_⟩:=h.ow.blk h0;exact⟨g,0,hA⟩⟩⟩
def dD (nm:List (List Nat))(v:Nat):List Nat:=(nm[v]?).getD []
theorem gQH (nm:List (List Nat))(v:Nat)(H L:List (List Nat))(A B:Option Addr)(n c m d:Nat)(w:World)(h:Sl w 1 A n c (JI H))(h':Sl w 1 B m d (JI L))(hH:jP H)(hL:jP L)(hv:(dD nm v).length<=1000000000)(hn:n<=100000000)(hm:m<=100000000):
  Fn Tryz.prog 118 [.string (Qf (dD nm v)),.slice A n c,.slice B m d] w (λu w'=>rC w u ((aJ nm v H L).map (·++ [10])) w'):=by
 have hHl:=ip h;have IE:=ip h';refine QF (c:={bQP with cuts:=[]}) Qa Tryz.func118 rfl rfl rfl ?_;have Az:=PB H L A B n c m d false w h h' hH hL (by omega);have px:V6 (af false H) (af false L)=V6 H L:=rfl;rw[px] at Az;refine call Az ?_;rintro _ w1 ⟨rfl,Qd⟩;obtain⟨p1,p2,_,_,_⟩:=Ej H L;have J3:aJ nm v H L=aJ nm v H L:=rfl;unfold aJ at J3;simp only at J3;generalize hp:V6 H L=p at*;have ZK:=h.le;have lQ6:=h'.le;refine ji Qa rfl rfl rfl rfl rfl rfl (by omega) ?_;have ht:=(h.ext Qd).take (m:=p) (by omega);rw[gR,EI] at ht;refine call (gQF ((H.take p).map (·++ [10])) A p c w1 ht (by omega)) ?_;rintro _ w2 ⟨O,oc,rfl,Qg,hO2⟩;have lo:Lo w1 w2 O p oc (H.take p):=⟨Qg,hO2⟩
 have q1:=(h.ext Qd).from (l:=p) (by omega)
 have q2:=(h'.ext Qd).from (l:=p) (by omega)
 rw[PC] at q1 q2;refine XJ Qa (Ext w2) 8 [(true,0),(true,1),(true,2),(true,3),(true,4),(true,5),(true,6),(true,7)] (by kernel_rfl) (Ext.drew w2) ?_;refine PE Qa rfl rfl rfl rfl rfl rfl (by omega) ?_;refine PE Qa rfl rfl rfl rfl rfl rfl (by omega) ?_;have GS:=lo.ext (Ext.drew w2);have hDl:(H.drop p).length=n-p:=by rw[Y1];omega
 have hDm:(L.drop p).length=m-p:=by rw[Y1];omega
 have bD:∀{X:List (List Nat)} {k:Nat},jP X->jP (X.drop k):=λhX s hs=>hX s (ay hs)
 have Kw:=PB (H.drop p) (L.drop p) _ _ _ _ _ _ true w2.drew (q1.ext GS.e) (q2.ext GS.e) (bD hH) (bD hL) (by omega);have zO:V6 (af true (H.drop p)) (af true (L.drop p))=eM (H.drop p) (L.drop p):=rfl;rw[zO] at Kw;refine call Kw ?_;rintro _ w3 ⟨rfl,Qj⟩;have lo3:=GS.ext Qj;obtain⟨s1,s2,_⟩:=OD (H.drop p) (L.drop p);generalize hs:eM (H.drop p) (L.drop p)=s at*;have hcA:p<=c:=by omega
 refine Qm ((n-p-s:Nat):Int) (by omega) (by omega) ?_;refine L8 Qa rfl rfl rfl rfl rfl rfl (by omega) ?_;refine XJ Qa (Ext w3) 14 [(true,0),(true,1),(true,2),(true,3),(true,4),(true,5),(true,6),(true,7),(true,8),(true,9),(true,10),(true,11),(true,12),(true,13)] (by kernel_rfl) (Ext.drew w3) ?_;refine Qm ((n-p-s:Nat):Int) (by omega) (by omega) ?_;refine PD Qa rfl rfl rfl rfl rfl rfl (by omega) ?_;refine Qm ((m-p-s:Nat):Int) (by omega) (by omega) ?_;refine PD Qa rfl rfl rfl rfl rfl rfl (by omega) ?_;have Tg:=lo3.ext (Ext.drew w3);have r1:=q1.take (m:=n-p-s) (by omega);have r2:=q2.take (m:=m-p-s) (by omega);have rE:=q1.from (l:=n-p-s) (by omega)
 rw[gR (n-p-s),EI] at r1;rw[gR (m-p-s),EI] at r2;rw[PC] at rE;have hj:aJ nm v H L=H.take p++((if(H.drop p).take (n-p-s)=[] then Vq nm v true::(L.drop p).take (m-p-s)else Vq nm v false::((H.drop p).take (n-p-s)++if(L.drop p).take (m-p-s)=[] then [] else Y6::(L.drop p).take (m-p-s)))++J0::(H.drop p).drop (n-p-s)):=by
  unfold aJ;simp only[hp,hs,hDl,hDm]
 have lH2:=ip r1;have lL2:=ip r2;have lE:=ip rE;generalize (H.drop p).take (n-p-s)=H2 at*;generalize (L.drop p).take (m-p-s)=L2 at*;generalize (H.drop p).drop (n-p-s)=E at*;have iW:=XU (dD nm v);have h1s:(Qf [10]).size=1:=rfl;refine Zn (λc7=>?_) (λc7=>?_)
 ·have e2:H2=[]:=Y0 (by omega);rw[Qe e2] at hj;have j6:=XU (JG++(33::dD nm v));refine Kf (v':=.string (Qf (JG++(33::dD nm v)))) (by show(Qf [35,105,102,32,33]).size+_<=_;rw[XU,iW];show 5+_<=_;unfold maxLen;omega) (by show Value.string (Qf (JG++ [33])++Qf (dD nm v))=_;rw[jj];rfl) ?_;refine Kf (v':=.string (Qf (Vq nm v true++ [10]))) (by rw[j6];show _+1<=_;simp[JG];unfold maxLen;omega) (by show Value.string (Qf (JG++(33::dD nm v))++Qf [10])=_;rw[jj];rfl) ?_;refine XE Qa [[Value.string (Qf (Vq nm v true++ [10]))]] rfl rfl rfl rfl rfl ⟨rfl,rfl,⟨⟩⟩ rfl (λcs h=>by simp only[QJ] at h;subst h;rfl) rfl (by decide) (by decide) ?_;intro wxa IF kQL IG;have sxa:Sl wxa 1 _ 1 1 (JI [Vq nm v true]):=Sl.own' (n:=1) IG rfl (by decide);have lya:=Tg.ext IF;have lza:=lya.len;refine JE Qa rfl rfl rfl rfl rfl (by decide) rfl rfl ⟨_,rfl⟩ rfl rfl lya.ow sxa (bC _) (by unfold maxLen;omega) (by show(_+1)*16<=_;omega) lya.e.size ?_;intro Oa oca wa IH II _;have loa:=lya.app IH II;refine JE Qa rfl rfl rfl rfl rfl (by decide) rfl rfl ⟨_,rfl⟩ rfl rfl loa.ow (r2.ext loa.e) (bC _) (by unfold maxLen;omega) (by show(_+_)*16<=_;omega) loa.e.size ?_;intro Ob ocb wb IJ IK _;have lob:=loa.app IJ IK;refine XE Qa [[Value.string (Qf (J0++ [10]))]] rfl rfl rfl rfl rfl ⟨rfl,rfl,⟨⟩⟩ rfl (λcs h=>by simp only[QJ] at h;subst h;rfl) rfl (by decide) (by decide) ?_;intro wxc xi aQn xj;have sxc:Sl wxc 1 _ 1 1 (JI [J0]):=Sl.own' (n:=1) xj rfl (by decide);have lyc:=lob.ext xi;have lzc:=lyc.len;refine JE Qa rfl rfl rfl rfl rfl (by decide) rfl rfl ⟨_,rfl⟩ rfl rfl lyc.ow sxc (bC _) (by unfold maxLen;omega) (by show(_+1)*16<=_;omega) lyc.e.size ?_;intro Oc occ wc th xk _;have loc:=lyc.app th xk;refine JE Qa rfl rfl rfl rfl rfl (by decide) rfl rfl ⟨_,rfl⟩ rfl rfl loc.ow (rE.ext loc.e) (bC _) (by unfold maxLen;omega) (by show(_+_)*16<=_;omega) loc.e.size ?_;intro Od ocd wd av xm _;have lod:=loc.app av xm;have fin:=lod.fin Qd;have e9:((((H.take p++ [Vq nm v true])++L2)++ [J0])++E)=aJ nm v H L:=by rw[hj];simp
  rw[e9] at fin;exact fin
 ·have e2:H2≠ []:=λe=>c7 (by subst e;simp at lH2;omega)
  rw[if_neg e2] at hj;have j6:=XU (JG++dD nm v);refine Kf (v':=.string (Qf (JG++dD nm v))) (by show(Qf [35,105,102,32]).size+_<=_;rw[XU,iW];show 4+_<=_;unfold maxLen;omega) (by show Value.string (Qf JG++Qf (dD nm v))=_;rw[jj]) ?_;refine Kf (v':=.string (Qf (Vq nm v false++ [10]))) (by rw[j6];show _+1<=_;simp[JG];unfold maxLen;omega) (by show Value.string (Qf (JG++dD nm v)++Qf [10])=_;rw[jj];rfl) ?_;refine XE Qa [[Value.string (Qf (Vq nm v false++ [10]))]] rfl rfl rfl rfl rfl ⟨rfl,rfl,⟨⟩⟩ rfl (λcs h=>by simp only[QJ] at h;subst h;rfl) rfl (by decide) (by decide) ?_;intro wxa IF kQL IG;have sxa:Sl wxa 1 _ 1 1 (JI [Vq nm v false]):=Sl.own' (n:=1) IG rfl (by decide);have lya:=Tg.ext IF;have lza:=lya.len;refine JE Qa rfl rfl rfl rfl rfl (by decide) rfl rfl ⟨_,rfl⟩ rfl rfl lya.ow sxa (bC _) (by unfold maxLen;omega) (by show(_+1)*16<=_;omega) lya.e.size ?_;intro Oa oca wa IH II _;have loa:=lya.app IH II;refine JE Qa rfl rfl rfl rfl rfl (by decide) rfl rfl ⟨_,rfl⟩ rfl rfl loa.ow (r1.ext loa.e) (bC _) (by unfold maxLen;omega) (by show(_+_)*16<=_;omega) loa.e.size ?_;intro Ob ocb wb IJ IK _;have lob:=loa.app IJ IK;refine QB (λc8=>?_) (λc8=>?_)
  ·have e3:L2≠ []:=λe=>by subst e;simp at lL2;omega
   rw[if_neg e3] at hj;refine XE Qa [[Value.string (Qf (Y6++ [10]))]] rfl rfl rfl rfl rfl ⟨rfl,rfl,⟨⟩⟩ rfl (λcs h=>by simp only[QJ] at h;subst h;rfl) rfl (by decide) (by decide) ?_;intro wxc xi aQn xj;have sxc:Sl wxc 1 _ 1 1 (JI [Y6]):=Sl.own' (n:=1) xj rfl (by decide);have lyc:=lob.ext xi;have lzc:=lyc.len;refine JE Qa rfl rfl rfl rfl rfl (by decide) rfl rfl ⟨_,rfl⟩ rfl rfl lyc.ow sxc (bC _) (by unfold maxLen;omega) (by show(_+1)*16<=_;omega) lyc.e.size ?_;intro Oc occ wc th xk _;have loc:=lyc.app th xk;refine JE Qa rfl rfl rfl rfl rfl (by decide) rfl rfl ⟨_,rfl⟩ rfl rfl loc.ow (r2.ext loc.e) (bC _) (by unfold maxLen;omega) (by show(_+_)*16<=_;omega) loc.e.size ?_;intro Od ocd wd av xm _;have lod:=loc.app av xm;refine XE Qa [[Value.string (Qf (J0++ [10]))]] rfl rfl rfl rfl rfl ⟨rfl,rfl,⟨⟩⟩ rfl (λcs h=>by simp only[QJ] at h;subst h;rfl) rfl (by decide) (by decide) ?_;intro wxe kQM lQ7 kQN;have sxe:Sl wxe 1 _ 1 1 (JI [J0]):=Sl.own' (n:=1) kQN rfl (by decide);have lye:=lod.ext kQM;have lze:=lye.len;refine JE Qa rfl rfl rfl rfl rfl (by decide) rfl rfl ⟨_,rfl⟩ rfl rfl lye.ow sxe (bC _) (by unfold maxLen;omega) (by show(_+1)*16<=_;omega) lye.e.size ?_;intro Oe oce we nu kQO _;have loe:=lye.app nu kQO;refine JE Qa rfl rfl rfl rfl rfl (by decide) rfl rfl ⟨_,rfl⟩ rfl rfl loe.ow (rE.ext loe.e) (bC _) (by unfold maxLen;omega) (by show(_+_)*16<=_;omega) loe.e.size ?_;intro Of ocf wf hmf kQP _;have lof:=loe.app hmf kQP;have fin:=lof.fin Qd;have e9:((((((H.take p++ [Vq nm v false])++H2)++ [Y6])++L2)++ [J0])++E)=aJ nm v H L:=by rw[hj];simp
   rw[e9] at fin;exact fin
  ·have e3:L2=[]:=Y0 (by omega);rw[Qe e3] at hj;refine XE Qa [[Value.string (Qf (J0++ [10]))]] rfl rfl rfl rfl rfl ⟨rfl,rfl,⟨⟩⟩ rfl (λcs h=>by simp only[QJ] at h;subst h;rfl) rfl (by decide) (by decide) ?_;intro wxc xi aQn xj;have sxc:Sl wxc 1 _ 1 1 (JI [J0]):=Sl.own' (n:=1) xj rfl (by decide);have lyc:=lob.ext xi;have lzc:=lyc.len;refine JE Qa rfl rfl rfl rfl rfl (by decide) rfl rfl ⟨_,rfl⟩ rfl rfl lyc.ow sxc (bC _) (by unfold maxLen;omega) (by show(_+1)*16<=_;omega) lyc.e.size ?_;intro Oc occ wc th xk _;have loc:=lyc.app th xk;refine JE Qa rfl rfl rfl rfl rfl (by decide) rfl rfl ⟨_,rfl⟩ rfl rfl loc.ow (rE.ext loc.e) (bC _) (by unfold maxLen;omega) (by show(_+_)*16<=_;omega) loc.e.size ?_;intro Od ocd wd av xm _;have lod:=loc.app av xm;have fin:=lod.fin Qd;have e9:((((H.take p++ [Vq nm v false])++H2)++ [J0])++E)=aJ nm v H L:=by rw[hj];simp
   rw[e9] at fin;exact fin
theorem gQI {a b:List Nat}(h:Qf (a++ [10])=Qf (b++ [10]))(ha:∀x∈a,x<256)(hb:∀x∈b,x<256):a=b:=CW (JD (eQ ha) (eQ hb) h)
theorem gQJ {α:Type}{l l':List α}{n:Nat}(h1:l.length=n)(h2:l'.length=n)(h:∀j,j<n->l[j]? =l'[j]?):l=l':=by
 refine CG (λj=>?_);by_cases hj:j<n
 ·exact h j hj
 ·rw[kW (by omega),kW (by omega)]
theorem gQK (A B:Option Addr)(n c m e:Nat)(l l':List (List Nat))(w:World)(h:Sl w 1 A n c (JI l))(h':Sl w 1 B m e (JI l'))(hb:jP l)(hb':jP l'):
  Fn Tryz.prog 117 [.slice A n c,.slice B m e] w (λv w'=>v= .bool (decide (l=l'))/\Ext w w'):=by
 have hl:=ip h;have bR:=ip h';have aZ:n<=9223372036854775807:=by have:=h.le;have:=h.cap;simp only[maxLen] at this;omega
 refine QF (c:={bQO with cuts:=[]}) Qa Tryz.func117 rfl rfl rfl ?_;refine aB (λh1=>?_) (λh1=>?_)
 ·exact⟨by rw[Zf (λe=>by subst e;omega)],Ext.refl w⟩
 refine loop Qa [13] (λs:Nat=>[.int .i64 s]) (λs w'=>Ext w w'/\s<=n/\∀j,j<s->l[j]? =l'[j]?) (λs _=>n-s) 0 rfl ⟨Ext.refl w,XM _,λj hj=>Xm hj (by omega)⟩ ?_;rintro s w1 ⟨Qd,hs,hall⟩;refine QB (λh2=>?_) (λh2=>?_)
 ·have W0:s<n:=by omega
  obtain⟨x,hx⟩:∃x,l[s]? =some x:=⟨_,Xs (by omega)⟩
  obtain⟨y,hy⟩:∃y,l'[s]? =some y:=⟨_,Xs (by omega)⟩
  refine XJ Qa (Ext w1) 9 [(true,0),(true,1),(true,2),(true,3),(true,4),(true,5),(true,6),(true,7),(true,8)] (by kernel_rfl) (Ext.drew w1) ?_;refine Vz (h.ext Qd) W0 (λad u hA hu Xz=>?_);rw[fX hx] at hu;cases hu;refine QL (v:=.string (Qf (x++ [10]))) (λw' Qb=>Qb.cell Xz) ?_;refine Vz (h'.ext Qd) (by omega) (λad u hA hu Xz=>?_);rw[fX hy] at hu;cases hu;refine QL (v:=.string (Qf (y++ [10]))) (λw' Qb=>Qb.cell Xz) ?_;have bS:=Qd.trans (Ext.drew w1);have Z2:=hb x (Xe hx);have iP:=hb' y (Xe hy);by_cases Xr:x=y
  ·refine Xt (by rw[Xr];simp) ?_;refine Qm ((s+1:Nat):Int) (by show((s:Nat):Int)+1=_;omega) (by omega) ?_;refine⟨s+1,rfl,⟨bS,by omega,λj hj=>?_⟩,by show n-(s+1)<n-s;omega⟩;by_cases Ys:j<s
   ·exact hall j Ys
   ·have:j=s:=by omega
    subst this;rw[hx,hy,Xr]
  ·refine Xc (by rw[Zf (λhh=>Xr (gQI hh Z2.1 iP.1))];rfl) ?_;refine⟨?_,bS⟩;rw[Zf (λe=>Xr (by subst e;rw[hx] at hy;exact Option.some.inj hy))]
 ·refine⟨?_,Qd⟩;rw[XX (gQJ hl (by omega) (λj hj=>hall j (by omega)))]
theorem gQL {nm:List (List Nat)}{v:Nat}{H L:List (List Nat)}{P:List Nat->Prop}(hH:∀s∈H,P s)(hL:∀s∈L,P s)(h1:∀ng,P (Vq nm v ng))(h2:P Y6)(h3:P J0):∀s∈aJ nm v H L,P s:=by
 intro s hs;unfold aJ at hs;simp only at hs;have t:∀{X:List (List Nat)} {a b:Nat},(∀s∈X,P s)->∀s∈(X.drop a).take b,P s:=λh s hs=>h s (ay (eu hs))
 generalize eM (H.drop (V6 H L)) (L.drop (V6 H L))=q at*;generalize V6 H L=p at*;rcases XB.1 hs with hs | hs
 ·exact hH s (eu hs)
 rcases XB.1 hs with hs | hs
 ·split at hs
  ·rcases QX.1 hs with rfl | hs
   ·exact h1 true
   ·exact t hL s hs
  ·rcases QX.1 hs with rfl | hs
   ·exact h1 false
   rcases XB.1 hs with hs | hs
   ·exact t hH s hs
   split at hs
   ·cases hs
   ·rcases QX.1 hs with rfl | hs
    ·exact h2
    ·exact t hL s hs
 ·rcases QX.1 hs with rfl | hs
  ·exact h3
  ·exact hH s (ay (ay hs))
theorem gQM (nm:List (List Nat))(v:Nat)(H L:List (List Nat)):(aJ nm v H L).length<=H.length+L.length+3:=by
 obtain⟨p1,p2,_⟩:=Ej H L;obtain⟨q1,q2,_⟩:=OD (H.drop (V6 H L)) (L.drop (V6 H L));unfold aJ;simp only;generalize eM (H.drop (V6 H L)) (L.drop (V6 H L))=q at*;generalize V6 H L=p at*;rw[Y1] at q1 q2;split
 ·simp only[Qy,Xk,Ye,Y1];omega
 ·split
  ·simp only[Qy,Xk,Ye,Y1,Z8];omega
  ·simp only[Qy,Xk,Ye,Y1];omega
theorem oI {nm:List (List Nat)}{f:Nat->List Nat}{P:List Nat->Prop}{M:Nat}(h1:∀v ng,P (Vq nm v ng))(h2:P Y6)(h3:P J0):∀(k v:Nat)(l:List Nat),l≠ []->(∀c∈l,(∀s∈QU (f c),P s)/\(QU (f c)).length<=M)->
  (∀s∈XV nm f k v l,P s)/\(XV nm f k v l).length+3<=l.length*(M+3)
 | 0,v,l,hl,hp=>by
  have h0:=hp _ (zm hl);rw[XV];have:1<=l.length:=xG.2 hl;have:=Wq (M+3) this;exact⟨h0.1,by have:=h0.2;omega⟩
 | k+1,v,l,hl,hp=>by
  rw[rG hl];split
  ·exact oI h1 h2 h3 k (v+1) l hl hp
  ·rename_i h;have n1:l.filter (λc=> !c.testBit v)≠ []:=λe=>h (.inl e)
   have n2:l.filter (λc=>c.testBit v)≠ []:=λe=>h (.inr e)
   have Xb:(l.filter (λc=>c.testBit v)).length+(l.filter (λc=> !c.testBit v)).length=l.length:=by
    clear h hl hp n1 n2;induction l with
    | nil=>rfl
    | cons a l ih=>by_cases e:a.testBit v=true<;>simp[xK,e]<;>omega
   obtain⟨a1,a2⟩:=oI h1 h2 h3 (P:=P) (M:=M) k (v+1) _ n1 (λc hc=>hp c (KP.1 hc).1);obtain⟨b1,b2⟩:=oI h1 h2 h3 (P:=P) (M:=M) k (v+1) _ n2 (λc hc=>hp c (KP.1 hc).1);have Cg:l.length*(M+3)=(l.filter (λc=>c.testBit v)).length*(M+3)+(l.filter (λc=> !c.testBit v)).length*(M+3):=by rw[<-tz,Xb]
   split
   ·exact⟨b1,by omega⟩
   ·refine⟨gQL b1 a1 (h1 v) h2 h3,?_⟩;have:=gQM nm v (XV nm f k (v+1) (l.filter (λc=>c.testBit v))) (XV nm f k (v+1) (l.filter (λc=> !c.testBit v)));omega
end
section
inductive PT where
 | done
 | skip
 | quiet (k:Nat) (t:PT)
 | fork (k:Nat) (t o:PT)
def PT.alts:PT->List Nat
 | .fork k _ o=>k::o.alts
 | _=>[]
def Wb (md:Region.Mode)(ops:Array Oper)(n:Nat):PT->Bool->Nat->Array Bool->Bool
 | .done,inch,m,listed=> !inch&&Nat.beq m 0&&Region.seqB md ops (ops.size-n) n listed
 | .skip,inch,_,_=>inch
 | .quiet _ _,_,0,_=>false
 | .quiet k t,inch,m+1,listed=> !inch&&(Nat.blt k n&&(Region.ready md ops listed).contains k&&Region.free md ops listed k&&Wb md ops n t false m (listed.setIfInBounds k true))
 | .fork _ _ _,_,0,_=>false
 | .fork k t o,inch,m+1,listed=>(inch||decide (Region.ready md ops listed=k::o.alts))&&(Nat.blt k n&&Wb md ops n t false m (listed.setIfInBounds k true))&&Wb md ops n o true (m+1) listed
def jQ (c:Cx)(all:List Oper)(C:World->Prop):PT->Env->World->(Env->World->Prop)->Prop
 | .done,S,w,K=>K S w
 | .skip,_,_,_=>True
 | .quiet k t,S,w,K=>match Vm all k with
  | some o=>ib all o S (λS=>qF c o S C (λS=>jQ c all C t S w K)) (λS=>Xf c S o.dst (.v undef) (λS=>jQ c all C t S w K))
  | none=>False
 | .fork k t o,S,w,K=>(match Vm all k with
  | some op=>ib all op S (λS=>dm c op S w (λS w=>C w/\jQ c all C t S w K) (λ_ _ _=>False)) (λS=>Xf c S op.dst (.v undef) (λS=>jQ c all C t S w K))
  | none=>False)/\jQ c all C o S w K
section
variable {c:Cx} {S:Env} {a:Act}
theorem uM (hg:c.g.Ok){md:Region.Mode}{ops:List Oper}{C:World->Prop}{Q:Exit->Act->World->Prop}{n:Nat}(hs:Region.noSelect ops.toArray=true)(hk:jk md ops.toArray n){K:Env->World->Prop}:
  ∀(t:PT) (m:Nat) (listed:Array Bool) (S:Env) (a:Act) (w:World),HeadInv md ops.toArray n listed->jQ c ops C t S w K->Fits c.N S a->C w->
  (Wb md ops.toArray n t false m listed=true->Wz c.g.P md ops.toArray (NoPan Q) C n (λKm a' w'=>Region.seqB md ops.toArray (ops.toArray.size-n) n Km=true/\∃S',Fits c.N S' a'/\K S' w') m listed a w)/\
  (∀m',m=m'+1->Wb md ops.toArray n t true m listed=true->(∀i∈t.alts,i∈Region.ready md ops.toArray listed)->∀i∈t.alts,i<n/\wpOp c.g.P ops.toArray (NoPan Q) i (λa' w'=>C w'/\Wz c.g.P md ops.toArray (NoPan Q) C n (λKm a' w'=>Region.seqB md ops.toArray (ops.toArray.size-n) n Km=true/\∃S',Fits c.N S' a'/\K S' w') m' (listed.setIfInBounds i true) a' w') a w)
 | .done,m,listed,S,a,w,inv,h,hf,hC=>by
  refine⟨λhB=>?_,λm' hm hB=>?_⟩
  ·simp only[Wb,Bool.not_false,df,JR] at hB;have:=Vk hB.1;subst this;exact⟨hB.2,S,hf,h⟩
  ·simp[Wb] at hB
 | .skip,m,listed,S,a,w,inv,h,hf,hC=>by
  refine⟨λhB=>?_,λm' hm hB _ i hi=>?_⟩
  ·simp[Wb] at hB
  ·simp[PT.alts] at hi
 | .quiet k t,0,listed,S,a,w,inv,h,hf,hC=>by
  refine⟨λhB=>?_,λm' hm hB=>?_⟩
  ·simp[Wb] at hB
  ·simp[Wb] at hB
 | .quiet k t,m+1,listed,S,a,w,inv,h,hf,hC=>by
  refine⟨λhB=>?_,λm' hm hB=>?_⟩
  ·simp only[Wb,Bool.not_false,df,JR] at hB;obtain⟨⟨⟨Xj,hr⟩,kD⟩,Vu⟩:=hB;have Xj:k<n:=by rw[iZ] at Xj;exact Xj
   have Q0:k∈Region.ready md ops.toArray listed:=by simpa using hr
   obtain⟨_,o,ho,_⟩:=mem_ready.1 Q0;have hn:Vm ops k=some o:=by rw[gY];simpa using ho
   simp only[jQ,hn] at h;have key:∃v,YieldsIf c.g.P ops.toArray C o v a/\∃S',Fits c.N S' (a.put o.dst v)/\jQ c ops C t S' w K:=by
    rcases ll h hf with⟨hw,S1,Zz,h1⟩ | ⟨hw,S1,Zz,h1⟩
    ·obtain⟨v,h2,h3⟩:=ym hg h1 Zz;exact⟨v,.inl ⟨hw,h2⟩,h3⟩
    ·exact⟨undef,.inr ⟨hw,rfl⟩,Zp (e:=.v undef) h1 Zz⟩
   obtain⟨v,hy,S',QW,h'⟩:=key;exact Mc ho (Region.noSelect_spec hs) hk Xj (λKm a' w' hL=>seqB_ready hL.1) m listed a w inv (Region.free_spec ho kD) Q0 hy hC
    ((uM hg hs hk t m _ S' _ w (inv.set Q0 Xj) h' QW hC).1 Vu)
  ·simp[Wb] at hB
 | .fork k t o,0,listed,S,a,w,inv,h,hf,hC=>by
  refine⟨λhB=>?_,λm' hm hB=>?_⟩
  ·simp[Wb] at hB
  ·simp[Wb] at hB
 | .fork k t o,m+1,listed,S,a,w,inv,h,hf,hC=>by
  have key:(Nat.blt k n&&Wb md ops.toArray n t false m (listed.setIfInBounds k true))=true->Wb md ops.toArray n o true (m+1) listed=true->(∀i∈(PT.fork k t o).alts,i∈Region.ready md ops.toArray listed)->
    ∀i∈(PT.fork k t o).alts,i<n/\wpOp c.g.P ops.toArray (NoPan Q) i (λa' w'=>C w'/\Wz c.g.P md ops.toArray (NoPan Q) C n (λKm a' w'=>Region.seqB md ops.toArray (ops.toArray.size-n) n Km=true/\∃S',Fits c.N S' a'/\K S' w') m (listed.setIfInBounds i true) a' w') a w:=by
   intro hB kQ hall i hi;simp only[JR] at hB;obtain⟨Xj,Vu⟩:=hB;have Xj:k<n:=by rw[iZ] at Xj;exact Xj
   simp only[PT.alts,QX] at hi;have Q0:k∈Region.ready md ops.toArray listed:=hall k (by simp[PT.alts]);obtain⟨h1,h2⟩:=h;rcases hi with rfl | hi
   ·refine⟨Xj,?_⟩;obtain⟨_,op,ho,_⟩:=mem_ready.1 Q0;have hn:Vm ops i=some op:=by rw[gY];simpa using ho
    simp only[hn] at h1;have gE:=inv.set Q0 Xj;unfold wpOp;simp only[ho];rcases ll h1 hf with⟨hw,S1,Zz,h3⟩ | ⟨hw,S1,Zz,h3⟩
    ·rw[Qe hw];refine .inl ?_;have h4:=qw hg h3 Zz;have h5:=Oper.wp_mono (K':=λa' w'=>C w'/\Wz c.g.P md ops.toArray (NoPan Q) C n (λKm a' w'=>Region.seqB md ops.toArray (ops.toArray.size-n) n Km=true/\∃S',Fits c.N S' a'/\K S' w') m (listed.setIfInBounds i true) a' w')
      (λa' w' ⟨S',QW,Kc,Yq⟩=>⟨Kc,(uM hg hs hk t m _ S' a' w' gE Yq QW Kc).1 Vu⟩) h4
     unfold Oper.wp at h5 ⊢;generalize (execOp a.eval op).run c.g.P w=r at*;cases r with
     | ok nx w'=>
      cases nx<;>simp only[Oper.upon] at h5 ⊢ <;> try exact h5
      exact h5.mono λe KL he=>by
       cases e with
       | returned v=>exact he
       | panicked ch=>obtain⟨_,_,he⟩:=he;exact he.elim
       | outgrown=>obtain⟨_,_,_,_,he⟩:=he;exact he.elim
     | halt x w'=>cases x<;>simp only[Oper.upon] at h5 ⊢ <;> first | exact h5 | (obtain⟨_,_,h5⟩:=h5;exact h5.elim)
    ·rw[if_neg (by rw[hw];decide)];obtain⟨S',QW,h'⟩:=Zp (e:=.v undef) h3 Zz;exact⟨hC,(uM hg hs hk t m _ S' _ w gE h' QW hC).1 Vu⟩
   ·exact(uM hg hs hk o (m+1) listed S a w inv h2 hf hC).2 m rfl kQ (λj hj=>hall j (by simp[PT.alts,hj])) i hi
  refine⟨λhB=>?_,λm' hm hB hall=>?_⟩
  ·simp only[Wb,Bool.false_or,JR,Vl] at hB;obtain⟨⟨hr,Qh⟩,Qw⟩:=hB;have WR:Region.ready md ops.toArray listed=(PT.fork k t o).alts:=hr;refine⟨λh0=>(by rw[hr] at h0;cases h0),λi hi=>?_⟩;exact key (by simpa using Qh) Qw (λj hj=>by rw[WR];exact hj) i (by rw[WR] at hi;exact hi)
  ·simp only[Wb,Bool.true_or,df] at hB;rw[JR] at hB;have ZM:m'=m:=by omega
   subst ZM;exact key hB.1 hB.2 hall
theorem EJ (hg:c.g.Ok){id:Nat}{ops:List Oper}{w:World}{Q:Zd}(C:World->Prop)(n:Nat)(t:PT)
  (hB:(Region.noSelect ops.toArray&&qE .any ops.toArray n&&Wb .any ops.toArray n t false n (Array.replicate ops.toArray.size false))=true) (hC:C w.drew)
  (h:jQ {c with named:=1000000} ops C t S w.drew (λS w=>Yf c ops (ops.drop n) S w (λS w=>Q .normal S w) (λ_ _ _=>False))):Wv c id ops S w Q:=by
 unfold Wv;intro a hf;simp only[JR] at hB;obtain⟨⟨hs,aY⟩,Je⟩:=hB;have hk:=yk aY;have H6:n<=ops.length:=by
  rcases hk with hk | hk
  ·rw[hk];simp
  ·have:=hk.1;simp at this;omega
 refine Code.wp_mono NoPan.imp (wp_region_any hg.mixed ?_);have oU:HeadInv .any ops.toArray n (Array.replicate ops.toArray.size false):=
  ⟨by simp,λj oj _ hl=>(by rw[getD_replicate_false] at hl;cases hl),λt _ ht=>getD_in (by simpa using ht) (getD_replicate_false _ _)⟩
 have H:=(uM (c:={c with named:=1000000}) hg (Q:=Up c Q) hs hk t n _ S a _ oU h hf hC).1 Je;have YF:(ops.drop n).length=ops.toArray.size-n:=by simp
 have H2:=tU (Q:=NoPan (Up c Q)) (g:=ops.toArray.size-n) (λKm a' w' hL=>by
  obtain⟨hq,S',QW,Yq⟩:=hL;have h2:=jf (c:=c) hg ops _ _ _ _ Yq QW;have:=wpAny_of_seq (P:=c.g.P) (md:=.any) (ops:=ops.toArray) (Q':=NoPan (Up c Q)) (ops.drop n) n Km a' w' (λj=>by simp) (by rw[YF];exact hq) (lj (λe a w hq=>by
   cases e with
   | normal=>exact hq
   | _=>exact Xm hq (by rintro⟨_,_,h⟩;exact h)) h2)
  rwa [YF] at this) _ _ _ _ H
 rw[show n+(ops.toArray.size-n)=ops.toArray.size by simp;omega] at H2;exact H2
theorem gQN {α:Type}{id:Nat}{ops:List Oper}{w:World}{Q:Zd}(sl:List Nat)(val:α->List Value)(R:α->World->Prop)
  (hx:Y2 (dq (.region id ops.toArray true)) S [] (λS0=>Wv c id ops S w (λe S2 w2=>match e with
   | .normal=>∃s,cj sl (val s) S0 (λT=>Has T S2)/\R s w2
   | e=>Q e S2 w2)))
  (hy:Y2 (dq (.region id ops.toArray true)) S [] (λS0=>∀s w',R s w'->cj sl (val s) S0 (λS1=>Q .normal S1 w'))):Wv c id ops S w Q:=by
 rw[x9] at hx hy;unfold Wv at*;intro a hf;generalize lg (dq (.region id ops.toArray true)) S []=S0 at*;have kF:∀s (K:Env->Prop),cj sl (val s) S0 K->K ((sl.zip ((val s).map Ent.v)).reverse++S0):=λs K h=>by
  obtain⟨T,rfl,hk⟩:=De h;exact hk
 refine Code.wp_mono (λe a2 w2 hq=>?_) (hx a hf);obtain⟨S2,ZG,hq⟩:=hq;cases e with
 | normal=>
  obtain⟨s,hz,hR⟩:=hq;exact⟨_,(kF s _ hz).fits ZG,kF s _ (hy s w2 hR)⟩
 | exit i=>exact⟨S2,ZG,hq⟩
 | goto l=>exact⟨S2,ZG,hq⟩
 | ret=>exact⟨S2,ZG,hq⟩
 | panic ch=>exact⟨S2,ZG,hq⟩
 | outgrown=>exact⟨S2,ZG,hq⟩
end
end
section
def Jd (p:DV×List Nat):List Value:=[.slice p.1.A p.1.n p.1.c,.int .i64 p.1.r,.string (Qf p.2)]
theorem EL (p:DV×List Nat):(Jd p).length=3:=rfl
structure WP where
 pb:Nat
 wb:Nat
 nb:Nat
 PA:Option Addr
 pn:Nat
 pc:Nat
 NA:Option Addr
 nn:Nat
 nc:Nat
 nm:List (List Nat)
 ps:List (DV×List Nat)
def WP.caps (p:WP):List Value:=[.pointer (some ⟨p.pb,0,none⟩),.pointer (some ⟨p.wb,0,none⟩),.pointer (some ⟨p.nb,0,none⟩)]
def WP.clo (p:WP):Value:=.func (.func 116) #[] #[.pointer (some ⟨p.pb,0,none⟩),.pointer (some ⟨p.wb,0,none⟩),.pointer (some ⟨p.nb,0,none⟩)]
structure WK (w:World) (p:WP):Prop where
 pbb:Blk w p.pb 54 [.slice p.PA p.pn p.pc]
 wbb:Blk w p.wb 192 [p.clo]
 nbb:Blk w p.nb 37 [.slice p.NA p.nn p.nc]
 pss:SlS Jd 3 w p.PA p.pn p.pc p.ps
 sbs:∀q∈p.ps,SB w q.1.A q.1.n q.1.c q.1.nd
 nms:Sl w 1 p.NA p.nn p.nc (X4 p.nm)
theorem WK.ext {w w':World}{p:WP}(h:WK w p)(k:Ext w w'):WK w' p:=⟨h.pbb.ext k,h.wbb.ext k,h.nbb.ext k,h.pss.ext k,λq hq=>(h.sbs q hq).ext k,h.nms.ext k⟩
def gQO (k:Nat)(wR:World)(oh ol:BF)(t:DV×DV×Nat×Nat)(w':World):Prop:=Ext wR w'/\Blk w' t.2.2.1 32 t.1.cells/\Blk w' t.2.2.2 32 t.2.1.cells/\SB w' t.1.A t.1.n t.1.c t.1.nd/\Set1 k t.1.nd t.1.r oh/\SB w' t.2.1.A t.2.1.n t.2.1.c t.2.1.nd/\Set1 k t.2.1.nd t.2.1.r ol
theorem EM {k:Nat}(hk:k<=12){x y:DV}{o o':BF}(s:Set1 k x.nd x.r o)(s':Set1 k y.nd y.r o'):fT x.nd x.r y.nd y.r=true↔∀e,o e=true->o' e=true:=by
 rw[Ey];constructor
 ·rintro⟨_,_,hn⟩ e he;cases h:o' e with
  | true=>rfl
  | false=>exact Xm ⟨e,by rw[s.mean];exact he,by rw[s'.mean];exact h⟩ hn
 ·intro h;refine⟨s.chk hk,s'.chk hk,λ⟨e,h1,h2⟩=>?_⟩;rw[s.mean] at h1;rw[s'.mean,h e h1] at h2;cases h2
theorem gQP (p:WP)(n:Nat)(kx:n<=4)(wy:p.nm.length=n)(Vw:Ke p.nm)(Kn:∀s∈p.nm,s.length<=1000000)(VW:∀q∈p.ps,J7 n q.1.nd q.1.r=true/\KT q.2=true/\(∀b∈q.2,b<256)/\q.2.length<=1000000):
  ∀(k v:Nat) (x:DV) (o:BF) (w:World),v+k=n->WK w p->SB w x.A x.n x.c x.nd->Set1 n x.nd x.r o->QC n o≠ []->PaOk (QC n o) (Zi p.ps)->Apt (QC n o) v k->
  Fn Tryz.prog 116 (Xg x.A x.n x.c x.r:: .int .i64 v::p.caps) w (λu w'=>rC w u ((XV p.nm (fP (Zi p.ps)) k v (QC n o)).map (·++ [10])) w'):=by
 have hk:n<=12:=by omega
 intro k;induction k using Nat.strongRecOn with
 | ind k ih=>
 intro v x o w Cc hK hx sx QK ZL bW;have Je:=hK.pss.2;refine QF (c:={bQN with cuts:=[]}) Qa Tryz.func116 rfl rfl rfl ?_;refine new (λw1 Qd Q2 Qh=>?_);have JX:=hK.ext Qd;refine Qv JX.pbb rfl ?_;refine loop Qa [17] (λi:Nat=>[.int .i64 i]) (λi w'=>Ext w1 w'/\i<=p.pn/\∀q∈p.ps.take i,¬∀e,o e=true->oD q.1 e=true) (λi _=>p.pn-i) 0 rfl ⟨Ext.refl _,XM _,λq hq=>by simp at hq⟩ ?_;rintro i w2 ⟨Qg,hi,Xi⟩;have Q4:=Qd.trans Qg;have lQ8:p.pn<=9223372036854775807:=by have:=hK.pss.1.le;have:=hK.pss.1.cap;simp only[maxLen] at this;omega
 refine QB (λc1=>?_) (λc1=>?_)
 ·have Q7:i<p.pn:=by omega
  refine Zo EL (hK.ext Q4).pss rfl Q7 (λad q hq hc=>?_);have bV:=Xe hq;obtain⟨o1,o2,o3,o4⟩:=VW q bV;refine J4 (vs:=Jd q) rfl hc ?_;refine new (λw3 Qj JV Qu=>?_);refine Qx Qu rfl (sc rfl) (λw4 bH _ QZ=>?_);have JL:Ext w2 w4:=X0 Qj Qu bH;have XF:=Q4.trans JL;refine Qs (Qh.ext (Qg.trans JL)) rfl ?_;refine eE (vs:=[.slice q.1.A q.1.n q.1.c,.int .i64 q.1.r]) QZ rfl (λj u hj=>by match j,hj with | 0,hj=>exact hj | 1,hj=>exact hj) ?_;refine call (Pa x.A x.n x.c x.nd x.r q.1.A q.1.n q.1.c q.1.nd q.1.r w4 (hx.ext XF) ((hK.sbs q bV).ext XF)) ?_;rintro _ w5 ⟨rfl,Qt⟩;have Jm:=XF.trans Qt;refine Y3 (λd1=>?_) (λd1=>?_)
  ·have d1:fT x.nd x.r q.1.nd q.1.r=true:=d1;have hw:=(EM hk sx (fV o1)).1 d1;refine Qp (QZ.ext Qt) rfl ?_;refine call (yZ q.2 w5 o3 (by omega)) ?_;rintro _ w6 ⟨A,c,rfl,Q6,iD⟩;have Cr:XV p.nm (fP (Zi p.ps)) k v (QC n o)=QU q.2:=gQr ZL QK (p:=⟨oD q.1,q.2⟩) (ZY.2 ⟨q,bV,rfl⟩) (λc hc=>hw _ (Z0.1 hc).2) k v;have ht:ac q.2=true:=by unfold KT at o2;rw[JR] at o2;exact o2.1
   have iS:fO q.2=(XV p.nm (fP (Zi p.ps)) k v (QC n o)).map (·++ [10]):=by rw[Cr,yX (lM ht)]
   rw[iS] at iD ⊢;exact⟨A,c,rfl,Jm.trans Q6,iD⟩
  ·have d1:fT x.nd x.r q.1.nd q.1.r=false:=d1;refine Qm ((i+1:Nat):Int) (by show((i:Nat):Int)+1=_;omega) (by omega) ?_;refine⟨i+1,rfl,⟨(Qg.trans JL).trans Qt,Q7,λq' hq' hall=>?_⟩,by show p.pn-(i+1)<p.pn-i;omega⟩;rw[VX,hq] at hq';rcases XB.1 hq' with hq' | hq'
   ·exact Xi q' hq' hall
   ·have:q'=q:=by simpa using hq'
    subst this;rw[(EM hk sx (fV o1)).2 hall] at d1;cases d1
 have Q7:i=p.pn:=by omega
 rw[Q7,Jz (by omega)] at Xi;cases k with
 | zero=>
  obtain⟨q0,VR,hall⟩:=gQs ZL QK bW;obtain⟨q,hq,rfl⟩:=ZY.1 VR;exact Xm ((Pp sx.dep (fV (VW q hq).1).dep).2 hall) (Xi q hq)
 | succ k=>
 have Iq:v<n:=by omega
 refine call (D7 (v:Int) w2 (by omega) (by omega)) ?_;rintro _ w3 ⟨YA,yn,yc,rfl,Qj,hY3,_⟩;refine call (zt ⟨YA,yn,yc,[⟨(v:Int),0,1⟩],2⟩ w3) ?_;rintro _ w4 ⟨rfl,Qq⟩;refine new (λw5 Qt Kv QH=>?_);refine Qx QH rfl (sc rfl) (λwR hgR _ hBR=>?_);have aQo:Ext w4 wR:=X0 Qt QH hgR;have kQQ:=(Qj.trans Qq).trans aQo;have aQp:=Qg.trans kQQ;have IL:=Qd.trans aQp;obtain⟨y,hy⟩:∃y:DV,y=⟨YA,yn,yc,[⟨(v:Int),0,1⟩],2⟩:=⟨_,rfl⟩
 have sy:Set1 n y.nd y.r (λe=>e v):=by rw[hy];exact Ew Iq (by omega)
 have iP:SB wR y.A y.n y.c y.nd:=by rw[hy];exact hY3.ext (Qq.trans aQo)
 have hBY:Blk wR w4.heap.size 32 y.cells:=by rw[hy];exact hBR
 have hBX:=Qh.ext aQp;have hxR:=hx.ext IL;have hKR:=hK.ext IL;clear hBR QH;refine gQN [11,12] (λt:DV×DV×Nat×Nat=>[.pointer (some ⟨t.2.2.1,0,none⟩),.pointer (some ⟨t.2.2.2,0,none⟩)]) (λt w'=>gQO n wR (λe=>o e&&e v) (λe=>o e && !e v) t w') ?_ ?_
 ·have eR:=Ext.drew wR;have hx:=hxR;have hy:=iP;refine EJ Qa (Ext wR) 10 (.quiet 0 (.quiet 1 (.quiet 3 (.quiet 4 (.fork 2 (.fork 5 (.fork 6 (.fork 7 (.fork 8 (.fork 9 .done .skip) .skip) .skip) (.fork 7 (.fork 6 (.fork 8 (.fork 9 .done .skip) .skip) .skip) .skip)) (.fork 6 (.fork 5 (.fork 7 (.fork 8 (.fork 9 .done .skip) .skip) .skip) (.fork 7 (.fork 5 (.fork 8 (.fork 9 .done .skip) .skip) .skip) .skip)) (.fork 7 (.fork 5 (.fork 6 (.fork 8 (.fork 9 .done .skip) .skip) .skip) (.fork 6 (.fork 5 (.fork 8 (.fork 9 .done .skip) .skip) .skip) .skip)) .skip))) (.fork 6 (.fork 2 (.fork 5 (.fork 7 (.fork 8 (.fork 9 .done .skip) .skip) .skip) (.fork 7 (.fork 5 (.fork 8 (.fork 9 .done .skip) .skip) .skip) .skip)) (.fork 7 (.fork 2 (.fork 5 (.fork 8 (.fork 9 .done .skip) .skip) .skip) .skip) .skip)) (.fork 7 (.fork 2 (.fork 5 (.fork 6 (.fork 8 (.fork 9 .done .skip) .skip) .skip) (.fork 6 (.fork 5 (.fork 8 (.fork 9 .done .skip) .skip) .skip) .skip)) (.fork 6 (.fork 2 (.fork 5 (.fork 8 (.fork 9 .done .skip) .skip) .skip) .skip) .skip)) .skip))))))) (by kernel_rfl) (Ext.drew wR) ?_;refine Xl (vs:=x.cells) rfl (λw' Qb j u hj=>by rw[(hBX.ext Qb).cell];exact hj) ?_;refine Xl (vs:=y.cells) rfl (λw' Qb j u hj=>by rw[(hBY.ext Qb).cell];exact hj) ?_;refine Xl (vs:=x.cells) rfl (λw' Qb j u hj=>by rw[(hBX.ext Qb).cell];exact hj) ?_;refine Xl (vs:=y.cells) rfl (λw' Qb j u hj=>by rw[(hBY.ext Qb).cell];exact hj) ?_;refine⟨?_,?_⟩
  ·refine call (lP hk x y wR.drew (hx.ext eR) (hy.ext eR) sx sy) ?_;rintro _ v1 ⟨HA,Hn,Hc,Hnd,Hr,rfl,g1,Hb,Hs,HR⟩;have e1:=eR.trans g1;refine⟨e1,?_⟩;have z1:=g1.size;have y1:=λad ea h0=>SB.lt Hb ad ea h0
   have r1:=λ(ad:Addr) (ea:HA=some ad)=>HR ad.block ⟨ad,ea,rfl⟩
   refine⟨?_,?_⟩
   ·refine call (dC hk x y v1 (hx.ext e1) (hy.ext e1) sx sy) ?_;rintro _ v2 ⟨LA,Ln,Lc,Lnd,Lr,rfl,g2,Lb,Ls,LR⟩;have e2:=e1.trans g2;refine⟨e2,?_⟩;have z2:=g2.size;have y2:=λad ea h0=>SB.lt Lb ad ea h0
    have r2:=λ(ad:Addr) (ea:LA=some ad)=>LR ad.block ⟨ad,ea,rfl⟩
    refine⟨?_,?_⟩
    ·refine new (λv3 g3 z3 B3=>?_);have e3:=e2.trans g3;refine⟨e3,?_⟩;have l3:=e2.size;refine⟨?_,trivial⟩;refine new (λv4 g4 z4 B4=>?_);have e4:=e3.trans g4;refine⟨e4,?_⟩;have l4:=e3.size;refine⟨?_,trivial⟩;refine Qx (B3.ext g4) rfl (sc rfl) (λv5 h5 _ B5=>?_);have m5:Mod (·=v2.heap.size) v4 v5:=mQj h5 rfl;have e5:Ext wR v5:=m5.ext e4 (λi hi=>by omega);refine⟨e5,?_⟩;refine⟨?_,trivial⟩;refine Qx (B4.mod m5 (by show¬v3.heap.size=v2.heap.size;omega)) rfl (sc rfl) (λv6 h6 _ B6=>?_);have m6:Mod (·=v3.heap.size) v5 v6:=mQj h6 rfl;have e6:Ext wR v6:=m6.ext e5 (λi hi=>by omega);refine⟨e6,?_⟩;exact⟨(⟨HA,Hn,Hc,Hnd,Hr⟩,⟨LA,Ln,Lc,Lnd,Lr⟩,v2.heap.size,v3.heap.size),rfl,⟨e6,(B5.mod m6 (by show¬v2.heap.size=v3.heap.size;omega)),B6,(SB.modo (SB.modo (((Hb.ext g2).ext g3).ext g4) m5 (λad ea h0 hh=>by have q1:=y1 ad ea h0;have q2:=r1 ad ea;omega)) m6 (λad ea h0 hh=>by have q1:=y1 ad ea h0;have q2:=r1 ad ea;omega)),Hs,(SB.modo (SB.modo ((Lb.ext g3).ext g4) m5 (λad ea h0 hh=>by have q1:=y2 ad ea h0;have q2:=r2 ad ea;omega)) m6 (λad ea h0 hh=>by have q1:=y2 ad ea h0;have q2:=r2 ad ea;omega)),Ls⟩⟩
    ·refine⟨?_,trivial⟩;refine new (λv7 g7 z7 B7=>?_);have e7:=e2.trans g7;refine⟨e7,?_⟩;have l7:=e2.size;refine⟨?_,trivial⟩;refine new (λv8 g8 z8 B8=>?_);have e8:=e7.trans g8;refine⟨e8,?_⟩;have l8:=e7.size;refine⟨?_,trivial⟩;refine Qx B8 rfl (sc rfl) (λv9 h9 _ B9=>?_);have m9:Mod (·=v7.heap.size) v8 v9:=mQj h9 rfl;have e9:Ext wR v9:=m9.ext e8 (λi hi=>by omega);refine⟨e9,?_⟩;refine⟨?_,trivial⟩;refine Qx ((B7.ext g8).mod m9 (by show¬v2.heap.size=v7.heap.size;omega)) rfl (sc rfl) (λTh XH _ B10=>?_);have AA:Mod (·=v2.heap.size) v9 Th:=mQj XH rfl;have Ti:Ext wR Th:=AA.ext e9 (λi hi=>by omega);refine⟨Ti,?_⟩;exact⟨(⟨HA,Hn,Hc,Hnd,Hr⟩,⟨LA,Ln,Lc,Lnd,Lr⟩,v7.heap.size,v2.heap.size),rfl,⟨Ti,(B9.mod AA (by show¬v7.heap.size=v2.heap.size;omega)),B10,(SB.modo (SB.modo (((Hb.ext g2).ext g7).ext g8) m9 (λad ea h0 hh=>by have q1:=y1 ad ea h0;have q2:=r1 ad ea;omega)) AA (λad ea h0 hh=>by have q1:=y1 ad ea h0;have q2:=r1 ad ea;omega)),Hs,(SB.modo (SB.modo ((Lb.ext g7).ext g8) m9 (λad ea h0 hh=>by have q1:=y2 ad ea h0;have q2:=r2 ad ea;omega)) AA (λad ea h0 hh=>by have q1:=y2 ad ea h0;have q2:=r2 ad ea;omega)),Ls⟩⟩
   ·refine⟨?_,?_⟩
    ·refine new (λvT vw zW B11=>?_);have sA:=e1.trans vw;refine⟨sA,?_⟩;have l11:=e1.size;refine⟨?_,?_⟩
     ·refine call (dC hk x y vT (hx.ext sA) (hy.ext sA) sx sy) ?_;rintro _ AB ⟨LA,Ln,Lc,Lnd,Lr,rfl,AC,Lb,Ls,LR⟩;have GT:=sA.trans AC;refine⟨GT,?_⟩;have Ss:=AC.size;have Tj:=λad ea h0=>SB.lt Lb ad ea h0
      have Tk:=λ(ad:Addr) (ea:LA=some ad)=>LR ad.block ⟨ad,ea,rfl⟩
      refine⟨?_,trivial⟩;refine new (λv13 AE z13 B13=>?_);have Tl:=GT.trans AE;refine⟨Tl,?_⟩;have l13:=GT.size;refine⟨?_,trivial⟩;refine Qx ((B11.ext AC).ext AE) rfl (sc rfl) (λGU Vg _ B14=>?_);have AF:Mod (·=v1.heap.size) v13 GU:=mQj Vg rfl;have vU:Ext wR GU:=AF.ext Tl (λi hi=>by omega);refine⟨vU,?_⟩;refine⟨?_,trivial⟩;refine Qx (B13.mod AF (by show¬AB.heap.size=v1.heap.size;omega)) rfl (sc rfl) (λTm YW _ B15=>?_);have AG:Mod (·=AB.heap.size) GU Tm:=mQj YW rfl;have Tn:Ext wR Tm:=AG.ext vU (λi hi=>by omega);refine⟨Tn,?_⟩;exact⟨(⟨HA,Hn,Hc,Hnd,Hr⟩,⟨LA,Ln,Lc,Lnd,Lr⟩,v1.heap.size,AB.heap.size),rfl,⟨Tn,(B14.mod AG (by show¬v1.heap.size=AB.heap.size;omega)),B15,(SB.modo (SB.modo (((Hb.ext vw).ext AC).ext AE) AF (λad ea h0 hh=>by have q1:=y1 ad ea h0;have q2:=r1 ad ea;omega)) AG (λad ea h0 hh=>by have q1:=y1 ad ea h0;have q2:=r1 ad ea;omega)),Hs,(SB.modo (SB.modo (Lb.ext AE) AF (λad ea h0 hh=>by have q1:=Tj ad ea h0;have q2:=Tk ad ea;omega)) AG (λad ea h0 hh=>by have q1:=Tj ad ea h0;have q2:=Tk ad ea;omega)),Ls⟩⟩
     ·refine⟨?_,trivial⟩;refine new (λv16 GV z16 B16=>?_);have AH:=sA.trans GV;refine⟨AH,?_⟩;have l16:=sA.size;refine⟨?_,trivial⟩;refine call (dC hk x y v16 (hx.ext AH) (hy.ext AH) sx sy) ?_;rintro _ v17 ⟨LA,Ln,Lc,Lnd,Lr,rfl,vV,Lb,Ls,LR⟩;have To:=AH.trans vV;refine⟨To,?_⟩;have z17:=vV.size;have Tp:=λad ea h0=>SB.lt Lb ad ea h0
      have Tq:=λ(ad:Addr) (ea:LA=some ad)=>LR ad.block ⟨ad,ea,rfl⟩
      refine⟨?_,trivial⟩;refine Qx ((B11.ext GV).ext vV) rfl (sc rfl) (λGW WW _ B18=>?_);have AI:Mod (·=v1.heap.size) v17 GW:=mQj WW rfl;have Ts:Ext wR GW:=AI.ext To (λi hi=>by omega);refine⟨Ts,?_⟩;refine⟨?_,trivial⟩;refine Qx ((B16.ext vV).mod AI (by show¬vT.heap.size=v1.heap.size;omega)) rfl (sc rfl) (λTt dW _ B19=>?_);have AJ:Mod (·=vT.heap.size) GW Tt:=mQj dW rfl;have Tu:Ext wR Tt:=AJ.ext Ts (λi hi=>by omega);refine⟨Tu,?_⟩;exact⟨(⟨HA,Hn,Hc,Hnd,Hr⟩,⟨LA,Ln,Lc,Lnd,Lr⟩,v1.heap.size,vT.heap.size),rfl,⟨Tu,(B18.mod AJ (by show¬v1.heap.size=vT.heap.size;omega)),B19,(SB.modo (SB.modo (((Hb.ext vw).ext GV).ext vV) AI (λad ea h0 hh=>by have q1:=y1 ad ea h0;have q2:=r1 ad ea;omega)) AJ (λad ea h0 hh=>by have q1:=y1 ad ea h0;have q2:=r1 ad ea;omega)),Hs,(SB.modo (SB.modo Lb AI (λad ea h0 hh=>by have q1:=Tp ad ea h0;have q2:=Tq ad ea;omega)) AJ (λad ea h0 hh=>by have q1:=Tp ad ea h0;have q2:=Tq ad ea;omega)),Ls⟩⟩
    ·refine⟨?_,trivial⟩;refine new (λv20 GX z20 B20=>?_);have sB:=e1.trans GX;refine⟨sB,?_⟩;have l20:=e1.size;refine⟨?_,?_⟩
     ·refine call (dC hk x y v20 (hx.ext sB) (hy.ext sB) sx sy) ?_;rintro _ v21 ⟨LA,Ln,Lc,Lnd,Lr,rfl,AK,Lb,Ls,LR⟩;have GY:=sB.trans AK;refine⟨GY,?_⟩;have z21:=AK.size;have Tv:=λad ea h0=>SB.lt Lb ad ea h0
      have Tw:=λ(ad:Addr) (ea:LA=some ad)=>LR ad.block ⟨ad,ea,rfl⟩
      refine⟨?_,trivial⟩;refine new (λv22 AL z22 B22=>?_);have Tx:=GY.trans AL;refine⟨Tx,?_⟩;have l22:=GY.size;refine⟨?_,trivial⟩;refine Qx B22 rfl (sc rfl) (λGZ mF _ B23=>?_);have AM:Mod (·=v21.heap.size) v22 GZ:=mQj mF rfl;have Ty:Ext wR GZ:=AM.ext Tx (λi hi=>by omega);refine⟨Ty,?_⟩;refine⟨?_,trivial⟩;refine Qx (((B20.ext AK).ext AL).mod AM (by show¬v1.heap.size=v21.heap.size;omega)) rfl (sc rfl) (λTz fZ _ B24=>?_);have AN:Mod (·=v1.heap.size) GZ Tz:=mQj fZ rfl;have TB:Ext wR Tz:=AN.ext Ty (λi hi=>by omega);refine⟨TB,?_⟩;exact⟨(⟨HA,Hn,Hc,Hnd,Hr⟩,⟨LA,Ln,Lc,Lnd,Lr⟩,v21.heap.size,v1.heap.size),rfl,⟨TB,(B23.mod AN (by show¬v21.heap.size=v1.heap.size;omega)),B24,(SB.modo (SB.modo (((Hb.ext GX).ext AK).ext AL) AM (λad ea h0 hh=>by have q1:=y1 ad ea h0;have q2:=r1 ad ea;omega)) AN (λad ea h0 hh=>by have q1:=y1 ad ea h0;have q2:=r1 ad ea;omega)),Hs,(SB.modo (SB.modo (Lb.ext AL) AM (λad ea h0 hh=>by have q1:=Tv ad ea h0;have q2:=Tw ad ea;omega)) AN (λad ea h0 hh=>by have q1:=Tv ad ea h0;have q2:=Tw ad ea;omega)),Ls⟩⟩
     ·refine⟨?_,trivial⟩;refine new (λv25 G0 z25 B25=>?_);have AO:=sB.trans G0;refine⟨AO,?_⟩;have l25:=sB.size;refine⟨?_,trivial⟩;refine call (dC hk x y v25 (hx.ext AO) (hy.ext AO) sx sy) ?_;rintro _ v26 ⟨LA,Ln,Lc,Lnd,Lr,rfl,vW,Lb,Ls,LR⟩;have TC:=AO.trans vW;refine⟨TC,?_⟩;have z26:=vW.size;have TD:=λad ea h0=>SB.lt Lb ad ea h0
      have TE:=λ(ad:Addr) (ea:LA=some ad)=>LR ad.block ⟨ad,ea,rfl⟩
      refine⟨?_,trivial⟩;refine Qx (B25.ext vW) rfl (sc rfl) (λG3 h27 _ B27=>?_);have AP:Mod (·=v20.heap.size) v26 G3:=mQj h27 rfl;have TF:Ext wR G3:=AP.ext TC (λi hi=>by omega);refine⟨TF,?_⟩;refine⟨?_,trivial⟩;refine Qx (((B20.ext G0).ext vW).mod AP (by show¬v1.heap.size=v20.heap.size;omega)) rfl (sc rfl) (λTG h28 _ B28=>?_);have AQ:Mod (·=v1.heap.size) G3 TG:=mQj h28 rfl;have TH:Ext wR TG:=AQ.ext TF (λi hi=>by omega);refine⟨TH,?_⟩;exact⟨(⟨HA,Hn,Hc,Hnd,Hr⟩,⟨LA,Ln,Lc,Lnd,Lr⟩,v20.heap.size,v1.heap.size),rfl,⟨TH,(B27.mod AQ (by show¬v20.heap.size=v1.heap.size;omega)),B28,(SB.modo (SB.modo (((Hb.ext GX).ext G0).ext vW) AP (λad ea h0 hh=>by have q1:=y1 ad ea h0;have q2:=r1 ad ea;omega)) AQ (λad ea h0 hh=>by have q1:=y1 ad ea h0;have q2:=r1 ad ea;omega)),Hs,(SB.modo (SB.modo Lb AP (λad ea h0 hh=>by have q1:=TD ad ea h0;have q2:=TE ad ea;omega)) AQ (λad ea h0 hh=>by have q1:=TD ad ea h0;have q2:=TE ad ea;omega)),Ls⟩⟩
  ·refine⟨?_,?_⟩
   ·refine new (λvX g29 z29 B29=>?_);have sC:=eR.trans g29;refine⟨sC,?_⟩;have l29:=eR.size;refine⟨?_,?_⟩
    ·refine call (lP hk x y vX (hx.ext sC) (hy.ext sC) sx sy) ?_;rintro _ vY ⟨HA,Hn,Hc,Hnd,Hr,rfl,AR,Hb,Hs,HR⟩;have sE:=sC.trans AR;refine⟨sE,?_⟩;have z30:=AR.size;have AT:=λad ea h0=>SB.lt Hb ad ea h0
     have AU:=λ(ad:Addr) (ea:HA=some ad)=>HR ad.block ⟨ad,ea,rfl⟩
     refine⟨?_,?_⟩
     ·refine call (dC hk x y vY (hx.ext sE) (hy.ext sE) sx sy) ?_;rintro _ v31 ⟨LA,Ln,Lc,Lnd,Lr,rfl,AW,Lb,Ls,LR⟩;have G4:=sE.trans AW;refine⟨G4,?_⟩;have z31:=AW.size;have TI:=λad ea h0=>SB.lt Lb ad ea h0
      have TJ:=λ(ad:Addr) (ea:LA=some ad)=>LR ad.block ⟨ad,ea,rfl⟩
      refine⟨?_,trivial⟩;refine new (λv32 AX z32 B32=>?_);have TK:=G4.trans AX;refine⟨TK,?_⟩;have l32:=G4.size;refine⟨?_,trivial⟩;refine Qx (((B29.ext AR).ext AW).ext AX) rfl (sc rfl) (λG5 h33 _ B33=>?_);have AY:Mod (·=wR.drew.heap.size) v32 G5:=mQj h33 rfl;have TL:Ext wR G5:=AY.ext TK (λi hi=>by omega);refine⟨TL,?_⟩;refine⟨?_,trivial⟩;refine Qx (B32.mod AY (by show¬v31.heap.size=wR.drew.heap.size;omega)) rfl (sc rfl) (λTM h34 _ B34=>?_);have AZ:Mod (·=v31.heap.size) G5 TM:=mQj h34 rfl;have TN:Ext wR TM:=AZ.ext TL (λi hi=>by omega);refine⟨TN,?_⟩;exact⟨(⟨HA,Hn,Hc,Hnd,Hr⟩,⟨LA,Ln,Lc,Lnd,Lr⟩,wR.drew.heap.size,v31.heap.size),rfl,⟨TN,(B33.mod AZ (by show¬wR.drew.heap.size=v31.heap.size;omega)),B34,(SB.modo (SB.modo ((Hb.ext AW).ext AX) AY (λad ea h0 hh=>by have q1:=AT ad ea h0;have q2:=AU ad ea;omega)) AZ (λad ea h0 hh=>by have q1:=AT ad ea h0;have q2:=AU ad ea;omega)),Hs,(SB.modo (SB.modo (Lb.ext AX) AY (λad ea h0 hh=>by have q1:=TI ad ea h0;have q2:=TJ ad ea;omega)) AZ (λad ea h0 hh=>by have q1:=TI ad ea h0;have q2:=TJ ad ea;omega)),Ls⟩⟩
     ·refine⟨?_,trivial⟩;refine new (λv35 G6 z35 B35=>?_);have A0:=sE.trans G6;refine⟨A0,?_⟩;have l35:=sE.size;refine⟨?_,trivial⟩;refine call (dC hk x y v35 (hx.ext A0) (hy.ext A0) sx sy) ?_;rintro _ v36 ⟨LA,Ln,Lc,Lnd,Lr,rfl,vZ,Lb,Ls,LR⟩;have TO:=A0.trans vZ;refine⟨TO,?_⟩;have G7:=vZ.size;have TP:=λad ea h0=>SB.lt Lb ad ea h0
      have TR:=λ(ad:Addr) (ea:LA=some ad)=>LR ad.block ⟨ad,ea,rfl⟩
      refine⟨?_,trivial⟩;refine Qx (((B29.ext AR).ext G6).ext vZ) rfl (sc rfl) (λv37 h37 _ B37=>?_);have A6:Mod (·=wR.drew.heap.size) v36 v37:=mQj h37 rfl;have TT:Ext wR v37:=A6.ext TO (λi hi=>by omega);refine⟨TT,?_⟩;refine⟨?_,trivial⟩;refine Qx ((B35.ext vZ).mod A6 (by show¬vY.heap.size=wR.drew.heap.size;omega)) rfl (sc rfl) (λTU h38 _ B38=>?_);have Bc:Mod (·=vY.heap.size) v37 TU:=mQj h38 rfl;have TV:Ext wR TU:=Bc.ext TT (λi hi=>by omega);refine⟨TV,?_⟩;exact⟨(⟨HA,Hn,Hc,Hnd,Hr⟩,⟨LA,Ln,Lc,Lnd,Lr⟩,wR.drew.heap.size,vY.heap.size),rfl,⟨TV,(B37.mod Bc (by show¬wR.drew.heap.size=vY.heap.size;omega)),B38,(SB.modo (SB.modo ((Hb.ext G6).ext vZ) A6 (λad ea h0 hh=>by have q1:=AT ad ea h0;have q2:=AU ad ea;omega)) Bc (λad ea h0 hh=>by have q1:=AT ad ea h0;have q2:=AU ad ea;omega)),Hs,(SB.modo (SB.modo Lb A6 (λad ea h0 hh=>by have q1:=TP ad ea h0;have q2:=TR ad ea;omega)) Bc (λad ea h0 hh=>by have q1:=TP ad ea h0;have q2:=TR ad ea;omega)),Ls⟩⟩
    ·refine⟨?_,trivial⟩;refine new (λv39 TW z39 B39=>?_);have Be:=sC.trans TW;refine⟨Be,?_⟩;have l39:=sC.size;refine⟨?_,trivial⟩;refine call (lP hk x y v39 (hx.ext Be) (hy.ext Be) sx sy) ?_;rintro _ v40 ⟨HA,Hn,Hc,Hnd,Hr,rfl,Bf,Hb,Hs,HR⟩;have Bg:=Be.trans Bf;refine⟨Bg,?_⟩;have z40:=Bf.size;have TX:=λad ea h0=>SB.lt Hb ad ea h0
     have TY:=λ(ad:Addr) (ea:HA=some ad)=>HR ad.block ⟨ad,ea,rfl⟩
     refine⟨?_,trivial⟩;refine call (dC hk x y v40 (hx.ext Bg) (hy.ext Bg) sx sy) ?_;rintro _ v41 ⟨LA,Ln,Lc,Lnd,Lr,rfl,wg,Lb,Ls,LR⟩;have TZ:=Bg.trans wg;refine⟨TZ,?_⟩;have z41:=wg.size;have T0:=λad ea h0=>SB.lt Lb ad ea h0
     have T3:=λ(ad:Addr) (ea:LA=some ad)=>LR ad.block ⟨ad,ea,rfl⟩
     refine⟨?_,trivial⟩;refine Qx (((B29.ext TW).ext Bf).ext wg) rfl (sc rfl) (λG8 h42 _ B42=>?_);have Bh:Mod (·=wR.drew.heap.size) v41 G8:=mQj h42 rfl;have T4:Ext wR G8:=Bh.ext TZ (λi hi=>by omega);refine⟨T4,?_⟩;refine⟨?_,trivial⟩;refine Qx (((B39.ext Bf).ext wg).mod Bh (by show¬vX.heap.size=wR.drew.heap.size;omega)) rfl (sc rfl) (λT5 h43 _ B43=>?_);have Bi:Mod (·=vX.heap.size) G8 T5:=mQj h43 rfl;have T6:Ext wR T5:=Bi.ext T4 (λi hi=>by omega);refine⟨T6,?_⟩;exact⟨(⟨HA,Hn,Hc,Hnd,Hr⟩,⟨LA,Ln,Lc,Lnd,Lr⟩,wR.drew.heap.size,vX.heap.size),rfl,⟨T6,(B42.mod Bi (by show¬wR.drew.heap.size=vX.heap.size;omega)),B43,(SB.modo (SB.modo (Hb.ext wg) Bh (λad ea h0 hh=>by have q1:=TX ad ea h0;have q2:=TY ad ea;omega)) Bi (λad ea h0 hh=>by have q1:=TX ad ea h0;have q2:=TY ad ea;omega)),Hs,(SB.modo (SB.modo Lb Bh (λad ea h0 hh=>by have q1:=T0 ad ea h0;have q2:=T3 ad ea;omega)) Bi (λad ea h0 hh=>by have q1:=T0 ad ea h0;have q2:=T3 ad ea;omega)),Ls⟩⟩
   ·refine⟨?_,trivial⟩;refine new (λwh g44 z44 B44=>?_);have sF:=eR.trans g44;refine⟨sF,?_⟩;have l44:=eR.size;refine⟨?_,?_⟩
    ·refine call (lP hk x y wh (hx.ext sF) (hy.ext sF) sx sy) ?_;rintro _ wi ⟨HA,Hn,Hc,Hnd,Hr,rfl,Bj,Hb,Hs,HR⟩;have sG:=sF.trans Bj;refine⟨sG,?_⟩;have z45:=Bj.size;have Bk:=λad ea h0=>SB.lt Hb ad ea h0
     have Bl:=λ(ad:Addr) (ea:HA=some ad)=>HR ad.block ⟨ad,ea,rfl⟩
     refine⟨?_,?_⟩
     ·refine call (dC hk x y wi (hx.ext sG) (hy.ext sG) sx sy) ?_;rintro _ v46 ⟨LA,Ln,Lc,Lnd,Lr,rfl,Bm,Lb,Ls,LR⟩;have G9:=sG.trans Bm;refine⟨G9,?_⟩;have z46:=Bm.size;have T7:=λad ea h0=>SB.lt Lb ad ea h0
      have T8:=λ(ad:Addr) (ea:LA=some ad)=>LR ad.block ⟨ad,ea,rfl⟩
      refine⟨?_,trivial⟩;refine new (λv47 Bn z47 B47=>?_);have T9:=G9.trans Bn;refine⟨T9,?_⟩;have l47:=G9.size;refine⟨?_,trivial⟩;refine Qx B47 rfl (sc rfl) (λHa h48 _ B48=>?_);have Bo:Mod (·=v46.heap.size) v47 Ha:=mQj h48 rfl;have Ua:Ext wR Ha:=Bo.ext T9 (λi hi=>by omega);refine⟨Ua,?_⟩;refine⟨?_,trivial⟩;refine Qx ((((B44.ext Bj).ext Bm).ext Bn).mod Bo (by show¬wR.drew.heap.size=v46.heap.size;omega)) rfl (sc rfl) (λUb h49 _ B49=>?_);have Bp:Mod (·=wR.drew.heap.size) Ha Ub:=mQj h49 rfl;have Uc:Ext wR Ub:=Bp.ext Ua (λi hi=>by omega);refine⟨Uc,?_⟩;exact⟨(⟨HA,Hn,Hc,Hnd,Hr⟩,⟨LA,Ln,Lc,Lnd,Lr⟩,v46.heap.size,wR.drew.heap.size),rfl,⟨Uc,(B48.mod Bp (by show¬v46.heap.size=wR.drew.heap.size;omega)),B49,(SB.modo (SB.modo ((Hb.ext Bm).ext Bn) Bo (λad ea h0 hh=>by have q1:=Bk ad ea h0;have q2:=Bl ad ea;omega)) Bp (λad ea h0 hh=>by have q1:=Bk ad ea h0;have q2:=Bl ad ea;omega)),Hs,(SB.modo (SB.modo (Lb.ext Bn) Bo (λad ea h0 hh=>by have q1:=T7 ad ea h0;have q2:=T8 ad ea;omega)) Bp (λad ea h0 hh=>by have q1:=T7 ad ea h0;have q2:=T8 ad ea;omega)),Ls⟩⟩
     ·refine⟨?_,trivial⟩;refine new (λv50 Hd z50 B50=>?_);have Bq:=sG.trans Hd;refine⟨Bq,?_⟩;have l50:=sG.size;refine⟨?_,trivial⟩;refine call (dC hk x y v50 (hx.ext Bq) (hy.ext Bq) sx sy) ?_;rintro _ v51 ⟨LA,Ln,Lc,Lnd,Lr,rfl,wj,Lb,Ls,LR⟩;have Ud:=Bq.trans wj;refine⟨Ud,?_⟩;have z51:=wj.size;have Ue:=λad ea h0=>SB.lt Lb ad ea h0
      have Uf:=λ(ad:Addr) (ea:LA=some ad)=>LR ad.block ⟨ad,ea,rfl⟩
      refine⟨?_,trivial⟩;refine Qx (B50.ext wj) rfl (sc rfl) (λHe h52 _ B52=>?_);have Bs:Mod (·=wi.heap.size) v51 He:=mQj h52 rfl;have Ug:Ext wR He:=Bs.ext Ud (λi hi=>by omega);refine⟨Ug,?_⟩;refine⟨?_,trivial⟩;refine Qx ((((B44.ext Bj).ext Hd).ext wj).mod Bs (by show¬wR.drew.heap.size=wi.heap.size;omega)) rfl (sc rfl) (λUh h53 _ B53=>?_);have Bt:Mod (·=wR.drew.heap.size) He Uh:=mQj h53 rfl;have Ui:Ext wR Uh:=Bt.ext Ug (λi hi=>by omega);refine⟨Ui,?_⟩;exact⟨(⟨HA,Hn,Hc,Hnd,Hr⟩,⟨LA,Ln,Lc,Lnd,Lr⟩,wi.heap.size,wR.drew.heap.size),rfl,⟨Ui,(B52.mod Bt (by show¬wi.heap.size=wR.drew.heap.size;omega)),B53,(SB.modo (SB.modo ((Hb.ext Hd).ext wj) Bs (λad ea h0 hh=>by have q1:=Bk ad ea h0;have q2:=Bl ad ea;omega)) Bt (λad ea h0 hh=>by have q1:=Bk ad ea h0;have q2:=Bl ad ea;omega)),Hs,(SB.modo (SB.modo Lb Bs (λad ea h0 hh=>by have q1:=Ue ad ea h0;have q2:=Uf ad ea;omega)) Bt (λad ea h0 hh=>by have q1:=Ue ad ea h0;have q2:=Uf ad ea;omega)),Ls⟩⟩
    ·refine⟨?_,trivial⟩;refine new (λv54 Uj z54 B54=>?_);have Bu:=sF.trans Uj;refine⟨Bu,?_⟩;have l54:=sF.size;refine⟨?_,trivial⟩;refine call (lP hk x y v54 (hx.ext Bu) (hy.ext Bu) sx sy) ?_;rintro _ v55 ⟨HA,Hn,Hc,Hnd,Hr,rfl,Bv,Hb,Hs,HR⟩;have Bw:=Bu.trans Bv;refine⟨Bw,?_⟩;have z55:=Bv.size;have Uk:=λad ea h0=>SB.lt Hb ad ea h0
     have Ul:=λ(ad:Addr) (ea:HA=some ad)=>HR ad.block ⟨ad,ea,rfl⟩
     refine⟨?_,trivial⟩;refine call (dC hk x y v55 (hx.ext Bw) (hy.ext Bw) sx sy) ?_;rintro _ v56 ⟨LA,Ln,Lc,Lnd,Lr,rfl,wk,Lb,Ls,LR⟩;have Um:=Bw.trans wk;refine⟨Um,?_⟩;have z56:=wk.size;have Un:=λad ea h0=>SB.lt Lb ad ea h0
     have Uo:=λ(ad:Addr) (ea:LA=some ad)=>LR ad.block ⟨ad,ea,rfl⟩
     refine⟨?_,trivial⟩;refine Qx ((B54.ext Bv).ext wk) rfl (sc rfl) (λHf h57 _ B57=>?_);have Bx:Mod (·=wh.heap.size) v56 Hf:=mQj h57 rfl;have Uq:Ext wR Hf:=Bx.ext Um (λi hi=>by omega);refine⟨Uq,?_⟩;refine⟨?_,trivial⟩;refine Qx ((((B44.ext Uj).ext Bv).ext wk).mod Bx (by show¬wR.drew.heap.size=wh.heap.size;omega)) rfl (sc rfl) (λUr h58 _ B58=>?_);have By:Mod (·=wR.drew.heap.size) Hf Ur:=mQj h58 rfl;have Us:Ext wR Ur:=By.ext Uq (λi hi=>by omega);refine⟨Us,?_⟩;exact⟨(⟨HA,Hn,Hc,Hnd,Hr⟩,⟨LA,Ln,Lc,Lnd,Lr⟩,wh.heap.size,wR.drew.heap.size),rfl,⟨Us,(B57.mod By (by show¬wh.heap.size=wR.drew.heap.size;omega)),B58,(SB.modo (SB.modo (Hb.ext wk) Bx (λad ea h0 hh=>by have q1:=Uk ad ea h0;have q2:=Ul ad ea;omega)) By (λad ea h0 hh=>by have q1:=Uk ad ea h0;have q2:=Ul ad ea;omega)),Hs,(SB.modo (SB.modo Lb Bx (λad ea h0 hh=>by have q1:=Un ad ea h0;have q2:=Uo ad ea;omega)) By (λad ea h0 hh=>by have q1:=Un ad ea h0;have q2:=Uo ad ea;omega)),Ls⟩⟩
 rintro⟨xh,xl,b1,b2⟩ w6 ⟨Q6,Qh,Qw,hHb,IM,ti,gP⟩;simp only at Qh Qw hHb IM ti gP;have XG:=IL.trans Q6;have aQ:=hKR.ext Q6;have mh:QC n (λe=>o e&&e v)=cC (QC n o) v:=by
  rw[Pq (o:=o) (v:=v) true (λe=>by cases e v<;>rfl)];congr 1;funext c;cases c.testBit v<;>rfl
 have ml:QC n (λe=>o e && !e v)=eP (QC n o) v:=by
  rw[Pq (o:=o) (v:=v) false (λe=>by cases e v<;>rfl)];congr 1;funext c;cases c.testBit v<;>rfl
 have h0:=IM.root0;have l0:=gP.root0;rw[mh] at h0;rw[ml] at l0;have ihh:=λ(hq:cC (QC n o) v≠ []) (w7:World) (Q1:Ext w6 w7)=>ih k (dh k) (v+1) xh (λe=>o e&&e v) w7 (by omega) (aQ.ext Q1) (hHb.ext Q1) IM (by rw[mh];exact hq) (by rw[mh];exact ZL.sub (λc hc=>(KP.1 hc).1)) (by rw[mh];exact gQx bW)
 rw[mh] at ihh;have ihl:=λ(hq:eP (QC n o) v≠ []) (w7:World) (Q1:Ext w6 w7)=>ih k (dh k) (v+1) xl (λe=>o e && !e v) w7 (by omega) (aQ.ext Q1) (ti.ext Q1) gP (by rw[ml];exact hq) (by rw[ml];exact ZL.sub (λc hc=>(KP.1 hc).1)) (by rw[ml];exact gQy bW)
 rw[ml] at ihl;have jZ:((v+1:Nat):Int)=(v:Int)+1:=by omega
 refine Qp Qw rfl ?_;refine Zn (λc9=>?_) (λc9=>?_)
 ·have gM:=l0.1 c9;have kN:cC (QC n o) v≠ []:=by rw[Pu gM];exact QK
  rw[gQu QK gM];refine Qv aQ.wbb rfl ?_;refine Qs Qh rfl ?_;refine Qm ((v+1:Nat):Int) (by omega) (by omega) ?_;refine call (ihh kN w6 (Ext.refl _)) ?_;rintro _ w7 ⟨A,c,rfl,Q1,KW⟩;exact⟨A,c,rfl,XG.trans Q1,KW⟩
 have gM:eP (QC n o) v≠ []:=λe=>c9 (l0.2 e)
 refine Qp Qh rfl ?_;refine Zn (λtY=>?_) (λtY=>?_)
 ·have kN:=h0.1 tY;rw[gQv QK kN];refine Qv aQ.wbb rfl ?_;refine Qs Qw rfl ?_;refine Qm ((v+1:Nat):Int) (by omega) (by omega) ?_;refine call (ihl gM w6 (Ext.refl _)) ?_;rintro _ w7 ⟨A,c,rfl,Q1,KW⟩;exact⟨A,c,rfl,XG.trans Q1,KW⟩
 have kN:cC (QC n o) v≠ []:=λe=>tY (h0.2 e)
 rw[gQw QK gM kN];have hb:∀s,s∈QC n o->(∀r∈QU (fP (Zi p.ps) s),(∀x∈r,x<256)/\r.length<=1000000000)/\(QU (fP (Zi p.ps) s)).length<=1000000:=λs hs=>by
  obtain⟨q0,VR,gw⟩:=ZL.cov s hs;obtain⟨q,hq,rfl⟩:=ZY.1 VR;rw[ZL.get hs VR gw];obtain⟨_,o2,o3,o4⟩:=VW q hq;have ht:ac q.2=true:=by unfold KT at o2;rw[JR] at o2;exact o2.1
  have hu:=WG (lM ht);have hul:=uy (QU q.2);rw[hu] at hul;refine⟨λr hr=>⟨λx hx=>o3 x (by rw[<-hu];exact fz.2 ⟨r,hr,by simp[hx]⟩),?_⟩,by show(QU q.2).length<=_;omega⟩;have:r.length<=(Qo (QU q.2)).length:=by
   have h5:∀(ls:List (List Nat)),r∈ls->r.length<=(Qo ls).length:=λls=>by
    induction ls with
    | nil=>intro h;cases h
    | cons a ls R6=>
     intro h;rw[Y7,Qy,Xk];rcases QX.1 h with rfl | h
     ·omega
     ·have:=R6 h;omega
   exact h5 _ hr
  rw[hu] at this;omega
 have hif:∀v ng,(∀x∈Vq p.nm v ng,x<256)/\(Vq p.nm v ng).length<=1000000000:=λv ng=>by
  unfold Vq;cases hg:p.nm[v]? with
  | none=>cases ng<;>exact⟨by simp[JG],by simp[JG]⟩
  | some s=>
   have fk:=Xe hg;have ky:=(Vw s fk).1;have BZ:=Kn s fk;refine⟨λx hx=>?_,?_⟩
   ·rcases XB.1 hx with hx | hx
    ·exact(show∀y∈JG,y<256 by decide) x hx
    ·rcases XB.1 hx with hx | hx
     ·cases ng
      ·cases hx
      ·rw[QJ.1 hx];decide
     ·exact ky x hx
   ·simp only[Qy,gT];cases ng<;>simp[JG]<;>omega
 have ta:(QC n o).length<=16:=by
  have h1:(QC n o).length<=2^n:=Ze (tG _ _) (by simp);have h2:2^n<=2^4:=Wu (by decide) kx;omega
 have bnd:∀S,S≠ []->(∀c∈S,c∈QC n o)->S.length<=16->jP (XV p.nm (fP (Zi p.ps)) k (v+1) S)/\(XV p.nm (fP (Zi p.ps)) k (v+1) S).length<=100000000:=λS hS hSm IN=>by
  obtain⟨a1,a2⟩:=oI (nm:=p.nm) (f:=fP (Zi p.ps)) (P:=λr=>(∀x∈r,x<256)/\r.length<=1000000000) (M:=1000000) hif (by decide) (by decide) k (v+1) S hS (λc hc=>hb c (hSm c hc));have:=Wq (1000000+3) IN;exact⟨a1,by omega⟩
 obtain⟨Ut,bh2⟩:=bnd _ kN (λc hc=>(KP.1 hc).1) (Ze (tG _ _) ta);obtain⟨Uu,bl2⟩:=bnd _ gM (λc hc=>(KP.1 hc).1) (Ze (tG _ _) ta);generalize hWH:XV p.nm (fP (Zi p.ps)) k (v+1) (cC (QC n o) v)=WH at*;generalize hWL:XV p.nm (fP (Zi p.ps)) k (v+1) (eP (QC n o) v)=WL at*;refine XJ Qa (Ext w6) 12 [(true,0),(true,1),(true,2),(true,3),(true,5),(true,6),(true,7),(true,8),(false,4),(false,9),(true,10),(true,11)] (by kernel_rfl) (Ext.drew w6) ?_;refine QL (v:=p.clo) (λw' Qb=>by rw[(aQ.wbb.ext Qb).cell0];rfl) ?_;refine Xl (vs:=xh.cells) rfl (λw' Qb j u hj=>by rw[(Qh.ext Qb).cell];exact hj) ?_;refine Qm ((v+1:Nat):Int) (by omega) (by omega) ?_;refine QL (v:=p.clo) (λw' Qb=>by rw[(aQ.wbb.ext Qb).cell0];rfl) ?_;refine Xl (vs:=xl.cells) rfl (λw' Qb j u hj=>by rw[(Qw.ext Qb).cell];exact hj) ?_;refine Qm ((v+1:Nat):Int) (by omega) (by omega) ?_;have hd:=Ext.drew w6;refine call (ihh kN w6.drew hd) ?_;rintro _ w7 ⟨HA,hc,rfl,Q1,KW⟩;refine⟨hd.trans Q1,?_⟩;refine call (ihl gM w7 (hd.trans Q1)) ?_;rintro _ w8 ⟨LA,lc,rfl,Q9,gi⟩;refine⟨(hd.trans Q1).trans Q9,?_⟩;have YV:=(hd.trans Q1).trans Q9;refine call (gQK HA LA _ hc _ lc WH WL w8 (KW.ext Q9).1 gi.1 Ut Uu) ?_;rintro _ w9 ⟨rfl,Xw⟩;have mD:=YV.trans Xw;by_cases heq:WH=WL
 ·rw[Qe heq];refine X7 heq ?_;exact⟨HA,hc,rfl,XG.trans mD,(KW.ext Q9).ext Xw⟩
 ·rw[if_neg heq];refine Xy heq ?_;have jQH:v<p.nn:=by have:=hK.nms.len;rw[aF] at this;omega
  refine Qv (aQ.ext mD).nbb rfl ?_;obtain⟨s,hs⟩:∃s,p.nm[v]? =some s:=⟨_,Xs (by omega)⟩
  refine Vz (aQ.ext mD).nms jQH (λad u hA hu Xz=>?_);rw[lm hs] at hu;cases hu;refine load Xz ?_;have es:dD p.nm v=s:=by unfold dD;rw[hs]<;>rfl
  rw[<-es];refine call (gQH p.nm v WH WL HA LA _ hc _ lc w9 ((KW.ext Q9).ext Xw).1 (gi.ext Xw).1 Ut Uu (by rw[es];have:=Kn s (Xe hs);omega) (by rw[Jg];exact bh2) (by rw[Jg];exact bl2)) ?_;rintro _ QG ⟨JA,jc,rfl,Zw,vD⟩;exact⟨JA,jc,rfl,(XG.trans mD).trans Zw,vD⟩
theorem PF (NA:Option Addr)(nn nc:Nat)(nm:List (List Nat))(x:DV)(o:BF)(PA:Option Addr)(pn pc:Nat)(ps:List (DV×List Nat))(n:Nat)(kx:n<=4)(wy:nm.length=n)(Vw:Ke nm)(Kn:∀s∈nm,s.length<=1000000)(VW:∀q∈ps,J7 n q.1.nd q.1.r=true/\KT q.2=true/\(∀b∈q.2,b<256)/\q.2.length<=1000000)(w:World)
  (hN:Sl w 1 NA nn nc (X4 nm)) (hx:SB w x.A x.n x.c x.nd) (sx:Set1 n x.nd x.r o) (hP:SlS Jd 3 w PA pn pc ps) (xo:∀q∈ps,SB w q.1.A q.1.n q.1.c q.1.nd) (QK:QC n o≠ []) (ZL:PaOk (QC n o) (Zi ps)):
  Fn Tryz.prog 65 [.slice NA nn nc,Xg x.A x.n x.c x.r,.slice PA pn pc] w (λu w'=>rC w u ((XV nm (fP (Zi ps)) n 0 (QC n o)).map (·++ [10])) w'):=by
 refine QF (c:={c65 with cuts:=[]}) Qa Tryz.func65 rfl rfl rfl ?_;refine new (λw1 Qd Q2 Qh=>?_);refine new (λw2 Qg X9 Qw=>?_);refine new (λw3 Qj JV Qu=>?_);refine new (λw4 Qq Kz QZ=>?_);have KB:=Qj.trans Qq;have JL:=Qg.trans KB;have XF:=Qd.trans JL;refine Kq QZ (by decide) (λw5 ZW QH=>?_);have WU:Ext w3 w5:=ZW.ext Qq (λi hi=>by omega)
 let p:WP:=⟨w2.heap.size,w3.heap.size,w.heap.size,PA,pn,pc,NA,nn,nc,nm,ps⟩
 have Jm:Ext w w5:=((Qd.trans Qg).trans Qj).trans WU;have hK:WK w5 p:=⟨Qu.ext WU,QH,Qh.ext ((Qg.trans Qj).trans WU),hP.ext Jm,λq hq=>(xo q hq).ext Jm,hN.ext Jm⟩
 refine Qv hK.wbb rfl ?_;refine Qs (Qw.ext (Qj.trans WU)) rfl ?_;refine call (gQP p n kx wy Vw Kn VW n 0 x o w5 (by omega) hK (hx.ext Jm) sx QK ZL gQq) ?_;rintro _ w6 ⟨A,c,rfl,Q6,iD⟩;exact⟨A,c,rfl,Jm.trans Q6,iD⟩
theorem PG:∀(xs:List (List UInt8)),([]:List UInt8).intercalate xs=xs.flatten
 | []=>rfl
 | [x]=>by simp[List.intercalate]
 | x::y::l=>by
  have ih:=PG (y::l);simp only[List.intercalate,List.intersperse_cons₂,Ll,ep] at ih ⊢;rw[ih]
theorem gQQ (ls:List (List Nat)):Lib.join ((ls.map (λs=>Qf (s++ [10]))).map (·.data.toList)) []=(Qo ls).map UInt8.ofNat:=by
 unfold Lib.join;rw[PG];induction ls with
 | nil=>rfl
 | cons s ls ih=>
  rw[YK,YK,Ll,ih,Y7,uF];simp
theorem gQR (A:Option Addr)(n c:Nat)(ls:List (List Nat))(w:World)(h:Sn w A n c (JI ls))(Xa:∀ad,A=some ad->0<n->ad.block<w.heap.size)(hn:n<=1000000000)(Xb:(Qo ls).length<=1000000000):
  Fn Tryz.prog 102 [.slice A n c,.string ⟨#[]⟩] w (λu w'=>u= .string (Qf (Qo ls))/\Ext w w'):=by
 have hl:=ip h.1;by_cases h0:n=0
 ·subst h0;have:ls=[]:=Y0 hl;subst this;refine QF (c:={bQB with cuts:=[]}) Qa Tryz.func102 rfl rfl rfl ?_;refine Jp rfl ?_;exact⟨rfl,Ext.refl _⟩
 ·obtain⟨g,o,rfl⟩:=h.2 (by omega);obtain⟨ad,e,hc⟩:=h.1.at_ (by omega);cases e;have hx:(ls.map (λs=>Qf (s++ [10]))).length=n:=by rw[Jg,hl]
  have hj:=gQQ ls;have wT:=Tryz.strings_Join g o c (ls.map (λs=>Qf (s++ [10]))) ⟨#[]⟩ w (λj x hj=>by
   rw[K2] at hj;cases hs:ls[j]? with
   | none=>rw[hs] at hj;cases hj
   | some s=>
    rw[hs] at hj;cases hj;have:=hc j _ (fX hs);have e3:(⟨g,o,none⟩:Addr).add j=⟨g,o+j,none⟩:=by
     unfold Addr.add;by_cases lW:j=0
     ·subst lW;simp
     ·simp[lW]
    rw[e3] at this;exact this) (Xa _ rfl (by omega)) (by omega) (by rw[hx];exact h.1.le) (by
   have:(⟨#[]⟩:ByteArray).data.toList=[]:=rfl;rw[this,hj,Jg];omega)
  have e0:(⟨#[]⟩:ByteArray).data.toList=[]:=rfl;rw[e0,hj,hx] at wT;unfold Fn;refine wT.mono λe w' he=>?_
  obtain⟨rfl,hb⟩:=he;exact⟨rfl,mQo hb⟩
theorem PH (ls:List (List Nat))(s:List Nat):(Qo (ls++ [s])).length=(Qo ls).length+(s.length+1):=by simp[Qo]
theorem gQS (A:Option Addr)(n c:Nat)(ls:List (List Nat))(w:World)(h:Sn w A n c (JI ls))(Xb:(Qo ls).length<=1048576):
  Fn Tryz.prog 50 [.slice A n c] w (λu w'=>u= .string (Qf (Qo ls))/\Ext w w'):=by
 have hl:=ip h.1;have mZ:=uy ls;refine QF (c:={Mj with cuts:=[]}) Qa Tryz.func50 rfl rfl rfl ?_;refine loop Qa [8,3] (λi:Nat=>[.int .i64 i,.int .i64 (Qo (ls.take i)).length]) (λi w'=>w=w'/\i<=n) (λi _=>n-i) 0 rfl ⟨rfl,XM _⟩ ?_;rintro i _ ⟨rfl,hi⟩;refine QB (λc1=>?_) (λc1=>?_)
 ·have Q7:i<n:=by omega
  obtain⟨s,hs⟩:∃s,ls[i]? =some s:=⟨_,Xs (by omega)⟩
  have YH:ls.take (i+1)=ls.take i++ [s]:=by rw[VX,hs]<;>rfl
  have hu:=PH (ls.take i) s;rw[<-YH] at hu;have ZK:(Qo (ls.take (i+1))).length<=(Qo ls).length:=by
   have e5:Qo ls=Qo (ls.take (i+1))++Qo (ls.drop (i+1)):=by
    have e6:∀a b:List (List Nat),Qo (a++b)=Qo a++Qo b:=λa b=>by simp[Qo]
    rw[<-e6,qj]
   rw[e5,Qy];omega
  refine Vz h.1 Q7 (λad u hA kL Xz=>?_);rw[fX hs] at kL;cases kL;refine load Xz ?_;have XW:=XU (s++ [10]);rw[Qy,nF] at XW;refine Qm (((Qo (ls.take (i+1))).length:Nat):Int) (by rw[hu];omega) (by omega) ?_;refine Xy (by omega) ?_;refine Qm ((i+1:Nat):Int) (by show((i:Nat):Int)+1=_;omega) (by omega) ?_;exact⟨i+1,rfl,⟨rfl,Q7⟩,by show n-(i+1)<n-i;omega⟩
 ·refine call (gQR A n c ls w h (λad e h0=>?_) (by omega) (by omega)) ?_
  ·obtain⟨ad',e',hc⟩:=h.1.at_ h0;rw[e] at e';cases e';obtain⟨s,hs⟩:∃s,ls[0]? =some s:=⟨_,Xs (by omega)⟩
   have:=hc 0 _ (fX hs);have h6:=World.block_lt_of_cell? w _ this;rw[nV] at h6;exact h6
  rintro _ w1 ⟨rfl,Qd⟩;exact⟨rfl,Qd⟩
namespace Nt
def val:List Nat->Nat
 | []=>0
 | x::l=>x+4294967296*val l
def Limbs (l:List Nat):Prop:=∀x∈l,x<4294967296
def lQ:Nat->Nat->List Nat
 | 0,_=>[]
 | f+1,n=>if n=0 then [] else(n % 4294967296)::lQ f (n/4294967296)
def JJ (n:Nat):List Nat:=lQ n n
theorem gQT:∀(f g n:Nat),n<=f->n<=g->lQ f n=lQ g n:=by
 intro f;induction f with
 | zero=>
      intro g n h1 _;have:n=0:=by omega
      subst this;cases g<;>simp[lQ]
 | succ f ih=>
  intro g n h1 h2;by_cases h0:n=0
  ·subst h0;cases g<;>simp[lQ]
  ·cases g with
   | zero=>omega
   | succ g=>
    simp only[lQ,if_neg h0];rw[ih g (n/4294967296) (by omega) (by omega)]
theorem uN:JJ 0=[]:=rfl
theorem uO {n:Nat}(h:0<n):JJ n=(n % 4294967296)::JJ (n/4294967296):=by
 unfold JJ;cases n with
 | zero=>omega
 | succ n=>
  rw[lQ,if_neg (by omega)];rw[gQT n ((n+1)/4294967296) _ (by omega) (QE _)]
theorem zv:Limbs []:=λx h=>by cases h
theorem oJ {x:Nat}{l:List Nat}:Limbs (x::l)↔x<4294967296/\Limbs l:=by
 unfold Limbs;simp
theorem gQU {l m:List Nat}:Limbs (l++m)↔Limbs l/\Limbs m:=by
 unfold Limbs;constructor
 ·exactλh=>⟨λx hx=>h x (by simp[hx]),λx hx=>h x (by simp[hx])⟩
 ·intro h x hx;rcases XB.1 hx with h1 | h1
  ·exact h.1 x h1
  ·exact h.2 x h1
theorem Limbs.get {l:List Nat}(h:Limbs l){j x:Nat}(hx:l[j]? =some x):x<4294967296:=h x (Xe hx)
theorem Limbs.take {l:List Nat}(h:Limbs l)(n:Nat):Limbs (l.take n):=λx hx=>h x (eu hx)
theorem PI (l m:List Nat):val (l++m)=val l+4294967296^l.length*val m:=by
 induction l with
 | nil=>simp[val]
 | cons x l ih=>simp only[Yd,val,ih,Xk,kY];grind
theorem EN (l:List Nat)(x:Nat):val (l++ [x])=val l+4294967296^l.length*x:=by
 rw[PI];simp[val]
theorem PJ {l:List Nat}(h:Limbs l):val l<4294967296^l.length:=by
 induction l with
 | nil=>simp[val]
 | cons x l ih=>
  have h1:=(oJ.1 h).1;have h2:=ih (oJ.1 h).2;simp only[val,Xk,kY];omega
theorem PK {l:List Nat}{i x:Nat}(h:l[i]? =some x):val (l.take (i+1))=val (l.take i)+4294967296^i*x:=by
 have hi:i<l.length:=(Zt.1 h).1;rw[VX,h,Option.toList_some,EN,Ye,nD (Nat.le_of_lt hi)]
theorem oK (n:Nat):val (JJ n)=n:=by
 induction n using Nat.strongRecOn with
 | _ n ih=>
  by_cases h:n=0
  ·subst h;rfl
  ·rw[uO (by omega),val,ih _ (by omega)];omega
theorem zw (n:Nat):Limbs (JJ n):=by
 induction n using Nat.strongRecOn with
 | _ n ih=>
  by_cases h:n=0
  ·subst h;exact zv
  ·rw[uO (by omega),oJ];exact⟨fA _ (by omega),ih _ (by omega)⟩
theorem gQV (n:Nat):(JJ n).getLast? ≠some 0:=by
 induction n using Nat.strongRecOn with
 | _ n ih=>
  by_cases h:n=0
  ·subst h;simp[uN]
  ·rw[uO (by omega)];by_cases h1:n/4294967296=0
   ·rw[h1,uN];simp;omega
   ·have:=ih (n/4294967296) (by omega);cases hl:JJ (n/4294967296)with
    | nil=>have:=oK (n/4294967296);rw[hl] at this;simp[val] at this;omega
    | cons y m=>rw[hl] at this;rw[List.getLast?_cons_cons];exact this
theorem gQW {l:List Nat}(h:Limbs l)(hz:l.getLast? ≠some 0):JJ (val l)=l:=by
 induction l with
 | nil=>rfl
 | cons x l ih=>
  obtain⟨hx,hl⟩:=oJ.1 h;have Wl:l.getLast? ≠some 0:=by
   cases l with
   | nil=>simp
   | cons y m=>rwa [List.getLast?_cons_cons] at hz
  have ih':=ih hl Wl;have fj:0<x+4294967296*val l:=by
   rcases Nat.eq_zero_or_pos x with h0 | h0
   ·subst h0;cases l with
    | nil=>simp at hz
    | cons y m=>
     rcases Nat.eq_zero_or_pos (val (y::m))with h1 | h1
     ·rw[h1,uN] at ih';cases ih'
     ·omega
   ·omega
  rw[val,uO fj];have e1:(x+4294967296*val l) % 4294967296=x:=by omega
  have e2:(x+4294967296*val l)/4294967296=val l:=by omega
  rw[e1,e2,ih']
theorem EO (n k:Nat):(JJ n).length<=k↔n<4294967296^k:=by
 constructor
 ·intro h;have:=PJ (zw n);rw[oK] at this;exact Vy this (Wu (by omega) h)
 ·intro h;induction k generalizing n with
  | zero=>simp at h;subst h;simp[uN]
  | succ k ih=>
   by_cases h0:n=0
   ·subst h0;simp[uN]
   ·rw[uO (by omega),Xk];have:n/4294967296<4294967296^k:=by
     rw[kY] at h;exact Nat.div_lt_of_lt_mul (by omega)
    have:=ih _ this;omega
def Vd (l:List Nat):Prop:=l.length<=1024/\l.getLast? ≠some 0
instance (l:List Nat):Decidable (Vd l):=by unfold Vd;infer_instance
theorem rJ {n:Nat}(h:n<4294967296^1024):Vd (JJ n):=⟨(EO n 1024).2 h,gQV n⟩
def cE (n:Nat):List Nat:=if(JJ n).length<=1024 then JJ n else []
def oL (n:Nat):Int:=if(JJ n).length<=1024 then 0 else 2
theorem gQX {l:List Nat}{n:Nat}(h:∀x∈l.drop n,x=0):val (l.take n)=val l:=by
 have h1:val l=val (l.take n++l.drop n):=by rw[qj]
 rw[h1,PI];have:∀m:List Nat,(∀x∈m,x=0)->val m=0:=by
  intro m;induction m with
  | nil=>intro _;rfl
  | cons x m ih=>intro h;rw[val,h x (by simp),ih (λy hy=>h y (by simp[hy]))]
 rw[this _ h];simp
theorem gQY {l:List Nat}(hl:Limbs l){n:Nat}(h:∀x∈l.drop n,x=0)(hn:n=0∨∃x,l[n-1]? =some x/\x≠0):l.take n=JJ (val l):=by
 rw[<-gQX h,gQW (hl.take n)];rcases hn with rfl | ⟨x,hx,h0⟩
 ·simp
 ·have Xa:n-1<l.length:=(Zt.1 hx).1;rcases Nat.eq_zero_or_pos n with rfl | hp
  ·simp
  ·rw[qp,Ye,nD (by omega),CD,Qe (by omega),hx];simpa using h0
theorem gQZ {l:List Nat}(h:Limbs l)(i:Nat):val (l.take i)<4294967296^i:=
 Vy (PJ (h.take i)) (Wu (by omega) (by rw[Ye];omega))
theorem kQ7 (l:List Nat)(i:Nat):val (l.drop i)=l[i]?.getD 0+4294967296*val (l.drop (i+1)):=by
 rcases Nat.lt_or_ge i l.length with h | h
 ·rw[cd h,val];simp[h]
 ·rw[qk h,qk (by omega)];simp[val,h]
theorem PL (l:List Nat)(i:Nat):val (l.take (i+1))=val (l.take i)+4294967296^i*l[i]?.getD 0:=by
 rcases Nat.lt_or_ge i l.length with h | h
 ·rw[PK (Xs h)];simp[h]
 ·rw[Jz h,Jz (by omega)];simp[h]
theorem gQ0 {l:List Nat}(h:Limbs l)(i:Nat):l[i]?.getD 0<4294967296:=by
 cases hi:l[i]? with
 | none=>simp
 | some x=>simpa using h.get hi
theorem gQ1 {p:List Nat}{i c:Nat}{a b:List Nat}(hp:p.length=i)(h:val p+c*4294967296^i=val (a.take i)+val (b.take i)){s:Nat}(hs:s=c+a[i]?.getD 0+b[i]?.getD 0):
  val (p++ [s % 4294967296])+s/4294967296*4294967296^(i+1)=val (a.take (i+1))+val (b.take (i+1)):=by
 rw[EN,hp,PL,PL,kY];have hd:s % 4294967296+4294967296*(s/4294967296)=s:=Nat.mod_add_div s 4294967296;generalize 4294967296^i=P at*;generalize s % 4294967296=r at*;generalize s/4294967296=q at*
 grind
theorem PM {p:List Nat}(hp:Limbs p)(s:Nat):Limbs (p++ [s % 4294967296]):=gQU.2 ⟨hp,oJ.2 ⟨fA _ (by omega),zv⟩⟩
theorem gQ2 {α:Type}(p:List α)(x y:α)(r:List α):(p++x::r).set p.length y=p++y::r:=by
 induction p with
 | nil=>rfl
 | cons z p ih=>simp[ih]
theorem PN {α:Type}(p:List α)(x y:α)(r:List α){i:Nat}(hi:p.length=i):(p++x::r).set i y=(p++ [y])++r:=by
 subst hi;rw[gQ2];simp
theorem gQ3 {α:Type}(p:List α)(x:α)(r:List α){i:Nat}(hi:p.length=i):(p++x::r)[i]? =some x:=by
 subst hi;simp
end Nt
namespace Nt
def cells (l:List Nat):List Value:=l.map λ(x:Nat)=>.int .u32 x
theorem zz {l:List Nat}{j:Nat}{u:Value}(h:(cells l)[j]? =some u):∃x,l[j]? =some x/\u= .int .u32 (x:Int):=by
 simp only[cells,K2,CF] at h;obtain⟨x,hx,rfl⟩:=h;exact⟨x,hx,rfl⟩
theorem gQ4 {l:List Nat}{j x:Nat}(h:l[j]? =some x):(cells l)[j]? =some (.int .u32 (x:Int)):=by
 simp[cells,h]
theorem gQ5 (l m:List Nat):cells (l++m)=cells l++cells m:=by simp[cells]
theorem gQ6 (l:List Nat)(n:Nat):cells (l.take n)=(cells l).take n:=by simp[cells]
theorem PO (l:List Nat)(i x:Nat):cells (l.set i x)=(cells l).set i (.int .u32 (x:Int)):=by simp[cells,List.map_set]
theorem gQ7 (l:List Nat):∀u∈cells l,Jo u=true:=by
 intro u hu;simp only[cells,ZY] at hu;obtain⟨x,_,rfl⟩:=hu;rfl
abbrev SN (w:World)(A:Option Addr)(n c:Nat)(l:List Nat):Prop:=Sl w 1 A n c (cells l)
theorem SN.length {w:World}{A:Option Addr}{n c:Nat}{l:List Nat}(h:SN w A n c l):l.length=n:=by have:=h.len;simpa [cells] using this
theorem SN.bd {w:World}{A:Option Addr}{n c:Nat}{l:List Nat}(h:SN w A n c l):n<=c/\(c:Int)<=9223372036854775807:=by
 have h1:=h.le;have h2:=h.cap;unfold maxLen at h2;omega
theorem gQ8 (l:List Nat):decide (Vd l)=(decide (l.length<=1024)&&(decide (l.length=0)||(l.getLast? !=some 0))):=by
 unfold Vd;cases l with
 | nil=>simp
 | cons x l=>rw[nA];simp
theorem EQ (A:Option Addr)(n c:Nat)(l:List Nat)(w:World)(h:SN w A n c l):
  Fn Tryz.prog 139 [.slice A n c] w (λv w'=>v= .bool (decide (Vd l))/\w'=w):=by
 have hl:=h.length;have hb:=h.bd;refine QF (c:=bQY) Qa Tryz.func139 rfl rfl rfl ?_;rw[gQ8];refine QB (λh1=>?_) (λh1=>?_)
 ·refine Zn (λh2=>?_) (λh2=>?_)
  ·refine And.intro ?_ rfl;have:l=[]:=Y0 (by omega);subst this;simp
  ·refine Qm ((n-1:Nat):Int) (by omega) (by omega) ?_;refine Vz h (by omega) (λad u hA hu Xz=>?_);obtain⟨x,hx,rfl⟩:=zz hu;refine load Xz ?_;refine And.intro ?_ rfl;have nh:l.getLast? =some x:=by rw[qp];rw[hl];exact hx
   congr 1;rw[nh,XX (by omega:l.length<=1024),Zf (by omega:¬l.length=0)];show((x:Int) !=0)=_;rw[nA];simp
 ·refine And.intro ?_ rfl;rw[Zf (by omega:¬l.length<=1024)]<;>rfl
theorem gQ9 {l:List Nat}{k:Nat}(hk:0<k)(h:∀x∈l.drop k,x=0)(h0:l[k-1]? =some 0):∀x∈l.drop (k-1),x=0:=by
 have Xa:k-1<l.length:=(Zt.1 h0).1;rw[cd Xa];intro x hx;rcases QX.1 hx with rfl | hx
 ·simpa [Xs Xa] using h0
 ·rw[show k-1+1=k by omega] at hx;exact h x hx
theorem hQa (A:Option Addr)(n c:Nat)(l:List Nat)(w:World)(h:SN w A n c l)(hL:Limbs l):
  Fn Tryz.prog 195 [.slice A n c] w (λv w'=>∃A' c',v= .tuple #[.slice A' (cE (val l)).length c',.int .i64 (oL (val l))]/\SN w A' (cE (val l)).length c' (cE (val l))/\(A'=A∨A'=none)/\w'=w):=by
 have hl:=h.length;have hb:=h.bd;refine QF (c:=cQw) Qa Tryz.func195 rfl rfl rfl ?_;refine loop Qa [4] (λk:Nat=>[.int .i64 k]) (λk w'=>w'=w/\k<=n/\∀x∈l.drop k,x=0) (λk _=>k) n rfl ⟨rfl,QE n,by rw[<-hl];simp⟩ ?_;intro k w' hI;obtain⟨rfl,Xj,hz⟩:=hI;have done:(k=0∨∃x,l[k-1]? =some x/\x≠0)->∃A' c',(if k<=1024 then Value.tuple #[.slice A k c,.int .i64 0] else .tuple #[.slice none 0 0,.int .i64 2])= .tuple #[.slice A' (cE (val l)).length c',.int .i64 (oL (val l))]/\SN w' A' (cE (val l)).length c' (cE (val l))/\(A'=A∨A'=none)/\w'=w':=by
  intro nh;have hs:=gQY hL hz nh;have Xb:(JJ (val l)).length=k:=by rw[<-hs,Ye];omega
  unfold cE oL;rw[Xb];split
  ·refine⟨A,c,by rw[Xb],?_,.inl rfl,rfl⟩;rw[Xb];have:=h.take Xj
   rwa [gR,<-gQ6,hs] at this
  ·exact⟨none,0,rfl,Sl.nil w' 1,.inr rfl,rfl⟩
 refine QB (λh1=>?_) (λh1=>?_)
 ·refine Qm ((k-1:Nat):Int) (by omega) (by omega) ?_;refine Vz h (by omega) (λad u hA hu Xz=>?_);obtain⟨x,hx,rfl⟩:=zz hu;refine load Xz ?_;refine Zn (λh2=>?_) (λh2=>?_)
  ·refine Qm ((k-1:Nat):Int) (by omega) (by omega) ?_;refine⟨k-1,rfl,⟨rfl,by omega,?_⟩,by show k-1<k;omega⟩;have:x=0:=by omega
   subst this;exact gQ9 (by omega) hz hx
  ·have hd:=done (.inr ⟨x,hx,by omega⟩);refine QB (λh3=>?_) (λh3=>?_)
   ·rw[if_neg (by omega)] at hd;exact hd
   ·refine ji Qa rfl rfl rfl rfl rfl rfl (by omega) ?_;rw[Qe (by omega)] at hd;exact hd
 ·have hd:=done (.inl (by omega));refine QB (λh3=>?_) (λh3=>?_)
  ·omega
  ·refine ji Qa rfl rfl rfl rfl rfl rfl (by omega) ?_;rw[Qe (by omega)] at hd;exact hd
theorem PP (A:Option Addr)(n c:Nat)(l:List Nat)(w:World)(h:SN w A n c l)(hL:Limbs l):
  Fn Tryz.prog 195 [.slice A n c] w (λv w'=>∃A' c',v= .tuple #[.slice A' (cE (val l)).length c',.int .i64 (oL (val l))]/\SN w A' (cE (val l)).length c' (cE (val l))/\w'=w):=
 (hQa A n c l w h hL).mono λ_ _ ⟨A',c',h1,h2,_,h4⟩=>⟨A',c',h1,h2,h4⟩
end Nt
namespace Nt
theorem ER {n:Nat}(h:(JJ n).length<=1024):cE n=JJ n:=Qe h
theorem hQb {n:Nat}(h:(JJ n).length<=1024):oL n=0:=Qe h
theorem hQd (N:Nat)(h:N<18446744073709551616):val [N % 4294967296,N/4294967296 % 4294967296]=N:=by
 simp[val];omega
theorem of_fn (N:Nat)(w:World)(hN:N<18446744073709551616):
  Fn Tryz.prog 135 [.int .u64 N] w (λv w'=>∃A c,v= .slice A (JJ N).length c/\SN w' A (JJ N).length c (JJ N)/\Ext w w'):=by
 refine QF (c:=bQU) Qa Tryz.func135 rfl rfl rfl ?_;refine ye ?_;refine yd 32 4294967296 (by decide) rfl rfl ?_;refine ye ?_;refine qC Qa rfl rfl rfl rfl rfl rfl rfl rfl rfl rfl ?_;intro w1 hE XW hB;have hs:SN w1 (some ⟨w.heap.size,0,none⟩) 2 2 [N % 4294967296,N/4294967296 % 4294967296]:=Sl.own' hB rfl (by simp[maxLen]);have hL:Limbs [N % 4294967296,N/4294967296 % 4294967296]:=oJ.2 ⟨fA _ (by omega),oJ.2 ⟨fA _ (by omega),zv⟩⟩;refine call (PP _ _ _ _ _ hs hL) ?_;rintro v w' ⟨A',c',rfl,tj,rfl⟩;rw[hQd N hN] at tj ⊢;have hr:cE N=JJ N:=ER (by have:=(EO N 2).2 (by omega);omega);rw[hr] at tj ⊢;exact⟨A',c',rfl,tj,hE⟩
end Nt
namespace Nt
def ES (a b:List Nat)(n:Nat):List Nat:=if Vd a/\Vd b then cE n else []
def ET (a b:List Nat)(n:Nat):Int:=if Vd a/\Vd b then oL n else 1
theorem PQ {a b:List Nat}{n:Nat}(h:¬(Vd a/\Vd b)):ES a b n=[]:=if_neg h
theorem PS {a b:List Nat}{n:Nat}(h:¬(Vd a/\Vd b)):ET a b n=1:=if_neg h
theorem EU {a b:List Nat}{n:Nat}(ha:Vd a)(hb:Vd b):ES a b n=cE n:=Qe ⟨ha,hb⟩
theorem PU {a b:List Nat}{n:Nat}(ha:Vd a)(hb:Vd b):ET a b n=oL n:=Qe ⟨ha,hb⟩
def PV (w:World)(l:List Nat)(e:Int)(v:Value)(w':World):Prop:=
 ∃A c,v= .tuple #[.slice A l.length c,.int .i64 e]/\SN w' A l.length c l/\Ext w w'
theorem PW (w w':World)(e:Int)(h:Ext w w'):PV w [] e (.tuple #[.slice none 0 0,.int .i64 e]) w':=⟨none,0,rfl,Sl.nil _ 1,h⟩
theorem add_fn (A B:Option Addr)(n c m d:Nat)(a b:List Nat)(w:World)(ha:SN w A n c a)(hb:SN w B m d b)(jZq:Limbs a)(ti:Limbs b):
  Fn Tryz.prog 138 [.slice A n c,.slice B m d] w (PV w (ES a b (val a+val b)) (ET a b (val a+val b))):=by
 refine QF (c:={bQX with cuts:=[3,12]}) Qa Tryz.func138 rfl rfl rfl ?_;refine call (EQ _ _ _ _ _ ha) ?_;rintro v w' ⟨rfl,rfl⟩;refine lk (QB (λiX=>?_) (λiX=>?_))
 case refine_2=>rw[PQ (λh=>iX h.1),PS (λh=>iX h.1)];exact PW _ _ _ (Ext.refl _)
 refine call (EQ _ _ _ _ _ hb) ?_;rintro v w' ⟨rfl,rfl⟩;refine lk (QB (λfp=>?_) (λfp=>?_))
 case refine_2=>rw[PQ (λh=>fp h.2),PS (λh=>fp h.2)];exact PW _ _ _ (Ext.refl _)
 rw[EU iX fp,PU iX fp];refine L1 Qa [0,1] (λs:(Option Addr×Nat×Nat×List Nat)×(Option Addr×Nat×Nat×List Nat)=>[.slice s.1.1 s.1.2.1 s.1.2.2.1,.slice s.2.1 s.2.2.1 s.2.2.2.1])
  (λs w2=>w2=w'/\SN w' s.1.1 s.1.2.1 s.1.2.2.1 s.1.2.2.2/\SN w' s.2.1 s.2.2.1 s.2.2.2.1 s.2.2.2.2/\Limbs s.1.2.2.2/\Limbs s.2.2.2.2/\s.2.2.1<=s.1.2.1/\s.1.2.1<=1024/\val a+val b=val s.1.2.2.2+val s.2.2.2.2) ?_ ?_
 ·have hla:=ha.length;have td:=hb.length;have h1:=iX.1;have h2:=fp.1;refine QB (λh=>?_) (λh=>?_)
  ·exact⟨((B,m,d,b),(A,n,c,a)),rfl,rfl,hb,ha,ti,jZq,by show n<=m;omega,by show m<=1024;omega,Nat.add_comm _ _⟩
  ·exact⟨((A,n,c,a),(B,m,d,b)),rfl,rfl,ha,hb,jZq,ti,by show m<=n;omega,by show n<=1024;omega,rfl⟩
 rintro⟨⟨A,n,c,x⟩,⟨B,m,d,y⟩⟩ w2 ⟨rfl,hx,hy,nv,IP,BU,hn,hval⟩
 dsimp only at hx hy nv IP BU hn hval ⊢
 rw[hval];clear hval iX fp ha hb jZq ti;have hlx:=hx.length;have hly:=hy.length;refine Qm ((n+1:Nat):Int) (by omega) (by omega) ?_;refine yh Qa rfl rfl rfl rfl rfl rfl rfl rfl (by show 4*_<=_;omega) (by unfold maxLen;omega) ?_;intro w3 Qj lQA Qu;refine bQk Qa rfl rfl rfl rfl rfl rfl rfl Qu (hx.ext Qj) (by omega) (by simp) (gQ7 x) ?_;intro w4 jQI lQB QZ;have Qq:Ext w2 w4:=Qj.own jQI (QE _);have FK:Blk w4 w2.heap.size 219 (cells (x++ [0])):=by
  have e:cells x++(List.replicate (n+1) (Value.int .u32 0)).drop n=cells (x++ [0]):=by
   rw[gQ5,List.drop_replicate,show n+1-n=1 by omega]<;>rfl
  rw[<-e];exact QZ
 refine loop Qa [33,7] (λs:Nat×Nat=>[.int .i64 s.1,.int .u64 s.2]) (λs w5=>Ext w2 w5/\s.1<=n/\s.2<2/\∃p,p.length=s.1/\Limbs p/\Blk w5 w2.heap.size 219 (cells (p++(x.drop s.1++ [0])))/\val p+s.2*4294967296^s.1=val (x.take s.1)+val (y.take s.1))
  (λs _=>n-s.1) (0,0) rfl ⟨Qq,XM _,by decide,[],rfl,zv,by simpa using FK,by simp[val]⟩ ?_
 rintro⟨i,k⟩ w5 ⟨Qt,hi,hk,p,hp,hLp,QH,hv⟩
 dsimp only at hi hk hp QH hv ⊢
 refine QB (λh2=>?_) (λh2=>?_)
 ·have Cs:x[i]? =some x[i]:=Xs (by omega);have Iz:x.drop i=x[i]::x.drop (i+1):=cd (by omega);have mV:=nv.get Cs;rw[Iz,Yd] at QH;refine index (by omega) ?_;refine Qp QH (gQ4 (gQ3 p _ _ hp)) ?_;refine yb (by omega) ?_;refine nU ((k+x[i]:Nat):Int) (by omega) (by omega) ?_;refine L1 Qa [7] (λs:Nat=>[.int .u64 s]) (λs w6=>w6=w5/\s=k+x[i]?.getD 0+y[i]?.getD 0) ?_ ?_
  ·refine QB (λh3=>?_) (λh3=>?_)
   ·refine Vz (hy.ext Qt) (by omega) (λad u hA hu Xz=>?_);obtain⟨z,hz,rfl⟩:=zz hu;have tf:=IP.get hz;refine load Xz ?_;refine yb (by omega) ?_;refine nU ((k+x[i]+z:Nat):Int) (by omega) (by omega) ?_;exact⟨k+x[i]+z,rfl,rfl,by rw[hz,Cs];rfl⟩
   ·exact⟨k+x[i],rfl,rfl,by rw[Cs,kW (by omega)];rfl⟩
  rintro s w6 ⟨rfl,hs⟩;have hyl:=gQ0 IP i;have hsb:s<2*4294967296:=by rw[Cs,gT] at hs;omega
  refine ye ?_;refine index (by omega) ?_;refine yg QH (by simp[cells];omega) ?_;intro w7 Hg QY;refine yd 32 4294967296 (by decide) rfl rfl ?_;refine Qm ((i+1:Nat):Int) (by omega) (by omega) ?_;refine⟨(i+1,s/4294967296),rfl,⟨Qt.own Hg (QE _),by show i+1<=n;omega,by show s/4294967296<2;omega,p++ [s % 4294967296],by simp[hp],PM hLp s,?_,gQ1 hp hv hs⟩,by show n-(i+1)<n-i;omega⟩;rw[<-PO,PN _ _ _ _ hp] at QY;exact QY
 ·have:i=n:=by omega
  subst this;rw[qk (by omega),ep] at QH;rw[Jz (by omega),Jz (by omega)] at hv;refine ye ?_;refine index (by omega) ?_;refine yg QH (by simp[cells];omega) ?_;intro w7 Hg QY;rw[<-PO,PN _ _ _ _ hp,YL] at QY;have hs:SN w7 (some ⟨w2.heap.size,0,none⟩) (i+1) (i+1) (p++ [k % 4294967296]):=Sl.own' QY (by simp[cells,hp]) (by unfold maxLen;omega);refine call (PP _ _ _ _ _ hs (PM hLp k)) ?_;rintro v w8 ⟨A',c',rfl,tj,rfl⟩;have e:val (p++ [k % 4294967296])=val x+val y:=by
   rw[EN,hp,aw (by omega),tE];exact hv
  rw[e] at tj ⊢;exact⟨A',c',rfl,tj,Qt.own Hg (QE _)⟩
end Nt
namespace Nt
def jR (l:List Nat):Bool:=decide (Vd l)&&decide (l.length<=2)
def rK (l:List Nat):Nat:=if jR l=true then val l else 0
theorem PX {l:List Nat}(h:¬(Vd l/\l.length<=2)):rK l=0/\jR l=false:=by
 have hb:jR l=false:=by unfold jR;rw[ez];simpa using h
 exact⟨by unfold rK;rw[hb];rfl,hb⟩
theorem PY {l:List Nat}(h1:Vd l)(h2:l.length<=2):rK l=val l/\jR l=true:=by
 have hb:jR l=true:=by unfold jR;simp[h1,h2]
 exact⟨by unfold rK;rw[hb];rfl,hb⟩
theorem PZ {x n d:Nat}{y:Int}{K:Int->Prop}(hy:0<=y)(hn:min y.toNat 64=n)(hd:2^n=d)(hx:x*d<=18446744073709551615)(k:K ((x*d:Nat):Int)):eB (0<=y) (IntKind.u64.wrap ((x:Int)*2^(min y.toNat IntKind.u64.bits))) K:=by
 refine normIf hy ?_ k;rw[show min y.toNat IntKind.u64.bits=n from hn];have e:(x:Int)*2^n=((x*d:Nat):Int):=by rw[<-hd];norm_cast
 rw[e];exact IntWalk.u64_in _ (by omega)
theorem hQe {a x:Nat}(ha:a<4294967296):a ||| (x*4294967296)=a+4294967296*x:=by
 have:=Nat.shiftLeft_add_eq_or_of_lt (b:=a) (i:=32) (by omega) x;rw[Nat.shiftLeft_eq,show(2:Nat)^32=4294967296 from rfl] at this;rw[Nat.or_comm];omega
theorem hQf (A:Option Addr)(n c:Nat)(l:List Nat)(w:World)(h:SN w A n c l)(hL:Limbs l):
  Fn Tryz.prog 88 [.slice A n c] w (λv w'=>v= .tuple #[.int .u64 (rK l),.bool (jR l)]/\w'=w):=by
 have hl:=h.length;refine QF (c:=c88) Qa Tryz.func88 rfl rfl rfl ?_;refine call (EQ _ _ _ _ _ h) ?_;rintro v w' ⟨rfl,rfl⟩;refine lk (QB (λhv=>?_) (λhv=>?_))
 ·refine QB (λh2=>?_) (λh2=>?_)
  ·obtain⟨e1,e2⟩:=PX (l:=l) (λk=>by omega);rw[e1,e2];exact And.intro rfl rfl
  ·obtain⟨e1,e2⟩:=PY hv (by omega);rw[e1,e2];refine loop Qa [16,4] (λs:Nat=>[.int .i64 s,.int .u64 (val (l.take s):Nat)]) (λs w2=>w2=w'/\s<=n) (λs _=>n-s) 0 rfl ⟨rfl,XM _⟩ ?_;rintro k w2 ⟨rfl,hk⟩
   dsimp only
   refine QB (λh3=>?_) (λh3=>?_)
   ·refine Vz h (by omega) (λad u hA hu Xz=>?_);obtain⟨x,hx,rfl⟩:=zz hu;have mV:=hL.get hx;refine load Xz ?_;refine yb (by omega) ?_;have tk:=PK hx;have Xa:=gQZ hL k;rcases(by omega:k=0∨k=1)with rfl | rfl
    ·refine Qm 0 (by omega) (by omega) ?_;refine PZ (n:=0) (d:=1) (by decide) (by decide) (by decide) (by omega) ?_;rw[gR];have e0:val (l.take 0)=0:=by simp[val]
     rw[e0];refine L6 (s:=x) (Nat.zero_or x) (by omega) (by omega) ?_;refine Qm ((1:Nat):Int) (by omega) (by omega) ?_;have aR:val (l.take 1)=x:=by have h9:=tk;rw[e0] at h9;simpa using h9
     refine⟨1,?_,⟨rfl,by omega⟩,by show n-1<n-0;omega⟩
     dsimp only
     rw[aR]<;>rfl
    ·refine Qm 32 (by omega) (by omega) ?_;refine PZ (n:=32) (d:=4294967296) (by decide) (by decide) (by decide) (by omega) ?_;refine L6 (hQe (by omega)) (by omega) (by omega) ?_;refine Qm ((2:Nat):Int) (by omega) (by omega) ?_;have jW:val (l.take 2)=val (l.take 1)+4294967296*x:=by have h9:=tk;simpa using h9
     refine⟨2,?_,⟨rfl,by omega⟩,by show n-2<n-1;omega⟩
     dsimp only
     rw[jW]<;>rfl
   ·rw[Jz (by omega)];exact And.intro rfl rfl
 ·obtain⟨e1,e2⟩:=PX (l:=l) (λk=>hv k.1);rw[e1,e2];exact And.intro rfl rfl
theorem u8_of {a:Int}(h:(Lit.int .u8 a).wf=true):∃N:Nat,a=(N:Int)/\N<256:=by
 simp[Lit.wf,IntKind.min,IntKind.max,IntKind.signed,IntKind.bits] at h;exact⟨a.toNat,by omega,by omega⟩
end Nt
def NumIn (w:World)(b:Nat)(v:Value):Prop:=∃A m c N,v= .slice A m c/\Nt.SN w A m c (Nt.JJ N)/\N<=b
theorem NumIn.ext {w w':World}{b:Nat}{v:Value}(h:NumIn w b v)(k:Ext w w'):NumIn w' b v:=by
 obtain⟨A,m,c,N,h1,h2,h3⟩:=h;exact⟨A,m,c,N,h1,h2.ext k,h3⟩
theorem NumIn.mod {w w':World}{b g t:Nat}{v:Value}{cs:List Value}(h:NumIn w b v)(hB:Blk w g t cs)(X6:∀u∈cs,∃A m c,u= .slice A m c)(hm:Mod (·=g) w w'):NumIn w' b v:=by
 obtain⟨A,m,c,N,h1,h2,h3⟩:=h;refine⟨A,m,c,N,h1,h2.modS hm (λh0 i hi e=>?_),h3⟩;subst e;obtain⟨ad,rfl,hc⟩:=h2.at_ h0;obtain⟨ad',ea',hb⟩:=hi;cases ea';have Xb:=h2.length;obtain⟨x,hx⟩:∃x,(Nt.JJ N)[0]? =some x:=⟨_,Xs (by omega)⟩
 have Xz:=hc 0 _ (show(Nt.cells (Nt.JJ N))[0]? =some (.int .u32 x) by unfold Nt.cells;rw[K2,hx];rfl);unfold World.cell? at Xz;rw[nV,hb,show w.heap[i]? =_ from hB] at Xz;simp only at Xz;split at Xz
 ·cases Xz
 ·rw[Lt] at Xz;obtain⟨_,_,_,hs⟩:=X6 _ (Xe Xz);cases hs
def cH (n:Nat)(nd:List Br)(x:Nat):Nat:=min n (Qk nd x).toNat
theorem hQg (x:DV)(n nb ab m:Nat)(w:World)(hN:Blk w nb 3 [.int .i64 n])(hA:Blk w ab 32 x.cells)(hx:SB w x.A x.n x.c x.nd)(hm:m<x.n+2)(h0:0<=Qk x.nd m):
  Fn Tryz.prog 136 [.int .i64 m,.pointer (some ⟨nb,0,none⟩),.pointer (some ⟨ab,0,none⟩)] w (λu w'=>u= .int .i64 (cH n x.nd m)/\Ext w w'):=by
 refine QF (c:={bQV with cuts:=[]}) Qa Tryz.func136 rfl rfl rfl ?_;have hd:=Ext.drew w;refine XJ Qa (Ext w) 6 [(true,0),(true,1),(true,2),(false,3),(true,4),(true,5)] (by kernel_rfl) hd ?_;refine QL (v:=.int .i64 n) (λw' Qb=>by rw[(hN.ext Qb).cell0];rfl) ?_;refine Xl (vs:=x.cells) rfl (λw' Qb j u hj=>by rw[(hA.ext Qb).cell];exact hj) ?_;refine call (cr x.A x.n x.c x.r m x.nd w.drew (hx.ext hd) (by omega)) ?_;rintro _ w2 ⟨rfl,Qg⟩;refine⟨hd.trans Qg,?_⟩;refine norm (m:=(cH n x.nd m:Int)) (by unfold cH;split<;>omega) ?_;exact⟨rfl,hd.trans Qg⟩
abbrev hQh (nb ab:Nat):Value:=.func (.func 136) #[] #[.pointer (some ⟨nb,0,none⟩),.pointer (some ⟨ab,0,none⟩)]
structure CtK (w:World) (x:DV) (n nb ab cb pb sb:Nat) (cs:List Value):Prop where
 hN:Blk w nb 3 [.int .i64 n]
 hA:Blk w ab 32 x.cells
 hx:SB w x.A x.n x.c x.nd
 hC:Blk w cb 213 [.slice (some ⟨sb,0,none⟩) (x.n+2) (x.n+2)]
 hP:Blk w pb 215 [hQh nb ab]
 hS:Blk w sb 143 cs
 len:cs.length=x.n+2
 sl:∀u∈cs,∃A m c,u= .slice A m c
 nums:∀(j:Nat) (v:Value),cs[j]? =some v->NumIn w (2^(n-cH n x.nd j)) v
theorem CtK.ext {w w':World}{x:DV}{n nb ab cb pb sb:Nat}{cs:List Value}(h:CtK w x n nb ab cb pb sb cs)(k:Ext w w'):CtK w' x n nb ab cb pb sb cs:=
 ⟨h.hN.ext k,h.hA.ext k,h.hx.ext k,h.hC.ext k,h.hP.ext k,h.hS.ext k,h.len,h.sl,λj v hv=>(h.nums j v hv).ext k⟩
theorem P0 {A B:Option Addr}{m c k d N M b:Nat}(hb:N+M<=b)(hb2:b<=4096)(w:World)(hA:Nt.SN w A m c (Nt.JJ N))(hB:Nt.SN w B k d (Nt.JJ M)):
  Fn Tryz.prog 138 [.slice A m c,.slice B k d] w (λu w'=>∃v,u= .tuple #[v,.int .i64 0]/\NumIn w' b v/\Ext w w'):=by
 have lim:∀x,x<=4096->x<4294967296^1024:=λx hx=>(show ∀k,0<k->x<4294967296^k from λk p=>Vy (show x<4294967296^1 by omega) (Wu (by decide) p)) 1024 (by decide)
 have vA:=Nt.rJ (lim N (by omega));have vB:=Nt.rJ (lim M (by omega));refine(Nt.add_fn A B m c k d _ _ w hA hB (Nt.zw N) (Nt.zw M)).mono ?_;rintro u w' ⟨A',c',hu,hS,hE⟩;rw[Nt.PU vA vB,Nt.EU vA vB,Nt.oK,Nt.oK,Nt.hQb (Nt.rJ (lim (N+M) (by omega))).1,Nt.ER (Nt.rJ (lim (N+M) (by omega))).1] at hu;rw[Nt.EU vA vB,Nt.oK,Nt.oK,Nt.ER (Nt.rJ (lim (N+M) (by omega))).1] at hS;subst hu;exact⟨_,rfl,⟨A',_,c',N+M,rfl,hS,hb⟩,hE⟩
theorem EV {w:World}{x:DV}{n nb ab cb pb sb:Nat}{cs:List Value}(hn:n<=12)(K:CtK w x n nb ab cb pb sb cs)(m f:Nat)(hm:m<x.n+2)(h0:0<=Qk x.nd m)(hf:f<=cH n x.nd m):
  Fn Tryz.prog 137 [.int .i64 m,.int .i64 f,.pointer (some ⟨cb,0,none⟩),.pointer (some ⟨pb,0,none⟩)] w (λu w'=>∃v,u= .tuple #[v,.int .i64 0]/\NumIn w' (2^(n-f)) v/\Ext w w'):=by
 have sZ:cH n x.nd m<=n:=Nat.min_le_left _ _;have hmx:=K.hx.1.cap;have lQ9:=K.hx.1.le;refine QF (c:={bQW with cuts:=[]}) Qa Tryz.func137 rfl rfl rfl ?_;refine Qv K.hC rfl ?_;obtain⟨v,hv⟩:∃v,cs[m]? =some v:=⟨_,Xs (by rw[K.len];omega)⟩
 refine index (j:=m) (by omega) ?_;refine Qp K.hS hv ?_;refine Qv K.hP rfl ?_;refine call (hQg x n nb ab m w K.hN K.hA K.hx hm h0) ?_;rintro _ w1 ⟨rfl,Qd⟩;generalize hp:cH n x.nd m=p at*;refine Qm ((p-f:Nat):Int) (by omega) (by omega) ?_;have Uv:=(K.nums m v hv).ext Qd;rw[hp] at Uv;refine loop Qa [8,20] (λs:Value×Nat=>[s.1,.int .i64 s.2]) (λs w'=>Ext w w'/\s.2<=p-f/\NumIn w' (2^(n-p)*2^s.2) s.1) (λs _=>p-f-s.2) (v,0) rfl ⟨Qd,XM _,by simpa using Uv⟩ ?_;rintro⟨u,i⟩ w2 ⟨Qg,hi,A,mm,c,N,rfl,hS,xp⟩;simp only at hi xp;refine QB (λc1=>?_) (λc1=>?_)
 ·have IQ:i<p-f:=by simp only at c1;omega
  have e2:2^(n-p)*2^(i+1)<=4096:=by
   rw[<-Nat.pow_add];exact Ze (Wu (by decide) (show n-p+(i+1)<=12 by omega)) (by decide)
  refine call (P0 (b:=2^(n-p)*2^(i+1)) (by rw[kY,<-Nat.mul_assoc];omega) e2 w2 hS hS) ?_;rintro _ w3 ⟨u,rfl,IR,Qj⟩;refine Wx rfl ?_;refine Qm ((i+1:Nat):Int) (by show((i:Nat):Int)+1=_;omega) (by omega) ?_;exact⟨(u,i+1),rfl,⟨Qg.trans Qj,IQ,IR⟩,by show p-f-(i+1)<p-f-i;omega⟩
 ·have IQ:i=p-f:=by simp only at c1;omega
  refine⟨_,rfl,⟨A,mm,c,N,rfl,hS,?_⟩,Qg⟩;rw[IQ,<-Nat.pow_add,show n-p+(p-f)=n-f by omega] at xp;exact xp
theorem hQi {c:Cx}{o:Oper}{S:Env}{w:World}{K:Env->World->Prop}{Q:Zd}{x y z:Operand}{ts:Array TypeId}{k1 k2 k3:IntKind}(ho:o.op= .call ⟨.builtin .max, #[x,y,z],ts⟩)(hx:S.ev x=some (.int k1 0))(hy:S.ev y=some (.int k2 0))(hz:S.ev z=some (.int k3 0))
  (kk:Xf c S o.dst (.v (.int k1 0)) (λS=>K S w)):X3 c o S w K Q:=by
 refine Jh (w':=w) (v:=.int k1 0) (λa hf=>?_) kk;have e1:=hf.ev hx;have e2:=hf.ev hy;have e3:=hf.ev hz;simp[execOp,ho,resolve,invoke,builtin,e1,e2,e3,Builtin.max_,Builtin.max2]
theorem hQj {n:Nat}{nd:List Br}{x:Nat}(h:(x:Int)<2)(hn:n<=12):cH n nd x=n:=by
 unfold cH Qk;rw[Qe h];show min n 64=n;omega
theorem hQk {n i:Nat}{nd:List Br}{b:Br}(hb:nd[i]? =some b)(h0:0<=b.v)(hv:b.v<n):cH n nd (i+2)=b.v.toNat:=by
 unfold cH Qk;rw[if_neg (by omega),show(((i+2:Nat):Int)-2).toNat=i by omega,hb];simp only[xB,gT];omega
theorem EW {nd:List Br}{r:Int}(h:VD nd r){x:Int}:0<=Qk nd x:=by
 unfold Qk;split
 ·decide
 ·cases hb:nd[(x-2).toNat]? with
  | none=>simp
  | some b=>simpa using (h.1 _ b hb).1
theorem hQm (x:DV)(n:Nat)(hn:n<=12)(w:World)(hx:SB w x.A x.n x.c x.nd)(VW:J7 n x.nd x.r=true):
  Fn Tryz.prog 87 [Xg x.A x.n x.c x.r,.int .i64 n] w (λu w'=>∃v,u= .tuple #[v,.int .i64 0]/\NumIn w' (2^n) v/\Ext w w'):=by
 obtain⟨kR,aQq⟩:=rI.1 VW;have tm:=(eK.1 kR).2;have hl:=hx.2;have aZ:=hx.1.cap;have ZK:=hx.1.le;have lQC:=(eK.1 kR).1;simp only[maxLen] at aZ;refine QF (c:={c87 with cuts:=[]}) Qa Tryz.func87 rfl rfl rfl ?_;refine new (λw1 Qd Q2 Qh=>?_);refine new (λw2 Qg X9 Qw=>?_);have Q4:=Qd.trans Qg;have Uw:=Qh.ext Qg;refine Qs Uw rfl ?_;refine call (yC x.A x.n x.c x.nd x.r w2 (hx.ext Q4)) ?_;rintro _ w3 ⟨rfl,Qj⟩;have QQ:=Q4.trans Qj;refine Wx kR ?_;have Ux:=Uw.ext Qj;have fc:=Qw.ext Qj;refine Qv fc rfl ?_;refine Xy (by omega) ?_;refine Qv fc rfl ?_;refine Xy (by omega) ?_;refine Qp Ux rfl ?_;refine loop Qa [35] (λi:Nat=>[.int .i64 i]) (λi w'=>Ext w3 w'/\i<=x.n) (λi _=>x.n-i) 0 rfl ⟨Ext.refl _,XM _⟩ ?_;rintro i w4 ⟨Qq,hi⟩;refine QB (λc1=>?_) (λc1=>?_)
 ·have Q7:i<x.n:=by omega
  refine Zo Y5 ((hx.ext QQ).ext Qq) rfl Q7 (λp b hb hc=>?_);refine J4 (vs:=b.cells) rfl hc ?_;refine new (λw5 Qt Kv QH=>?_);refine Qx QH rfl (sc rfl) (λw6 Wd _ Xh=>?_);have Xx:Ext w4 w6:=X0 Qt QH Wd;have KY:=aQq b (Xe hb);refine Qv Xh rfl ?_;refine Qv ((fc.ext Qq).ext Xx) rfl ?_;refine Xy (by omega) ?_;refine Qm ((i+1:Nat):Int) (by show((i:Nat):Int)+1=_;omega) (by omega) ?_;exact⟨i+1,rfl,⟨Qq.trans Xx,Q7⟩,by show x.n-(i+1)<x.n-i;omega⟩
 have XF:=QQ.trans Qq;have Uy:=Ux.ext Qq;have Hh:=fc.ext Qq;refine Qp Uy rfl ?_;refine Qm ((x.n+2:Nat):Int) (by omega) (by omega) ?_;refine yh Qa rfl rfl rfl rfl rfl rfl rfl rfl (by show 24*(x.n+2)<=_;omega) (by unfold maxLen;omega) (λw5 Qt Kv QH=>?_);refine new (λw6 Q6 cL Xh=>?_);refine Kq Xh (by decide) (λw7 Q8 QY=>?_);have Vb:Ext w5 w7:=Q8.ext Q6 (λi hi=>by omega);have YS:=Q8.size;have jQJ:=QH.ext Vb;have lQD:=Vb.size;refine XJ Qa (λw'=>Mod (·=w4.heap.size) w7 w') 4 [(true,0),(false,1),(true,2),(false,3)] (by kernel_rfl) (Mod.of_ext _ (Ext.drew w7)) ?_;have ns:¬w5.heap.size=w4.heap.size:=by omega
 refine QL (v:=.slice (some ⟨w4.heap.size,0,none⟩) (x.n+2) (x.n+2)) (λw' Qb=>by rw[(QY.mod Qb ns).cell0];rfl) ?_;refine call (Nt.of_fn 1 w7.drew (by decide)) ?_;rintro _ w8 ⟨A8,c8,rfl,gi,Q9⟩;have J2:Ext w7 w8:=(Ext.drew w7).trans Q9;refine⟨Mod.of_ext _ J2,?_⟩;refine index (j:=1) (by omega) ?_;have Xp:=jQJ.ext J2;refine XK Xp (by simp) (λw9 Zc JM=>?_);have KK:Mod (·=w4.heap.size) w7 w9:=(Mod.of_ext _ J2).trans Zc (λi hi=>.inl hi);refine⟨KK,?_⟩;have sw:Ext w4 w9:=KK.ext (Qt.trans Vb) (λi hi=>by omega);have dN:=KK.size;refine new (λQG Zw vl J9=>?_);refine Kq J9 (by decide) (λQD ZQ ZU=>?_);have eZ:Ext w9 QD:=ZQ.ext Zw (λi hi=>by omega);have bK:=sw.trans eZ;have sm:=ZQ.size;have YB:=XF.trans bK;have jQK:∀u∈(List.replicate (x.n+2) (Value.slice none 0 0)).set 1 (.slice A8 (Nt.JJ 1).length c8),∃A m c,u= .slice A m c:=λu hu=>by
  rcases CX hu with hu | rfl
  ·exact⟨none,0,0,CM hu⟩
  ·exact⟨_,_,_,rfl⟩
 have K0:CtK QD x n w1.heap.size w.heap.size w5.heap.size w9.heap.size w4.heap.size ((List.replicate (x.n+2) (Value.slice none 0 0)).set 1 (.slice A8 (Nt.JJ 1).length c8)):=by
  refine⟨Hh.ext bK,Uy.ext bK,hx.ext YB,(QY.mod KK ns).ext eZ,ZU,JM.ext eZ,by simp,jQK,λj v hv=>?_⟩;by_cases hj:1=j
  ·subst hj;rw[gU (by simp)] at hv;cases hv;rw[hQj (by decide) hn,xy];have h1:NumIn w8 (2^0) (.slice A8 (Nt.JJ 1).length c8):=⟨A8,_,c8,1,rfl,gi,QE _⟩
   exact(h1.mod Xp (λu hu=>⟨none,0,0,CM hu⟩) Zc).ext eZ
  ·rw[ew hj] at hv;have:=CM (Xe hv);subst this;exact⟨none,0,0,0,rfl,Sl.nil _ _,XM _⟩
 generalize (List.replicate (x.n+2) (Value.slice none 0 0)).set 1 (.slice A8 (Nt.JJ 1).length c8)=cs0 at*;refine Qp K0.hA rfl ?_;refine loop Qa [57] (λi:Nat=>[.int .i64 i]) (λi w'=>Mod (·=w4.heap.size) QD w'/\i<=x.n/\∃cs,CtK w' x n w1.heap.size w.heap.size w5.heap.size w9.heap.size w4.heap.size cs) (λi _=>x.n-i) 0 rfl ⟨Mod.refl _ _,XM _,cs0,K0⟩ ?_;rintro i Q5 ⟨Va,hi,cs,K⟩;have bL:Ext w Q5:=Va.ext YB (λj hj=>by have:=XF.size;omega);refine QB (λc1=>?_) (λc1=>?_)
 ·have Q7:i<x.n:=by omega
  refine Zo Y5 K.hx rfl Q7 (λp b hb hc=>?_);obtain⟨k1,k2,k3,k4,k5,k6,k7,k8,k9,k10⟩:=tm.1 i b hb;have KY:=aQq b (Xe hb);obtain⟨bv,hbe⟩:=CY k1;obtain⟨bl,aQr⟩:=CY k3;obtain⟨bh,aQs⟩:=CY k5;refine J4 (vs:=b.cells) rfl hc ?_;refine new (λXR XD Gt KJ=>?_);refine Qx KJ rfl (sc rfl) (λZa dL _ JN=>?_);have gz:Ext Q5 Za:=X0 XD KJ dL;have K14:=K.ext gz;refine Qp JN rfl ?_;refine Qv JN rfl ?_;refine Qm ((bv+1:Nat):Int) (by show b.v+1=_;omega) (by omega) ?_;have Je:∀y:Int,b.v<Qk x.nd y->∀m:Nat,y=m->bv+1<=cH n x.nd m:=λy hy m hm=>by
   subst hm;unfold cH;omega
  show fE _ _ [.int .i64 b.l,_,_,_] _ _ _;rw[aQr];refine call (EV hn K14 bl (bv+1) (by omega) (EW tm) (Je b.l k9 bl aQr)) ?_;rintro _ Ka ⟨ul,rfl,hUl,Ve⟩;refine Qp (JN.ext Ve) rfl ?_;refine Qv (JN.ext Ve) rfl ?_;refine Qm ((bv+1:Nat):Int) (by show b.v+1=_;omega) (by omega) ?_;show fE _ _ [.int .i64 b.h,_,_,_] _ _ _;rw[aQs];refine call (EV hn (K14.ext Ve) bh (bv+1) (by omega) (EW tm) (Je b.h k10 bh aQs)) ?_;rintro _ WV ⟨uh,rfl,⟨Ah,mh,ch,Nh,rfl,hSh,hNh⟩,VQ⟩;obtain⟨Al,ml,cl,Nl,rfl,IN,hNl⟩:=hUl.ext VQ;have hpw:2^(n-(bv+1))+2^(n-(bv+1))=2^(n-bv):=by
   rw[show n-bv=(n-(bv+1))+1 by omega,kY];omega
  refine call (P0 (b:=2^(n-bv)) (by omega) (Ze (Wu (by decide) (show n-bv<=12 by omega)) (by decide)) WV IN hSh) ?_;rintro _ Vf ⟨_,rfl,⟨Au,mu,cu,Nu,rfl,hSu,IR⟩,sk⟩;have hUs:NumIn Vf (2^(n-bv)) (.slice Au mu cu):=⟨Au,mu,cu,Nu,rfl,hSu,IR⟩
  have my:=(Ve.trans VQ).trans sk;have K17:=K14.ext my;refine hQi rfl rfl rfl rfl ?_;refine Wx rfl ?_;refine Qv K17.hC rfl ?_;refine Qm ((i+2:Nat):Int) (by show((i:Nat):Int)+2=_;omega) (by omega) ?_;refine index (j:=i+2) (by omega) ?_;refine XK (j:=i+2) K17.hS (by rw[K17.len];omega) (λKX vJ pf=>?_);refine Qm ((i+1:Nat):Int) (by show((i:Nat):Int)+1=_;omega) (by omega) ?_;have Uz:=gz.trans my;refine⟨i+1,rfl,⟨(Va.trans (Mod.of_ext (·=w4.heap.size) Uz) (λj hj=>.inl hj)).trans vJ (λj hj=>.inl hj),Q7,cs.set (i+2) (.slice Au mu cu),?_⟩,by show x.n-(i+1)<x.n-i;omega⟩;have VN:b.v=bv:=hbe;have ZL:cH n x.nd (i+2)=bv:=by rw[hQk hb k1 KY];omega
  have K18:Ext Q5 Vf:=Uz;have qd:Mod (·=w4.heap.size) Vf KX:=vJ;have n1:¬w1.heap.size=w4.heap.size:=by have:=Qj.size;have:=Qq.size;omega
  have n0:¬w.heap.size=w4.heap.size:=by have:=Qj.size;have:=Qq.size;omega
  have n9:¬w9.heap.size=w4.heap.size:=by have:=sw.size;omega
  have jQL:=K17.hx;refine⟨K17.hN.mod qd n1,K17.hA.mod qd n0,jQL.modo qd (λad ea h0=>by have:=SB.lt hx ad ea h0;have:=XF.size;omega),K17.hC.mod qd ns,K17.hP.mod qd n9,pf,by rw[bZ];exact K17.len,λu hu=>?_,λj v hv=>?_⟩
  ·rcases CX hu with hu | rfl
   ·exact K17.sl u hu
   ·exact⟨_,_,_,rfl⟩
  ·by_cases hj:i+2=j
   ·subst hj;rw[gU (by rw[K17.len];omega)] at hv;cases hv;rw[ZL];exact hUs.mod K17.hS K17.sl qd
   ·rw[ew hj] at hv;exact(K17.nums j v hv).mod K17.hS K17.sl qd
 ·obtain⟨rt,hrt⟩:=CY tm.2.1;have WR:=tm.2.2.1;refine Qp K.hA rfl ?_;show fE _ _ [.int .i64 x.r,_,_,_] _ _ _;rw[hrt];refine call (EV hn K rt 0 (by omega) (EW tm) (XM _)) ?_;rintro _ XR ⟨u,rfl,hU,XD⟩;exact⟨u,rfl,hU,bL.trans XD⟩
def Jj:Nat->List (List Nat)->List (Nat×List Nat)
 | _,[]=>[]
 | a,s::ls=>(a,s)::Jj (a+s.length+1) ls
theorem P4:∀(a:Nat)(l m:List (List Nat)),Jj a (l++m)=Jj a l++Jj (a+(Qo l).length) m
 | a,[],m=>by simp[Jj,Qo]
 | a,s::l,m=>by
  rw[Yd,Jj,Jj,P4 (a+s.length+1) l m,Yd,Y7];congr 3;simp only[Qy,Xk];omega
theorem P5 {l:List Nat}(h:bu l)(s:List Nat)(hs:10∉s):QU (l++(s++ [10]))=QU l++ [s]:=by
 have h1:=WG h;have h2:l++(s++ [10])=Qo (QU l++ [s]):=by rw[Ez,h1]
 rw[h2,ry (λt ht=>by
  rcases XB.1 ht with ht | ht
  ·exact lD l t ht
  ·rw[QJ.1 ht];exact hs)]
def eS (nm:List (List Nat)):List (List Nat)->Nat->BF->List (BF×BF)->List (Nat×List Nat×BF)
 | [],_,_,_=>[]
 | s::ls,a,k,op=>match Jb s with
  | .txt=>(a,s,k)::eS nm ls (a+s.length+1) k op
  | .ifd r=>match Yj nm r with
   | .ok d=>eS nm ls (a+s.length+1) (Js k d) ((k,V5 k d)::op)
   | .error _=>[]
  | .elif r=>match op with
   | []=>[]
   | x::aq=>match Yj nm r with
    | .ok d=>eS nm ls (a+s.length+1) (Js x.2 d) ((x.1,V5 x.2 d)::aq)
    | .error _=>[]
  | .els=>match op with
   | []=>[]
   | x::aq=>eS nm ls (a+s.length+1) x.2 (x::aq)
  | .en=>match op with
   | []=>[]
   | x::aq=>eS nm ls (a+s.length+1) x.1 aq
  | .inc _=>[]
abbrev zA (tx:List Nat)(s:Sg):List (Nat×List Nat×BF):=(Jj s.at_ (QU (WN tx s))).map (λq=>(q.1,q.2,s.o))
def jS (g:Gs):List (Nat×List Nat×BF):=g.sg.flatMap (zA g.tx)
theorem P6 {fs:List (List Nat×List Nat)}{tx:List Nat}{s:Sg}(h:SgOk fs tx s):bu (WN tx s)/\(WN tx s).length=s.t-s.f:=by
 have h1:=h.ft;have h2:=h.tl;have hl:(WN tx s).length=s.t-s.f:=by unfold WN;simp;omega
 refine⟨.inr ?_,hl⟩;rw[qp,hl];unfold WN;rw[List.getElem?_drop,tC (by omega),show s.f+(s.t-s.f-1)=s.t-1 by omega];exact h.nl
theorem EX {tx s:List Nat}:∀{l:List Sg},(∀x∈l,x.t<=tx.length)->l.flatMap (zA (tx++s))=l.flatMap (zA tx)
 | [],_=>rfl
 | x::l,h=>by rw[bX,bX,EX (λy hy=>h y (by simp[hy])),zA,gQi (h x (by simp))]
theorem hQn {fs:List (List Nat×List Nat)}{n p:Nat}{k:BF}{g g':Gs}{s:List Nat}(h:GInv fs g)(hc:lO n p k g)(hs:10∉s)(ha:VH (s++ [10]) n p k g=some g'):jS g'=jS g++ [(p,s,k)]:=by
 unfold VH at ha;split at ha
 ·cases ha
 cases ha;cases hf:g.fr with
 | true=>
  rw[Qe rfl,jG];unfold jS;simp only;rw[ce,EX (λx hx=>(h.ok x hx).tl)];congr 1;simp only[bX,xL,YL];have e:WN (g.tx++(s++ [10])) ⟨g.tx.length,g.tx.length+(s++ [10]).length,n,p,k⟩=[]++(s++ [10]):=by
   unfold WN;simp only;rw[Jz (by simp),xI]<;>rfl
  show(Jj p (QU (WN _ _))).map _=_;rw[e,P5 (.inl rfl) s hs]<;>rfl
 | false=>
  rw[if_neg (by decide)];obtain⟨l,y,e,e1,e2,e3⟩:=hc hf;have Jn:=h.ch;have Zl:=h.ok;rw[e] at Jn Zl;rw[ChG.snoc] at Jn;have hy:=Zl y (by simp);rw[e,jG];unfold jS;simp only;rw[e,ce,ce,EX (λx hx=>(Zl x (by simp[hx])).tl),KO];congr 1;have h1:=hy.ft;have h2:=Jn.2;have hp:=P6 hy;have e4:WN (g.tx++(s++ [10])) {y with t:=g.tx.length+(s++ [10]).length}=WN g.tx y++(s++ [10]):=by
   unfold WN;simp only;rw[Jz (by simp),List.drop_append_of_le_length (by omega),h2,qm]
  simp only[bX,xL,YL];show(Jj y.at_ (QU (WN _ {y with t:=g.tx.length+(s++ [10]).length}))).map _=_;rw[e4,P5 hp.1 s hs,P4,WG hp.1,hp.2,e2,et];show _=(Jj y.at_ (QU (WN g.tx y))).map (λq=>(q.1,q.2,y.o))++_;rw[e3]<;>rfl
def ChA:List Sg->Nat->Prop
 | [],_=>True
 | s::l,p=>(∀x∈l,s.at_+(s.t-s.f)<=x.at_)/\s.at_+(s.t-s.f)<=p/\ChA l p
theorem ChA.mono {p q:Nat}(h:p<=q):∀{l:List Sg},ChA l p->ChA l q
 | [],_=>trivial
 | _::_,⟨h1,h2,h3⟩=>⟨h1,by omega,h3.mono h⟩
theorem ChA.snoc {x:Sg}{p q:Nat}(hx:p<=x.at_)(hq:x.at_+(x.t-x.f)<=q):∀{l:List Sg},ChA l p->ChA (l++ [x]) q
 | [],_=>⟨(λ_ h=>by cases h),hq,trivial⟩
 | s::l,⟨h1,h2,h3⟩=>⟨λy hy=>by
   rcases XB.1 hy with hy | hy
   ·exact h1 y hy
   ·rw[QJ.1 hy];omega,by omega,ChA.snoc hx hq h3⟩
theorem mQz {x y:Sg}{p q:Nat}(hx:y.at_=x.at_)(hq:y.at_+(y.t-y.f)<=q)(gH:p<=q):∀{l:List Sg},ChA (l++ [x]) p->ChA (l++ [y]) q
 | [],_=>⟨(λ_ h=>by cases h),hq,trivial⟩
 | s::l,⟨h1,h2,h3⟩=>⟨λz hz=>by
   rcases XB.1 hz with hz | hz
   ·exact h1 z (by simp[hz])
   ·rw[QJ.1 hz,hx];exact h1 x (by simp),by omega,mQz hx hq gH h3⟩
theorem hQo {fs:List (List Nat×List Nat)}{n p:Nat}{k:BF}{g g':Gs}{s:List Nat}(h:GInv fs g)(hc:lO n p k g)(hp:ChA g.sg p)(ha:VH (s++ [10]) n p k g=some g'):ChA g'.sg (p+s.length+1):=by
 unfold VH at ha;split at ha
 ·cases ha
 cases ha;cases hf:g.fr with
 | true=>
  rw[Qe rfl,jG];exact hp.snoc (QE p) (by simp;omega)
 | false=>
  rw[if_neg (by decide)];obtain⟨l,y,e,e1,e2,e3⟩:=hc hf;have Jn:=h.ch;rw[e] at Jn hp;rw[ChG.snoc] at Jn;have hy:=(h.ok y (by rw[e];simp)).ft;rw[e,jG];exact mQz (p:=p) (q:=p+s.length+1) (x:=y) (y:={y with t:=g.tx.length+(s++ [10]).length}) rfl (by simp only[Qy,nF];omega) (by omega) hp
theorem P7 {nm:List (List Nat)}{fs:List (List Nat×List Nat)}{n d0:Nat}{inc:oG}{x:List Nat×List Nat}(hx:fs[n]? =some x)
  (hi:∀r ln d k g g',inc r ln d k g≠ .ok g'):∀(ls:List (List Nat)) (ln at_:Nat) (k:BF) (op:List Se) (g g':Gs),eL ls->
  x.2.drop at_=Qo ls->at_<=x.2.length->GInv fs g->lO n at_ k g->ChA g.sg at_->ZO nm n d0 inc ls ln at_ k op g= .ok g'->jS g'=jS g++eS nm ls at_ k (Pi op)/\ChA g'.sg (at_+(Qo ls).length)
 | [],ln,at_,k,op,g,g',_,_,_,hg,_,Jn,hr=>by
  cases op with
  | nil=>simp only[ZO,Except.ok.injEq] at hr;subst hr;exact⟨by rw[eS,YL];rfl,Jn⟩
  | cons _ _=>simp[ZO] at hr
 | s::ls,ln,at_,k,op,g,g',UA,hd,cY,hg,hc,Jn,hr=>by
  have Xu:x.2.drop at_=(s++ [10])++Qo ls:=by rw[hd,Y7];simp
  have hL:(s++ [10]).length=s.length+1:=by simp
  have Xb:x.2.length-at_=s.length+1+(Qo ls).length:=by
   have:=QN List.length Xu;simp only[Y1,Qy,Xk,Z8] at this;omega
  have hu:at_+(Qo (s::ls)).length=at_+s.length+1+(Qo ls).length:=by rw[Y7];simp;omega
  have bG:x.2.drop (at_+s.length+1)=Qo ls:=by
   rw[show at_+s.length+1=at_+(s++ [10]).length by simp;omega,<-tw,Xu,xI]
  have jQM:10∉s:=UA s (by simp);have ih:=λk op g g' h1 h2 h3=>P7 (nm:=nm) (d0:=d0) hx hi ls (ln+1) (at_+s.length+1) k op g g' (λt ht=>UA t (by simp[ht])) bG (by omega) h1 h2 h3
  have cf:∀k' (g:Gs),lO n (at_+s.length+1) k' {g with fr:=true}:=λk' g h=>by cases h
  have Ct:ChA g.sg (at_+s.length+1):=Jn.mono (by omega);rw[ZO.eq_def] at hr;simp only at hr;rw[hu,eS.eq_def];simp only;cases XZ:Jb s with
  | txt=>
   rw[XZ] at hr;simp only at hr ⊢;cases ha:VH (s++ [10]) n at_ k g with
   | none=>rw[ha] at hr;cases hr
   | some g1=>
    rw[ha] at hr;simp only at hr;obtain⟨i1,i2⟩:=Pb hg hc hx (by rw[hL,<-nC,bG];exact Xu) (by rw[hL];omega) (by simp) ha;obtain⟨j1,j2⟩:=ih k op g1 g' i1 (by rw[hL,<-nC] at i2;exact i2) (hQo hg hc Jn ha) hr;exact⟨by rw[j1,hQn hg hc jQM ha,KO];rfl,j2⟩
  | ifd r=>
   rw[XZ] at hr;simp only at hr ⊢;cases hs:Yj nm r with
   | error e=>rw[hs] at hr;cases hr
   | ok d=>
    rw[hs] at hr;simp only at hr ⊢;split at hr
    ·cases hr
    ·exact ih _ _ _ _ (hg.fr true) (cf _ _) Ct hr
  | inc r=>
   rw[XZ] at hr;simp only at hr;cases hs:inc r (ln+1) (d0+op.length) k g with
   | error e=>rw[hs] at hr;cases hr
   | ok g1=>exact Xm hs (hi _ _ _ _ _ _)
  | elif r=>
   rw[XZ] at hr;cases op with
   | nil=>cases hr
   | cons y op=>
    simp only at hr ⊢;split at hr
    ·cases hr
    ·cases hs:Yj nm r with
     | error e=>rw[hs] at hr;cases hr
     | ok d=>rw[hs] at hr;exact ih _ _ _ _ (hg.fr true) (cf _ _) Ct hr
  | els=>
   rw[XZ] at hr;cases op with
   | nil=>cases hr
   | cons y op=>
    simp only at hr ⊢;split at hr
    ·cases hr
    ·exact ih y.re ({y with ot:=true}::op) {g with fr:=true} g' (hg.fr true) (cf _ _) Ct hr
  | en=>
   rw[XZ] at hr;cases op with
   | nil=>cases hr
   | cons y op=>exact ih y.ou op {g with fr:=true} g' (hg.fr true) (cf _ _) Ct hr
def fF (t:List Nat):List (List Nat×List Nat):=[([102],t)]
theorem EY {rd s:List Nat}{e:Int}(t:List Nat)(h:0∈rd):∀m,cA (Ja ((fF t).map (·.1))) rd s≠ .ok m:=λm hm=>by
 obtain⟨h1,tn,wZ⟩:=Eu hm;have:=jF wZ;have h0:m=0:=by simpa [fF] using this
 rw[h0] at h1;exact h1 h
theorem P8 {nm:List (List Nat)}{t:List Nat}{g:Gs}(hr:Y9 nm (fF t) [102]= .ok g):bu t/\jS g=eS nm (QU t) 0 (λ_=>true) []/\ChA g.sg t.length/\GInv (fF t) g:=by
 have kQR:=(gQa hr).1;unfold Y9 at hr;split at hr
 ·cases hr
 cases KM:Y8 (fF t)with
 | some p=>rw[KM] at hr;cases hr
 | none=>
  rw[KM] at hr;simp only at hr;have hall:∀x∈fF t,oE x.1=true/\ac x.2=true/\x.2.length<=1048576:=by
   unfold Y8 at KM;rw[if_neg (by simp[fF])] at KM;exact ze _ [] 0 KM
  have ht:bu t:=lM (hall _ (QJ.2 rfl)).2.1;cases JY:Ja ((fF t).map (·.1)) [102] with
  | none=>rw[JY] at hr;cases hr
  | some n=>
   rw[JY] at hr;simp only at hr;have hn:n<(fF t).length:=by have:=jF JY;simpa using this
   have h0:n=0:=by simpa [fF] using hn
   subst h0;have hx:(fF t)[0]? =some ([102],t):=rfl;rw[aa,hx] at hr;simp only[xB,gT] at hr;obtain⟨a,b⟩:=P7 hx (λr ln d' k' g1 g2 hi=>by
    split at hi
    ·cases hi
    ·rename_i m he;exact EY t (by simp) (e:=0) _ he) (QU t) 0 0 (λ_=>true) [] ⟨[],[],true⟩ g (lD t) (by rw[xz,WG ht]) (XM _) (⟨rfl,λs hs=>by cases hs⟩:GInv (fF t) ⟨[],[],true⟩) (λh=>by cases h) trivial hr
   rw[WG ht,a8] at b;exact⟨ht,a,b,kQR⟩
structure Ed where
 fr:Int
 to_:Int
 tx:List Nat
 o:BF
structure EdV where
 fr:Int
 to_:Int
 tx:List Nat
 x:DV
def EdV.ed (e:EdV):Ed:=⟨e.fr,e.to_,e.tx,oD e.x⟩
def JS (f:List Nat)(a b:Nat):List Nat:=(f.drop a).take (b-a)
def Yk (f:List Nat)(c:Nat)(st:List Nat×Nat)(e:Ed):List Nat×Nat:=
 if e.o (bits c)=true then(st.1++JS f st.2 e.fr.toNat++e.tx,e.to_.toNat)else st
def aM (f:List Nat)(stop:Nat)(a:Nat)(es:List Ed)(c:Nat):List Nat:=
 (es.foldl (Yk f c) ([],a)).1++JS f (es.foldl (Yk f c) ([],a)).2 stop
def oM (a:Nat)(s:List Nat)(e:Ed):Bool:=decide ((a:Int)<=e.fr/\e.to_<=a+s.length)
def WQ (S:List Nat)(o:BF):Bool:=S.any (λc=>o (bits c))
def fY (es:List Ed)(S:List Nat)(a:Nat)(s:List Nat):List Ed:=es.filter (λe=>oM a s e&&WQ S e.o)
def iq (S:List Nat)(e b:Ed):Bool:= !(decide (b.fr<e.to_)&&WQ S (λv=>e.o v&&b.o v))
def dE (S:List Nat):List Ed->Bool
 | []=>true
 | e::es=>es.all (iq S e)&&dE S es
def eT (nm:List (List Nat))(f:List Nat)(es:List Ed)(S:List Nat)(a:Nat)(s:List Nat):Option (List (List Nat)):=
 if fY es S a s=[] then some [s]
 else if dE S (fY es S a s)=false then none
 else if S.all (λc=>KT (aM f (a+s.length+1) a (fY es S a s) c))=false then none
 else some (XV nm (aM f (a+s.length+1) a (fY es S a s)) nm.length 0 S)
def rL (g:Gs)(a:Nat):BF:=((g.sg.find? (λs=>decide (a<s.at_+(s.t-s.f)))).map (·.o)).getD (λ_=>false)
def dF (nm:List (List Nat))(d:BF)(g:Gs)(f:List Nat)(es:List Ed):List (List Nat)->Nat->Option (List (List Nat))
 | [],_=>some []
 | s::ls,a=>match (if Jb s= .txt then eT nm f es (QC nm.length (Js d (rL g a))) a s else some [s])with
  | none=>none
  | some l=>match dF nm d g f es ls (a+s.length+1)with
   | none=>none
   | some m=>some (l++m)
def ir (e:Ed)(q:Nat×List Nat):Bool:=decide ((q.1:Int)<=e.fr/\e.to_<=q.1+q.2.length/\e.fr<=e.to_/\Jb q.2= .txt)
def EZ (n:Nat)(f:List Nat)(e:Ed):Bool:=decide (QC n e.o≠ [])&&(Jj 0 (QU f)).any (ir e)
def jT (n:Nat)(f:List Nat):Int->List Ed->Bool
 | _,[]=>true
 | p,e::es=>EZ n f e&&decide (p<=e.fr)&&jT n f e.fr es
def E0 (
      nm:List (List Nat)) (o:BF) (f:List Nat) (es:List Ed):Except Int (List Nat):=
 match Y9 nm (fF f) [102] with
  | .error p=>.error p.e
  | .ok g=>if jT nm.length f 0 es=false then .error 291
   else match dF nm o g f es (QU f) 0 with
    | none=>.error 291
    | some l=>if 1048576<(Qo l).length then .error 2
     else match Y9 nm (fF (Qo l)) [102] with
      | .error p=>if p.e=2 then .error 2 else .ok (Qo l)
      | .ok _=>.ok (Qo l)
noncomputable def rM (nm:List (List Nat))(x:DV)(f:List Nat)(es:List EdV):Except Int (List Nat):=
 if ZJ nm=false∨J7 nm.length x.nd x.r=false then .error 1
 else if es.all (λe=>J7 nm.length e.x.nd e.x.r)=true then E0 nm (oD x) f (es.map EdV.ed)
 else match Y9 nm (fF f) [102] with
  | .error p=>.error p.e
  | .ok _=>.error 291
theorem hQp {g:Gs}{a:Nat}{s:List Nat}{k:BF}(h:(a,s,k)∈jS g):∃x∈g.sg,x.o=k/\(a,s)∈Jj x.at_ (QU (WN g.tx x)):=by
 obtain⟨x,hx,hm⟩:=fz.1 h;obtain⟨q,hq,e⟩:=ZY.1 hm;simp only[Prod.mk.injEq] at e;obtain⟨e1,e2,e3⟩:=e;refine⟨x,hx,e3,?_⟩;rw[<-e1,<-e2];exact hq
theorem lR:∀{ls:List (List Nat)}{p a:Nat}{s:List Nat},(a,s)∈Jj p ls->p<=a/\a+s.length+1<=p+(Qo ls).length
 | [],p,a,s,h=>by cases h
 | t::ls,p,a,s,h=>by
  rw[Y7];simp only[Qy,Xk];rcases QX.1 h with h | h
  ·cases h;omega
  ·have:=lR h;omega
theorem ChA.later {x y:Sg}{p:Nat}:∀{l:List Sg}{i j:Nat},ChA l p->l[i]? =some x->l[j]? =some y->i<j->x.at_+(x.t-x.f)<=y.at_
 | [],i,j,_,h,_,_=>by simp at h
 | z::l,i,j+1,⟨h1,h2,h3⟩,hi,hj,Xa=>by
  have fi:l[j]? =some y:=by simpa using hj
  cases i with
  | zero=>
   have:z=x:=by simpa using hi
   subst this;exact h1 y (Xe fi)
  | succ i=>exact ChA.later h3 (by simpa using hi) fi (by omega)
 | z::l,i,0,_,_,_,Xa=>by omega
structure SegAt (g:Gs) (a:Nat) (k:BF) (i:Nat) (x:Sg):Prop where
 get:g.sg[i]? =some x
 lo:x.at_<=a
 hi:a<x.at_+(x.t-x.f)
 o:x.o=k
 first:∀j y,g.sg[j]? =some y->j<i->y.at_+(y.t-y.f)<=a
 last:∀j y,g.sg[j]? =some y->i<j->a<y.at_
theorem hQq {fs:List (List Nat×List Nat)}{g:Gs}{p a:Nat}{s:List Nat}{k:BF}(hi:GInv fs g)(hc:ChA g.sg p)(h:(a,s,k)∈jS g):∃i x,SegAt g a k i x/\a+s.length+1<=x.at_+(x.t-x.f):=by
 obtain⟨x,hx,hk,hm⟩:=hQp h;obtain⟨i,gJ⟩:=be.1 hx;have hp:=P6 (hi.ok x hx);have ho:=lR hm;rw[WG hp.1,hp.2] at ho;refine⟨i,x,⟨gJ,ho.1,by omega,hk,λj y hj Xa=>?_,λj y hj Xa=>?_⟩,ho.2⟩
 ·have:=hc.later hj gJ Xa;omega
 ·have:=hc.later gJ hj Xa;omega
theorem P9 {α:Type}{p:α->Bool}:∀{l:List α}{i:Nat}{x:α},l[i]? =some x->p x=true->(∀j y,l[j]? =some y->j<i->p y=false)->l.find? p=some x
 | [],i,x,h,_,_=>by simp at h
 | y::l,0,x,h,hp,_=>by
  have:y=x:=by simpa using h
  subst this;rw[aQG hp]
 | y::l,i+1,x,h,hp,hj=>by
  rw[CN (by rw[hj 0 y rfl (by omega)];decide)];exact P9 (by simpa using h) hp (λj z hz Xa=>hj (j+1) z (by simpa using hz) (by omega))
theorem SegAt.cnd {g:Gs}{a:Nat}{k:BF}{i:Nat}{x:Sg}(h:SegAt g a k i x):rL g a=k:=by
 unfold rL;rw[P9 (p:=λs:Sg=>decide (a<s.at_+(s.t-s.f))) h.get (XX h.hi) (λj y hj Xa=>Zf (by have:=h.first j y hj Xa;omega))];exact h.o
theorem Ra:∀{ls:List (List Nat)}{p a:Nat}{s:List Nat},(a,s)∈Jj p ls->∃i,ls[i]? =some s/\a=p+(Qo (ls.take i)).length
 | [],p,a,s,h=>by cases h
 | t::ls,p,a,s,h=>by
  rcases QX.1 h with h | h
  ·cases h;exact⟨0,rfl,by simp[Qo]⟩
  ·obtain⟨i,h1,h2⟩:=Ra h;refine⟨i+1,by simpa using h1,?_⟩;rw[CR,Y7];simp only[Qy,Xk];omega
theorem Rb:∀{ls:List (List Nat)}{p a b:Nat}{s t:List Nat}{x:Nat},(a,s)∈Jj p ls->(b,t)∈Jj p ls->a<=x->x<=a+s.length->b<=x->x<=b+t.length->a=b/\s=t
 | [],p,a,b,s,t,x,h,_,_,_,_,_=>by cases h
 | u::ls,p,a,b,s,t,x,h,h',h1,h2,h3,h4=>by
  rcases QX.1 h with h | h
  ·cases h;rcases QX.1 h' with h' | h'
   ·cases h';exact⟨rfl,rfl⟩
   ·have:=lR h';omega
  ·rcases QX.1 h' with h' | h'
   ·cases h';have:=lR h;omega
   ·exact Rb h h' h1 h2 h3 h4
theorem E1:∀{ls:List (List Nat)}{p x:Nat},p<=x->x<p+(Qo ls).length->∃a s,(a,s)∈Jj p ls/\a<=x/\x<=a+s.length
 | [],p,x,h1,h2=>by simp[Qo] at h2;omega
 | t::ls,p,x,h1,h2=>by
  rw[Y7] at h2;simp only[Qy,Xk] at h2;by_cases h:x<=p+t.length
  ·exact⟨p,t,LD,h1,h⟩
  ·obtain⟨a,s,hm,h3,h4⟩:=E1 (ls:=ls) (p:=p+t.length+1) (x:=x) (by omega) (by omega);exact⟨a,s,tH _ hm,h3,h4⟩
theorem Rc {ls:List (List Nat)}{a:Nat}{s:List Nat}{e:Ed}(hm:(a,s)∈Jj 0 ls)(h1:(a:Int)<=e.fr)(h2:e.fr<=a+s.length)(h3:e.fr<=e.to_):
  (Jj 0 ls).any (ir e)=decide (e.to_<=a+s.length/\Jb s= .txt):=by
 by_cases h:e.to_<=a+s.length/\Jb s= .txt
 ·rw[XX h];exact tI.2 ⟨(a,s),hm,XX ⟨h1,h.1,h3,h.2⟩⟩
 ·rw[Zf h];refine ez.2 (λha=>?_);obtain⟨⟨b,t⟩,hb,hp⟩:=tI.1 ha;have hp:=fB hp;obtain⟨p1,p2,p3,p4⟩:=hp;simp only at p1 p2 p3 p4;obtain⟨x,hx⟩:=CY (a:=e.fr) (by omega);obtain⟨q1,q2⟩:=Rb (x:=x) hm hb (by omega) (by omega) (by omega) (by omega);subst q1;subst q2;exact h ⟨p2,p4⟩
theorem uP {nm:List (List Nat)}{f g:Nat->List Nat}:∀(k v:Nat)(l:List Nat),l≠ []->(∀c∈l,f c=g c)->XV nm f k v l=XV nm g k v l
 | 0,v,l,hl,h=>by rw[XV,XV,h _ (zm hl)]
 | k+1,v,l,hl,h=>by
  rw[rG hl,rG hl];split
  ·exact uP k (v+1) l hl h
  ·rename_i h0;have n1:l.filter (λc=> !c.testBit v)≠ []:=λe=>h0 (.inl e)
   have n2:l.filter (λc=>c.testBit v)≠ []:=λe=>h0 (.inr e)
   rw[uP k (v+1) _ n1 (λc hc=>h c (KP.1 hc).1),uP k (v+1) _ n2 (λc hc=>h c (KP.1 hc).1)]
structure AV where
 o:BF
 d:List Nat
 a:Nat
def VM (n:Nat)(f:List Nat)(e:Ed)(v:AV):List AV:=
 if QC n (Js v.o e.o)=[] then(if QC n v.o=[] then [] else [v])
 else⟨Js v.o e.o,v.d++JS f v.a e.fr.toNat++e.tx,e.to_.toNat⟩::(if QC n (V5 v.o (Js v.o e.o))=[] then [] else [⟨V5 v.o (Js v.o e.o),v.d,v.a⟩])
structure VI (n:Nat) (f:List Nat) (S:List Nat) (a:Nat) (es:List Ed) (vs:List AV):Prop where
 cov:∀c∈S,∃v∈vs,v.o (bits c)=true
 ne:∀v∈vs,QC n v.o≠ []
 st:∀v∈vs,∀c∈QC n v.o,c∈S/\es.foldl (Yk f c) ([],a)=(v.d,v.a)
theorem VI.start {n:Nat}{f:List Nat}{o:BF}{a:Nat}(h:QC n o≠ []):VI n f (QC n o) a [] [⟨o,[],a⟩]:=
 ⟨λc hc=>⟨_,QJ.2 rfl,(Z0.1 hc).2⟩,λv hv=>by rw[QJ.1 hv];exact h,λv hv c hc=>by rw[QJ.1 hv] at hc ⊢;exact⟨hc,rfl⟩⟩
theorem VI.step {n:Nat}{f:List Nat}{S:List Nat}{a:Nat}{es:List Ed}{vs:List AV}(h:VI n f S a es vs)(hS:∀c∈S,c<2^n)(e:Ed):VI n f S a (es++ [e]) (vs.flatMap (VM n f e)):=by
 have kQS:∀c,(es++ [e]).foldl (Yk f c) ([],a)=Yk f c (es.foldl (Yk f c) ([],a)) e:=λc=>by rw[LC]<;>rfl
 refine⟨λc hc=>?_,λv hv=>?_,λv hv c hc=>?_⟩
 ·obtain⟨v,hv,ny⟩:=h.cov c hc;have Iv:=hS c hc;have hm:c∈QC n v.o:=Z0.2 ⟨Iv,ny⟩;by_cases hb:QC n (Js v.o e.o)=[]
  ·refine⟨v,fz.2 ⟨v,hv,?_⟩,ny⟩;unfold VM;rw[Qe hb,if_neg (λe0=>by rw[e0] at hm;cases hm)];exact QJ.2 rfl
  ·cases tq:e.o (bits c)with
   | true=>
    refine⟨⟨Js v.o e.o,v.d++JS f v.a e.fr.toNat++e.tx,e.to_.toNat⟩,fz.2 ⟨v,hv,?_⟩,?_⟩
    ·unfold VM;rw[if_neg hb];exact LD
    ·show(v.o (bits c)&&e.o (bits c))=true;rw[ny,tq]<;>rfl
   | false=>
    have pQ:(V5 v.o (Js v.o e.o)) (bits c)=true:=by
     show(v.o (bits c) && !(v.o (bits c)&&e.o (bits c)))=true;rw[ny,tq]<;>rfl
    refine⟨⟨V5 v.o (Js v.o e.o),v.d,v.a⟩,fz.2 ⟨v,hv,?_⟩,pQ⟩;unfold VM;rw[if_neg hb,if_neg (λe0=>by
     have:c∈QC n (V5 v.o (Js v.o e.o)):=Z0.2 ⟨Iv,pQ⟩;rw[e0] at this;cases this)]
    simp
 ·obtain⟨v0,dO,hv⟩:=fz.1 hv;unfold VM at hv;split at hv
  ·split at hv
   ·cases hv
   ·rename_i h1;rw[QJ.1 hv];exact h1
  ·rename_i h1;rcases QX.1 hv with rfl | hv
   ·exact h1
   ·split at hv
    ·cases hv
    ·rename_i h2;rw[QJ.1 hv];exact h2
 ·obtain⟨v0,dO,hv⟩:=fz.1 hv;rw[kQS];unfold VM at hv;split at hv
  ·rename_i h1;split at hv
   ·cases hv
   ·rw[QJ.1 hv] at hc ⊢;obtain⟨q1,q2⟩:=h.st v0 dO c hc;refine⟨q1,?_⟩;rw[q2];unfold Yk;rw[if_neg];intro tq;have:c∈QC n (Js v0.o e.o):=Z0.2 ⟨(Z0.1 hc).1,by show(v0.o (bits c)&&e.o (bits c))=true;rw[show v0.o (bits c)=true from (Z0.1 hc).2,tq];rfl⟩;rw[h1] at this;cases this
  ·rcases QX.1 hv with rfl | hv
   ·obtain⟨c1,c2⟩:=Z0.1 hc;have c2:(v0.o (bits c)&&e.o (bits c))=true:=c2;rw[JR] at c2;obtain⟨q1,q2⟩:=h.st v0 dO c (Z0.2 ⟨c1,c2.1⟩);refine⟨q1,?_⟩;rw[q2];unfold Yk;rw[Qe c2.2]
   ·split at hv
    ·cases hv
    ·rw[QJ.1 hv] at hc ⊢;obtain⟨c1,c2⟩:=Z0.1 hc;have c2:(v0.o (bits c) && !(v0.o (bits c)&&e.o (bits c)))=true:=c2;have c3:v0.o (bits c)=true/\e.o (bits c)=false:=by
      cases h1:v0.o (bits c)<;>cases h2:e.o (bits c)<;>rw[h1,h2] at c2<;>simp_all
     obtain⟨q1,q2⟩:=h.st v0 dO c (Z0.2 ⟨c1,c3.1⟩);refine⟨q1,?_⟩;rw[q2];unfold Yk;rw[if_neg (by rw[c3.2];decide)]
theorem Re (f:List Nat)(c:Nat):∀(es:List Ed)(st:List Nat×Nat),(es.foldl (Yk f c) st).2=st.2∨∃e∈es,e.o (bits c)=true/\(es.foldl (Yk f c) st).2=e.to_.toNat
 | [],st=>.inl rfl
 | e::es,st=>by
  rw[tv];rcases Re f c es (Yk f c st e)with h | ⟨b,hb,h1,h2⟩
  ·by_cases he:e.o (bits c)=true
   ·refine .inr ⟨e,by simp,he,?_⟩;rw[h];unfold Yk;rw[Qe he]
   ·refine .inl ?_;rw[h];unfold Yk;rw[if_neg he]
  ·exact .inr ⟨b,by simp[hb],h1,h2⟩
theorem Rf {S:List Nat}:∀{es:List Ed}{i j:Nat}{e b:Ed},dE S es=true->es[i]? =some e->es[j]? =some b->i<j->iq S e b=true
 | [],i,j,e,b,_,h,_,_=>by simp at h
 | x::es,i,j+1,e,b,ha,hi,hj,Xa=>by
  rw[dE,JR,W5] at ha;have fi:es[j]? =some b:=by simpa using hj
  cases i with
  | zero=>
   have:x=e:=by simpa using hi
   subst this;exact ha.1 b (Xe fi)
  | succ i=>exact Rf ha.2 (by simpa using hi) fi (by omega)
 | x::es,i,0,e,b,_,_,_,Xa=>by omega
theorem hQr {f:List Nat}{S:List Nat}{es:List Ed}(ha:dE S es=true){a i c:Nat}{e:Ed}(hi:es[i]? =some e)(hc:c∈S)(tq:e.o (bits c)=true)(h0:(a:Int)<=e.fr)(hp:∀b∈es,0<=b.to_):
  (((es.take i).foldl (Yk f c) ([],a)).2:Int)<=e.fr:=by
 rcases Re f c (es.take i) ([],a)with h | ⟨b,hb,h1,h2⟩
 ·rw[h];exact h0
 ·rw[h2];obtain⟨j,hj⟩:=be.1 hb;have KE:j<i:=by
   apply Classical.byContradiction;intro hh;rw[CD] at hj;rw[if_neg hh] at hj;cases hj
  rw[tC KE] at hj;have:=Rf ha hj hi KE;unfold iq at this;have hm:WQ S (λv=>b.o v&&e.o v)=true:=tI.2 ⟨c,hc,by show(b.o (bits c)&&e.o (bits c))=true;rw[h1,tq];rfl⟩;rw[hm,Bool.and_true,Bool.not_eq_true',decide_eq_false_iff_not] at this;have:=hp b (Xe hj);omega
def K8 (ps:List Pr)(t:List Nat):Nat:=(ps.takeWhile (λp=>decide (p.t≠t))).length
def bE (ps:List Pr)(o:BF)(t:List Nat):List Pr:=match ps[K8 ps t]? with
 | some p=>ps.set (K8 ps t) ⟨λe=>p.o e||o e,p.t⟩
 | none=>ps++ [⟨o,t⟩]
theorem hQs (ps:List Pr)(t:List Nat):K8 ps t<=ps.length:=(CI _).length_le
theorem uQ (t:List Nat):∀ps:List Pr,(∀p,ps[K8 ps t]? =some p->p.t=t)/\∀j p,ps[j]? =some p->j<K8 ps t->p.t≠t
 | []=>⟨λp h=>by simp at h,λj p h=>by simp at h⟩
 | q::ps=>by
  obtain⟨h1,h2⟩:=uQ t ps;by_cases hq:q.t=t
  ·have e:K8 (q::ps) t=0:=by unfold K8;rw[List.takeWhile_cons_of_neg (by simpa using hq)]<;>rfl
   rw[e];exact⟨λp h=>by
              have:q=p:=by simpa using h
              rw[<-this];exact hq,λj p _ hj=>by omega⟩
  ·have e:K8 (q::ps) t=K8 ps t+1:=by unfold K8;rw[List.takeWhile_cons_of_pos (by simpa using hq)]<;>rfl
   rw[e];refine⟨λp h=>h1 p (by simpa using h),λj p h hj=>?_⟩;cases j with
   | zero=>
        have:q=p:=by simpa using h
        rw[<-this];exact hq
   | succ j=>exact h2 j p (by simpa using h) (by omega)
structure QI (n:Nat) (S:List Nat) (ver:Nat->List Nat) (vs:List AV) (ps:List Pr):Prop where
 cov:∀v∈vs,∀c∈QC n v.o,∃p∈ps,p.o (bits c)=true
 tx:∀(i j:Nat) (p q:Pr),ps[i]? =some p->ps[j]? =some q->p.t=q.t->i=j
 val:∀p∈ps,∀c∈QC n p.o,c∈S/\p.t=ver c
theorem QI.nil {n:Nat}{S:List Nat}{ver:Nat->List Nat}:QI n S ver [] []:=⟨(λv hv=>by cases hv),(λi j p q h=>by simp at h),(λp hp=>by cases hp)⟩
theorem QI.ins {n:Nat}{S:List Nat}{ver:Nat->List Nat}{vs:List AV}{ps:List Pr}(h:QI n S ver vs ps){v:AV}{t:List Nat}(hv:∀c∈QC n v.o,c∈S/\ver c=t):QI n S ver (vs++ [v]) (bE ps v.o t):=by
 obtain⟨s1,s2⟩:=uQ t ps;unfold bE;cases hg:ps[K8 ps t]? with
 | none=>
  have ZK:=CZ.1 hg;simp only;refine⟨λu hu c hc=>?_,λi j p q hi hj he=>?_,λp hp c hc=>?_⟩
  ·rcases XB.1 hu with hu | hu
   ·obtain⟨p,hp,Vx⟩:=h.cov u hu c hc;exact⟨p,by simp[hp],Vx⟩
   ·rw[QJ.1 hu] at hc;exact⟨⟨v.o,t⟩,by simp,(Z0.1 hc).2⟩
  ·have key:∀i (p:Pr),(ps++ [⟨v.o,t⟩])[i]? =some p->(ps[i]? =some p/\i<ps.length)∨(i=ps.length/\p.t=t):=λi p hi=>by
    by_cases Xa:i<ps.length
    ·rw[bY Xa] at hi;exact .inl ⟨hi,Xa⟩
    ·rw[Ws (by omega)] at hi;have:=(Zt.1 hi).1;simp at this;have e:i=ps.length:=by omega
     subst e;simp at hi;exact .inr ⟨rfl,by rw[<-hi]⟩
   rcases key i p hi with⟨h1,l1⟩ | ⟨h1,t1⟩<;>rcases key j q hj with⟨h2,l2⟩ | ⟨h2,t2⟩
   ·exact h.tx i j p q h1 h2 he
   ·exact Xm (he.trans t2) (s2 i p h1 (by omega))
   ·exact Xm (he.symm.trans t1) (s2 j q h2 (by omega))
   ·omega
  ·rcases XB.1 hp with hp | hp
   ·exact h.val p hp c hc
   ·rw[QJ.1 hp] at hc ⊢;obtain⟨a,b⟩:=hv c hc;exact⟨a,b.symm⟩
 | some p0=>
  have ht:=s1 p0 hg;have Xa:=(Zt.1 hg).1;simp only;generalize K8 ps t=i0 at*;have key:∀i (p:Pr),(ps.set i0 ⟨λe=>p0.o e||v.o e,p0.t⟩)[i]? =some p->(i≠i0/\ps[i]? =some p)∨(i=i0/\p=⟨λe=>p0.o e||v.o e,p0.t⟩):=λi p hi=>by
   by_cases tr:i0=i
   ·subst tr;rw[gU Xa] at hi;exact .inr ⟨rfl,(Option.some.inj hi).symm⟩
   ·rw[ew tr] at hi;exact .inl ⟨λe=>tr e.symm,hi⟩
  refine⟨λu hu c hc=>?_,λi j p q hi hj he=>?_,λp hp c hc=>?_⟩
  ·rcases XB.1 hu with hu | hu
   ·obtain⟨p,hp,Vx⟩:=h.cov u hu c hc;obtain⟨i,hi⟩:=be.1 hp;by_cases tr:i0=i
    ·subst tr;rw[hg] at hi;cases hi;exact⟨_,Xe (gU Xa),by simp only;rw[Vx];rfl⟩
    ·exact⟨p,Xe (i:=i) (by rw[ew tr];exact hi),Vx⟩
   ·rw[QJ.1 hu] at hc;refine⟨_,Xe (gU Xa),?_⟩;simp only;rw[show v.o (bits c)=true from (Z0.1 hc).2,Bool.or_true]
  ·rcases key i p hi with⟨n1,h1⟩ | ⟨h1,e1⟩<;>rcases key j q hj with⟨n2,h2⟩ | ⟨h2,e2⟩
   ·exact h.tx i j p q h1 h2 he
   ·rw[h2];exact h.tx i i0 p p0 h1 hg (by rw[he,e2])
   ·rw[h1];exact h.tx i0 j p0 q hg h2 (by rw[<-he,e1])
   ·omega
  ·obtain⟨i,hi⟩:=be.1 hp;rcases key i p hi with⟨_,h1⟩ | ⟨_,e1⟩
   ·exact h.val p (Xe h1) c hc
   ·subst e1;obtain⟨c1,c2⟩:=Z0.1 hc;have c2:(p0.o (bits c)||v.o (bits c))=true:=c2;rw[Bool.or_eq_true] at c2;rcases c2 with c2 | c2
    ·exact h.val p0 (Xe hg) c (Z0.2 ⟨c1,c2⟩)
    ·obtain⟨a,b⟩:=hv c (Z0.2 ⟨c1,c2⟩);exact⟨a,by rw[b];exact ht⟩
theorem QI.pa {n:Nat}{f:List Nat}{S:List Nat}{a:Nat}{es:List Ed}{ver:Nat->List Nat}{vs:List AV}{ps:List Pr}(h:QI n S ver vs ps)(hv:VI n f S a es vs)(hS:∀c∈S,c<2^n):PaOk S ps/\∀c∈S,fP ps c=ver c:=by
 have hp:PaOk S ps:=by
  refine⟨λc hc=>?_,λc hc i j p q hi hj h1 h2=>?_⟩
  ·obtain⟨v,kS,ny⟩:=hv.cov c hc;exact h.cov v kS c (Z0.2 ⟨hS c hc,ny⟩)
  ·refine h.tx i j p q hi hj ?_;rw[(h.val p (Xe hi) c (Z0.2 ⟨hS c hc,h1⟩)).2,(h.val q (Xe hj) c (Z0.2 ⟨hS c hc,h2⟩)).2]
 refine⟨hp,λc hc=>?_⟩;obtain⟨p,bO,Vx⟩:=hp.cov c hc;rw[hp.get hc bO Vx,(h.val p bO c (Z0.2 ⟨hS c hc,Vx⟩)).2]
def oN (n:Nat):List Nat->List Pr->Bool
 | R,[]=>decide (R=[])
 | R,p::ps=>(decide (QC n p.o≠ [])&&(QC n p.o).all (λc=>decide (c∈R))&&KT p.t)&&oN n (fW n R p.o) ps
def dG (nm:List (List Nat))(o:BF)(ps:List Pr):Except Int (List Nat):=
 if oN nm.length (QC nm.length o) ps=false then .error 290
 else if ps=[] then .ok []
 else if 1048576<(Qo (XV nm (fP ps) nm.length 0 (QC nm.length o))).length then .error 2
 else .ok (Qo (XV nm (fP ps) nm.length 0 (QC nm.length o)))
theorem Rg {n:Nat}:∀(ps:List (DV×List Nat))(R:List Nat),(∀p∈ps,J7 n p.1.nd p.1.r=true)->WO n R ps=oN n R (Zi ps)
 | [],R,_=>rfl
 | p::ps,R,h=>by
  have ih:=Rg ps (fW n R (oD p.1)) (λq hq=>h q (by simp[hq]));show(_&&WO n (fW n R (oD p.1)) ps)=_;rw[ih,h p (by simp),df]<;>rfl
theorem E2 {nm:List (List Nat)}{x:DV}{ps:List (DV×List Nat)}(hn:ZJ nm=true)(hx:J7 nm.length x.nd x.r=true)(h:∀p∈ps,J7 nm.length p.1.nd p.1.r=true):jO nm x ps=dG nm (oD x) (Zi ps):=by
 unfold jO dG;rw[if_neg (by rw[hn,hx];simp),Rg ps _ h];by_cases h0:ps=[]
 ·subst h0;rfl
 ·have h1:Zi ps≠ []:=λe=>h0 (by simpa [Zi] using e)
  rw[if_neg h0,if_neg h1]
def PrM (n:Nat):List Pr->List Pt->Prop
 | [],[]=>True
 | q::qs,p::ps=>(q.t=Qo p.2/\∀c,c<2^n->q.o (bits c)=decide (c∈p.1))/\PrM n qs ps
 | _,_=>False
theorem Rh {n:Nat}:∀{qs:List Pr}{ps:List Pt}{R:List Nat},PrM n qs ps->(∀c∈R,c<2^n)->(∀p∈ps,p.1≠ []/\KT (Qo p.2)=true/\∀c∈p.1,c∈R)->(∀c∈R,∃p∈ps,c∈p.1)->
  (∀(i j:Nat) (p q:Pt) (c:Nat),ps[i]? =some p->ps[j]? =some q->c∈p.1->c∈q.1->i=j)->oN n R qs=true
 | [],[],R,_,_,_,hc,_=>by
  cases R with
  | nil=>rfl
  | cons c R=>obtain⟨p,hp,_⟩:=hc c (by simp);cases hp
 | q::qs,p::ps,R,⟨⟨h1,h2⟩,hm⟩,hR,hp,hc,hd=>by
  obtain⟨p1,p2,p3⟩:=hp p (by simp);have Ko:∀c,c∈QC n q.o↔c∈p.1:=λc=>by
   rw[Z0];constructor
   ·rintro⟨a,b⟩;have:=h2 c a;rw[show q.o (bits c)=true from b] at this;exact fB this.symm
   ·intro a;have Kw:=hR c (p3 c a);exact⟨Kw,by show q.o (bits c)=true;rw[h2 c Kw,XX a]⟩
  have ih:=Rh (R:=fW n R q.o) hm (λc bP=>hR c (KP.1 bP).1) (λu hu=>by
   obtain⟨u1,u2,u3⟩:=hp u (by simp[hu]);refine⟨u1,u2,λc kT=>KP.2 ⟨u3 c kT,?_⟩⟩;have IB:=u3 c kT;obtain⟨j,hj⟩:=be.1 hu;have Ij:c∉p.1:=λqe=>by
    have:=hd 0 (j+1) p u c rfl (by simpa using hj) qe kT;omega
   rw[h2 c (hR c IB),Zf Ij];rfl) (λc bP=>by
   obtain⟨a,b⟩:=KP.1 bP;obtain⟨u,hu,kT⟩:=hc c a;rcases QX.1 hu with rfl | hu
   ·rw[h2 c (hR c a),XX kT] at b;cases b
   ·exact⟨u,hu,kT⟩) (λi j u v c hi hj hu hv=>by
   have:=hd (i+1) (j+1) u v c (by simpa using hi) (by simpa using hj) hu hv;omega)
  rw[oN,ih,Bool.and_true,JR,JR];refine⟨⟨XX (λe=>?_),W5.2 (λc bP=>XX (p3 c ((Ko c).1 bP)))⟩,by rw[h1];exact p2⟩;obtain⟨c,qe⟩:=gV _ p1;have:=(Ko c).2 qe;rw[e] at this;cases this
theorem Ri {n:Nat}{f:Nat->List (List Nat)}{S:List Nat}(hS:∀c∈S,c<2^n):∀{qs:List Pr}{ps:List Pt},PrM n qs ps->(∀p∈ps,∀c∈p.1,f c=p.2)->∀c∈S,(∃p∈ps,c∈p.1)->fP qs c=Qo (f c)
 | [],[],_,_,c,_,⟨p,hp,_⟩=>by cases hp
 | q::qs,p::ps,⟨⟨h1,h2⟩,hm⟩,ht,c,hc,fe=>by
  unfold fP;cases hq:q.o (bits c)with
  | true=>
   rw[aQG (by exact hq)];have:=h2 c (hS c hc);rw[hq] at this;have qe:=fB this.symm;show q.t=_;rw[h1,ht p (by simp) c qe]
  | false=>
   rw[CN (by rw[hq];decide)];refine Ri hS hm (λu hu=>ht u (by simp[hu])) c hc ?_;obtain⟨u,hu,kT⟩:=fe;rcases QX.1 hu with rfl | hu
   ·have:=h2 c (hS c hc);rw[hq,XX kT] at this;cases this
   ·exact⟨u,hu,kT⟩
theorem hQt {nm:List (List Nat)}{o:BF}{f:Nat->List (List Nat)}{qs:List Pr}{ps:List Pt}(hm:PrM nm.length qs ps)(hp:PtOk f (QC nm.length o) ps)(Je:∀c,KT (Qo (f c))=true)(QK:QC nm.length o≠ [])
  (Xb:(Qo (XV nm (λc=>Qo (f c)) nm.length 0 (QC nm.length o))).length<=1048576):
  dG nm o qs= .ok (Qo (XV nm (λc=>Qo (f c)) nm.length 0 (QC nm.length o))):=by
 have hS:∀c∈QC nm.length o,c<2^nm.length:=λc hc=>(Z0.1 hc).1
 have kR:oN nm.length (QC nm.length o) qs=true:=Rh hm hS (λp bO=>⟨hp.ne p bO,by
  obtain⟨c,hc⟩:=gV _ (hp.ne p bO);rw[<-(hp.tx p bO c hc).2];exact Je c,λc hc=>(hp.tx p bO c hc).1⟩) hp.cov hp.dj
 have hq:qs≠ []:=λe=>by
  subst e;have:=kR;rw[oN] at this;exact QK (fB this)
 have hw:=uP (nm:=nm) (f:=fP qs) (g:=λc=>Qo (f c)) nm.length 0 (QC nm.length o) QK (λc hc=>Ri hS hm (λp bO c hc=>(hp.tx p bO c hc).2) c hc (hp.cov c hc));unfold dG;rw[if_neg (by rw[kR];decide),if_neg hq,hw,if_neg (by omega)]
def iu (k:Int):List PanicEntry:=[{v:=.iface 34 (.int .i64 k),recovered:=false}]
theorem Yl (k:Int)(hk:k≠0)(w:World):FnP Tryz.prog 44 [.int .i64 k] w (λ_ _=>False) (λch w'=>ch=iu k/\w=w'):=by
 refine W6 (c:={Mi with cuts:=[]}) Qa Tryz.func44 rfl rfl rfl ?_;refine qA hk ?_;exact nZ rfl rfl ⟨rfl,rfl⟩
theorem Rj (A:Option Addr)(n c:Nat)(ls:List (List Nat))(w:World)(h:Sn w A n c (JI ls))(Xb:(Qo ls).length<=1000000000000000000):
  FnP Tryz.prog 50 [.slice A n c] w (λu w'=>(Qo ls).length<=1048576/\u= .string (Qf (Qo ls))/\Ext w w') (λch w'=>1048576<(Qo ls).length/\ch=iu 2/\w=w'):=by
 by_cases ZK:(Qo ls).length<=1048576
 ·exact(gQS A n c ls w h ZK).toP.mono (λv w' hh=>⟨ZK,hh.1,hh.2⟩) (λ_ _ hh=>hh)
 have hl:=ip h.1;have mZ:=uy ls;refine W6 (c:={Mj with cuts:=[]}) Qa Tryz.func50 rfl rfl rfl ?_;refine loop Qa [8,3] (λi:Nat=>[.int .i64 i,.int .i64 (Qo (ls.take i)).length]) (λi w'=>w=w'/\i<=n/\(Qo (ls.take i)).length<=1048576) (λi _=>n-i) 0 rfl ⟨rfl,XM _,by simp[Qo]⟩ ?_;rintro i _ ⟨rfl,hi,hbd⟩;refine QB (λc1=>?_) (λc1=>?_)
 ·have Q7:i<n:=by omega
  obtain⟨s,hs⟩:∃s,ls[i]? =some s:=⟨_,Xs (by omega)⟩
  have YH:ls.take (i+1)=ls.take i++ [s]:=by rw[VX,hs]<;>rfl
  have hu:=PH (ls.take i) s;rw[<-YH] at hu;have Sp:(Qo (ls.take (i+1))).length<=(Qo ls).length:=by
   have e5:Qo ls=Qo (ls.take (i+1))++Qo (ls.drop (i+1)):=by
    have e6:∀a b:List (List Nat),Qo (a++b)=Qo a++Qo b:=λa b=>by simp[Qo]
    rw[<-e6,qj]
   rw[e5,Qy];omega
  refine Vz h.1 Q7 (λad u hA kL Xz=>?_);rw[fX hs] at kL;cases kL;refine load Xz ?_;have XW:=XU (s++ [10]);rw[Qy,nF] at XW;refine Qm (((Qo (ls.take (i+1))).length:Nat):Int) (by rw[hu];omega) (by omega) ?_;refine QB (λd1=>?_) (λd1=>?_)
  ·refine XI (Yl 2 (by decide) w) (λ_ _ hf=>hf.elim) ?_;rintro ch _ ⟨rfl,rfl⟩;exact⟨by omega,rfl,rfl⟩
  ·refine Qm ((i+1:Nat):Int) (by show((i:Nat):Int)+1=_;omega) (by omega) ?_;exact⟨i+1,rfl,⟨rfl,Q7,by omega⟩,by show n-(i+1)<n-i;omega⟩
 ·have:i=n:=by omega
  subst this;rw[Jz (by omega)] at hbd;exact Xm hbd ZK
theorem hQu (nm:List (List Nat)):rx nm [] 1=if ZJ nm=true then(YN,0)else([],1):=by
 have h1:XC [] 1=0:=(aH 0 true).chk (by decide);have h2:WF [] 1=(XY (.c true) 0,0):=by
  rw[NZ h1];have e:cf [] 1= .c true:=rfl;rw[e,if_neg (by decide)]
 unfold rx;rw[h2];by_cases h:ZJ nm=true
 ·rw[Qe h,Qe h,Qe rfl,M3 h (NR (show VarsIn 64 (.c true) from trivial) (by decide)) (λx hx ho=>by
   rw[QJ.1 hx] at ho;exact Xm ho (by decide)),DY]
  rfl
 ·rw[if_neg h,if_neg h]
abbrev E3 (nm:List (List Nat))(x:DV):Prop:=ZJ nm=true/\J7 nm.length x.nd x.r=true
theorem hQv {l:List Nat}{N:Nat}(hl:l=Nt.JJ N)(hN:N<=4096):Nt.rK l=N/\Nt.jR l=true:=by
 have cX:N<4294967296^1024:=(show ∀k,0<k->N<4294967296^k from λk p=>Vy (show N<4294967296^1 by omega) (Wu (by decide) p)) 1024 (by decide);have Xb:(Nt.JJ N).length<=2:=(Nt.EO N 2).2 (by omega);obtain⟨e1,e2⟩:=Nt.PY (l:=l) (by rw[hl];exact Nt.rJ cX) (by rw[hl];exact Xb);exact⟨by rw[e1,hl,Nt.oK],e2⟩
theorem Rk (NA:Option Addr)(nn nc:Nat)(nm:List (List Nat))(x:DV)(UB:nm.length<=12)(Vw:Ke nm)(w:World)(hN:Sl w 1 NA nn nc (X4 nm))(hx:SB w x.A x.n x.c x.nd):
  FnP Tryz.prog 42 [.slice NA nn nc,Xg x.A x.n x.c x.r] w (λ_ w'=>E3 nm x/\Ext w w') (λch w'=>¬E3 nm x/\ch=iu 1/\Ext w w'):=by
 have Xb:nm.length=nn:=by have:=hN.len;rw[aF] at this;omega
 refine W6 (c:={c42 with cuts:=[]}) Qa Tryz.func42 rfl rfl rfl ?_;refine new (λw1 Qd Q2 Qh=>?_);refine call (bw true w1) ?_;rintro _ w2 ⟨rfl,Qg⟩;have Q4:=Qd.trans Qg;refine call (eQB nm NA none nn nc 0 0 [] 1 w2 (hN.ext Q4) Vw (SlS.nil _) (by
  have h1:XC [] 1=0:=(aH 0 true).chk (by decide);have h2:WF [] 1=(XY (.c true) 0,0):=by
   rw[NZ h1];have e:cf [] 1= .c true:=rfl;rw[e,if_neg (by decide)]
  rw[h2];show(ZE nm 0 (eJ (XY (.c true) 0))).length<=_;rw[DY];show YN.length<=_;decide)) ?_
 rintro _ w3 ⟨rfl,Qj⟩;have QQ:=Q4.trans Qj;rw[hQu nm];by_cases Zl:ZJ nm=true
 ·rw[Qe Zl];refine Wx rfl ?_;refine Qs ((Qh.ext Qg).ext Qj) rfl ?_;rw[<-Xb];refine call (EF x.A x.n x.c nm.length x.nd x.r w3 (hx.ext QQ)) ?_;rintro _ w4 ⟨rfl,Qq⟩;have XF:=QQ.trans Qq;cases VW:J7 nm.length x.nd x.r with
  | false=>
   refine Xc rfl ?_;refine XI (Yl 1 (by decide) w4) (λ_ _ hf=>hf.elim) ?_;rintro ch _ ⟨rfl,rfl⟩;exact⟨λhh=>(by have h2:=hh.2;rw[VW] at h2;cases h2),rfl,XF⟩
  | true=>
   refine Xt rfl ?_;refine Qs (((Qh.ext Qg).ext Qj).ext Qq) rfl ?_;refine call (hQm x nm.length UB w4 (hx.ext XF) VW) ?_;rintro _ w5 ⟨_,rfl,⟨A,m,c,N,rfl,hS,xp⟩,Qt⟩;have Hh:N<=4096:=Ze xp (Ze (Wu (by decide) UB) (by decide));obtain⟨e1,e2⟩:=hQv rfl Hh;refine call (EG w5) ?_;rintro _ _ rfl;refine call (Nt.hQf A m c (Nt.JJ N) w5 hS (Nt.zw N)) ?_;rintro _ _ ⟨rfl,rfl⟩;rw[e1,e2];refine Xt rfl ?_;refine Xy (by omega) ?_;exact⟨⟨Zl,VW⟩,XF.trans Qt⟩
 ·rw[if_neg Zl];refine qA (by decide) ?_;refine XI (Yl 1 (by decide) w3) (λ_ _ hf=>hf.elim) ?_;rintro ch _ ⟨rfl,rfl⟩;exact⟨λhh=>Zl hh.1,rfl,QQ⟩
theorem Rl {c:Cx}{o:Oper}{S:Env}{w:World}{K:Env->World->Prop}{Q:Zd}{x:Operand}{tx t:Nat}{k:IntKind}{r:TyRow}(hg:c.g.Ok)(ho:o.op= .typeAssert x tx t true)(hr:QR c.g.tys t=some r)(hd:r.d= .int k)(hx:S.ev x=some .nilIface)
  (kk:Xf c S o.dst (.v (.tuple #[r.z,.bool false])) (λS=>K S w)):X3 c o S w K Q:=by
 obtain⟨Q0,i,hi,_,_,hz⟩:=hg.row hr;rw[hd] at Q0;refine Jh (w':=w) (v:=.tuple #[r.z,.bool false]) (λa hf=>?_) kk;have e1:=hf.ev hx;simp only[execOp,ho,e1];simp[Instr.typeAssert,ZI Q0,zeroValue,typeInfo,hi,hz]
def zB (f e:Nat)(k:Int)(w w':World):Prop:=Blk w' f 9 [.string ⟨#[]⟩]/\Blk w' e 34 [.int .i64 k]/\Mod (λi=>i=f∨i=e) w w'
theorem oO (f e:Nat)(k:Int)(w:World)(v1 v2:Value)(QK:f≠e)(hf:Blk w f 9 [v1])(he:Blk w e 34 [v2]):
  CallsD Tryz.prog 60 #[.pointer (some ⟨f,0,none⟩),.pointer (some ⟨e,0,none⟩)] (.panicking (iu k)) w
   (λen u' w'=>∃v,en= .returned v/\settle u'= .returning/\zB f e k w w'):=by
 refine callsD_of_wpS Tryz.func60 rfl λc₀ cs hu=>?_
 have JQ:=eD (N:=Tryz.f60.ntmps) [.pointer (some ⟨f,0,none⟩),.pointer (some ⟨e,0,none⟩)] (fx rfl) [(0,.v (.pointer (some ⟨f,0,none⟩))),(1,.v (.pointer (some ⟨e,0,none⟩)))] (by
  intro k x hk
  match k,hk with
  | 0,hk=>cases hk;rfl
  | 1,hk=>cases hk;rfl
  | k+2,hk=>exact nomatch (show(none:Option Ent)=some x from hk))
 have JK:=JQ.put (d:=5) (by decide) (.v (.iface 34 (.int .i64 k)));refine wpS_seq (wpS_region ?_);show wpOpsS _ _ _ [0,1,2,3,4,5,6] _ _ _;refine rD (o:=_) (cs':={c₀ with mode:=.panicking [{v:=.iface 34 (.int .i64 k),recovered:=true}]}::cs) (v:=.iface 34 (.int .i64 k)) (d:=5) rfl rfl rfl rfl (.inl (by simp[recoverD,hu,iu])) ?_;generalize au:Act.put _ (some 5) _=act;have gt:Fits aD.N [(5,.v (.iface 34 (.int .i64 k))),(0,.v (.pointer (some ⟨f,0,none⟩))),(1,.v (.pointer (some ⟨e,0,none⟩)))] act:=by rw[<-au];exact JK
 clear au JK JQ;generalize Zm: #[_,_,_,_,_,_,_]=vP;have h1:=(QN (λ(x:Array Oper)=>x[1]?) Zm).symm;have h2:=(QN (λ(x:Array Oper)=>x[2]?) Zm).symm;have h3:=(QN (λ(x:Array Oper)=>x[3]?) Zm).symm;have h4:=(QN (λ(x:Array Oper)=>x[4]?) Zm).symm;have h5:=(QN (λ(x:Array Oper)=>x[5]?) Zm).symm;have h6:=(QN (λ(x:Array Oper)=>x[6]?) Zm).symm;clear Zm;refine Jc (c:=aD) Qa rfl h1 rfl gt (K:=λS' w'=>S'=[(6,Ent.v (.tuple #[.int .i64 k,.bool true])),(5,.v (.iface 34 (.int .i64 k))),(0,.v (.pointer (some ⟨f,0,none⟩))),(1,.v (.pointer (some ⟨e,0,none⟩)))]/\w=w') (DB Qa rfl rfl rfl rfl ⟨rfl,rfl⟩) ?_;rintro _ a1 _ Zz ⟨rfl,rfl⟩;refine Jc (c:=aD) Qa rfl h2 rfl Zz (K:=λS' w'=>S'=_/\w=w') ⟨rfl,rfl⟩ ?_;rintro _ a2 _ ZG ⟨rfl,rfl⟩;refine Jc (c:=aD) Qa rfl h3 rfl ZG (K:=λS' w'=>S'=_/\w=w') ⟨rfl,rfl⟩ ?_;rintro _ a3 _ gu ⟨rfl,rfl⟩;refine Jc (c:=aD) Qa rfl h4 rfl gu (K:=λS' w'=>S'=_/\w=w') ⟨rfl,rfl⟩ ?_;rintro _ a4 _ gv ⟨rfl,rfl⟩;refine Jc (c:=aD) Qa rfl h5 rfl gv (K:=λS' w'=>S'=_/\w=w') ⟨rfl,rfl⟩ ?_;rintro _ a5 _ JK ⟨rfl,rfl⟩;refine Jc (c:=aD) Qa rfl h6 rfl JK (K:=λS' w'=>S'=_/\w=w') ⟨rfl,rfl⟩ ?_;rintro _ a6 _ aO ⟨rfl,rfl⟩;unfold wpOpsS;refine lu (c:=aD) Qa rfl aO ?_;refine Xc rfl ?_;refine Kq hf (by simp) (λw1 Zj Qh=>?_);refine Kq (he.mod Zj (λh=>QK h.symm)) (by simp) (λw2 XL Qw=>?_);exact⟨_,rfl,rfl,Qh.mod XL QK,Qw,(Zj.mono (λi hi=>.inl (.inl hi))).trans XL (λi hi=>.inl (.inr hi))⟩
theorem Rm (f e:Nat)(w:World):
  CallsD Tryz.prog 60 #[.pointer (some ⟨f,0,none⟩),.pointer (some ⟨e,0,none⟩)] .returning w
   (λen u' w'=>∃v,en= .returned v/\settle u'= .returning/\w=w'):=by
 refine callsD_of_wpS Tryz.func60 rfl λc₀ cs hu=>?_
 have JQ:=eD (N:=Tryz.f60.ntmps) [.pointer (some ⟨f,0,none⟩),.pointer (some ⟨e,0,none⟩)] (fx rfl) [(0,.v (.pointer (some ⟨f,0,none⟩))),(1,.v (.pointer (some ⟨e,0,none⟩)))] (by
  intro k x hk
  match k,hk with
  | 0,hk=>cases hk;rfl
  | 1,hk=>cases hk;rfl
  | k+2,hk=>exact nomatch (show(none:Option Ent)=some x from hk))
 have JK:=JQ.put (d:=5) (by decide) (.v .nilIface);refine wpS_seq (wpS_region ?_);show wpOpsS _ _ _ [0,1,2,3,4,5,6] _ _ _;refine rD (o:=_) (cs':={c₀ with mode:=.returning}::cs) (v:=.nilIface) (d:=5) rfl rfl rfl rfl (.inr ⟨by simp[recoverD,hu],rfl,by rw[<-hu]⟩) ?_;generalize au:Act.put _ (some 5) _=act;have gt:Fits aD.N [(5,.v .nilIface),(0,.v (.pointer (some ⟨f,0,none⟩))),(1,.v (.pointer (some ⟨e,0,none⟩)))] act:=by rw[<-au];exact JK
 clear au JK JQ;generalize Zm: #[_,_,_,_,_,_,_]=vP;have h1:=(QN (λ(x:Array Oper)=>x[1]?) Zm).symm;have h2:=(QN (λ(x:Array Oper)=>x[2]?) Zm).symm;have h3:=(QN (λ(x:Array Oper)=>x[3]?) Zm).symm;have h4:=(QN (λ(x:Array Oper)=>x[4]?) Zm).symm;have h5:=(QN (λ(x:Array Oper)=>x[5]?) Zm).symm;have h6:=(QN (λ(x:Array Oper)=>x[6]?) Zm).symm;clear Zm;refine Jc (c:=aD) Qa rfl h1 rfl gt (K:=λS' w'=>S'=_/\w=w') (Rl Qa rfl rfl rfl rfl ⟨rfl,rfl⟩) ?_;rintro _ a1 _ Zz ⟨rfl,rfl⟩;refine Jc (c:=aD) Qa rfl h2 rfl Zz (K:=λS' w'=>S'=_/\w=w') ⟨rfl,rfl⟩ ?_;rintro _ a2 _ ZG ⟨rfl,rfl⟩;refine Jc (c:=aD) Qa rfl h3 rfl ZG (K:=λS' w'=>S'=_/\w=w') ⟨rfl,rfl⟩ ?_;rintro _ a3 _ gu ⟨rfl,rfl⟩;refine Jc (c:=aD) Qa rfl h4 rfl gu (K:=λS' w'=>S'=_/\w=w') ⟨rfl,rfl⟩ ?_;rintro _ a4 _ gv ⟨rfl,rfl⟩;refine Jc (c:=aD) Qa rfl h5 rfl gv (K:=λS' w'=>S'=_/\w=w') ⟨rfl,rfl⟩ ?_;rintro _ a5 _ JK ⟨rfl,rfl⟩;refine Jc (c:=aD) Qa rfl h6 rfl JK (K:=λS' w'=>S'=_/\w=w') ⟨rfl,rfl⟩ ?_;rintro _ a6 _ aO ⟨rfl,rfl⟩;unfold wpOpsS;refine lu (c:=aD) Qa rfl aO ?_;refine Xt rfl ?_;exact⟨_,rfl,rfl,rfl⟩
theorem rN (f e:Nat)(k:Int)(w:World)(v1 v2:Value)(QK:f≠e)(hf:Blk w f 9 [v1])(he:Blk w e 34 [v2]):
  CallsD Tryz.prog 41 #[.pointer (some ⟨f,0,none⟩),.pointer (some ⟨e,0,none⟩)] (.panicking (iu k)) w
   (λen u' w'=>∃v,en= .returned v/\settle u'= .returning/\zB f e k w w'):=by
 refine callsD_of_wpS Tryz.func41 rfl λc₀ cs hu=>?_
 have JQ:=eD (N:=Tryz.f41.ntmps) [.pointer (some ⟨f,0,none⟩),.pointer (some ⟨e,0,none⟩)] (fx rfl) [(0,.v (.pointer (some ⟨f,0,none⟩))),(1,.v (.pointer (some ⟨e,0,none⟩)))] (by
  intro k x hk
  match k,hk with
  | 0,hk=>cases hk;rfl
  | 1,hk=>cases hk;rfl
  | k+2,hk=>exact nomatch (show(none:Option Ent)=some x from hk))
 have JK:=JQ.put (d:=5) (by decide) (.v (.iface 34 (.int .i64 k)));refine wpS_seq (wpS_region ?_);show wpOpsS _ _ _ [0,1,2,3,4,5,6] _ _ _;refine rD (o:=_) (cs':={c₀ with mode:=.panicking [{v:=.iface 34 (.int .i64 k),recovered:=true}]}::cs) (v:=.iface 34 (.int .i64 k)) (d:=5) rfl rfl rfl rfl (.inl (by simp[recoverD,hu,iu])) ?_;generalize au:Act.put _ (some 5) _=act;have gt:Fits aC.N [(5,.v (.iface 34 (.int .i64 k))),(0,.v (.pointer (some ⟨f,0,none⟩))),(1,.v (.pointer (some ⟨e,0,none⟩)))] act:=by rw[<-au];exact JK
 clear au JK JQ;generalize Zm: #[_,_,_,_,_,_,_]=vP;have h1:=(QN (λ(x:Array Oper)=>x[1]?) Zm).symm;have h2:=(QN (λ(x:Array Oper)=>x[2]?) Zm).symm;have h3:=(QN (λ(x:Array Oper)=>x[3]?) Zm).symm;have h4:=(QN (λ(x:Array Oper)=>x[4]?) Zm).symm;have h5:=(QN (λ(x:Array Oper)=>x[5]?) Zm).symm;have h6:=(QN (λ(x:Array Oper)=>x[6]?) Zm).symm;clear Zm;refine Jc (c:=aC) Qa rfl h1 rfl gt (K:=λS' w'=>S'=[(6,Ent.v (.tuple #[.int .i64 k,.bool true])),(5,.v (.iface 34 (.int .i64 k))),(0,.v (.pointer (some ⟨f,0,none⟩))),(1,.v (.pointer (some ⟨e,0,none⟩)))]/\w=w') (DB Qa rfl rfl rfl rfl ⟨rfl,rfl⟩) ?_;rintro _ a1 _ Zz ⟨rfl,rfl⟩;refine Jc (c:=aC) Qa rfl h2 rfl Zz (K:=λS' w'=>S'=_/\w=w') ⟨rfl,rfl⟩ ?_;rintro _ a2 _ ZG ⟨rfl,rfl⟩;refine Jc (c:=aC) Qa rfl h3 rfl ZG (K:=λS' w'=>S'=_/\w=w') ⟨rfl,rfl⟩ ?_;rintro _ a3 _ gu ⟨rfl,rfl⟩;refine Jc (c:=aC) Qa rfl h4 rfl gu (K:=λS' w'=>S'=_/\w=w') ⟨rfl,rfl⟩ ?_;rintro _ a4 _ gv ⟨rfl,rfl⟩;refine Jc (c:=aC) Qa rfl h5 rfl gv (K:=λS' w'=>S'=_/\w=w') ⟨rfl,rfl⟩ ?_;rintro _ a5 _ JK ⟨rfl,rfl⟩;refine Jc (c:=aC) Qa rfl h6 rfl JK (K:=λS' w'=>S'=_/\w=w') ⟨rfl,rfl⟩ ?_;rintro _ a6 _ aO ⟨rfl,rfl⟩;unfold wpOpsS;refine lu (c:=aC) Qa rfl aO ?_;refine Xc rfl ?_;refine Kq hf (by simp) (λw1 Zj Qh=>?_);refine Kq (he.mod Zj (λh=>QK h.symm)) (by simp) (λw2 XL Qw=>?_);exact⟨_,rfl,rfl,Qh.mod XL QK,Qw,(Zj.mono (λi hi=>.inl (.inl hi))).trans XL (λi hi=>.inl (.inr hi))⟩
theorem Rn (f e:Nat)(w:World):
  CallsD Tryz.prog 41 #[.pointer (some ⟨f,0,none⟩),.pointer (some ⟨e,0,none⟩)] .returning w
   (λen u' w'=>∃v,en= .returned v/\settle u'= .returning/\w=w'):=by
 refine callsD_of_wpS Tryz.func41 rfl λc₀ cs hu=>?_
 have JQ:=eD (N:=Tryz.f41.ntmps) [.pointer (some ⟨f,0,none⟩),.pointer (some ⟨e,0,none⟩)] (fx rfl) [(0,.v (.pointer (some ⟨f,0,none⟩))),(1,.v (.pointer (some ⟨e,0,none⟩)))] (by
  intro k x hk
  match k,hk with
  | 0,hk=>cases hk;rfl
  | 1,hk=>cases hk;rfl
  | k+2,hk=>exact nomatch (show(none:Option Ent)=some x from hk))
 have JK:=JQ.put (d:=5) (by decide) (.v .nilIface);refine wpS_seq (wpS_region ?_);show wpOpsS _ _ _ [0,1,2,3,4,5,6] _ _ _;refine rD (o:=_) (cs':={c₀ with mode:=.returning}::cs) (v:=.nilIface) (d:=5) rfl rfl rfl rfl (.inr ⟨by simp[recoverD,hu],rfl,by rw[<-hu]⟩) ?_;generalize au:Act.put _ (some 5) _=act;have gt:Fits aC.N [(5,.v .nilIface),(0,.v (.pointer (some ⟨f,0,none⟩))),(1,.v (.pointer (some ⟨e,0,none⟩)))] act:=by rw[<-au];exact JK
 clear au JK JQ;generalize Zm: #[_,_,_,_,_,_,_]=vP;have h1:=(QN (λ(x:Array Oper)=>x[1]?) Zm).symm;have h2:=(QN (λ(x:Array Oper)=>x[2]?) Zm).symm;have h3:=(QN (λ(x:Array Oper)=>x[3]?) Zm).symm;have h4:=(QN (λ(x:Array Oper)=>x[4]?) Zm).symm;have h5:=(QN (λ(x:Array Oper)=>x[5]?) Zm).symm;have h6:=(QN (λ(x:Array Oper)=>x[6]?) Zm).symm;clear Zm;refine Jc (c:=aC) Qa rfl h1 rfl gt (K:=λS' w'=>S'=_/\w=w') (Rl Qa rfl rfl rfl rfl ⟨rfl,rfl⟩) ?_;rintro _ a1 _ Zz ⟨rfl,rfl⟩;refine Jc (c:=aC) Qa rfl h2 rfl Zz (K:=λS' w'=>S'=_/\w=w') ⟨rfl,rfl⟩ ?_;rintro _ a2 _ ZG ⟨rfl,rfl⟩;refine Jc (c:=aC) Qa rfl h3 rfl ZG (K:=λS' w'=>S'=_/\w=w') ⟨rfl,rfl⟩ ?_;rintro _ a3 _ gu ⟨rfl,rfl⟩;refine Jc (c:=aC) Qa rfl h4 rfl gu (K:=λS' w'=>S'=_/\w=w') ⟨rfl,rfl⟩ ?_;rintro _ a4 _ gv ⟨rfl,rfl⟩;refine Jc (c:=aC) Qa rfl h5 rfl gv (K:=λS' w'=>S'=_/\w=w') ⟨rfl,rfl⟩ ?_;rintro _ a5 _ JK ⟨rfl,rfl⟩;refine Jc (c:=aC) Qa rfl h6 rfl JK (K:=λS' w'=>S'=_/\w=w') ⟨rfl,rfl⟩ ?_;rintro _ a6 _ aO ⟨rfl,rfl⟩;unfold wpOpsS;refine lu (c:=aC) Qa rfl aO ?_;refine Xt rfl ?_;exact⟨_,rfl,rfl,rfl⟩
end
section
structure QP where
 r:Nat
 NA:Option Addr
 nn:Nat
 nc:Nat
 nm:List (List Nat)
 FA:Option Addr
 nf:Nat
 cf:Nat
 fs:List (List Nat×List Nat)
structure QM where
 OA:Option Addr
 oc:Nat
 DA:Option Addr
 dc:Nat
 L:List DV
 T:Nat->Prop
structure QV where
 d:Nat
 rd:List Nat
 g:Gs
 b:Pl
abbrev qdC (p:QP)(m:QM)(v:QV):List Value:=[.slice p.NA p.nn p.nc,.slice p.FA p.nf p.cf,.int .i64 v.d,.slice m.DA v.rd.length m.dc,.string (Qf v.g.tx),.slice m.OA v.g.sg.length m.oc,.bool v.g.fr,.int .i64 v.b.e,.int .i64 v.b.f,.int .i64 v.b.l]
def QS (p:QP)(m:QM):Nat->Prop:=λk=>k=p.r∨Qi m.OA k∨Qi m.DA k
def TQ (p:QP)(m:QM):Nat->Prop:=λk=>QS p m k∨m.T k
structure Qr (w0 w:World) (base:Nat) (p:QP) (m:QM) (v:QV):Prop where
 e0:Ext w0 w
 lor:w0.heap.size<=p.r
 rb:p.r<base
 top:base<=w.heap.size
 blk:Blk w p.r 201 (qdC p m v)
 rdo:Own w base 3 1 m.DA v.rd.length m.dc (ixV v.rd.reverse)
 out:Own w base 48 6 m.OA v.g.sg.length m.oc (bz v.g.sg m.L)
 len:m.L.length=v.g.sg.length
 dgs:∀(j:Nat) (s:Sg) (x:DV),v.g.sg[j]? =some s->m.L[j]? =some x->DgO w (TQ p m) p.nm.length x s.o
 tl:v.g.tx.length<=1048576
 sl:v.g.sg.length<=65536
 b8:∀x∈v.g.tx,x<256
 nf:v.g.fr=false->v.g.sg≠ []∨v.rd=[]
 tt:∀i,m.T i->i<w.heap.size
 dl:v.d<=65
 rl:v.rd.length<=65+65
section
variable {w0 w w':World} {base:Nat} {p:QP} {m:QM} {v:QV}
theorem Qr.ext (h:Qr w0 w base p m v)(k:Ext w w'):Qr w0 w' base p m v:=
 ⟨h.e0.trans k,h.lor,h.rb,Ze h.top k.size,h.blk.ext k,h.rdo.ext k,h.out.ext k,h.len,λj s x h1 h2=>(h.dgs j s x h1 h2).ext k,h.tl,h.sl,h.b8,h.nf,λi hi=>Vy (h.tt i hi) k.size,h.dl,h.rl⟩
end
theorem E4 {w:World}{g t:Nat}{cs:List Value}{j i:Nat}{v:Value}{K:Value->Prop}(h:Blk w g t cs)(hv:cs[j+i]? =some v)(k:K v):fC w (((⟨g,0,none⟩:Addr).add j).add i) K:=by
 rw[add_add];exact Qp h hv k
section
variable {w0:World} {base:Nat} {p:QP} {m:QM} {v:QV}
end
end
section
theorem Ro {nm:List (List Nat)}{s:List Nat}{e:Int}(h:Yj nm s= .error e):e≠0:=by
 unfold Yj at h;split at h
 ·cases h
 ·cases h;split<;>decide
def rO:Except Int (List Nat)->Value
 | .ok l=>.tuple #[.string (Qf l),.int .i64 0]
 | .error e=>.tuple #[.string (Qf []),.int .i64 e]
theorem hQw (n:Nat)(o o':BF):QC n (λe=>o e && !o' e)=fW n (QC n o) o':=by
 unfold QC fW;rw[List.filter_filter];congr 1;funext c;rw[Bool.and_comm]
theorem rP {M:Nat}:∀{ls:List (List Nat)},(∀s∈ls,s.length<=M)->(Qo ls).length<=ls.length*(M+1)
 | [],_=>by simp[Qo]
 | s::ls,h=>by
  have ih:=rP (ls:=ls) (λt ht=>h t (by simp[ht]));have h1:=h s (by simp);rw[Y7,Xk,tz,Nat.one_mul];simp only[Qy,Xk];omega
theorem zC:∀(l:List Nat),(QU l).length<=l.length/\∀s∈QU l,s.length<=l.length
 | []=>⟨by simp[QU],λs hs=>by simp[QU] at hs⟩
 | b::l=>by
  obtain⟨h1,h2⟩:=zC l;unfold QU;split
  ·refine⟨by simp;omega,λs hs=>?_⟩;rcases QX.1 hs with rfl | hs
   ·simp
   ·have:=h2 s hs;simp;omega
  ·cases hl:QU l with
   | nil=>refine⟨by simp,λs hs=>?_⟩;rw[QJ.1 hs];simp
   | cons t ls=>
    rw[hl] at h1 h2;refine⟨by simp at h1 ⊢;omega,λs hs=>?_⟩;rcases QX.1 hs with rfl | hs
    ·have:=h2 t (by simp);simp;omega
    ·have:=h2 s (by simp[hs]);simp;omega
theorem Rp {nm:List (List Nat)}(h:∀s∈nm,s.length<=1000)(v:Nat)(ng:Bool):(Vq nm v ng).length<=2100:=by
 unfold Vq;have h1:((nm[v]?).getD []).length<=1000:=by
  cases hv:nm[v]? with
  | none=>simp
  | some s=>exact h s (Xe hv)
 have h2:(if ng then [33] else([]:List Nat)).length<=1:=by cases ng<;>simp
 have h3:JG.length=4:=rfl;simp only[Qy];omega
theorem hQx {nm:List (List Nat)}{f:Nat->List Nat}(hn:∀s∈nm,s.length<=1000){S:List Nat}(hS:S≠ [])(Hi:S.length<=16)(h:∀c∈S,(f c).length<=2000)(k v:Nat):(Qo (XV nm f k v S)).length<=1000000000:=by
 obtain⟨h1,h2⟩:=oI (nm:=nm) (f:=f) (P:=λs=>s.length<=2100) (M:=2000) (λv ng=>Rp hn v ng) (by decide) (by decide) k v S hS (λc hc=>by
  obtain⟨a,b⟩:=zC (f c);have:=h c hc;exact⟨λs hs=>by have:=b s hs;omega,by omega⟩)
 have h3:=rP h1;have h4:S.length*(2000+3)<=16*2003:=Wq _ Hi;have h5:(XV nm f k v S).length*(2100+1)<=32048*2101:=Wq _ (by omega);omega
theorem Rq (n:Nat)(o:BF):(QC n o).length<=2^n:=by
 unfold QC;refine Ze (tG _ _) ?_;rw[List.length_range];exact QE _
theorem zD (NA:Option Addr)(nn nc:Nat)(nm:List (List Nat))(x:DV)(PA:Option Addr)(pn pc:Nat)(ps:List (DV×List Nat))(kx:nm.length<=4)(Vw:Ke nm)(Kn:∀s∈nm,s.length<=1000)(aV:∀q∈ps,(∀b∈q.2,b<256)/\q.2.length<=2000)(w:World)
  (hN:Sl w 1 NA nn nc (X4 nm)) (hx:SB w x.A x.n x.c x.nd) (hP:SlS Jd 3 w PA pn pc ps) (xo:∀q∈ps,SB w q.1.A q.1.n q.1.c q.1.nd):
  Fn Tryz.prog 24 [.slice NA nn nc,Xg x.A x.n x.c x.r,.slice PA pn pc] w (λu w'=>u=rO (jO nm x ps)/\Ext w w'):=by
 have Xb:nm.length=nn:=by have:=hN.len;rw[aF] at this;omega
 have hk:nm.length<=12:=by omega
 have Je:=hP.2;have kQT:=hP.1.cap;have mQa:=hP.1.le;simp only[maxLen] at kQT;refine ud (c:={c24 with cuts:=[]}) Qa Tryz.func24 rfl rfl rfl ?_;refine ZC (Zq Qa ?_);refine new (λw1 Qd Q2 Qh=>?_);refine new (λw2 Qg X9 Qw=>?_);refine new (λw3 Qj JV Qu=>?_);have Yb:=Qg.trans Qj;have QQ:=Qd.trans Yb;have QK:w1.heap.size≠w2.heap.size:=by omega
 refine ZC (ub Qa rfl rfl rfl rfl ⟨_,_,_,_,rfl,rfl,?_⟩);refine ZC (Zq Qa ?_);refine Qs (Qh.ext Yb) rfl ?_;refine XI (Rk NA nn nc nm x hk Vw w3 (hN.ext QQ) (hx.ext QQ)) ?_ ?_
 rotate_left
 ·rintro ch w4 ⟨Xi,rfl,Qq⟩;refine WC Qa rfl rfl (args:= #[.pointer (some ⟨w1.heap.size,0,none⟩),.pointer (some ⟨w2.heap.size,0,none⟩)]) (by simp) ((oO _ _ 1 w4 _ _ QK ((Qw.ext Qj).ext Qq) (Qu.ext Qq)).mono ?_);rintro e u' w5 ⟨v,rfl,j6,an⟩;refine⟨v,rfl,j6,?_⟩;refine Qv an.1 rfl ?_;refine Qv an.2.1 rfl ?_;have hm:jO nm x ps= .error 1:=by
   unfold jO;rw[Qe (by
    by_cases h1:ZJ nm=true
    ·exact .inr (ez.2 (λh2=>Xi ⟨h1,h2⟩))
    ·exact .inl (by simpa using h1))]
  rw[hm];exact⟨rfl,an.2.2.ext (QQ.trans Qq) (λi hi=>by rcases hi with rfl | rfl<;>omega)⟩
 rintro _ w4 ⟨⟨Zl,VW⟩,Qq⟩;have XF:=QQ.trans Qq;have sx:=fV VW;have JN:=(Qh.ext Yb).ext Qq;have kQ:=(Qw.ext Qj).ext Qq;have d6:=Qu.ext Qq;have hm:jO nm x ps=if WO nm.length (QC nm.length (oD x)) ps=false then .error 290
   else if ps=[] then .ok []
   else if 1048576<(Qo (XV nm (fP (Zi ps)) nm.length 0 (QC nm.length (oD x)))).length then .error 2
   else .ok (Qo (XV nm (fP (Zi ps)) nm.length 0 (QC nm.length (oD x)))):=by
  rw[jO,if_neg (by rw[Zl,VW];simp)]
 generalize jO nm x ps=M at*;have UC:∀w',Ext w4 w'->WO nm.length (QC nm.length (oD x)) ps=false->∀w5,zB w1.heap.size w2.heap.size 290 w' w5->Value.tuple #[.string ⟨#[]⟩,.int .i64 290]=rO M/\Ext w w5:=λw' fq hc w5 hR=>by
  refine⟨by rw[hm,Qe hc];rfl,hR.2.2.ext (XF.trans fq) (λi hi=>by rcases hi with rfl | rfl<;>omega)⟩
 refine ZC (Zq Qa ?_);refine Qs JN rfl ?_;refine new (λw5 Qt Kv QH=>?_);refine Qx QH rfl (sc rfl) (λw6 Wd _ Xh=>?_);have Xx:Ext w4 w6:=X0 Qt QH Wd;have Kz:=Qq.size;have lQE:=Xx.size;refine ZC (Zq Qa ?_);refine loop Qa [18] (λi:Nat=>[.int .i64 i]) (λi w'=>Mod (·=w4.heap.size) w6 w'/\i<=pn/\∃(R:DV) (oR:BF),Blk w' w4.heap.size 32 R.cells/\SB w' R.A R.n R.c R.nd/\Set1 nm.length R.nd R.r oR/\(∀ad,R.A=some ad->0<R.n->ad.block≠w4.heap.size)/\WO nm.length (QC nm.length (oD x)) ps=WO nm.length (QC nm.length oR) (ps.drop i)) (λi _=>pn-i) 0 rfl ⟨Mod.refl _ _,XM _,x,oD x,Xh,(hx.ext XF).ext Xx,sx,λad ea h0=>by have:=SB.lt (hx.ext XF) ad ea h0;omega,rfl⟩ ?_;rintro i w7 ⟨Q8,hi,R,oR,QY,Kg,sR,hRn,Jn⟩;have VO:Ext w4 w7:=Q8.ext Xx (λj hj=>by omega);have Vc:=XF.trans VO;have lQF:=VO.size;have mG:=kQ.ext VO;have mH:=d6.ext VO;refine QB (λc1=>?_) (λc1=>?_)
 ·have Q7:i<pn:=by omega
  refine Zo EL (hP.ext Vc) rfl Q7 (λad q hq hc=>?_);have bV:=Xe hq;obtain⟨q8,ql⟩:=aV q bV;have gO:ps.drop i=q::ps.drop (i+1):=by
   have Xa:=(Zt.1 hq).1;rw[cd Xa];congr 1;rw[Xs Xa] at hq;exact Option.some.inj hq
  rw[gO] at Jn;refine J4 (vs:=Jd q) rfl hc ?_;refine new (λw8 Q9 Vs Xp=>?_);refine Qx Xp rfl (sc rfl) (λw9 dT _ JM=>?_);have Ya:Ext w7 w9:=X0 Q9 Xp dT;have lQG:=Ya.size;have Aw:=(xo q bV).ext (Vc.trans Ya);refine eE (vs:=[.slice q.1.A q.1.n q.1.c,.int .i64 q.1.r]) JM rfl (λj u hj=>by match j,hj with | 0,hj=>exact hj | 1,hj=>exact hj) ?_;rw[<-Xb];refine call (EF q.1.A q.1.n q.1.c nm.length q.1.nd q.1.r w9 Aw) ?_;rintro _ QG ⟨rfl,Zw⟩;have gA:=Ya.trans Zw;have bad:∀w',Ext w7 w'->WO nm.length (QC nm.length oR) (q::ps.drop (i+1))=false->∀w5,zB w1.heap.size w2.heap.size 290 w' w5->Value.tuple #[.string ⟨#[]⟩,.int .i64 290]=rO M/\Ext w w5:=λw' fq hc w5 hR=>UC w' (VO.trans fq) (Jn.trans hc) w5 hR
  cases Cu:J7 nm.length q.1.nd q.1.r with
  | false=>
   refine Xc rfl ?_;refine XI (Yl 290 (by decide) QG) (λ_ _ hf=>hf.elim) ?_;rintro ch _ ⟨rfl,rfl⟩;refine WC Qa rfl rfl (args:= #[.pointer (some ⟨w1.heap.size,0,none⟩),.pointer (some ⟨w2.heap.size,0,none⟩)]) (by simp) ((oO _ _ 290 QG _ _ QK (mG.ext gA) (mH.ext gA)).mono ?_);rintro e u' QD ⟨v,rfl,jQN,Hj⟩;refine⟨v,rfl,jQN,?_⟩;refine Qv Hj.1 rfl ?_;refine Qv Hj.2.1 rfl ?_;exact bad QG gA (by
    refine ez.2 (λhh=>?_);rw[(EE.1 hh).1.1] at Cu;cases Cu) QD Hj
  | true=>
  have sq:=fV Cu;have iE:=sq.root0;have J9:=JM.ext Zw;refine Xt rfl ?_;refine E4 (j:=0) (i:=1) J9 rfl ?_;have Cv:=EE (n:=nm.length) (R:=QC nm.length oR) (p:=q) (ps:=ps.drop (i+1));refine Zn (λhz=>?_) (λhz=>?_)
  ·refine XI (Yl 290 (by decide) QG) (λ_ _ hf=>hf.elim) ?_;rintro ch _ ⟨rfl,rfl⟩;refine WC Qa rfl rfl (args:= #[.pointer (some ⟨w1.heap.size,0,none⟩),.pointer (some ⟨w2.heap.size,0,none⟩)]) (by simp) ((oO _ _ 290 QG _ _ QK (mG.ext gA) (mH.ext gA)).mono ?_);rintro e u' Yo ⟨v,rfl,dX,Wj⟩;refine⟨v,rfl,dX,?_⟩;refine Qv Wj.1 rfl ?_;refine Qv Wj.2.1 rfl ?_;exact bad QG gA (ez.2 (λhh=>(Cv.1 hh).1.2.1 (iE.1 hz))) Yo Wj
  ·refine eE (vs:=[.slice q.1.A q.1.n q.1.c,.int .i64 q.1.r]) J9 rfl (λj u hj=>by match j,hj with | 0,hj=>exact hj | 1,hj=>exact hj) ?_;refine Qs (QY.ext gA) rfl ?_;refine call (Pa q.1.A q.1.n q.1.c q.1.nd q.1.r R.A R.n R.c R.nd R.r QG (Aw.ext Zw) (Kg.ext gA)) ?_;rintro _ QD ⟨rfl,Jx⟩;have gn:=gA.trans Jx;have hwi:fT q.1.nd q.1.r R.nd R.r=true↔∀c∈QC nm.length (oD q.1),c∈QC nm.length oR:=by
    rw[EM hk sq sR,Pp sq.dep sR.dep];exact⟨λh c hc=>Z0.2 ⟨(Z0.1 hc).1,h c hc⟩,λh c hc=>(Z0.1 (h c hc)).2⟩
   cases IS:fT q.1.nd q.1.r R.nd R.r with
   | false=>
    refine Xc rfl ?_;refine XI (Yl 290 (by decide) QD) (λ_ _ hf=>hf.elim) ?_;rintro ch _ ⟨rfl,rfl⟩;refine WC Qa rfl rfl (args:= #[.pointer (some ⟨w1.heap.size,0,none⟩),.pointer (some ⟨w2.heap.size,0,none⟩)]) (by simp) ((oO _ _ 290 QD _ _ QK (mG.ext gn) (mH.ext gn)).mono ?_);rintro e u' Yo ⟨v,rfl,dX,Wj⟩;refine⟨v,rfl,dX,?_⟩;refine Qv Wj.1 rfl ?_;refine Qv Wj.2.1 rfl ?_;exact bad QD gn (ez.2 (λhh=>by rw[hwi.2 (Cv.1 hh).1.2.2.1] at IS;cases IS)) Yo Wj
   | true=>
    refine Xt rfl ?_;have ZU:=J9.ext Jx;refine Qp ZU rfl ?_;refine call (Px q.2 QD q8 (by omega)) ?_;rintro _ Q5 ⟨rfl,Xq⟩;have kz:=gn.trans Xq;cases Hk:KT q.2 with
    | false=>
     refine Xc rfl ?_;refine XI (Yl 290 (by decide) Q5) (λ_ _ hf=>hf.elim) ?_;rintro ch _ ⟨rfl,rfl⟩;refine WC Qa rfl rfl (args:= #[.pointer (some ⟨w1.heap.size,0,none⟩),.pointer (some ⟨w2.heap.size,0,none⟩)]) (by simp) ((oO _ _ 290 Q5 _ _ QK (mG.ext kz) (mH.ext kz)).mono ?_);rintro e u' Yo ⟨v,rfl,dX,Wj⟩;refine⟨v,rfl,dX,?_⟩;refine Qv Wj.1 rfl ?_;refine Qv Wj.2.1 rfl ?_;exact bad Q5 kz (ez.2 (λhh=>by rw[(Cv.1 hh).1.2.2.2] at Hk;cases Hk)) Yo Wj
    | true=>
     refine Xt rfl ?_;refine Qs (QY.ext kz) rfl ?_;refine eE (vs:=[.slice q.1.A q.1.n q.1.c,.int .i64 q.1.r]) (ZU.ext Xq) rfl (λj u hj=>by match j,hj with | 0,hj=>exact hj | 1,hj=>exact hj) ?_;refine call (dC hk R q.1 Q5 (Kg.ext kz) ((xo q bV).ext (Vc.trans kz)) sR sq) ?_;rintro _ XR ⟨QA,Qn,Qc,Qnd,Qr,rfl,XD,Hl,sQ,Cw⟩;refine Qx ((QY.ext kz).ext XD) rfl (sc rfl) (λZa dL _ JN=>?_);have KA:Mod (·=w4.heap.size) XR Za:=mQj dL rfl;refine Qm ((i+1:Nat):Int) (by show((i:Nat):Int)+1=_;omega) (by omega) ?_;have WZ:∀ad,QA=some ad->0<Qn->ad.block≠w4.heap.size:=λad ea h0=>by
      have:=Cw ad.block ⟨ad,ea,rfl⟩;have:=kz.size;have:=QY.lt;omega
     have jQO:=kz.trans XD;refine⟨i+1,rfl,⟨(Q8.trans (Mod.of_ext (·=w4.heap.size) jQO) (λj hj=>.inl hj)).trans KA (λj hj=>.inl hj),Q7,⟨QA,Qn,Qc,Qnd,Qr⟩,_,JN,Hl.modo KA WZ,sQ,WZ,?_⟩,by show pn-(i+1)<pn-i;omega⟩;rw[Jn,hQw];have h1:J7 nm.length q.1.nd q.1.r=true/\QC nm.length (oD q.1)≠ []/\(∀c∈QC nm.length (oD q.1),c∈QC nm.length oR)/\KT q.2=true:=⟨Cu,λe=>hz (iE.2 e),hwi.1 IS,Hk⟩
     have h2:WO nm.length (QC nm.length oR) (q::ps.drop (i+1))=true↔WO nm.length (fW nm.length (QC nm.length oR) (oD q.1)) (ps.drop (i+1))=true:=Cv.trans ⟨λh=>h.2,λh=>⟨h1,h⟩⟩;exact nA.2 h2
 have Q7:i=pn:=by omega
 have gO:ps.drop i=[]:=xJ (by omega);rw[gO] at Jn;have UD:=sR.root0;have Jn:WO nm.length (QC nm.length (oD x)) ps=decide (QC nm.length oR=[]):=Jn;refine ZC (Zq Qa ?_);refine Qp QY rfl ?_;refine aB (λhz=>?_) (λhz=>?_)
 ·refine XI (Yl 290 (by decide) w7) (λ_ _ hf=>hf.elim) ?_;rintro ch _ ⟨rfl,rfl⟩;refine WC Qa rfl rfl (args:= #[.pointer (some ⟨w1.heap.size,0,none⟩),.pointer (some ⟨w2.heap.size,0,none⟩)]) (by simp) ((oO _ _ 290 w7 _ _ QK mG mH).mono ?_);rintro e u' Yo ⟨v,rfl,dX,Wj⟩;refine⟨v,rfl,dX,?_⟩;refine Qv Wj.1 rfl ?_;refine Qv Wj.2.1 rfl ?_;exact UC w7 VO (by rw[Jn];exact Zf (λe=>hz (UD.2 e))) Yo Wj
 have kR:WO nm.length (QC nm.length (oD x)) ps=true:=by rw[Jn];exact XX (UD.1 hz)
 rw[if_neg (by rw[kR];decide)] at hm;refine ZC (Zq Qa ?_);refine Zn (λh0=>?_) (λh0=>?_)
 ·have Bz:ps=[]:=Y0 (by omega);rw[Qe Bz] at hm;refine Kq mG (by simp[JB]) (λw8 ZA Xp=>?_);refine Kq (mH.mod ZA QK.symm) (by simp[JB]) (λw9 Zc JM=>?_);refine eI Qa rfl rfl (.inl rfl) (args:= #[.pointer (some ⟨w1.heap.size,0,none⟩),.pointer (some ⟨w2.heap.size,0,none⟩)]) (by simp) ((Rm _ _ w9).mono ?_);rintro e u' Yo ⟨v,rfl,dX,rfl⟩;refine⟨v,rfl,dX,?_⟩;refine Qv (Xp.mod Zc QK) rfl ?_;refine Qv JM rfl ?_;exact⟨by rw[hm];rfl,Zc.ext (ZA.ext Vc (λj hj=>by omega)) (λj hj=>by omega)⟩
 ·have Bz:ps≠ []:=λe=>h0 (by rw[<-Je,e];rfl)
  rw[if_neg Bz] at hm;obtain⟨ZL,UE⟩:=Pv (λc hc=>(Z0.1 hc).1) kR;have UF:QC nm.length (oD x)≠ []:=λe=>by
   obtain⟨q,hq⟩:=gV _ Bz;obtain⟨_,n1,_,n2⟩:=UE q hq;obtain⟨c,hc⟩:=gV _ n1;have:=n2 c hc;rw[e] at this;cases this
  refine Zq Qa ?_;refine Qs (JN.ext VO) rfl ?_;refine call (PF NA nn nc nm x (oD x) PA pn pc ps nm.length kx rfl Vw (λs hs=>by have:=Kn s hs;omega) (λq hq=>by
   obtain⟨a,b,c,d⟩:=UE q hq;obtain⟨e1,e2⟩:=aV q hq;exact⟨a,c,e1,by omega⟩) w7 (hN.ext Vc) (hx.ext Vc) sx (hP.ext Vc) (λq hq=>(xo q hq).ext Vc) UF ZL) ?_
  rintro _ w8 ⟨A8,c8,rfl,Q9,gi⟩;have Kk:∀c∈QC nm.length (oD x),(fP (Zi ps) c).length<=2000:=λc hc=>by
   obtain⟨p,hp,Vx⟩:=ZL.cov c hc;rw[ZL.get hc hp Vx];obtain⟨q,hq,rfl⟩:=ZY.1 hp;exact(aV q hq).2
  have WX:(QC nm.length (oD x)).length<=16:=Ze (Rq _ _) (Ze (Wu (by decide) kx) (by decide));have mQb:=hQx Kn UF WX Kk nm.length 0;generalize XV nm (fP (Zi ps)) nm.length 0 (QC nm.length (oD x))=W at*;refine XI (Rj A8 _ c8 W w8 gi (by omega)) ?_ ?_
  rotate_left
  ·rintro ch _ ⟨pO,rfl,rfl⟩;rw[Qe pO] at hm;refine WC Qa rfl rfl (args:= #[.pointer (some ⟨w1.heap.size,0,none⟩),.pointer (some ⟨w2.heap.size,0,none⟩)]) (by simp) ((oO _ _ 2 w8 _ _ QK (mG.ext Q9) (mH.ext Q9)).mono ?_);rintro e u' Yo ⟨v,rfl,dX,Wj⟩;refine⟨v,rfl,dX,?_⟩;refine Qv Wj.1 rfl ?_;refine Qv Wj.2.1 rfl ?_;exact⟨by rw[hm];rfl,Wj.2.2.ext (Vc.trans Q9) (λi hi=>by rcases hi with rfl | rfl<;>omega)⟩
  rintro _ w9 ⟨JQ,rfl,Xw⟩;rw[if_neg (by omega)] at hm;have Ya:=Q9.trans Xw;refine Kq (mG.ext Ya) (by simp[JB]) (λQG Zk J9=>?_);refine Kq ((mH.ext Ya).mod Zk QK.symm) (by simp[JB]) (λQD ZQ ZU=>?_);refine eI Qa rfl rfl (.inl rfl) (args:= #[.pointer (some ⟨w1.heap.size,0,none⟩),.pointer (some ⟨w2.heap.size,0,none⟩)]) (by simp) ((Rm _ _ QD).mono ?_);rintro e u' Yo ⟨v,rfl,dX,rfl⟩;refine⟨v,rfl,dX,?_⟩;refine Qv (J9.mod ZQ QK) rfl ?_;refine Qv ZU rfl ?_;exact⟨by rw[hm];rfl,ZQ.ext (Zk.ext (Vc.trans Ya) (λj hj=>by omega)) (λj hj=>by omega)⟩
theorem Rs {ls:List (List Nat)}(hL:eL ls){a:Nat}{s:List Nat}(h:(a,s)∈Jj 0 ls):∃pre YY,Qo ls=pre++(s++10::YY)/\pre.length=a/\bu pre/\10∉s:=by
 obtain⟨i,h1,h2⟩:=Ra h;have Xa:=(Zt.1 h1).1;have hs:ls[i]=s:=by rw[Xs Xa] at h1;exact Option.some.inj h1
 refine⟨Qo (ls.take i),Qo (ls.drop (i+1)),?_,by omega,N6 _,hL s (Xe h1)⟩;have hu:∀a b:List (List Nat),Qo (a++b)=Qo a++Qo b:=λa b=>by simp[Qo]
 have e:ls=ls.take i++s::ls.drop (i+1):=by
  have:=(qj i ls).symm;rw[cd Xa,hs] at this;exact this
 have e2:=QN Qo e;rw[hu,Y7] at e2;exact e2
theorem E5 {l:List Nat}(hl:∀x∈l,x<256){j b:Nat}(h:l[j]? =some b):(((Qf l).data[j]!).toNat:Int)=b:=by
 have Xa:=(Zt.1 h).1;have hb:=hl b (Xe h);have e:(Qf l).data[j]! =UInt8.ofNat b:=by
  have:(Qf l).data=(l.map UInt8.ofNat).toArray:=rfl;rw[this,getElem!_def,Lt,K2,h]<;>rfl
 rw[e];have:(UInt8.ofNat b).toNat=b:=by simp[aw hb]
 rw[this]
theorem Rt {ls:List (List Nat)}(hL:eL ls)(h8:∀x∈Qo ls,x<256){a x:Nat}{s:List Nat}(h:(a,s)∈Jj 0 ls)(h1:a<=x)(h2:x<=a+s.length):Lib.lastIndexByte (Qf ((Qo ls).take x)) 10=(a:Int)-1:=by
 obtain⟨pre,YY,e,hp,ht,hs⟩:=Rs hL h;have Xb:x<=(Qo ls).length:=by rw[e];simp;omega
 have XW:(Qf ((Qo ls).take x)).size=x:=by rw[XU,Ye];omega
 have Hm:∀y∈(Qo ls).take x,y<256:=λy hy=>h8 y (eu hy)
 have BT:∀j,j<x->((Qo ls).take x)[j]? =(Qo ls)[j]? :=λj hj=>tC hj
 have Q7:∀j,a<=j->j<x->((Qo ls).take x)[j]? ≠some 10:=λj ha hj hh=>by
  rw[BT j hj,e,Ws (by omega),hp,bY (by omega)] at hh;exact hs (Xe hh)
 have ne:∀j,j<x->∃b,((Qo ls).take x)[j]? =some b:=λj hj=>⟨_,Xs (by rw[Ye];omega)⟩
 have sX:0<a->((Qo ls).take x)[a-1]? =some 10∨x<a:=λh0=>by
  left
  rw[BT (a-1) (by omega),e,bY (by omega)];rcases ht with ht | ht
  ·subst ht;simp at hp;omega
  ·rw[qp,hp] at ht;exact ht
 rcases Lib.lastIndexByte_spec (Qf ((Qo ls).take x)) 10 with⟨k1,k2⟩ | ⟨i,i1,i2,i3,i4⟩
 ·rw[k1];by_cases h0:a=0
  ·subst h0;rfl
  ·exfalso;rcases sX (by omega)with hh | hh
   ·have:=E5 Hm hh;exact k2 (a-1) (by rw[XW];omega) (by rw[this];rfl)
   ·omega
 ·rw[XW] at i1;obtain⟨b,hb⟩:=ne i i1;have pr:b=10:=by
   have:=E5 Hm hb;rw[this] at i3
   exact_mod_cast i3
  subst pr;rw[i2];have hia:i<a:=by
   apply Classical.byContradiction;intro hh;exact Q7 i (by omega) i1 hb
  rcases sX (by omega)with hh | hh
  ·have ZK:i=a-1:=by
    apply Classical.byContradiction;intro vo;have:=E5 Hm hh;exact i4 (a-1) (by omega) (by rw[XW];omega) (by rw[this];rfl)
   omega
  ·omega
theorem Ru {ls:List (List Nat)}(hL:eL ls){a:Nat}{s:List Nat}(h:(a,s)∈Jj 0 ls):fN 10 ((Qo ls).drop a)=s.length/\((Qo ls).drop a).take (s.length+1)=s++ [10]:=by
 obtain⟨pre,YY,e,hp,ht,hs⟩:=Rs hL h;have e2:(Qo ls).drop a=s++10::YY:=by rw[e,<-hp,xI]
 rw[e2];constructor
 ·unfold fN;rw[Qe (by simp)];congr 1;clear e e2 h;induction s with
  | nil=>simp
  | cons b s ih=>
   simp only[QX,not_or] at hs;rw[Yd,Wt,Qe (by simpa using λe:b=10=>hs.1 e.symm),Xk,ih hs.2,Xk]
 ·rw[show s++10::YY=(s++ [10])++YY by simp,List.take_left' (by simp)]
theorem Rv {ls:List (List Nat)}{e:Ed}(h:(Jj 0 ls).any (ir e)=true):0<=e.fr/\e.fr<=e.to_/\e.to_<(Qo ls).length:=by
 obtain⟨⟨a,s⟩,hm,hp⟩:=tI.1 h;obtain⟨p1,p2,p3,p4⟩:=fB hp;have:=lR hm;simp only at p1 p2;omega
def J8 (e:EdV):List Value:=[.int .i64 e.fr,.int .i64 e.to_,.string (Qf e.tx),.slice e.x.A e.x.n e.x.c,.int .i64 e.x.r]
theorem oP (e:EdV):(J8 e).length=5:=rfl
structure EP where
 eb:Nat
 NA:Option Addr
 nn:Nat
 nc:Nat
 nm:List (List Nat)
 x:DV
 f:List Nat
 EA:Option Addr
 en:Nat
 ec:Nat
 es:List EdV
structure EK (w:World) (p:EP):Prop where
 blk:Blk w p.eb 99 [.slice p.NA p.nn p.nc,.slice p.x.A p.x.n p.x.c,.int .i64 p.x.r,.string (Qf p.f),.slice p.EA p.en p.ec]
 nms:Sl w 1 p.NA p.nn p.nc (X4 p.nm)
 eds:SlS J8 5 w p.EA p.en p.ec p.es
 sbs:∀e∈p.es,SB w e.x.A e.x.n e.x.c e.x.nd
theorem EK.ext {w w':World}{p:EP}(h:EK w p)(k:Ext w w'):EK w' p:=⟨h.blk.ext k,h.nms.ext k,h.eds.ext k,λe he=>(h.sbs e he).ext k⟩
structure EB (p:EP):Prop where
 n4:p.nm.length<=4
 nb:Ke p.nm
 nl:∀s∈p.nm,s.length<=1000
 f8:∀b∈p.f,b<256
 fl:p.f.length<=60000
 ok:bu p.f
 i64:∀e∈p.es, -9223372036854775808<=e.fr/\e.fr<=9223372036854775807/\ -9223372036854775808<=e.to_/\e.to_<=9223372036854775807
 t8:∀e∈p.es,∀b∈e.tx,b<256
 tl:∀e∈p.es,e.tx.length<=1000
 el:p.es.length<=10
abbrev rQ (p:EP):Prop:=p.es.all (λe=>J7 p.nm.length e.x.nd e.x.r)=true/\jT p.nm.length p.f 0 (p.es.map EdV.ed)=true
def iv (p:EP)(i:Nat):Int:=if i=0 then 0 else((p.es[i-1]?).map (·.fr)).getD 0
abbrev uR (p:EP)(i:Nat):Prop:=(p.es.drop i).all (λe=>J7 p.nm.length e.x.nd e.x.r)=true/\jT p.nm.length p.f (iv p i) ((p.es.drop i).map EdV.ed)=true
theorem hQy {p:EP}{i:Nat}{e:EdV}(h:p.es[i]? =some e):uR p i↔(J7 p.nm.length e.x.nd e.x.r=true/\QC p.nm.length (oD e.x)≠ []/\(Jj 0 (QU p.f)).any (ir e.ed)=true/\iv p i<=e.fr)/\uR p (i+1):=by
 have Xa:=(Zt.1 h).1;have hd:p.es.drop i=e::p.es.drop (i+1):=by
  rw[cd Xa];congr 1;rw[Xs Xa] at h;exact Option.some.inj h
 have hp:iv p (i+1)=e.fr:=by unfold iv;rw[if_neg (by omega),show i+1-1=i by omega,h]<;>rfl
 unfold uR;rw[hd,hp];simp only[xA,YK,jT,EZ,JR,Vl];constructor
 ·rintro⟨⟨a,b⟩,⟨⟨c,d⟩,e1⟩,f⟩;exact⟨⟨a,c,d,e1⟩,b,f⟩
 ·rintro⟨⟨a,c,d,e1⟩,b,f⟩;exact⟨⟨a,b⟩,⟨⟨c,d⟩,e1⟩,f⟩
theorem Rw (l:List Nat)(w:World)(hl:l.length<=1000000000):
  Fn Tryz.prog 93 [.string (Qf l),.int .u8 10] w (λv w'=>v= .int .i64 (Lib.lastIndexByte (Qf l) 10)/\w=w'):=
 uG (Tryz.strings_LastIndexByte (Qf l) 10 (by rw[XU];omega) w)
theorem hQz (p:EP)(hB:EB p)(w:World)(K:EK w p):
  FnP Tryz.prog 45 [.pointer (some ⟨p.eb,0,none⟩)] w (λ_ w'=>rQ p/\Ext w w') (λch w'=>¬rQ p/\ch=iu 291/\Ext w w'):=by
 have Cy:=K.eds.2;have IT:=K.eds.1.cap;have kQU:=K.eds.1.le;simp only[maxLen] at IT;have Xb:p.nm.length=p.nn:=by have:=K.nms.len;rw[aF] at this;omega
 refine W6 (c:={c45 with cuts:=[]}) Qa Tryz.func45 rfl rfl rfl ?_;refine Qp K.blk rfl ?_;refine loop Qa [11] (λi:Nat=>[.int .i64 i]) (λi w'=>Ext w w'/\i<=p.en/\(rQ p↔uR p i)) (λi _=>p.en-i) 0 rfl ⟨Ext.refl _,XM _,Iff.rfl⟩ ?_;rintro i w1 ⟨Qd,hi,qf⟩;refine QB (λc1=>?_) (λc1=>?_)
 ·have Q7:i<p.en:=by omega
  refine Zo oP (K.eds.ext Qd) rfl Q7 (λad e he hc=>?_);have iY:=Xe he;obtain⟨i1,i2,i3,i4⟩:=hB.i64 e iY;rw[hQy he] at qf;refine J4 (vs:=J8 e) rfl hc ?_;refine new (λw2 Qg X9 Qw=>?_);refine Qx Qw rfl (sc rfl) (λw3 ZT _ Qu=>?_);have XD:Ext w1 w3:=X0 Qg Qw ZT;have QQ:=Qd.trans XD;have K3:=K.ext QQ;have hd:=Ext.drew w3;have BY:∀{w':World} (Qb:Ext w3 w') (j:Nat) (u:Value),(J8 e)[3+j]? =some u->w'.cell? (((⟨w1.heap.size,0,none⟩:Addr).add 3).add j)=some u:=λQb j u hj=>by rw[add_add,(Qu.ext Qb).cell];exact hj
  refine XJ Qa (Ext w3) 55 [(true,0),(true,1),(true,2),(true,3),(true,4),(true,5),(true,6),(false,7),(true,8),(true,9),(true,10),(true,11),(true,12),(true,13),(true,14),(true,15),(true,16),(true,17),(true,18),(true,19),(true,20),(true,21),(true,22),(true,23),(true,24),(true,25),(true,26),(true,27),(true,28),(true,29),(true,30),(true,31),(true,32),(true,33),(true,34),(true,35),(true,36),(true,37),(true,38),(true,39),(true,40),(true,41),(true,42),(true,43),(true,44),(true,45),(true,46),(true,47),(true,48),(true,49),(true,50),(true,51),(true,52),(true,53),(true,54)] (by kernel_rfl) hd ?_;refine Xl (vs:=[.slice e.x.A e.x.n e.x.c,.int .i64 e.x.r]) rfl (λw' Qb j u hj=>BY Qb j u (by match j,hj with | 0,hj=>exact hj | 1,hj=>exact hj)) ?_;refine QL (v:=.slice p.NA p.nn p.nc) (λw' Qb=>(K3.blk.ext Qb).cell 0) ?_;rw[<-Xb];refine call (EF e.x.A e.x.n e.x.c p.nm.length e.x.nd e.x.r w3.drew ((K3.sbs e iY).ext hd)) ?_;rintro _ w4 ⟨rfl,Qq⟩;have KB:=hd.trans Qq;have XF:=QQ.trans KB;refine⟨KB,?_⟩;have no:¬(J7 p.nm.length e.x.nd e.x.r=true/\QC p.nm.length (oD e.x)≠ []/\(Jj 0 (QU p.f)).any (ir e.ed)=true/\iv p i<=e.fr)->¬rQ p:=λXi hh=>Xi (qf.1 hh).1
  have IU:(Jj 0 (QU p.f)).any (ir e.ed)=true->0<=e.fr/\e.fr<=e.to_/\e.to_<p.f.length:=λh=>by
   have:=Rv h;rw[WG hB.ok] at this;exact this
  have de:=XU p.f;cases VW:J7 p.nm.length e.x.nd e.x.r with
  | false=>
   refine Xc rfl ?_;refine XI (Yl 291 (by decide) w4) (λ_ _ hf=>hf.elim) ?_;rintro ch _ ⟨rfl,rfl⟩;exact⟨no (λhh=>by rw[VW] at hh;cases hh.1),rfl,XF⟩
  | true=>
   refine Xt rfl ?_;have se:=fV VW;have iE:=se.root0;refine QL (v:=.int .i64 e.x.r) (λw' Qb=>BY Qb 1 _ rfl) ?_;refine Zn (λhz=>?_) (λhz=>?_)
   ·refine XI (Yl 291 (by decide) w4) (λ_ _ hf=>hf.elim) ?_;rintro ch _ ⟨rfl,rfl⟩;exact⟨no (λhh=>hh.2.1 (iE.1 hz)),rfl,XF⟩
   refine QL (v:=.int .i64 e.fr) (λw' Qb=>(Qu.ext Qb).cell 0) ?_;refine QB (λh1=>?_) (λh1=>?_)
   ·refine XI (Yl 291 (by decide) w4) (λ_ _ hf=>hf.elim) ?_;rintro ch _ ⟨rfl,rfl⟩;exact⟨no (λhh=>by have:=IU hh.2.2.1;omega),rfl,XF⟩
   refine QL (v:=.int .i64 e.to_) (λw' Qb=>(Qu.ext Qb).cell 1) ?_;refine QL (v:=.int .i64 e.fr) (λw' Qb=>(Qu.ext Qb).cell 0) ?_;refine QB (λh2=>?_) (λh2=>?_)
   ·refine XI (Yl 291 (by decide) w4) (λ_ _ hf=>hf.elim) ?_;rintro ch _ ⟨rfl,rfl⟩;exact⟨no (λhh=>by have:=IU hh.2.2.1;omega),rfl,XF⟩
   refine QL (v:=.int .i64 e.to_) (λw' Qb=>(Qu.ext Qb).cell 1) ?_;refine QL (v:=.string (Qf p.f)) (λw' Qb=>(K3.blk.ext Qb).cell 3) ?_;refine QB (λh3=>?_) (λh3=>?_)
   ·refine XI (Yl 291 (by decide) w4) (λ_ _ hf=>hf.elim) ?_;rintro ch _ ⟨rfl,rfl⟩;exact⟨no (λhh=>by have:=IU hh.2.2.1;omega),rfl,XF⟩
   have hi8:(i:Int)<=9223372036854775807:=by omega
   refine QB (λh4=>?_) (λh4=>?_)
   ·have UG:0<i:=by omega
    refine QL (v:=.int .i64 e.fr) (λw' Qb=>(Qu.ext Qb).cell 0) ?_;refine QL (v:=.slice p.EA p.en p.ec) (λw' Qb=>(K3.blk.ext Qb).cell 4) ?_;refine Qm ((i-1:Nat):Int) (by omega) (by omega) ?_;refine Zo oP K3.eds rfl (by omega) (λHo e2 he2 Kw=>?_);refine QL (v:=.int .i64 e2.fr) (λw' Qb=>(Qb.cell (Kw 0 _ rfl))) ?_;have hpv:iv p i=e2.fr:=by unfold iv;rw[if_neg (by omega),he2]<;>rfl
    refine QB (λh9=>?_) (λh9=>?_)
    ·refine XI (Yl 291 (by decide) w4) (λ_ _ hf=>hf.elim) ?_;rintro ch _ ⟨rfl,rfl⟩;exact⟨no (λhh=>by have:=hh.2.2.2;rw[hpv] at this;omega),rfl,XF⟩
    have IV:iv p i<=e.fr:=by rw[hpv];omega
    have eY:e.fr=(e.fr.toNat:Int):=by omega
    obtain⟨a,s,hm,a1,a2⟩:=E1 (ls:=QU p.f) (p:=0) (x:=e.fr.toNat) (XM _) (by rw[WG hB.ok];omega);have gP:=lD p.f;have Jy:=WG hB.ok;have xq:=Rt gP (by rw[Jy];exact hB.f8) hm a1 a2;have fu:=Ru gP hm;have xr:=lR hm;rw[Jy] at xq fu xr;have qg:=Rc (e:=e.ed) hm (by show(a:Int)<=e.fr;omega) (by show e.fr<=a+s.length;omega) (by show e.fr<=e.to_;omega);have py:=Ext.drew w4;refine XJ Qa (Ext w4) 10 [(true,0),(true,1),(true,2),(true,3),(true,4),(true,5),(true,6),(false,7),(true,8),(true,9)] (by kernel_rfl) py ?_;refine QL (v:=.string (Qf p.f)) (λw' Qb=>((K3.blk.ext KB).ext Qb).cell 3) ?_;refine QL (v:=.int .i64 e.fr) (λw' Qb=>((Qu.ext KB).ext Qb).cell 0) ?_;refine Kf (v':=.string (Qf (p.f.take e.fr.toNat))) ⟨by omega,by omega,by rw[de];omega⟩ (by rw[Vn];rfl) ?_;refine call (Rw (p.f.take e.fr.toNat) w4.drew (by rw[Ye];have:=hB.fl;omega)) ?_;rintro _ _ ⟨rfl,rfl⟩;refine⟨py,?_⟩;rw[xq];refine Qm (a:Int) (by omega) (by have:=hB.fl;omega) ?_;have kU:=KB.trans py;have eo:=QQ.trans kU;refine Qp (K3.blk.ext kU) rfl ?_;refine Kf (v':=.string (Qf (p.f.drop a))) ⟨by omega,by rw[de];omega,by rw[de];omega⟩ (by
     rw[Vn,de];show Value.string (Qf ((p.f.take p.f.length).drop _))=_;rw[Jz (QE _)];rfl) ?_
    refine call (Ee (p.f.drop a) 10 w4.drew (λx hx=>hB.f8 x (ay hx)) (by decide)) ?_;rintro _ _ ⟨rfl,rfl⟩;rw[fu.1];refine Qm ((a+s.length:Nat):Int) (by omega) (by have:=hB.fl;omega) ?_;refine Qp (Qu.ext kU) rfl ?_;refine QB (λh5=>?_) (λh5=>?_)
    ·refine XI (Yl 291 (by decide) w4.drew) (λ_ _ hf=>hf.elim) ?_;rintro ch _ ⟨rfl,rfl⟩;exact⟨no (λhh=>by have h7:=hh.2.2.1;rw[qg,Vl] at h7;have h8:e.to_<=_:=h7.1;omega),rfl,eo⟩
    refine Qp (K3.blk.ext kU) rfl ?_;refine Qm ((a+s.length+1:Nat):Int) (by omega) (by have:=hB.fl;omega) ?_;refine Kf (v':=.string (Qf (s++ [10]))) ⟨by omega,by omega,by rw[de];omega⟩ (by
     rw[Vn];show Value.string (Qf ((p.f.take (a+s.length+1)).drop a))=_;rw[gS,show a+s.length+1-a=s.length+1 by omega,fu.2]) ?_
    have ky:∀b∈s++ [10],b<256:=λb hb=>by
     rw[<-fu.2] at hb;exact hB.f8 b (ay (eu hb))
    refine call (zl (s++ [10]) w4.drew ky) ?_;rintro _ w6 ⟨rfl,Q6⟩;have XG:=eo.trans Q6;rw[yY];refine QB (λh6=>?_) (λh6=>?_)
    ·refine XI (Yl 291 (by decide) w6) (λ_ _ hf=>hf.elim) ?_;rintro ch _ ⟨rfl,rfl⟩;exact⟨no (λhh=>by have h7:=hh.2.2.1;rw[qg,Vl] at h7;exact h6 h7.2),rfl,XG⟩
    refine Qm ((i+1:Nat):Int) (by show((i:Nat):Int)+1=_;omega) (by omega) ?_;have IW:(Jj 0 (QU p.f)).any (ir e.ed)=true:=by
     rw[qg,Vl];exact⟨by show e.to_<=_;omega,Decidable.not_not.1 h6⟩
    exact⟨i+1,rfl,⟨XG,Q7,qf.trans ⟨λh=>h.2,λh=>⟨⟨VW,λe0=>hz (iE.2 e0),IW,IV⟩,h⟩⟩⟩,by show p.en-(i+1)<p.en-i;omega⟩
   ·have UG:i=0:=by omega
    have IV:iv p i<=e.fr:=by unfold iv;rw[Qe UG];omega
    have eY:e.fr=(e.fr.toNat:Int):=by omega
    obtain⟨a,s,hm,a1,a2⟩:=E1 (ls:=QU p.f) (p:=0) (x:=e.fr.toNat) (XM _) (by rw[WG hB.ok];omega);have gP:=lD p.f;have Jy:=WG hB.ok;have xq:=Rt gP (by rw[Jy];exact hB.f8) hm a1 a2;have fu:=Ru gP hm;have xr:=lR hm;rw[Jy] at xq fu xr;have qg:=Rc (e:=e.ed) hm (by show(a:Int)<=e.fr;omega) (by show e.fr<=a+s.length;omega) (by show e.fr<=e.to_;omega);have py:=Ext.drew w4;refine XJ Qa (Ext w4) 10 [(true,0),(true,1),(true,2),(true,3),(true,4),(true,5),(true,6),(false,7),(true,8),(true,9)] (by kernel_rfl) py ?_;refine QL (v:=.string (Qf p.f)) (λw' Qb=>((K3.blk.ext KB).ext Qb).cell 3) ?_;refine QL (v:=.int .i64 e.fr) (λw' Qb=>((Qu.ext KB).ext Qb).cell 0) ?_;refine Kf (v':=.string (Qf (p.f.take e.fr.toNat))) ⟨by omega,by omega,by rw[de];omega⟩ (by rw[Vn];rfl) ?_;refine call (Rw (p.f.take e.fr.toNat) w4.drew (by rw[Ye];have:=hB.fl;omega)) ?_;rintro _ _ ⟨rfl,rfl⟩;refine⟨py,?_⟩;rw[xq];refine Qm (a:Int) (by omega) (by have:=hB.fl;omega) ?_;have kU:=KB.trans py;have eo:=QQ.trans kU;refine Qp (K3.blk.ext kU) rfl ?_;refine Kf (v':=.string (Qf (p.f.drop a))) ⟨by omega,by rw[de];omega,by rw[de];omega⟩ (by
     rw[Vn,de];show Value.string (Qf ((p.f.take p.f.length).drop _))=_;rw[Jz (QE _)];rfl) ?_
    refine call (Ee (p.f.drop a) 10 w4.drew (λx hx=>hB.f8 x (ay hx)) (by decide)) ?_;rintro _ _ ⟨rfl,rfl⟩;rw[fu.1];refine Qm ((a+s.length:Nat):Int) (by omega) (by have:=hB.fl;omega) ?_;refine Qp (Qu.ext kU) rfl ?_;refine QB (λh5=>?_) (λh5=>?_)
    ·refine XI (Yl 291 (by decide) w4.drew) (λ_ _ hf=>hf.elim) ?_;rintro ch _ ⟨rfl,rfl⟩;exact⟨no (λhh=>by have h7:=hh.2.2.1;rw[qg,Vl] at h7;have h8:e.to_<=_:=h7.1;omega),rfl,eo⟩
    refine Qp (K3.blk.ext kU) rfl ?_;refine Qm ((a+s.length+1:Nat):Int) (by omega) (by have:=hB.fl;omega) ?_;refine Kf (v':=.string (Qf (s++ [10]))) ⟨by omega,by omega,by rw[de];omega⟩ (by
     rw[Vn];show Value.string (Qf ((p.f.take (a+s.length+1)).drop a))=_;rw[gS,show a+s.length+1-a=s.length+1 by omega,fu.2]) ?_
    have ky:∀b∈s++ [10],b<256:=λb hb=>by
     rw[<-fu.2] at hb;exact hB.f8 b (ay (eu hb))
    refine call (zl (s++ [10]) w4.drew ky) ?_;rintro _ w6 ⟨rfl,Q6⟩;have XG:=eo.trans Q6;rw[yY];refine QB (λh6=>?_) (λh6=>?_)
    ·refine XI (Yl 291 (by decide) w6) (λ_ _ hf=>hf.elim) ?_;rintro ch _ ⟨rfl,rfl⟩;exact⟨no (λhh=>by have h7:=hh.2.2.1;rw[qg,Vl] at h7;exact h6 h7.2),rfl,XG⟩
    refine Qm ((i+1:Nat):Int) (by show((i:Nat):Int)+1=_;omega) (by omega) ?_;have IW:(Jj 0 (QU p.f)).any (ir e.ed)=true:=by
     rw[qg,Vl];exact⟨by show e.to_<=_;omega,Decidable.not_not.1 h6⟩
    exact⟨i+1,rfl,⟨XG,Q7,qf.trans ⟨λh=>h.2,λh=>⟨⟨VW,λe0=>hz (iE.2 e0),IW,IV⟩,h⟩⟩⟩,by show p.en-(i+1)<p.en-i;omega⟩
 ·have Q7:i=p.en:=by omega
  have cZ:p.es.drop i=[]:=xJ (by omega);exact⟨qf.2 (by unfold uR;rw[cZ];exact⟨rfl,rfl⟩),Qd⟩
def bF (n:Nat)(f:List Nat)(o:BF)(a:Nat)(es:List Ed):List AV:=es.foldl (λvs e=>vs.flatMap (VM n f e)) [⟨o,[],a⟩]
theorem hQA (n:Nat)(f:List Nat)(o:BF)(a:Nat)(es:List Ed)(e:Ed):bF n f o a (es++ [e])=(bF n f o a es).flatMap (VM n f e):=by unfold bF;rw[LC]<;>rfl
theorem lS {α:Type}{l:List α}{i:Nat}{x:α}(h:l[i]? =some x):l.take (i+1)=l.take i++ [x]:=by rw[VX,h]<;>rfl
theorem zE {n:Nat}{f:List Nat}{o:BF}{a:Nat}(QK:QC n o≠ []):∀(es:List Ed),VI n f (QC n o) a es (bF n f o a es):=by
 have key:∀(es pre:List Ed) (vs:List AV),VI n f (QC n o) a pre vs->VI n f (QC n o) a (pre++es) (es.foldl (λvs e=>vs.flatMap (VM n f e)) vs):=by
  intro es;induction es with
  | nil=>intro pre vs h;simpa using h
  | cons e es ih=>
   intro pre vs h;have:=ih (pre++ [e]) (vs.flatMap (VM n f e)) (h.step (λc hc=>(Z0.1 hc).1) e);simpa using this
 intro es;have:=key es [] _ (VI.start (f:=f) (a:=a) QK);rw[ep] at this;exact this
theorem hQB (n:Nat)(f:List Nat)(e:Ed)(v:AV):(VM n f e v).length<=2:=by
 unfold VM;split
 ·split<;>simp
 ·simp only[Xk];split<;>simp
theorem E6 (n:Nat)(f:List Nat)(e:Ed):∀vs:List AV,(vs.flatMap (VM n f e)).length<=2*vs.length
 | []=>by simp
 | v::vs=>by
  rw[bX,Qy,Xk];have:=hQB n f e v;have:=E6 n f e vs;omega
theorem hQC (n:Nat)(f:List Nat)(o:BF)(a:Nat):∀(es:List Ed),(bF n f o a es).length<=2^es.length:=by
 have key:∀(es:List Ed) (vs:List AV),(es.foldl (λvs e=>vs.flatMap (VM n f e)) vs).length<=2^es.length*vs.length:=by
  intro es;induction es with
  | nil=>intro vs;simp
  | cons e es ih=>
   intro vs;have h1:=ih (vs.flatMap (VM n f e));have h2:=E6 n f e vs;have h3:=Nat.mul_le_mul_left (2^es.length) h2;rw[tv,Xk,kY,Nat.mul_assoc];omega
 intro es;have:=key es [⟨o,[],a⟩];simpa [bF] using this
structure VB (B T:Nat) (v:AV):Prop where
 b8:∀b∈v.d,b<256
 ln:v.d.length<=B
 at_:v.a<=T
theorem oQ (f:List Nat)(a b:Nat):(JS f a b).length<=f.length:=by unfold JS;rw[Ye,Y1];omega
theorem rR {f:List Nat}(h:∀b∈f,b<256)(x y:Nat):∀b∈JS f x y,b<256:=λb hb=>h b (ay (eu hb))
theorem VB.step {B T:Nat}{v:AV}(h:VB B T v){n:Nat}{f:List Nat}{e:Ed}(hf:∀b∈f,b<256)(Kk:f.length<=60000)(ht:∀b∈e.tx,b<256)(Yr:e.tx.length<=1000)(he:e.to_.toNat<=T):∀u∈VM n f e v,VB (B+70000) T u:=λu hu=>by
 unfold VM at hu;split at hu
 ·split at hu
  ·cases hu
  ·rw[QJ.1 hu];exact⟨h.b8,by have:=h.ln;omega,h.at_⟩
 ·rcases QX.1 hu with rfl | hu
  ·refine⟨λb hb=>?_,?_,he⟩
   ·simp only[XB] at hb;rcases hb with(hb | hb) | hb
    ·exact h.b8 b hb
    ·exact rR hf _ _ b hb
    ·exact ht b hb
   ·simp only[Qy];have:=h.ln;have:=oQ f v.a e.fr.toNat;omega
  ·split at hu
   ·cases hu
   ·rw[QJ.1 hu];exact⟨h.b8,by have:=h.ln;simp only;omega,h.at_⟩
theorem hQD {n:Nat}{f:List Nat}{o:BF}{a T:Nat}(hf:∀b∈f,b<256)(Kk:f.length<=60000)(haT:a<=T):∀(es:List Ed),(∀e∈es,(∀b∈e.tx,b<256)/\e.tx.length<=1000/\e.to_.toNat<=T)->∀v∈bF n f o a es,VB (es.length*70000) T v:=by
 have key:∀(es:List Ed) (vs:List AV) (B:Nat),(∀e∈es,(∀b∈e.tx,b<256)/\e.tx.length<=1000/\e.to_.toNat<=T)->(∀v∈vs,VB B T v)->∀v∈es.foldl (λvs e=>vs.flatMap (VM n f e)) vs,VB (B+es.length*70000) T v:=by
  intro es;induction es with
  | nil=>intro vs B _ h v hv;simpa using h v hv
  | cons e es ih=>
   intro vs B he h v hv;obtain⟨e1,e2,e3⟩:=he e (by simp);have:=ih (vs.flatMap (VM n f e)) (B+70000) (λb hb=>he b (by simp[hb])) (λu hu=>by
    obtain⟨v0,dO,hu⟩:=fz.1 hu;exact(h v0 dO).step hf Kk e1 e2 e3 u hu) v hv
   rw[Xk,tz,Nat.one_mul];rw[show B+(es.length*70000+70000)=B+70000+es.length*70000 by omega];exact this
 intro es he v hv;have:=key es [⟨o,[],a⟩] 0 he (λv hv=>by rw[QJ.1 hv];exact⟨(λb hb=>by cases hb),XM _,haT⟩) v hv
 rwa [a8] at this
theorem hQE {n:Nat}{f:List Nat}{o:BF}{a i:Nat}{es:List Ed}{e:Ed}(QK:QC n o≠ [])(ha:dE (QC n o) es=true)(hi:es[i]? =some e)(h0:(a:Int)<=e.fr)(hp:∀b∈es,0<=b.to_){v:AV}(hv:v∈bF n f o a (es.take i))(hb:QC n (Js v.o e.o)≠ []):(v.a:Int)<=e.fr:=by
 obtain⟨c,hc⟩:=gV _ hb;obtain⟨c1,c2⟩:=Z0.1 hc;have c2:(v.o (bits c)&&e.o (bits c))=true:=c2;rw[JR] at c2;obtain⟨q1,q2⟩:=(zE (f:=f) (a:=a) QK (es.take i)).st v hv c (Z0.2 ⟨c1,c2.1⟩);have:=hQr (f:=f) ha (a:=a) hi q1 c2.2 h0 hp;rw[q2] at this;exact this
theorem hQF {n:Nat}{f:List Nat}{o:BF}{a stop:Nat}{es:List Ed}(QK:QC n o≠ []):((QC n o).all (λc=>KT (aM f stop a es c))=true)↔∀v∈bF n f o a es,KT (v.d++JS f v.a stop)=true:=by
 have hI:=zE (f:=f) (a:=a) QK es;constructor
 ·intro h v hv;obtain⟨c,hc⟩:=gV _ (hI.ne v hv);obtain⟨q1,q2⟩:=hI.st v hv c hc;have:=W5.1 h c q1;unfold aM at this;rw[q2] at this;exact this
 ·intro h;refine W5.2 (λc hc=>?_);obtain⟨v,hv,ny⟩:=hI.cov c hc;obtain⟨_,q2⟩:=hI.st v hv c (Z0.2 ⟨(Z0.1 hc).1,ny⟩);unfold aM;rw[q2];exact h v hv
def jU (f:List Nat)(stop:Nat)(vs:List AV):List Pr:=vs.foldl (λps v=>bE ps v.o (v.d++JS f v.a stop)) []
theorem hQG (f:List Nat)(stop:Nat)(vs:List AV)(v:AV):jU f stop (vs++ [v])=bE (jU f stop vs) v.o (v.d++JS f v.a stop):=by unfold jU;rw[LC]<;>rfl
theorem hQH {n:Nat}{f:List Nat}{o:BF}{a stop:Nat}{es:List Ed}(QK:QC n o≠ []):QI n (QC n o) (aM f stop a es) (bF n f o a es) (jU f stop (bF n f o a es)):=by
 have hI:=zE (f:=f) (a:=a) QK es;generalize bF n f o a es=V at*;have key:∀(vs pre:List AV) (ps:List Pr),(∀v∈vs,v∈V)->QI n (QC n o) (aM f stop a es) pre ps->QI n (QC n o) (aM f stop a es) (pre++vs) (vs.foldl (λps v=>bE ps v.o (v.d++JS f v.a stop)) ps):=by
  intro vs;induction vs with
  | nil=>intro pre ps _ h;simpa using h
  | cons v vs ih=>
   intro pre ps hV h;have:=ih (pre++ [v]) _ (λu hu=>hV u (by simp[hu])) (h.ins (v:=v) (t:=v.d++JS f v.a stop) (λc hc=>by
    obtain⟨q1,q2⟩:=hI.st v (hV v (by simp)) c hc;refine⟨q1,?_⟩;unfold aM;rw[q2]))
   simpa using this
 have:=key V [] [] (λv hv=>hv) QI.nil;rw[ep] at this;exact this
theorem Rx {f:List Nat}{stop:Nat}{P:List Nat->Prop}:∀(vs:List AV),(∀v∈vs,P (v.d++JS f v.a stop))->∀q∈jU f stop vs,P q.t:=by
 have key:∀(vs:List AV) (ps:List Pr),(∀v∈vs,P (v.d++JS f v.a stop))->(∀q∈ps,P q.t)->∀q∈vs.foldl (λps v=>bE ps v.o (v.d++JS f v.a stop)) ps,P q.t:=by
  intro vs;induction vs with
  | nil=>intro ps _ h;exact h
  | cons v vs ih=>
   intro ps hv h;refine ih _ (λu hu=>hv u (by simp[hu])) (λq hq=>?_);have hq:q∈bE ps v.o (v.d++JS f v.a stop):=hq;unfold bE at hq;split at hq
   ·rename_i p hp;rcases CX hq with hq | rfl
    ·exact h q hq
    ·exact h p (Xe hp)
   ·rcases XB.1 hq with hq | hq
    ·exact h q hq
    ·rw[QJ.1 hq];exact hv v (by simp)
 intro vs hv;exact key vs [] hv (λq hq=>by cases hq)
theorem Ry {α:Type}{f:α->List Value}{sz:Nat}(hf:∀x,(f x).length=sz):∀(l:Nat)(L:List α),(L.drop l).flatMap f=(L.flatMap f).drop (l*sz)
 | 0,L=>by simp
 | l+1,[]=>by simp
 | l+1,x::L=>by
  rw[Lv,Ry hf l L,bX,tz,Nat.one_mul,Nat.add_comm,<-tw];congr 1;rw[<-hf x,xI]
theorem SlS.from {α:Type}{f:α->List Value}{sz:Nat}(hf:∀x,(f x).length=sz){w:World}{A:Option Addr}{n c l:Nat}{L:List α}(h:SlS f sz w A n c L)(hl:l<=n):SlS f sz w (if c=l then A else A.map (·.add (l*sz))) (n-l) (c-l) (L.drop l):=by
 have h1:=h.1.len;have h2:=h.1.le;have h3:=h.1.cap;refine⟨?_,by rw[Y1,h.2]⟩;rw[Ry hf];refine⟨by rw[Y1,h1,<-Nat.sub_mul],by omega,by omega,λh0=>?_⟩;obtain⟨ad,rfl,hc⟩:=h.1.at_ (by omega);refine⟨ad.add (l*sz),by rw[if_neg (by omega)];rfl,λj u hu=>?_⟩;rw[Addr.add_add];exact hc _ _ (by rw[List.getElem?_drop] at hu;exact hu)
theorem Rz {n:Nat}(hn:n<=12){x y:DV}{o o':BF}(s:Set1 n x.nd x.r o)(s':Set1 n y.nd y.r o'):oH x.nd x.r y.nd y.r= !(WQ (QC n o') o):=by
 cases hm:WQ (QC n o') o with
 | true=>
  obtain⟨c,hc,hoc⟩:=tI.1 hm;refine Ex (λh=>h.2.2 ⟨bits c,by rw[s.mean];exact hoc,by rw[s'.mean];exact(Z0.1 hc).2⟩)
 | false=>
  refine O6 ⟨s.chk hn,s'.chk hn,λ⟨e,h1,h2⟩=>?_⟩;rw[s.mean] at h1;rw[s'.mean] at h2;obtain⟨c,hc,hb⟩:=zr n e;have:WQ (QC n o') o=true:=tI.2 ⟨c,Z0.2 ⟨hc,by rw[s'.dep _ e hb];exact h2⟩,by rw[s.dep _ e hb];exact h1⟩;rw[hm] at this;cases this
theorem hQI {k:Nat}(hk:k<=12)(x y:DV){o o':BF}(w:World)(h:SB w x.A x.n x.c x.nd)(h':SB w y.A y.n y.c y.nd)(s:Set1 k x.nd x.r o)(s':Set1 k y.nd y.r o'):
  Fn Tryz.prog 101 [Xg x.A x.n x.c x.r,Xg y.A y.n y.c y.r] w (uK w k (λe=>o e||o' e)):=by
 refine(Oj x.A x.n x.c x.nd x.r y.A y.n y.c y.nd y.r w h h').mono ?_;rw[fM hk s s' 1];have c1:Set1 k _ _ (λe=>o e||o' e):=(dx s s' 1).congr (λe=>by simp[J5]);generalize Vo x.nd x.r y.nd y.r 1=D at*;obtain⟨D1,D2⟩:=D;rintro v w' ⟨PA,q,pc,rfl,hE,hP,hR⟩;exact⟨PA,q,pc,D1,D2,rfl,hE,hP,c1,hR⟩
theorem hQJ (q:DV×List Nat)(t:List Nat)(tb:Nat)(w:World)(hq:∀b∈q.2,b<256)(ht:∀b∈t,b<256)(hB:Blk w tb 9 [.string (Qf t)]):
  Fn Tryz.prog 99 [.agg (Jd q).toArray,.pointer (some ⟨tb,0,none⟩)] w (λu w'=>u= .bool (decide (q.2=t))/\Ext w w'):=by
 refine QF (c:={c99 with cuts:=[]}) Qa Tryz.func99 rfl rfl rfl ?_;refine new (λw1 Qd Q2 Qh=>?_);refine Qp Qh rfl ?_;refine Qv (hB.ext Qd) rfl ?_;refine⟨?_,Qd⟩;refine QN Value.bool ?_;refine qq.2 ⟨λe=>JD hq ht e,λe=>by rw[e]⟩
theorem hQK (PA:Option Addr)(pn pc:Nat)(ps:List (DV×List Nat))(t:List Nat)(tb:Nat)(w:World)(h:SlS Jd 3 w PA pn pc ps)(hp:∀q∈ps,∀b∈q.2,b<256)(ht:∀b∈t,b<256)(hB:Blk w tb 9 [.string (Qf t)]):
  Fn Tryz.prog 98 [.slice PA pn pc,.func (.func 99) #[] #[.pointer (some ⟨tb,0,none⟩)]] w (λu w'=>u= .int .i64 (if K8 (Zi ps) t<pn then(K8 (Zi ps) t:Int)else -1)/\Ext w w'):=by
 have hn:=h.2;have ZK:=h.1.le;have aZ:=h.1.cap;have Je:(Zi ps).length=ps.length:=by simp[Zi]
 obtain⟨s1,s2⟩:=uQ t (Zi ps);refine QF (c:={c98 with cuts:=[]}) Qa Tryz.func98 rfl rfl rfl ?_;refine loop Qa [8] (λi:Nat=>[.int .i64 i]) (λi w'=>Ext w w'/\i<=pn/\∀q∈ps.take i,q.2≠t) (λi _=>pn-i) 0 rfl ⟨Ext.refl _,XM _,λq hq=>by simp at hq⟩ ?_;rintro i w1 ⟨Qd,hi,Xi⟩;have hge:i<=K8 (Zi ps) t:=by
  apply Classical.byContradiction;intro hh;have Xa:K8 (Zi ps) t<ps.length:=by omega
  obtain⟨q,hq⟩:∃q,ps[K8 (Zi ps) t]? =some q:=⟨_,Xs Xa⟩
  have:=s1 ⟨oD q.1,q.2⟩ (by unfold Zi;rw[K2];show Option.map _ (ps[K8 (Zi ps) t]?)=_;rw[hq];rfl);exact Xi q (Xe (i:=K8 (Zi ps) t) (by rw[tC (by omega)];exact hq)) this
 refine QB (λc1=>?_) (λc1=>?_)
 ·have Q7:i<pn:=by omega
  refine Zo EL (h.ext Qd) rfl Q7 (λad q hq hc=>?_);have bV:=Xe hq;refine J4 (vs:=Jd q) rfl hc ?_;refine call (hQJ q t tb w1 (hp q bV) ht (hB.ext Qd)) ?_;rintro _ w2 ⟨rfl,Qg⟩;have gH:(Zi ps)[i]? =some ⟨oD q.1,q.2⟩:=by unfold Zi;rw[K2,hq]<;>rfl
  refine QB (λd1=>?_) (λd1=>?_)
  ·have JY:K8 (Zi ps) t=i:=by
    apply Classical.byContradiction;intro hh;exact s2 i _ gH (by omega) d1
   rw[JY,Qe Q7];exact⟨rfl,Qd.trans Qg⟩
  ·simp only[maxLen] at aZ;refine Qm ((i+1:Nat):Int) (by show((i:Nat):Int)+1=_;omega) (by omega) ?_;refine⟨i+1,rfl,⟨Qd.trans Qg,Q7,λq' hq'=>?_⟩,by show pn-(i+1)<pn-i;omega⟩;rw[VX,hq] at hq';rcases XB.1 hq' with hq' | hq'
   ·exact Xi q' hq'
   ·have:q'=q:=by simpa using hq'
    rw[this];exact d1
 ·have Q7:i=pn:=by omega
  rw[if_neg (by omega)];exact⟨rfl,Qd⟩
theorem RB {j:Nat}{vs l:List Value}{c:Value}(h:l[j+vs.length]? =some c):KH j vs l=KH j (vs++ [c]) l:=by
 have Xa:=(Zt.1 h).1;rw[ic j vs l (by omega),ic j (vs++ [c]) l (by simp;omega)];rw[KO,KO,KO];congr 2;rw[cd Xa,Qy,nF];have:l[j+vs.length]=c:=by rw[Xs Xa] at h;exact Option.some.inj h
 rw[this]<;>rfl
theorem hQL (f:List Nat)(stop:Nat):∀vs:List AV,(jU f stop vs).length<=vs.length:=by
 have key:∀(vs:List AV) (ps:List Pr),(vs.foldl (λps v=>bE ps v.o (v.d++JS f v.a stop)) ps).length<=ps.length+vs.length:=by
  intro vs;induction vs with
  | nil=>intro ps;simp
  | cons v vs ih=>
   intro ps;have h1:=ih (bE ps v.o (v.d++JS f v.a stop));have h2:(bE ps v.o (v.d++JS f v.a stop)).length<=ps.length+1:=by
    unfold bE;split
    ·rw[bZ];omega
    ·simp
   rw[tv,Xk];omega
 intro vs;have:=key vs [];simpa [jU] using this
theorem zF {n:Nat}{qs:List (DV×Pr)}(h:∀q∈qs,Set1 n q.1.nd q.1.r q.2.o):Zi (qs.map (λq=>(q.1,q.2.t)))=qs.map (·.2):=by
 unfold Zi;rw[xx];refine List.map_congr_left (λq hq=>?_);have:oD q.1=q.2.o:=funext (λe=>(h q hq).mean e);show(⟨oD q.1,q.2.t⟩:Pr)=q.2;rw[this]
theorem zG {ad:Addr}{n j sz:Nat}{K:Addr->Prop}(h:j<n)(k:K (ad.add (j*sz))):YM (some ad) n (j:Int) sz K:=by
 unfold YM;exact⟨ad,rfl,by omega,by omega,by simpa using k⟩
def K9 (v:DV×AV):List Value:=[.slice v.1.A v.1.n v.1.c,.int .i64 v.1.r,.string (Qf v.2.d),.int .i64 v.2.a]
theorem RC (v:DV×AV):(K9 v).length=4:=rfl
def ZF (q:DV×Pr):List Value:=Jd (q.1,q.2.t)
theorem iw (q:DV×Pr):(ZF q).length=3:=rfl
theorem zH (l:List (DV×Pr)):l.flatMap ZF=(l.map (λq=>(q.1,q.2.t))).flatMap Jd:=by rw[List.flatMap_map]<;>rfl
theorem hQM (e:EdV):∀u∈J8 e,Jo u=true:=sc rfl
theorem E7 (v:DV×AV):∀u∈K9 v,Jo u=true:=sc rfl
theorem zI (v:DV×List Nat):∀u∈Jd v,Jo u=true:=sc rfl
theorem hQN {p:EP}(hV:rQ p):∀e∈p.es,J7 p.nm.length e.x.nd e.x.r=true/\(Jj 0 (QU p.f)).any (ir e.ed)=true:=by
 obtain⟨h1,h2⟩:=hV;have key:∀(es:List Ed) (q:Int),jT p.nm.length p.f q es=true->∀e∈es,(Jj 0 (QU p.f)).any (ir e)=true:=by
  intro es;induction es with
  | nil=>intro q _ e he;cases he
  | cons b es ih=>
   intro q h e he;rw[jT,JR,JR,EZ,JR] at h;rcases QX.1 he with rfl | he
   ·exact h.1.1.2
   ·exact ih _ h.2 e he
 exactλe he=>⟨W5.1 h1 e he,key _ 0 h2 e.ed (ZY.2 ⟨e,he,rfl⟩)⟩
theorem hQO (es:List EdV)(S:List Nat)(a:Nat)(s:List Nat):fY (es.map EdV.ed) S a s=(es.filter (λe=>oM a s e.ed&&WQ S e.ed.o)).map EdV.ed:=by
 unfold fY;rw[List.filter_map]<;>rfl
theorem hQP {α:Type}{l:List α}{i:Nat}{x:α}(h:l[i]? =some x):l.drop i=x::l.drop (i+1):=by
 have Xa:=(Zt.1 h).1;rw[cd Xa];congr 1;rw[Xs Xa] at h;exact Option.some.inj h
theorem hQQ (p:EP)(hB:EB p)(hV:rQ p)(a:Nat)(s:List Nat)(hm:(a,s)∈Jj 0 (QU p.f))(d:DV)(o:BF)(w:World)(K:EK w p)(hd:SB w d.A d.n d.c d.nd)(sd:Set1 p.nm.length d.nd d.r o):
  FnP Tryz.prog 48 [.pointer (some ⟨p.eb,0,none⟩),.string (Qf (s++ [10])),.int .i64 a,Xg d.A d.n d.c d.r] w
   (λu w'=>∃L,eT p.nm p.f (p.es.map EdV.ed) (QC p.nm.length o) a s=some L/\rC w u (L.map (·++ [10])) w')
   (λch w'=>eT p.nm p.f (p.es.map EdV.ed) (QC p.nm.length o) a s=none/\ch=iu 291/\Ext w w'):=by
 have gP:=lD p.f;have Jy:=WG hB.ok;have xr:=lR hm;rw[Jy] at xr;have Kk:=hB.fl;have hk:p.nm.length<=12:=by have:=hB.n4;omega
 have Cy:=K.eds.2;have lQH:=hB.el;have IT:=K.eds.1.cap;have kQU:=K.eds.1.le;simp only[maxLen] at IT;have xu:(Qf (s++ [10])).size=s.length+1:=by rw[XU];simp
 have de:=XU p.f;have hval:=hQN hV;generalize tu:QC p.nm.length o=S at*;have IX:∀e∈p.es,0<=e.fr/\e.fr<=e.to_/\e.to_<p.f.length:=λe he=>by
  have:=Rv (hval e he).2;rw[Jy] at this;exact this
 refine W6 (c:={c48 with cuts:=[]}) Qa Tryz.func48 rfl rfl rfl ?_;refine new (λw1 Qd Q2 Qh=>?_);have K1:=K.ext Qd;refine Qp K1.blk rfl ?_;refine loop Qa [33,9] (λt:Nat×List EdV×Option Addr×Nat=>[.int .i64 t.1,.slice t.2.2.1 t.2.1.length t.2.2.2]) (λt w'=>Ext w1 w'/\t.1<=p.en/\t.2.1=(p.es.take t.1).filter (λe=>oM a s e.ed&&WQ S e.ed.o)/\Own w' w1.heap.size 58 5 t.2.2.1 t.2.1.length t.2.2.2 (t.2.1.flatMap J8)) (λt _=>p.en-t.1) (0,[],none,0) rfl ⟨Ext.refl _,XM _,by simp,Own.nil _ _ _ _⟩ ?_;rintro⟨i,m,MA,mc⟩ w2 ⟨Qg,hi,av,hO⟩;simp only at hi av hO;have Q4:=Qd.trans Qg;have IC:m.length<=i:=by rw[av];exact Ze (tG _ _) (by rw[Ye];omega)
 refine QB (λc1=>?_) (λc1=>?_)
 ·have Q7:i<p.en:=by simp only at c1;omega
  refine Zo oP (K.ext Q4).eds rfl Q7 (λad e he hc=>?_);have iY:=Xe he;obtain⟨e1,e2,e3⟩:=IX e iY;have se:=fV (hval e iY).1;refine J4 (vs:=J8 e) rfl hc ?_;refine new (λw3 Qj JV Qu=>?_);refine Qx Qu rfl (sc rfl) (λw4 bH _ QZ=>?_);have JL:Ext w2 w4:=X0 Qj Qu bH;refine Qv QZ rfl ?_;refine QB (λd1=>?_) (λd1=>?_)
  ·refine Qp QZ rfl ?_;refine Qm ((a+s.length+1:Nat):Int) (by rw[xu];omega) (by omega) ?_;refine QB (λd2=>?_) (λd2=>?_)
   ·refine eE (vs:=[.slice e.x.A e.x.n e.x.c,.int .i64 e.x.r]) QZ rfl (λj u hj=>by match j,hj with | 0,hj=>exact hj | 1,hj=>exact hj) ?_;refine Qs (Qh.ext (Qg.trans JL)) rfl ?_;refine call (O7 e.x.A e.x.n e.x.c e.x.nd e.x.r d.A d.n d.c d.nd d.r w4 ((K.sbs e iY).ext (Q4.trans JL)) (hd.ext (Q4.trans JL))) ?_;rintro _ w5 ⟨rfl,Qt⟩;have sH:=JL.trans Qt;rw[Rz hk se sd,tu];have hil:oM a s e.ed=true:=XX ⟨by show(a:Int)<=e.fr;omega,by show e.to_<=a+s.length;omega⟩;cases pK:WQ S (oD e.x)with
    | false=>
     refine Xt rfl ?_;refine Qm ((i+1:Nat):Int) (by show((i:Nat):Int)+1=_;omega) (by omega) ?_;refine⟨(i+1,m,MA,mc),rfl,⟨Qg.trans sH,Q7,?_,hO.ext sH⟩,by show p.en-(i+1)<p.en-i;omega⟩;simp only;rw[lS he,C0,<-av,xK,if_neg (by show¬(oM a s e.ed&&WQ S (oD e.x))=true;rw[pK,Bool.and_false];decide),List.filter_nil,YL]
    | true=>
     refine Xc rfl ?_;refine Qs (QZ.ext Qt) rfl ?_;refine XE Qa [J8 e] rfl rfl rfl rfl rfl ⟨rfl,rfl,⟨⟩⟩ rfl (λcs h=>by simp only[QJ] at h;subst h;rfl) rfl (by decide) (by decide) ?_;intro w6 Q6 cL Xh;have Hp:=sH.trans Q6;have ve:Sl w6 5 (some ⟨w5.heap.size,0,none⟩) 1 1 (J8 e):=Sl.own (sz:=5) (n:=1) Xh (QE _) (by decide) (by simp[J8]);refine JE (n:=m.length) Qa rfl rfl rfl rfl rfl (by decide) rfl rfl ⟨_,rfl⟩ rfl rfl (hO.ext Hp) ve (hQM e) (by unfold maxLen;omega) (by show(m.length+1)*64<=_;omega) (by have:=Qg.size;have:=Hp.size;omega) ?_;intro A' c' w7 Jv sh jQP;refine Qm ((i+1:Nat):Int) (by show((i:Nat):Int)+1=_;omega) (by omega) ?_;refine⟨(i+1,m++ [e],A',c'),by simp only[Qy];rfl,⟨Jv.ext (Qg.trans Hp) (λk hk=>(hO.rows k hk).1),Q7,?_,?_⟩,by show p.en-(i+1)<p.en-i;omega⟩
     ·simp only;rw[lS he,C0,<-av,xK,Qe (by show(oM a s e.ed&&WQ S (oD e.x))=true;rw[pK,hil];rfl),List.filter_nil]
     ·simp only;rw[Qy,ce];simpa using sh
   ·refine Qm ((i+1:Nat):Int) (by show((i:Nat):Int)+1=_;omega) (by omega) ?_;refine⟨(i+1,m,MA,mc),rfl,⟨Qg.trans JL,Q7,?_,hO.ext JL⟩,by show p.en-(i+1)<p.en-i;omega⟩;simp only;rw[lS he,C0,<-av,xK,if_neg (by intro hh;rw[JR] at hh;have h3:(a:Int)<=e.fr/\e.to_<=a+s.length:=fB hh.1;omega),List.filter_nil,YL]
  ·refine Qm ((i+1:Nat):Int) (by show((i:Nat):Int)+1=_;omega) (by omega) ?_;refine⟨(i+1,m,MA,mc),rfl,⟨Qg.trans JL,Q7,?_,hO.ext JL⟩,by show p.en-(i+1)<p.en-i;omega⟩;simp only;rw[lS he,C0,<-av,xK,if_neg (by intro hh;rw[JR] at hh;have h3:(a:Int)<=e.fr/\e.to_<=a+s.length:=fB hh.1;omega),List.filter_nil,YL]
 have Q7:i=p.en:=by simp only at c1;omega
 have av:m=p.es.filter (λe=>oM a s e.ed&&WQ S e.ed.o):=by rw[av,Jz (by omega)]
 have aQt:=hQO p.es S a s;rw[<-av] at aQt;have nu:∀e∈m,e∈p.es/\(a:Int)<=e.fr/\e.to_<=a+s.length/\WQ S (oD e.x)=true:=λe he=>by
  rw[av] at he;obtain⟨h1,h2⟩:=KP.1 he;rw[JR] at h2;have h3:(a:Int)<=e.fr/\e.to_<=a+s.length:=fB h2.1;exact⟨h1,h3.1,h3.2,h2.2⟩
 have Z7:m.length<=10:=by omega
 have hM:SlS J8 5 w2 MA m.length mc m:=⟨hO.sl,rfl⟩
 clear av hi c1;have qh:eT p.nm p.f (p.es.map EdV.ed) S a s=if m.map EdV.ed=[] then some [s] else if dE S (m.map EdV.ed)=false then none else if S.all (λc=>KT (aM p.f (a+s.length+1) a (m.map EdV.ed) c))=false then none else some (XV p.nm (aM p.f (a+s.length+1) a (m.map EdV.ed)) p.nm.length 0 S):=by
  unfold eT;rw[aQt]
 generalize eT p.nm p.f (p.es.map EdV.ed) S a s=RES at*;refine Zn (λh0=>?_) (λh0=>?_)
 ·have hm0:m=[]:=Y0 (by simp only at h0;omega);refine XE Qa [[Value.string (Qf (s++ [10]))]] rfl rfl rfl rfl rfl ⟨rfl,rfl,⟨⟩⟩ rfl (λcs hh=>by simp only[QJ] at hh;subst hh;rfl) rfl (by decide) (by decide) ?_;intro w3 Qj JV Qu;refine⟨[s],by rw[qh,hm0];rfl,_,_,rfl,Q4.trans Qj,Sl.own' (n:=1) Qu rfl (by decide),λ_=>⟨_,_,rfl⟩⟩
 have Zj:m≠ []:=λe=>h0 (by rw[e];rfl)
 have rW:m.map EdV.ed≠ []:=λe=>Zj (List.map_eq_nil_iff.1 e)
 rw[if_neg rW] at qh;have kQV:S≠ []:=by
  obtain⟨e,he⟩:=gV _ Zj;intro e0;have:=(nu e he).2.2.2;rw[e0] at this;cases this
 refine loop Qa [69] (λi:Nat=>[.int .i64 i]) (λi w'=>Ext w2 w'/\i<=m.length/\dE S (m.map EdV.ed)=dE S ((m.drop i).map EdV.ed)) (λi _=>m.length-i) 0 rfl ⟨Ext.refl _,XM _,rfl⟩ ?_;rintro i w3 ⟨Qj,hi,bW⟩;have QQ:=Q4.trans Qj;refine QB (λc1=>?_) (λc1=>?_)
 ·have Q7:i<m.length:=by simp only at c1;omega
  refine Zo oP (hM.ext Qj) rfl Q7 (λad e he hc=>?_);have iY:=Xe he;obtain⟨e1,e2,e3,e4⟩:=nu e iY;have se:=fV (hval e e1).1;rw[hQP he,YK,dE] at bW;refine J4 (vs:=J8 e) rfl hc ?_;refine new (λw4 Qq Kz QZ=>?_);refine Qx QZ rfl (sc rfl) (λw5 Jk _ QH=>?_);have JW:Ext w3 w5:=X0 Qq QZ Jk;have sH:=Qj.trans JW;refine Qm ((i+1:Nat):Int) (by show((i:Nat):Int)+1=_;omega) (by omega) ?_;refine L8 Qa rfl rfl rfl rfl rfl rfl (by omega) ?_;have hFr:=(hM.ext sH).from oP (l:=i+1) (by omega)
  have th:=hM.1.le;refine loop Qa [79] (λj:Nat=>[.int .i64 j]) (λj w'=>Ext w5 w'/\j<=m.length-(i+1)/\((m.drop (i+1)).take j).all (λb=>iq S e.ed b.ed)=true) (λj _=>m.length-(i+1)-j) 0 rfl ⟨Ext.refl _,XM _,by simp⟩ ?_;rintro j w6 ⟨Q6,hj,hall⟩;refine QB (λc2=>?_) (λc2=>?_)
  ·have J3:j<m.length-(i+1):=by simp only at c2;omega
   refine Zo oP (hFr.ext Q6) rfl J3 (λHo b hb Kw=>?_);have tg:b∈m:=ay (Xe hb);obtain⟨b1,b2,b3,b4⟩:=nu b tg;have sb:=fV (hval b b1).1;refine J4 (vs:=J8 b) rfl Kw ?_;refine new (λw7 Q1 YS QY=>?_);refine Qx QY rfl (sc rfl) (λw8 V8 _ Xp=>?_);have YV:Ext w6 w8:=X0 Q1 QY V8;have cQ:=Q6.trans YV;have V9:=QQ.trans (JW.trans cQ);have UH:=QH.ext cQ;have mI:=Ext.drew w8;have next:∀w',Ext w8 w'->iq S e.ed b.ed=true->Ext w5 w'/\j+1<=m.length-(i+1)/\((m.drop (i+1)).take (j+1)).all (λb=>iq S e.ed b.ed)=true:=λw' fq h2=>by
    refine⟨cQ.trans fq,by omega,?_⟩;rw[lS hb,List.all_append,hall];simp only[xA,List.all_nil,Bool.and_true,df];exact h2
   refine XJ Qa (Ext w8) 15 [(true,0),(true,1),(true,2),(true,3),(true,4),(true,5),(true,6),(true,7),(true,8),(true,9),(true,11),(false,10),(false,12),(true,13),(true,14)] (by kernel_rfl) mI ?_;refine QL (v:=.int .i64 e.to_) (λw' Qb=>(UH.ext Qb).cell 1) ?_;refine QL (v:=.int .i64 b.fr) (λw' Qb=>(Xp.ext Qb).cell 0) ?_;refine QB (λd1=>?_) (λd1=>?_)
   ·refine Xl (vs:=[.slice e.x.A e.x.n e.x.c,.int .i64 e.x.r]) rfl (λw' Qb k u hk=>by rw[add_add,(UH.ext Qb).cell];match k,hk with | 0,hk=>exact hk | 1,hk=>exact hk) ?_;refine Xl (vs:=[.slice b.x.A b.x.n b.x.c,.int .i64 b.x.r]) rfl (λw' Qb k u hk=>by rw[add_add,(Xp.ext Qb).cell];match k,hk with | 0,hk=>exact hk | 1,hk=>exact hk) ?_;refine Xl (vs:=d.cells) rfl (λw' Qb k u hk=>by rw[((Qh.ext (Qg.trans (Qj.trans (JW.trans cQ)))).ext Qb).cell];exact hk) ?_;have eo:=V9.trans mI;refine call (lP hk e.x b.x w8.drew ((K.sbs e e1).ext eo) ((K.sbs b b1).ext eo) se sb) ?_;rintro _ w9 ⟨QA,Qn,Qc,Qnd,Qr,rfl,Xw,hQ9,sQ,_⟩;refine⟨mI.trans Xw,?_⟩;refine call (O7 QA Qn Qc Qnd Qr d.A d.n d.c d.nd d.r w9 hQ9 (hd.ext (eo.trans Xw))) ?_;rintro _ QG ⟨rfl,Zw⟩;have WY:=(mI.trans Xw).trans Zw;refine⟨WY,?_⟩;rw[Rz (x:=⟨QA,Qn,Qc,Qnd,Qr⟩) hk sQ sd,tu];cases pK:WQ S (λv=>oD e.x v&&oD b.x v)with
    | false=>
     refine Xt rfl ?_;refine Qm ((j+1:Nat):Int) (by show((j:Nat):Int)+1=_;omega) (by omega) ?_;exact⟨j+1,rfl,next QG WY (by show(!(decide (b.fr<e.to_)&&WQ S (λv=>oD e.x v&&oD b.x v)))=true;rw[pK,Bool.and_false];rfl),by show m.length-(i+1)-(j+1)<m.length-(i+1)-j;omega⟩
    | true=>
     refine Xc rfl ?_;refine XI (Yl 291 (by decide) QG) (λ_ _ hf=>hf.elim) ?_;rintro ch _ ⟨rfl,rfl⟩;have Xi:iq S e.ed b.ed=false:=by
      show(!(decide (b.fr<e.to_)&&WQ S (λv=>oD e.x v&&oD b.x v)))=false;rw[pK,XX (by omega:b.fr<e.to_)]<;>rfl
     have KF:(m.drop (i+1)).all (λb=>iq S e.ed b.ed)=false:=List.all_eq_false.2 ⟨b,Xe hb,by rw[Xi];decide⟩;refine⟨?_,rfl,V9.trans WY⟩;have:dE S (m.map EdV.ed)=false:=by
      rw[bW,List.all_map];show((m.drop (i+1)).all (λb=>iq S e.ed b.ed)&&_)=false;rw[KF]<;>rfl
     rw[qh,Qe this]
   ·refine Qm ((j+1:Nat):Int) (by show((j:Nat):Int)+1=_;omega) (by omega) ?_;exact⟨j+1,rfl,next w8.drew mI (by show(!(decide (b.fr<e.to_)&&WQ S (λv=>oD e.x v&&oD b.x v)))=true;rw[Zf (by omega:¬b.fr<e.to_)];rfl),by show m.length-(i+1)-(j+1)<m.length-(i+1)-j;omega⟩
  ·have J3:j=m.length-(i+1):=by simp only at c2;omega
   rw[Jz (by rw[Y1];omega)] at hall;refine Qm ((i+1:Nat):Int) (by show((i:Nat):Int)+1=_;omega) (by omega) ?_;refine⟨i+1,rfl,⟨sH.trans Q6,Q7,?_⟩,by show m.length-(i+1)<m.length-i;omega⟩;rw[bW,List.all_map];show((m.drop (i+1)).all (λb=>iq S e.ed b.ed)&&_)=_;rw[hall,df]
 have Q7:i=m.length:=by simp only at c1;omega
 have aQu:dE S (m.map EdV.ed)=true:=by rw[bW,Q7,xJ (QE _)]<;>rfl
 clear bW c1 hi;rw[if_neg (by rw[aQu];decide)] at qh;have XD:=Qg.trans Qj;refine Qs (Qh.ext XD) rfl ?_;refine XE Qa [K9 (d,⟨o,[],a⟩)] rfl rfl rfl rfl rfl ⟨rfl,rfl,⟨⟩⟩ rfl (λcs h=>by simp only[QJ] at h;subst h;rfl) rfl (by decide) (by decide) ?_;intro w4 Qq Kz QZ;have XF:=QQ.trans Qq;have QK:QC p.nm.length o≠ []:=by rw[tu];exact kQV
 have kQW:dE (QC p.nm.length o) (m.map EdV.ed)=true:=by rw[tu];exact aQu
 have hep:∀b∈m.map EdV.ed,0<=b.to_:=λb hb=>by
  obtain⟨e,he,rfl⟩:=ZY.1 hb;have:=IX e (nu e he).1;show 0<=e.to_;omega
 have hVB:∀i,i<=m.length->∀v∈bF p.nm.length p.f o a ((m.map EdV.ed).take i),VB (i*70000) (a+s.length) v:=λi hi v hv=>by
  have:=hQD (n:=p.nm.length) (o:=o) (a:=a) (T:=a+s.length) hB.f8 Kk (by omega) ((m.map EdV.ed).take i) (λb hb=>by
   obtain⟨e,he,rfl⟩:=ZY.1 (eu hb);obtain⟨h1,h2,h3,h4⟩:=nu e he;exact⟨hB.t8 e h1,hB.tl e h1,by show e.to_.toNat<=_;omega⟩) v hv
  rw[Ye,Jg,nD hi] at this;exact this
 have hVL:∀i,i<=m.length->(bF p.nm.length p.f o a ((m.map EdV.ed).take i)).length<=1024:=λi hi=>by
  refine Ze (hQC _ _ _ _ _) ?_;rw[Ye,Jg,nD hi];exact Ze (Wu (by decide) (show i<=10 by omega)) (by decide)
 refine loop Qa [107,16] (λt:Nat×List (DV×AV)×Option Addr×Nat=>[.int .i64 t.1,.slice t.2.2.1 t.2.1.length t.2.2.2]) (λt w'=>Ext w4 w'/\t.1<=m.length/\t.2.1.map (·.2)=bF p.nm.length p.f o a ((m.map EdV.ed).take t.1)/\SlS K9 4 w' t.2.2.1 t.2.1.length t.2.2.2 t.2.1/\∀v∈t.2.1,SB w' v.1.A v.1.n v.1.c v.1.nd/\Set1 p.nm.length v.1.nd v.1.r v.2.o) (λt _=>m.length-t.1) (0,[(d,⟨o,[],a⟩)],some ⟨w3.heap.size,0,none⟩,1) rfl ⟨Ext.refl _,XM _,rfl,⟨Sl.own (sz:=4) (n:=1) QZ (QE _) (by show 1<=maxLen;decide) (by simp[K9]),rfl⟩,λv hv=>by
  rw[QJ.1 hv];exact⟨hd.ext XF,sd⟩⟩ ?_
 rintro⟨i,vs,VA,vc⟩ w5 ⟨Qt,hi,iW,IY,IZ⟩;simp only at hi iW IY IZ;have Jm:=XF.trans Qt;have hvl:vs.length<=1024:=by have:=hVL i hi;rw[<-iW,Jg] at this;exact this
 have fp:∀v∈vs,VB (i*70000) (a+s.length) v.2:=λv hv=>hVB i hi v.2 (by rw[<-iW];exact ZY.2 ⟨v,hv,rfl⟩)
 refine QB (λc1=>?_) (λc1=>?_)
 ·have Q7:i<m.length:=by simp only at c1;omega
  refine Zo oP (hM.ext (Qj.trans (Qq.trans Qt))) rfl Q7 (λad e he hc=>?_);have iY:=Xe he;obtain⟨e1,e2,e3,e4⟩:=nu e iY;obtain⟨e5,e6,e7⟩:=IX e e1;have se:=fV (hval e e1).1;have heg:(m.map EdV.ed)[i]? =some e.ed:=by rw[K2,he]<;>rfl
  refine J4 (vs:=J8 e) rfl hc ?_;refine new (λw6 Q6 cL Xh=>?_);refine Qx Xh rfl (sc rfl) (λw7 Zr _ QY=>?_);have Vb:Ext w5 w7:=X0 Q6 Xh Zr;have Vc:=Jm.trans Vb;refine loop Qa [113,19] (λt:Nat×List (DV×AV)×Option Addr×Nat=>[.int .i64 t.1,.slice t.2.2.1 t.2.1.length t.2.2.2]) (λt w'=>Ext w7 w'/\t.1<=vs.length/\t.2.1.map (·.2)=((vs.map (·.2)).take t.1).flatMap (VM p.nm.length p.f e.ed)/\Own w' w7.heap.size 166 4 t.2.2.1 t.2.1.length t.2.2.2 (t.2.1.flatMap K9)/\∀v∈t.2.1,DgO w' (Qi t.2.2.1) p.nm.length v.1 v.2.o) (λt _=>vs.length-t.1) (0,[],none,0) rfl ⟨Ext.refl _,XM _,rfl,Own.nil _ _ _ _,λv hv=>by cases hv⟩ ?_;rintro⟨j,nx,NX,nxc⟩ w8 ⟨Q9,hj,bQ,sI,gB⟩;simp only at hj bQ sI gB;have V9:=Vc.trans Q9;have cQ:=Vb.trans Q9;have mQc:nx.length<=2*j:=by
   have h1:=QN List.length bQ;have h2:=E6 p.nm.length p.f e.ed ((vs.map (·.2)).take j);rw[Jg] at h1;rw[Ye] at h2;omega
  refine QB (λc2=>?_) (λc2=>?_)
  ·have J3:j<vs.length:=by simp only at c2;omega
   refine Zo RC (IY.ext cQ) rfl J3 (λHo v hv Kw=>?_);have kS:=Xe hv;obtain⟨sbv,stv⟩:=IZ v kS;obtain⟨UI,vbl,vba⟩:=fp v kS;have I0:(vs.map (·.2))[j]? =some v.2:=by rw[K2,hv]<;>rfl
   refine J4 (vs:=K9 v) rfl Kw ?_;refine new (λw9 Xw dN JM=>?_);refine Qx JM rfl (sc rfl) (λQG ku _ J9=>?_);have WY:Ext w8 QG:=X0 Xw JM ku;have gA:=Q9.trans WY;have mE:=V9.trans WY;refine eE (vs:=[.slice v.1.A v.1.n v.1.c,.int .i64 v.1.r]) J9 rfl (λk u hk=>by match k,hk with | 0,hk=>exact hk | 1,hk=>exact hk) ?_;refine eE (vs:=[.slice e.x.A e.x.n e.x.c,.int .i64 e.x.r]) (QY.ext gA) rfl (λk u hk=>by match k,hk with | 0,hk=>exact hk | 1,hk=>exact hk) ?_;refine call (lP hk v.1 e.x QG (sbv.ext (cQ.trans WY)) ((K.sbs e e1).ext mE) stv se) ?_;rintro _ QD ⟨QA,Qn,Qc,Qnd,Qr,rfl,Jx,jQQ,sQ,Cw⟩;refine new (λQ5 Xq iQ7 KV=>?_);refine Qx KV rfl (sc rfl) (λXR vE _ KJ=>?_);have Hq:Ext QD XR:=X0 Xq KV vE;have UJ:=Jx.trans Hq;have mJ:=WY.trans UJ;have Ht:=Q9.trans mJ;have o8:=V9.trans mJ;have wl:=J9.ext UJ;have Hl:=jQQ.ext Hq;have zW:=Jx.size;have lQI:=Hq.size;have lQJ:=WY.size;have z8:=Q9.size;have KN:=sI.rows;have UK:=sQ.root0;have bT:(vs.map (·.2)).take (j+1)=(vs.map (·.2)).take j++ [v.2]:=lS I0;refine Qp KJ rfl ?_;refine aB (λhz=>?_) (λhz=>?_)
   ·have I1:QC p.nm.length (Js v.2.o (oD e.x))≠ []:=λe0=>hz (UK.2 e0)
    have iX:=hQE (f:=p.f) (a:=a) QK kQW heg (by show(a:Int)<=e.fr;omega) hep (v:=v.2) (by rw[<-iW];exact ZY.2 ⟨v,kS,rfl⟩) I1;have iX:(v.2.a:Int)<=e.fr:=iX;have YJ:=Ext.drew XR;have dl:=oQ p.f v.2.a e.fr.toNat;have tl:=hB.tl e e1;have hto:((e.to_.toNat:Nat):Int)=e.to_:=by omega
    refine XJ Qa (Mod (Qi NX) XR) 23 [(true,0),(true,1),(true,2),(true,3),(true,4),(true,5),(true,6),(true,7),(true,8),(true,9),(true,10),(true,11),(true,12),(true,13),(true,14),(true,15),(true,16),(true,17),(true,18),(true,19),(false,20),(false,21),(true,22)] (by kernel_rfl) (Mod.of_ext _ YJ) ?_;have Ad:¬Qi NX QD.heap.size:=λh=>by have:=KN _ h;omega
    have Hu:¬Qi NX w8.heap.size:=λh=>by have:=KN _ h;omega
    have Hv:¬Qi NX w5.heap.size:=λh=>by have:=KN _ h;have:=Vb.size;have:=QY.lt;omega
    have neb:¬Qi NX p.eb:=λh=>by have:=KN _ h;have:=K.blk.lt;have:=Vc.size;omega
    have ds:=XU v.2.d;have cs:=XU (JS p.f v.2.a e.fr.toNat);have dcs:=XU (v.2.d++JS p.f v.2.a e.fr.toNat);have txs:=XU e.tx;rw[Qy] at dcs;refine Xl (vs:=[.slice QA Qn Qc,.int .i64 Qr]) rfl (λw' Qb k u hk=>by rw[(KJ.mod Qb Ad).cell];exact hk) ?_;refine QL (v:=.string (Qf v.2.d)) (λw' Qb=>(wl.mod Qb Hu).cell 2) ?_;refine QL (v:=.string (Qf p.f)) (λw' Qb=>((K.blk.ext o8).mod Qb neb).cell 3) ?_;refine QL (v:=.int .i64 v.2.a) (λw' Qb=>(wl.mod Qb Hu).cell 3) ?_;refine QL (v:=.int .i64 e.fr) (λw' Qb=>((QY.ext Ht).mod Qb Hv).cell 0) ?_;refine Kf (v':=.string (Qf (JS p.f v.2.a e.fr.toNat))) ⟨by omega,by omega,by rw[de];omega⟩ (by
     rw[Vn];show Value.string (Qf ((p.f.take e.fr.toNat).drop v.2.a))=_;rw[gS];rfl) ?_
    refine Kf (v':=.string (Qf (v.2.d++JS p.f v.2.a e.fr.toNat))) (by rw[ds,cs];unfold maxLen;omega) (by rw[jj]) ?_;refine QL (v:=.string (Qf e.tx)) (λw' Qb=>((QY.ext Ht).mod Qb Hv).cell 2) ?_;refine Kf (v':=.string (Qf (v.2.d++JS p.f v.2.a e.fr.toNat++e.tx))) (by rw[dcs,txs];unfold maxLen;omega) (by rw[jj]) ?_;refine QL (v:=.int .i64 ((e.to_.toNat:Nat):Int)) (λw' Qb=>by rw[hto];exact((QY.ext Ht).mod Qb Hv).cell 1) ?_;refine XE Qa [K9 (⟨QA,Qn,Qc,Qnd,Qr⟩,⟨Js v.2.o (oD e.x),v.2.d++JS p.f v.2.a e.fr.toNat++e.tx,e.to_.toNat⟩)] rfl rfl rfl rfl rfl ⟨rfl,rfl,⟨⟩⟩ rfl (λcs h=>by simp only[QJ] at h;subst h;rfl) rfl (by decide) (by decide) ?_;generalize pw:(((⟨QA,Qn,Qc,Qnd,Qr⟩:DV),(⟨Js v.2.o (oD e.x),v.2.d++JS p.f v.2.a e.fr.toNat++e.tx,e.to_.toNat⟩:AV)):DV×AV)=V1;intro Za Jl FZ JN;have iJ:=YJ.trans Jl;have pz:=mJ.trans iJ;refine⟨Mod.of_ext _ iJ,?_⟩;have Hw:Sl Za 4 (some ⟨XR.drew.heap.size,0,none⟩) 1 1 (K9 V1):=Sl.own (sz:=4) (n:=1) JN (QE _) (by decide) (by simp[K9]);refine JE (n:=nx.length) Qa rfl rfl rfl rfl rfl (by decide) rfl rfl ⟨_,rfl⟩ rfl rfl (sI.ext pz) Hw (E7 _) (by unfold maxLen;omega) (by show(nx.length+1)*56<=_;omega) (by have:=(Q9.trans pz).size;omega) ?_;intro NX2 wm Ka sJ gC Hx;have sK:Mod (Qi NX) XR Ka:=(Mod.of_ext (Qi NX) iJ).trans sJ (λi hi=>.inl hi);refine⟨sK,?_⟩;have sL:Mod (Qi NX) w8 Ka:=(Mod.of_ext (Qi NX) mJ).trans sK (λi hi=>.inl hi);have wn:Ext w7 Ka:=sL.ext Q9 (λk hk=>(KN k hk).1);have UL:=Vc.trans wn;have jQR:=Vb.trans wn;have lQK:=sK.size;have wo:∀k,Qi NX2 k->Qi NX k∨Za.heap.size<=k:=Hx.rows
    have z14:=iJ.size;have jQS:∀u∈nx,DgO Ka (Qi NX2) p.nm.length u.1 u.2.o:=λu hu=>(gB u hu).step sL (λk hk=>by
     rcases wo k hk with h | h
     ·exact .inl h
     ·exact .inr (by omega))
    have UM:DgO Ka (Qi NX2) p.nm.length V1.1 V1.2.o:=by
     rw[<-pw];have h0:DgO XR (Qi NX) p.nm.length ⟨QA,Qn,Qc,Qnd,Qr⟩ (Js v.2.o (oD e.x)):=⟨Hl,sQ,λad ea h0 h=>by have:=Cw ad.block ⟨ad,ea,rfl⟩;have:=KN _ h;omega⟩
     exact h0.step sK (λk hk=>by
      rcases wo k hk with h | h
      ·exact .inl h
      ·exact .inr (by omega))
    have UN:=gC.rows;rw[show nx.flatMap K9++K9 V1=(nx++ [V1]).flatMap K9 by rw[ce];simp] at gC;have ss:=wl.mod sK Hu;have pq:=KJ.mod sK Ad;refine eE (vs:=[.slice v.1.A v.1.n v.1.c,.int .i64 v.1.r]) ss rfl (λk u hk=>by match k,hk with | 0,hk=>exact hk | 1,hk=>exact hk) ?_;refine Qs pq rfl ?_;have jQT:SB Ka QA Qn Qc Qnd:=by have:=UM.sb;rw[<-pw] at this;exact this
    refine call (dC hk v.1 ⟨QA,Qn,Qc,Qnd,Qr⟩ Ka (sbv.ext jQR) jQT stv sQ) ?_;rintro _ WV ⟨PA,Pn,Pc,Pnd,Pr',rfl,VQ,jQU,sP,hPR⟩;have UO:=sP.root0;refine jn (j:=0) (ss.ext VQ) (by show 0+2<=4;decide) (sc rfl) (λVf GA jQV mv=>?_);have pk:Mod (·=w8.heap.size) WV Vf:=mQj GA rfl;have Hy:Ext w7 Vf:=pk.ext (wn.trans VQ) (λk hk=>by omega);have z16:=VQ.size;have jQW:∀k,Qi NX2 k->¬k=w8.heap.size:=λk hk hh=>by
     rcases wo k hk with h | h
     ·have:=KN _ h;omega
     ·omega
    have BB:=(gC.ext VQ).mod pk jQW;have lQL:=J9.lt;have UP:∀u∈nx++ [V1],DgO Vf (Qi NX2) p.nm.length u.1 u.2.o:=λu hu=>by
     have Hz:DgO Ka (Qi NX2) p.nm.length u.1 u.2.o:=by
      rcases XB.1 hu with hu | hu
      ·exact jQS u hu
      ·rw[QJ.1 hu];exact UM
     have jQX:∀ad,u.1.A=some ad->0<u.1.n->¬ad.block=w8.heap.size:=λad ea h0 hh=>by
      rcases XB.1 hu with hu | hu
      ·have:=SB.lt (gB u hu).sb ad ea h0;omega
      ·rw[QJ.1 hu,<-pw] at ea h0;have:=Cw ad.block ⟨ad,ea,rfl⟩;omega
     exact⟨SB.modo (Hz.sb.ext VQ) pk jQX,Hz.st,Hz.off⟩
    refine E4 (j:=0) (i:=1) mv rfl ?_;refine aB (λhy=>?_) (λhy=>?_)
    ·refine Qs mv rfl ?_;refine XE Qa [K9 (⟨PA,Pn,Pc,Pnd,Pr'⟩,⟨V5 v.2.o (Js v.2.o (oD e.x)),v.2.d,v.2.a⟩)] rfl rfl rfl rfl rfl ⟨rfl,rfl,⟨⟩⟩ rfl (λcs h=>by simp only[QJ] at h;subst h;rfl) rfl (by decide) (by decide) ?_;generalize Ay:(((⟨PA,Pn,Pc,Pnd,Pr'⟩:DV),(⟨V5 v.2.o (Js v.2.o (oD e.x)),v.2.d,v.2.a⟩:AV)):DV×AV)=V2;intro KX mK lQM pf;have jQY:Sl KX 4 (some ⟨Vf.heap.size,0,none⟩) 1 1 (K9 V2):=Sl.own (sz:=4) (n:=1) pf (QE _) (by decide) (by simp[K9]);refine JE (n:=nx.length+1) Qa rfl rfl rfl rfl rfl (by decide) rfl rfl ⟨_,rfl⟩ rfl rfl (BB.ext mK) jQY (E7 _) (by unfold maxLen;omega) (by show(nx.length+1+1)*56<=_;omega) (by have:=(Hy.trans mK).size;omega) ?_;intro NX3 HB aU jQZ UQ jQ0;have HC:Mod (Qi NX2) Vf aU:=(Mod.of_ext (Qi NX2) mK).trans jQZ (λi hi=>.inl hi);have UR:∀k,Qi NX3 k->Qi NX2 k∨KX.heap.size<=k:=jQ0.rows
     have z18:=mK.size;have jQ1:Ext w7 aU:=HC.ext Hy (λk hk=>(UN k hk).1);have jQ2:SB Vf PA Pn Pc Pnd:=SB.modo jQU pk (λad ea h0 hh=>by have:=hPR ad.block ⟨ad,ea,rfl⟩;omega);have jQ3:DgO aU (Qi NX3) p.nm.length V2.1 V2.2.o:=by
      rw[<-Ay];have h0:DgO Vf (Qi NX2) p.nm.length ⟨PA,Pn,Pc,Pnd,Pr'⟩ (V5 v.2.o (Js v.2.o (oD e.x))):=⟨jQ2,sP,λad ea h0 h=>by have:=hPR ad.block ⟨ad,ea,rfl⟩;have:=(UN _ h).2;omega⟩
      exact h0.step HC (λk hk=>by
       rcases UR k hk with h | h
       ·exact .inl h
       ·exact .inr (by omega))
     refine Qm ((j+1:Nat):Int) (by show((j:Nat):Int)+1=_;omega) (by omega) ?_;rw[show(nx++ [V1]).flatMap K9++K9 V2=(nx++ [V1]++ [V2]).flatMap K9 by rw[ce];simp] at UQ;refine⟨(j+1,nx++ [V1]++ [V2],NX3,HB),by simp only[Qy];rfl,⟨jQ1,J3,?_,by simp only;rw[Qy,Qy];exact UQ,λu hu=>?_⟩,by show vs.length-(j+1)<vs.length-j;omega⟩
     ·simp only;rw[bT,ce,<-bQ,et,et,bX,xL,YL,KO];congr 1;have h9:QC p.nm.length (V5 v.2.o (Js v.2.o (oD e.x)))≠ []:=λe0=>hy (UO.2 e0)
      unfold VM;rw[if_neg (by exact I1),if_neg (by exact h9),<-pw,<-Ay]<;>rfl
     ·rcases XB.1 hu with hu | hu
      ·exact(UP u hu).step HC (λk hk=>by
        rcases UR k hk with h | h
        ·exact .inl h
        ·exact .inr (by omega))
      ·rw[QJ.1 hu];exact jQ3
    ·refine Qm ((j+1:Nat):Int) (by show((j:Nat):Int)+1=_;omega) (by omega) ?_;refine⟨(j+1,nx++ [V1],NX2,wm),by simp only[Qy];rfl,⟨Hy,J3,?_,by simp only;rw[Qy];exact BB,UP⟩,by show vs.length-(j+1)<vs.length-j;omega⟩;simp only;rw[bT,ce,<-bQ,et,bX,xL,YL];congr 1;have h9:QC p.nm.length (V5 v.2.o (Js v.2.o (oD e.x)))=[]:=UO.1 hy;unfold VM;rw[if_neg (by exact I1),Qe (by exact h9),<-pw]<;>rfl
   ·have gp:QC p.nm.length (Js v.2.o (oD e.x))=[]:=UK.1 hz;have dO:=stv.root0;refine E4 (j:=0) (i:=1) wl rfl ?_;refine aB (λhy=>?_) (λhy=>?_)
    ·refine Qs wl rfl ?_;refine XE Qa [K9 v] rfl rfl rfl rfl rfl ⟨rfl,rfl,⟨⟩⟩ rfl (λcs h=>by simp only[QJ] at h;subst h;rfl) rfl (by decide) (by decide) ?_;intro Za Jl FZ JN;have pz:=mJ.trans Jl;have Hw:Sl Za 4 (some ⟨XR.heap.size,0,none⟩) 1 1 (K9 v):=Sl.own (sz:=4) (n:=1) JN (QE _) (by decide) (by simp[K9]);refine JE (n:=nx.length) Qa rfl rfl rfl rfl rfl (by decide) rfl rfl ⟨_,rfl⟩ rfl rfl (sI.ext pz) Hw (E7 _) (by unfold maxLen;omega) (by show(nx.length+1)*56<=_;omega) (by have:=(Q9.trans pz).size;omega) ?_;intro NX2 wm Ka sJ gC Hx;have sL:Mod (Qi NX) w8 Ka:=(Mod.of_ext (Qi NX) pz).trans sJ (λi hi=>.inl hi);have wn:Ext w7 Ka:=sL.ext Q9 (λk hk=>(KN k hk).1);have wo:∀k,Qi NX2 k->Qi NX k∨Za.heap.size<=k:=Hx.rows
     have lQN:=pz.size;have US:∀k,Qi NX2 k->Qi NX k∨w8.heap.size<=k:=λk hk=>by
      rcases wo k hk with h | h
      ·exact .inl h
      ·exact .inr (by omega)
     refine Qm ((j+1:Nat):Int) (by show((j:Nat):Int)+1=_;omega) (by omega) ?_;rw[show nx.flatMap K9++K9 v=(nx++ [v]).flatMap K9 by rw[ce];simp] at gC;refine⟨(j+1,nx++ [v],NX2,wm),by simp only[Qy];rfl,⟨wn,J3,?_,by simp only;rw[Qy];exact gC,λu hu=>?_⟩,by show vs.length-(j+1)<vs.length-j;omega⟩
     ·simp only;rw[bT,ce,<-bQ,et,bX,xL,YL];congr 1;unfold VM;rw[Qe (by exact gp),if_neg (λe0=>hy (dO.2 e0))]<;>rfl
     ·rcases XB.1 hu with hu | hu
      ·exact(gB u hu).step sL US
      ·rw[QJ.1 hu];have h0:DgO w8 (Qi NX) p.nm.length v.1 v.2.o:=⟨sbv.ext cQ,stv,λad ea h0 h=>by have:=SB.lt (sbv.ext Vb) ad ea h0;have:=(KN _ h).1;omega⟩
       exact h0.step sL US
    ·refine Qm ((j+1:Nat):Int) (by show((j:Nat):Int)+1=_;omega) (by omega) ?_;refine⟨(j+1,nx,NX,nxc),rfl,⟨Q9.trans mJ,J3,?_,sI.ext mJ,λu hu=>(gB u hu).ext mJ⟩,by show vs.length-(j+1)<vs.length-j;omega⟩;simp only;rw[bT,ce,<-bQ,bX,xL,YL];unfold VM;rw[Qe (by exact gp),Qe (dO.1 hy),YL]
  ·have J3:j=vs.length:=by simp only at c2;omega
   rw[Jz (by rw[Jg];omega),iW,<-hQA,<-lS heg] at bQ;refine Qm ((i+1:Nat):Int) (by show((i:Nat):Int)+1=_;omega) (by omega) ?_;exact⟨(i+1,nx,NX,nxc),rfl,⟨Qt.trans (Vb.trans Q9),Q7,bQ,⟨sI.sl,rfl⟩,λv hv=>⟨(gB v hv).sb,(gB v hv).st⟩⟩,by show m.length-(i+1)<m.length-i;omega⟩
 have Q7:i=m.length:=by simp only at c1;omega
 rw[Jz (by rw[Jg];omega)] at iW;have Cz:=hQF (f:=p.f) (a:=a) (stop:=a+s.length+1) (es:=m.map EdV.ed) QK;rw[tu] at Cz;have I4:=hQH (f:=p.f) (a:=a) (stop:=a+s.length+1) (es:=m.map EdV.ed) QK;have hvi:=zE (f:=p.f) (a:=a) QK (m.map EdV.ed);rw[<-iW] at Cz I4 hvi;refine loop Qa [165,23] (λt:Nat×List (DV×Pr)×Option Addr×Nat=>[.int .i64 t.1,.slice t.2.2.1 t.2.1.length t.2.2.2]) (λt w'=>Ext w5 w'/\t.1<=vs.length/\t.2.1.map (·.2)=jU p.f (a+s.length+1) ((vs.map (·.2)).take t.1)/\Own w' w5.heap.size 56 3 t.2.2.1 t.2.1.length t.2.2.2 (t.2.1.flatMap ZF)/\(∀q∈t.2.1,DgO w' (Qi t.2.2.1) p.nm.length q.1 q.2.o)/\∀v∈(vs.map (·.2)).take t.1,KT (v.d++JS p.f v.a (a+s.length+1))=true) (λt _=>vs.length-t.1) (0,[],none,0) rfl ⟨Ext.refl _,XM _,rfl,Own.nil _ _ _ _,(λq hq=>by cases hq),λv hv=>by simp at hv⟩ ?_;rintro⟨k,qs,PA,pc⟩ w6 ⟨Q6,Gw,gQ,eX,dY,wq⟩;simp only at Gw gQ eX dY wq;have XG:=Jm.trans Q6;have hql:qs.length<=k:=by
  have h1:=QN List.length gQ;have h2:=hQL p.f (a+s.length+1) ((vs.map (·.2)).take k);rw[Jg] at h1;rw[Ye] at h2;omega
 have KN:=eX.rows;refine QB (λc2=>?_) (λc2=>?_)
 ·have Xj:k<vs.length:=by simp only at c2;omega
  refine Zo RC (IY.ext Q6) rfl Xj (λHo v hv Kw=>?_);have kS:=Xe hv;obtain⟨sbv,stv⟩:=IZ v kS;obtain⟨UI,vbl,vba⟩:=fp v kS;have I0:(vs.map (·.2))[k]? =some v.2:=by rw[K2,hv]<;>rfl
  have hvV:v.2∈vs.map (·.2):=ZY.2 ⟨v,kS,rfl⟩;have bT:(vs.map (·.2)).take (k+1)=(vs.map (·.2)).take k++ [v.2]:=lS I0;refine J4 (vs:=K9 v) rfl Kw ?_;refine new (λw7 Q1 YS QY=>?_);refine Qx QY rfl (sc rfl) (λw8 V8 _ Xp=>?_);have YV:Ext w6 w8:=X0 Q1 QY V8;have V9:=XG.trans YV;have YJ:=Ext.drew w8;have ds:=XU v.2.d;have cs:=XU (JS p.f v.2.a (a+s.length+1));have dl:=oQ p.f v.2.a (a+s.length+1);refine XJ Qa (Ext w8) 16 [(true,0),(true,1),(true,2),(true,3),(true,4),(true,5),(true,6),(true,7),(true,8),(true,9),(true,10),(true,11),(true,12),(true,13),(false,14),(false,15)] (by kernel_rfl) YJ ?_;refine QL (v:=.string (Qf v.2.d)) (λw' Qb=>(Xp.ext Qb).cell 2) ?_;refine QL (v:=.string (Qf p.f)) (λw' Qb=>((K.blk.ext V9).ext Qb).cell 3) ?_;refine QL (v:=.int .i64 v.2.a) (λw' Qb=>(Xp.ext Qb).cell 3) ?_;refine Qm ((a+s.length+1:Nat):Int) (by rw[xu];omega) (by omega) ?_;refine Kf (v':=.string (Qf (JS p.f v.2.a (a+s.length+1)))) ⟨by omega,by omega,by rw[de];omega⟩ (by
   rw[Vn];show Value.string (Qf ((p.f.take (a+s.length+1)).drop v.2.a))=_;rw[gS];rfl) ?_
  refine Kf (v':=.string (Qf (v.2.d++JS p.f v.2.a (a+s.length+1)))) (by rw[ds,cs];unfold maxLen;omega) (by rw[jj]) ?_;have cJ:∀b∈v.2.d++JS p.f v.2.a (a+s.length+1),b<256:=λb hb=>by
   rcases XB.1 hb with hb | hb
   ·exact UI b hb
   ·exact rR hB.f8 _ _ b hb
  have Yr:(v.2.d++JS p.f v.2.a (a+s.length+1)).length<=1000000:=by rw[Qy];omega
  generalize hT:v.2.d++JS p.f v.2.a (a+s.length+1)=T at*;refine new (λw9 Xw dN JM=>?_);refine⟨YJ.trans Xw,?_⟩;refine Kq JM (by decide) (λQG Zk J9=>?_);have WY:Ext w8 QG:=Zk.ext (YJ.trans Xw) (λi hi=>by have:=YJ.size;omega);refine⟨WY,?_⟩;have J9:Blk QG w8.drew.heap.size 9 [.string (Qf T)]:=J9;refine Qv J9 rfl ?_;refine call (Px T QG cJ (by omega)) ?_;rintro _ QD ⟨rfl,Jx⟩;have kf:=YV.trans (WY.trans Jx);have YB:=XG.trans kf;cases Je:KT T with
  | false=>
   refine Xc rfl ?_;refine XI (Yl 291 (by decide) QD) (λ_ _ hf=>hf.elim) ?_;rintro ch _ ⟨rfl,rfl⟩;refine⟨?_,rfl,YB⟩;rw[qh,Qe];refine ez.2 (λhh=>?_);have:=Cz.1 hh v.2 hvV;rw[hT,Je] at this;cases this
  | true=>
  refine Xt rfl ?_;have ZU:=J9.ext Jx;have jQ4:=eX.ext kf;have I5:SlS Jd 3 QD PA qs.length pc (qs.map (λq=>(q.1,q.2.t))):=⟨by rw[<-zH];exact jQ4.sl,by rw[Jg]⟩
  have nz:∀q∈qs,(∀b∈q.2.t,b<256)/\q.2.t.length<=1000000:=λq hq=>by
   refine Rx (P:=λt=>(∀b∈t,b<256)/\t.length<=1000000) ((vs.map (·.2)).take k) (λu hu=>?_) q.2 (by rw[<-gQ];exact ZY.2 ⟨q,hq,rfl⟩);obtain⟨u0,HD,rfl⟩:=ZY.1 (eu hu);obtain⟨a1,a2,a3⟩:=fp u0 HD;refine⟨λb hb=>?_,?_⟩
   ·rcases XB.1 hb with hb | hb
    ·exact a1 b hb
    ·exact rR hB.f8 _ _ b hb
   ·have:=oQ p.f u0.2.a (a+s.length+1);rw[Qy];omega
  have CB:Zi (qs.map (λq=>(q.1,q.2.t)))=qs.map (·.2):=zF (λq hq=>(dY q hq).st);refine call (hQK PA qs.length pc (qs.map (λq=>(q.1,q.2.t))) T w8.drew.heap.size QD I5 (λq hq=>by
   obtain⟨q0,VR,rfl⟩:=ZY.1 hq;exact(nz q0 VR).1) cJ ZU) ?_
  rintro _ Q5 ⟨rfl,Xq⟩;rw[CB];have pA:=kf.trans Xq;have bL:=XG.trans pA;have pB:=(WY.trans Jx).trans Xq;have HE:=eX.ext pA;have KV:=ZU.ext Xq;have vn:=Xp.ext pB;have lQO:=pA.size;obtain⟨s1,s2⟩:=uQ T (qs.map (·.2));have aQv:=hQs (qs.map (·.2)) T;rw[Jg] at aQv;have aQw:jU p.f (a+s.length+1) ((vs.map (·.2)).take (k+1))=bE (qs.map (·.2)) v.2.o T:=by rw[bT,hQG,<-gQ,hT]
  have UT:∀u∈(vs.map (·.2)).take (k+1),KT (u.d++JS p.f u.a (a+s.length+1))=true:=λu hu=>by
   rw[bT] at hu;rcases XB.1 hu with hu | hu
   ·exact wq u hu
   ·rw[QJ.1 hu,hT];exact Je
  generalize JY:K8 (qs.map (·.2)) T=ix at*;by_cases Xa:ix<qs.length
  ·rw[Qe Xa];refine Xy (by omega) ?_;have fj:0<qs.length:=by omega
   obtain⟨q0,VR⟩:∃q0,qs[ix]? =some q0:=⟨_,Xs Xa⟩
   have kQX:=Xe VR;obtain⟨pa,ZL,_⟩:=HE.sl.at_ fj;subst ZL;have n25:¬Qi (some pa) w6.heap.size:=λh=>by have:=(KN _ h).2;omega
   have pC:=Ext.drew Q5;have jQ5:∀q∈qs,DgO Q5 (Qi (some pa)) p.nm.length q.1 q.2.o:=λq hq=>(dY q hq).ext pA
   refine XJ Qa (Mod (Qi (some pa)) Q5) 16 [(true,0),(true,1),(true,2),(true,3),(true,4),(true,5),(true,7),(true,8),(false,6),(false,9),(true,10),(true,11),(false,12),(true,13),(true,14),(false,15)] (by kernel_rfl) (Mod.of_ext _ pC) ?_;refine zG (j:=ix) Xa ?_;refine Xl (vs:=[.slice v.1.A v.1.n v.1.c,.int .i64 v.1.r]) rfl (λw' Qb k u hk=>by rw[add_add,(vn.mod Qb n25).cell];match k,hk with | 0,hk=>exact hk | 1,hk=>exact hk) ?_;have hOd:=HE.ext pC;refine J4 (vs:=[.slice q0.1.A q0.1.n q0.1.c,.int .i64 q0.1.r]) rfl (λk u hk=>by
    rw[add_add];refine uI (o:=ix*3) (i:=0+k) hOd fj ?_;rw[a8];refine eF iw qs ix q0 k u VR ?_
    match k,hk with
    | 0,hk=>exact hk
    | 1,hk=>exact hk) ?_
   refine⟨Mod.of_ext _ pC,?_⟩;have UU:=(jQ5 q0 kQX)
   refine call (hQI hk q0.1 v.1 Q5.drew (UU.sb.ext pC) ((sbv.ext (Q6.trans pA)).ext pC) UU.st stv) ?_;rintro _ XR ⟨OA,On,Oc,Ond,Or',rfl,XD,hOs,sO,hOR⟩;have sM:=pC.trans XD;refine⟨Mod.of_ext _ sM,?_⟩;refine call (zt ⟨OA,On,Oc,Ond,Or'⟩ XR) ?_;rintro _ Za ⟨rfl,Jl⟩;have gz:=sM.trans Jl;refine⟨Mod.of_ext _ gz,?_⟩;refine zG (j:=ix) Xa ?_;show i7 _ _ ((pa.add (ix*3)).add 0) _ _;rw[add_add];have lQP:=co iw qs;refine Eq (HE.ext gz) (by show ix*3+0+2<=qs.length*3;omega) (sc rfl) (λKa sJ gC=>?_);have UV:Mod (Qi (some pa)) Q5 Ka:=(Mod.of_ext _ gz).trans sJ (λi hi=>.inl hi);refine⟨UV,?_⟩;have UW:Mod (Qi (some pa)) w6 Ka:=(Mod.of_ext _ pA).trans UV (λi hi=>.inl hi);have HF:(qs.flatMap ZF)[ix*3+0+ [Value.slice OA On Oc,.int .i64 Or'].length]? =some (.string (Qf q0.2.t)):=eF iw qs ix q0 2 _ VR rfl;rw[show(#[Value.slice OA On Oc,Value.int IntKind.i64 Or']:Array Value).toList=[Value.slice OA On Oc,.int .i64 Or'] from rfl,RB HF] at gC;have gC:Own Ka w5.heap.size 56 3 (some pa) qs.length pc ((qs.set ix (⟨OA,On,Oc,Ond,Or'⟩,Pr.mk (λe=>q0.2.o e||v.2.o e) q0.2.t)).flatMap ZF):=by
    rw[<-yT iw qs _ Xa];exact gC
   refine Qm ((k+1:Nat):Int) (by show((k:Nat):Int)+1=_;omega) (by omega) ?_;have kQY:(qs.map (·.2))[ix]? =some q0.2:=by rw[K2,VR]<;>rfl
   have lQQ:=gz.size;have lQR:=pC.size;refine⟨(k+1,qs.set ix (⟨OA,On,Oc,Ond,Or'⟩,Pr.mk (λe=>q0.2.o e||v.2.o e) q0.2.t),some pa,pc),by simp only[bZ];rfl,⟨UW.ext Q6 (λi hi=>(KN i hi).1),Xj,?_,by simp only;rw[bZ];exact gC,λq hq=>?_,UT⟩,by show vs.length-(k+1)<vs.length-k;omega⟩
   ·simp only;rw[aQw];unfold bE;rw[JY,kQY,List.map_set]
   ·rcases CX hq with hq | rfl
    ·exact(dY q hq).step UW (λi hi=>.inl hi)
    ·have h0:DgO Za (Qi (some pa)) p.nm.length ⟨OA,On,Oc,Ond,Or'⟩ (λe=>q0.2.o e||v.2.o e):=⟨hOs.ext Jl,sO,λad ea h0 h=>by have:=hOR ad.block ⟨ad,ea,rfl⟩;have:=(KN _ h).2;omega⟩
     exact h0.step sJ (λi hi=>.inl hi)
  ·rw[if_neg Xa];refine X7 (by decide) ?_;refine eE (vs:=[.slice v.1.A v.1.n v.1.c,.int .i64 v.1.r]) vn rfl (λk u hk=>by match k,hk with | 0,hk=>exact hk | 1,hk=>exact hk) ?_;refine Qv KV rfl ?_;refine XE Qa [ZF (v.1,Pr.mk v.2.o T)] rfl rfl rfl rfl rfl ⟨rfl,rfl,⟨⟩⟩ rfl (λcs h=>by simp only[QJ] at h;subst h;rfl) rfl (by decide) (by decide) ?_;intro XR XD Gt KJ;have BC:=pA.trans XD;have GK:Sl XR 3 (some ⟨Q5.heap.size,0,none⟩) 1 1 (ZF (v.1,Pr.mk v.2.o T)):=Sl.own (sz:=3) (n:=1) KJ (QE _) (by decide) (by simp[ZF,Jd]);refine JE (n:=qs.length) Qa rfl rfl rfl rfl rfl (by decide) rfl rfl ⟨_,rfl⟩ rfl rfl (eX.ext BC) GK (zI _) (by unfold maxLen;omega) (by show(qs.length+1)*48<=_;omega) (by have:=(Q6.trans BC).size;omega) ?_;intro PA2 wr Za su UX jQ6;have HG:Mod (Qi PA) w6 Za:=(Mod.of_ext (Qi PA) BC).trans su (λi hi=>.inl hi);have r14:∀k,Qi PA2 k->Qi PA k∨XR.heap.size<=k:=jQ6.rows
   have jQ7:=BC.size;have UY:∀k,Qi PA2 k->Qi PA k∨w6.heap.size<=k:=λk hk=>by
    rcases r14 k hk with h | h
    ·exact .inl h
    ·exact .inr (by omega)
   refine Qm ((k+1:Nat):Int) (by show((k:Nat):Int)+1=_;omega) (by omega) ?_;rw[show qs.flatMap ZF++ZF (v.1,Pr.mk v.2.o T)=(qs++ [(v.1,Pr.mk v.2.o T)]).flatMap ZF by rw[ce];simp] at UX;have Im:(qs.map (·.2))[ix]? =none:=CZ.2 (by rw[Jg];omega);refine⟨(k+1,qs++ [(v.1,Pr.mk v.2.o T)],PA2,wr),by simp only[Qy];rfl,⟨HG.ext Q6 (λi hi=>(KN i hi).1),Xj,?_,by simp only;rw[Qy];exact UX,λq hq=>?_,UT⟩,by show vs.length-(k+1)<vs.length-k;omega⟩
   ·simp only;rw[aQw];unfold bE;rw[JY,Im,et]<;>rfl
   ·rcases XB.1 hq with hq | hq
    ·exact(dY q hq).step HG UY
    ·rw[QJ.1 hq];have h0:DgO w6 (Qi PA) p.nm.length v.1 v.2.o:=⟨sbv.ext Q6,stv,λad ea h0 h=>by have:=SB.lt sbv ad ea h0;have:=(KN _ h).1;omega⟩
     exact h0.step HG UY
 have Xj:k=vs.length:=by simp only at c2;omega
 rw[Jz (by rw[Jg];omega)] at gQ wq;rw[<-gQ] at I4;obtain⟨ZL,hfP⟩:=I4.pa hvi (λc hc=>(Z0.1 hc).1);have CB:Zi (qs.map (λq=>(q.1,q.2.t)))=qs.map (·.2):=zF (λq hq=>(dY q hq).st);rw[if_neg (by rw[Cz.2 wq];decide)] at qh;have nz:∀q∈qs,KT q.2.t=true/\(∀b∈q.2.t,b<256)/\q.2.t.length<=1000000:=λq hq=>by
  refine Rx (P:=λt=>KT t=true/\(∀b∈t,b<256)/\t.length<=1000000) (vs.map (·.2)) (λu hu=>?_) q.2 (by rw[<-gQ];exact ZY.2 ⟨q,hq,rfl⟩);have hu1:=wq u hu;obtain⟨u0,HD,rfl⟩:=ZY.1 hu;obtain⟨a1,a2,a3⟩:=fp u0 HD;refine⟨hu1,λb hb=>?_,?_⟩
  ·rcases XB.1 hb with hb | hb
   ·exact a1 b hb
   ·exact rR hB.f8 _ _ b hb
  ·have:=oQ p.f u0.2.a (a+s.length+1);rw[Qy];omega
 have YJ:=Ext.drew w6;refine XJ Qa (Ext w6) 8 [(true,0),(true,1),(true,2),(true,3),(true,4),(true,5),(false,6),(true,7)] (by kernel_rfl) YJ ?_;refine QL (v:=.slice p.NA p.nn p.nc) (λw' Qb=>((K.blk.ext XG).ext Qb).cell 0) ?_;refine Xl (vs:=d.cells) rfl (λw' Qb k u hk=>by rw[((Qh.ext (XD.trans (Qq.trans (Qt.trans Q6)))).ext Qb).cell];exact hk) ?_;have eo:=XG.trans YJ;refine call (PF p.NA p.nn p.nc p.nm d o PA qs.length pc (qs.map (λq=>(q.1,q.2.t))) p.nm.length hB.n4 rfl hB.nb (λs hs=>by have:=hB.nl s hs;omega) (λq hq=>by
  obtain⟨q0,VR,rfl⟩:=ZY.1 hq;obtain⟨t1,t2,t3⟩:=nz q0 VR;exact⟨(io hk (dY q0 VR).st).1,t1,t2,t3⟩) w6.drew (K.nms.ext eo) (hd.ext eo) sd ⟨by rw[<-zH];exact(eX.ext YJ).sl,by rw[Jg]⟩ (λq hq=>by
  obtain⟨q0,VR,rfl⟩:=ZY.1 hq;exact(dY q0 VR).sb.ext YJ) QK (by rw[CB];exact ZL)) ?_
 rintro _ w7 ⟨A7,c7,rfl,Q1,KW⟩;refine⟨YJ.trans Q1,?_⟩;rw[CB,uP p.nm.length 0 (QC p.nm.length o) QK hfP,tu] at KW ⊢;exact⟨_,qh,A7,c7,rfl,eo.trans Q1,KW⟩
theorem RD {nm:List (List Nat)}{n d0:Nat}{inc:oG}(hi:∀r ln d k g q,inc r ln d k g= .error q->q.e≠0):∀(ls:List (List Nat))(ln at_:Nat)(k:BF)(op:List Se)(g:Gs)(q:Pl),ZO nm n d0 inc ls ln at_ k op g= .error q->q.e≠0
 | [],ln,at_,k,op,g,q,h=>by
  cases op with
  | nil=>simp[ZO] at h
  | cons x op=>simp only[ZO,Except.error.injEq] at h;rw[<-h];exact(by decide:(72:Int)≠0)
 | s::ls,ln,at_,k,op,g,q,h=>by
  have ih:=λk op g h=>RD (nm:=nm) (n:=n) (d0:=d0) hi ls (ln+1) (at_+s.length+1) k op g q h
  rw[ZO.eq_def] at h;simp only at h;cases XZ:Jb s with
  | txt=>
   rw[XZ] at h;simp only at h;cases ha:VH (s++ [10]) n at_ k g with
   | none=>rw[ha] at h;cases h;exact(by decide:(2:Int)≠0)
   | some g1=>rw[ha] at h;exact ih _ _ _ h
  | ifd r=>
   rw[XZ] at h;simp only at h;cases hs:Yj nm r with
   | error e=>rw[hs] at h;cases h;exact Ro hs
   | ok d=>
    rw[hs] at h;simp only at h;split at h
    ·cases h;exact(by decide:(2:Int)≠0)
    ·exact ih _ _ _ h
  | inc r=>
   rw[XZ] at h;simp only at h;cases hs:inc r (ln+1) (d0+op.length) k g with
   | error e=>rw[hs] at h;cases h;exact hi _ _ _ _ _ _ hs
   | ok g1=>rw[hs] at h;exact ih _ _ _ h
  | elif r=>
   rw[XZ] at h;cases op with
   | nil=>cases h;exact(by decide:(72:Int)≠0)
   | cons y op=>
    simp only at h;split at h
    ·cases h;exact(by decide:(71:Int)≠0)
    ·cases hs:Yj nm r with
     | error e=>rw[hs] at h;cases h;exact Ro hs
     | ok d=>rw[hs] at h;exact ih _ _ _ h
  | els=>
   rw[XZ] at h;cases op with
   | nil=>cases h;exact(by decide:(72:Int)≠0)
   | cons y op=>
    simp only at h;split at h
    ·cases h;exact(by decide:(71:Int)≠0)
    ·exact ih _ _ _ h
  | en=>
   rw[XZ] at h;cases op with
   | nil=>cases h;exact(by decide:(72:Int)≠0)
   | cons y op=>exact ih y.ou op {g with fr:=true} h
theorem hQS {ix:List Nat->Option Nat}{rd s:List Nat}{e:Int}(h:cA ix rd s= .error e):e≠0:=by
 rw[fQp] at h;split at h
 ·cases h;decide
 ·split at h
  ·cases h;decide
  ·split at h
   ·cases h;decide
   ·cases h
theorem hQT {nm:List (List Nat)}{t:List Nat}{q:Pl}(h:Y9 nm (fF t) [102]= .error q):q.e≠0:=by
 unfold Y9 at h;split at h
 ·cases h;decide
 cases KM:Y8 (fF t)with
 | some p=>rw[KM] at h;cases h;exact OY KM
 | none=>
  rw[KM] at h;simp only at h;cases JY:Ja ((fF t).map (·.1)) [102] with
  | none=>rw[JY] at h;cases h;decide
  | some n=>
   rw[JY] at h;simp only at h;have hn:n<(fF t).length:=by have:=jF JY;simpa using this
   have h0:n=0:=by simpa [fF] using hn
   subst h0;rw[aa] at h;refine RD (λr ln d k g q hi=>?_) _ _ _ _ _ _ _ h;split at hi
   ·rename_i e he;cases hi;exact hQS he
   ·rename_i m he;exact Xm he (EY t (by simp) (e:=0) _)
theorem E8:∀(l:List Nat),∀s∈QU l,∀b∈s,b∈l
 | []=>λs hs=>by simp[QU] at hs
 | c::l=>by
  have ih:=E8 l;intro s hs b hb;unfold QU at hs;split at hs
  ·rcases QX.1 hs with rfl | hs
   ·cases hb
   ·exact tH _ (ih s hs b hb)
  ·cases hl:QU l with
   | nil=>rw[hl] at hs;rw[QJ.1 hs] at hb;rw[QJ.1 hb];simp
   | cons t ls=>
    rw[hl] at hs ih;rcases QX.1 hs with rfl | hs
    ·rcases QX.1 hb with rfl | hb
     ·simp
     ·exact tH _ (ih t (by simp) b hb)
    ·exact tH _ (ih s (by simp[hs]) b hb)
theorem RE {f:List Nat}(hf:∀b∈f,b<256)(Kk:f.length<=60000)(c:Nat):∀(es:List Ed)(st:List Nat×Nat),(∀e∈es,(∀b∈e.tx,b<256)/\e.tx.length<=1000)->(∀b∈st.1,b<256)->
  (∀b∈(es.foldl (Yk f c) st).1,b<256)/\(es.foldl (Yk f c) st).1.length<=st.1.length+es.length*70000
 | [],st,_,h=>⟨h,by simp⟩
 | e::es,st,he,h=>by
  obtain⟨e1,e2⟩:=he e (by simp);have iQ:=oQ f st.2 e.fr.toNat;have mN:(∀b∈(Yk f c st e).1,b<256)/\(Yk f c st e).1.length<=st.1.length+70000:=by
   unfold Yk;split
   ·refine⟨λb hb=>?_,by simp only[Qy];omega⟩;simp only[XB] at hb;rcases hb with(hb | hb) | hb
    ·exact h b hb
    ·exact rR hf _ _ b hb
    ·exact e1 b hb
   ·exact⟨h,by omega⟩
  obtain⟨i1,i2⟩:=RE hf Kk c es (Yk f c st e) (λb hb=>he b (by simp[hb])) mN.1;rw[tv,Xk,tz,Nat.one_mul];exact⟨i1,by omega⟩
theorem hQU {f:List Nat}(hf:∀b∈f,b<256)(Kk:f.length<=60000){stop a:Nat}{es:List Ed}(he:∀e∈es,(∀b∈e.tx,b<256)/\e.tx.length<=1000)(hl:es.length<=10)(c:Nat):(∀b∈aM f stop a es c,b<256)/\(aM f stop a es c).length<=1000000:=by
 obtain⟨h1,h2⟩:=RE hf Kk c es ([],a) he (λb hb=>by cases hb);unfold aM;refine⟨λb hb=>?_,?_⟩
 ·rcases XB.1 hb with hb | hb
  ·exact h1 b hb
  ·exact rR hf _ _ b hb
 ·have:=oQ f (es.foldl (Yk f c) ([],a)).2 stop;have:=Wq 70000 hl;rw[Qy];simp only[Z8] at h2;omega
def rS (s:List Nat):Prop:=(∀b∈s,b<256)/\s.length<=1000000
theorem hQV {nm:List (List Nat)}(hb:Ke nm)(h:∀s∈nm,s.length<=1000)(v:Nat)(ng:Bool):rS (Vq nm v ng):=by
 refine⟨λb hb2=>?_,?_⟩
 ·unfold Vq at hb2;simp only[XB] at hb2;rcases hb2 with hb2 | hb2 | hb2
  ·exact(by decide:∀b∈JG,b<256) b hb2
  ·cases ng with
   | true=>
        have:b=33:=by simpa using hb2
        rw[this];decide
   | false=>simp at hb2
  ·cases hv:nm[v]? with
   | none=>rw[hv] at hb2;simp at hb2
   | some s=>rw[hv] at hb2;exact(hb s (Xe hv)).1 b hb2
 ·unfold Vq;have h1:((nm[v]?).getD []).length<=1000:=by
   cases hv:nm[v]? with
   | none=>simp
   | some s=>exact h s (Xe hv)
  have h2:(if ng then [33] else([]:List Nat)).length<=1:=by cases ng<;>simp
  have h3:JG.length=4:=rfl;simp only[Qy];omega
theorem hQW {nm:List (List Nat)}(Vw:Ke nm)(Kn:∀s∈nm,s.length<=1000){f:List Nat}(hf:∀b∈f,b<256)(Kk:f.length<=60000){es:List Ed}(he:∀e∈es,(∀b∈e.tx,b<256)/\e.tx.length<=1000)(hl:es.length<=10){S:List Nat}(hS:S.length<=16){a:Nat}{s:List Nat}(hs:rS s){L:List (List Nat)}(h:eT nm f es S a s=some L):
  L.length<=16000048/\∀u∈L,rS u:=by
 unfold eT at h;split at h
 ·rw[<-Option.some.inj h];exact⟨by show 1<=16000048;decide,λu hu=>by rw[QJ.1 hu];exact hs⟩
 ·rename_i h0;split at h
  ·cases h
  ·split at h
   ·cases h
   ·rw[<-Option.some.inj h];have QK:S≠ []:=λe=>by
     apply h0;unfold fY;rw[LB];intro b hb;rw[e];simp[WQ]
    have hm:∀e∈fY es S a s,(∀b∈e.tx,b<256)/\e.tx.length<=1000:=λe hm=>he e (KP.1 hm).1
    have IC:(fY es S a s).length<=10:=Ze (tG _ _) hl;obtain⟨h1,h2⟩:=oI (nm:=nm) (f:=aM f (a+s.length+1) a (fY es S a s)) (P:=rS) (M:=1000000) (λv ng=>hQV Vw Kn v ng) ⟨by decide,by decide⟩ ⟨by decide,by decide⟩ nm.length 0 S QK (λc hc=>by
     obtain⟨v1,v2⟩:=hQU hf Kk (stop:=a+s.length+1) (a:=a) hm IC c;obtain⟨l1,l2⟩:=zC (aM f (a+s.length+1) a (fY es S a s) c);exact⟨λu hu=>⟨λb hb=>v1 b (E8 _ u hu b hb),by have:=l2 u hu;omega⟩,by omega⟩)
    have:=Wq (1000000+3) hS;exact⟨by omega,h1⟩
def ApR (nm:List (List Nat))(d:BF)(g:Gs)(f:List Nat)(es:List Ed)(ls:List (List Nat))(i:Nat)(L:List (List Nat)):Prop:=
 dF nm d g f es ls 0=match dF nm d g f es (ls.drop i) (Qo (ls.take i)).length with
  | none=>none
  | some m=>some (L++m)
theorem ApR.zero {nm:List (List Nat)}{d:BF}{g:Gs}{f:List Nat}{es:List Ed}{ls:List (List Nat)}:ApR nm d g f es ls 0 []:=by
 unfold ApR;show dF nm d g f es ls 0=match dF nm d g f es ls 0 with
  | none=>none
  | some m=>some ([]++m)
 cases dF nm d g f es ls 0<;>rfl
theorem RF {ls:List (List Nat)}{i:Nat}{s:List Nat}(h:ls[i]? =some s):(Qo (ls.take (i+1))).length=(Qo (ls.take i)).length+s.length+1:=by
 rw[VX,h];show(Qo (ls.take i++ [s])).length=_;rw[Ez];simp only[Qy,nF];omega
theorem ApR.next {nm:List (List Nat)}{d:BF}{g:Gs}{f:List Nat}{es:List Ed}{ls:List (List Nat)}{i:Nat}{L l:List (List Nat)}{s:List Nat}(h:ApR nm d g f es ls i L)(hs:ls[i]? =some s)
  (hl:(if Jb s= .txt then eT nm f es (QC nm.length (Js d (rL g (Qo (ls.take i)).length))) (Qo (ls.take i)).length s else some [s])=some l):ApR nm d g f es ls (i+1) (L++l):=by
 have Xa:=(Zt.1 hs).1;have hd:ls.drop i=s::ls.drop (i+1):=by
  rw[cd Xa];congr 1;rw[Xs Xa] at hs;exact Option.some.inj hs
 unfold ApR at h ⊢;rw[hd,dF,hl] at h;rw[RF hs,h];simp only;cases dF nm d g f es (ls.drop (i+1)) ((Qo (ls.take i)).length+s.length+1)with
 | none=>rfl
 | some m=>simp only[KO]
theorem ApR.none {nm:List (List Nat)}{d:BF}{g:Gs}{f:List Nat}{es:List Ed}{ls:List (List Nat)}{i:Nat}{L:List (List Nat)}{s:List Nat}(h:ApR nm d g f es ls i L)(hs:ls[i]? =some s)
  (hl:(if Jb s= .txt then eT nm f es (QC nm.length (Js d (rL g (Qo (ls.take i)).length))) (Qo (ls.take i)).length s else some [s])=Option.none):dF nm d g f es ls 0=Option.none:=by
 have Xa:=(Zt.1 hs).1;have hd:ls.drop i=s::ls.drop (i+1):=by
  rw[cd Xa];congr 1;rw[Xs Xa] at hs;exact Option.some.inj hs
 unfold ApR at h;rw[hd,dF,hl] at h;exact h
theorem ApR.fin {nm:List (List Nat)}{d:BF}{g:Gs}{f:List Nat}{es:List Ed}{ls:List (List Nat)}{i:Nat}{L:List (List Nat)}(h:ApR nm d g f es ls i L)(hi:ls.length<=i):dF nm d g f es ls 0=some L:=by
 unfold ApR at h;rw[xJ hi] at h;rw[h];show some (L++ [])=some L;rw[YL]
theorem RG:∀{ls:List (List Nat)}{p i:Nat}{s:List Nat},ls[i]? =some s->(p+(Qo (ls.take i)).length,s)∈Jj p ls
 | [],p,i,s,h=>by simp at h
 | t::ls,p,0,s,h=>by
  have:t=s:=by simpa using h
  subst this;simp[Jj,Qo]
 | t::ls,p,i+1,s,h=>by
  have:=RG (p:=p+t.length+1) (ls:=ls) (i:=i) (s:=s) (by simpa using h);refine tH _ ?_;rw[CR,Y7];simp only[Qy,Xk];rw[show p+(t.length+((Qo (ls.take i)).length+1))=p+t.length+1+(Qo (ls.take i)).length by omega];exact this
theorem RH {nm:List (List Nat)}{n d0:Nat}{inc:oG}(hi:∀r ln d k g g',inc r ln d k g≠ .ok g'):∀(ls:List (List Nat))(ln at_:Nat)(k:BF)(op:List Se)(g g':Gs),ZO nm n d0 inc ls ln at_ k op g= .ok g'->∀q∈Jj at_ ls,Jb q.2= .txt->∃k',(q.1,q.2,k')∈eS nm ls at_ k (Pi op)
 | [],ln,at_,k,op,g,g',_,q,hq,_=>by cases hq
 | s::ls,ln,at_,k,op,g,g',h,q,hq,kV=>by
  have ih:=λk op g h hq=>RH (nm:=nm) (n:=n) (d0:=d0) hi ls (ln+1) (at_+s.length+1) k op g g' h q hq kV
  rw[ZO.eq_def] at h;simp only at h;rw[eS.eq_def];simp only;rw[Jj] at hq;cases XZ:Jb s with
  | txt=>
   rw[XZ] at h;simp only at h ⊢;cases ha:VH (s++ [10]) n at_ k g with
   | none=>rw[ha] at h;cases h
   | some g1=>
    rw[ha] at h;rcases QX.1 hq with rfl | hq
    ·exact⟨k,LD⟩
    ·obtain⟨k',Yq⟩:=ih _ _ _ h hq;exact⟨k',tH _ Yq⟩
  | ifd r=>
   rw[XZ] at h;simp only at h ⊢;rcases QX.1 hq with rfl | hq
   ·rw[XZ] at kV;cases kV
   cases hs:Yj nm r with
   | error e=>rw[hs] at h;cases h
   | ok d=>
    rw[hs] at h;simp only at h ⊢;split at h
    ·cases h
    ·exact ih _ _ _ h hq
  | inc r=>
   rw[XZ] at h;simp only at h;cases hs:inc r (ln+1) (d0+op.length) k g with
   | error e=>rw[hs] at h;cases h
   | ok g1=>exact Xm hs (hi _ _ _ _ _ _)
  | elif r=>
   rw[XZ] at h;rcases QX.1 hq with rfl | hq
   ·rw[XZ] at kV;cases kV
   cases op with
   | nil=>cases h
   | cons y op=>
    simp only at h ⊢;split at h
    ·cases h
    ·cases hs:Yj nm r with
     | error e=>rw[hs] at h;cases h
     | ok d=>rw[hs] at h;exact ih _ _ _ h hq
  | els=>
   rw[XZ] at h;rcases QX.1 hq with rfl | hq
   ·rw[XZ] at kV;cases kV
   cases op with
   | nil=>cases h
   | cons y op=>
    simp only at h ⊢;split at h
    ·cases h
    ·exact ih y.re ({y with ot:=true}::op) {g with fr:=true} h hq
  | en=>
   rw[XZ] at h;rcases QX.1 hq with rfl | hq
   ·rw[XZ] at kV;cases kV
   cases op with
   | nil=>cases h
   | cons y op=>exact ih y.ou op {g with fr:=true} h hq
theorem hQX {nm:List (List Nat)}{t:List Nat}{g:Gs}(hr:Y9 nm (fF t) [102]= .ok g){q:Nat×List Nat}(hq:q∈Jj 0 (QU t))(hd:Jb q.2= .txt):∃k i x,SegAt g q.1 k i x:=by
 obtain⟨ht,h1,h2,h3⟩:=P8 hr;have key:∃k',(q.1,q.2,k')∈eS nm (QU t) 0 (λ_=>true) []:=by
  unfold Y9 at hr;split at hr
  ·cases hr
  cases KM:Y8 (fF t)with
  | some p=>rw[KM] at hr;cases hr
  | none=>
   rw[KM] at hr;simp only at hr;cases JY:Ja ((fF t).map (·.1)) [102] with
   | none=>rw[JY] at hr;cases hr
   | some n=>
    rw[JY] at hr;simp only at hr;have hn:n<(fF t).length:=by have:=jF JY;simpa using this
    have h0:n=0:=by simpa [fF] using hn
    subst h0;have hx:(fF t)[0]? =some ([102],t):=rfl;rw[aa,hx] at hr;simp only[xB,gT] at hr;exact RH (λr ln d' k' g1 g2 hi=>by
     split at hi
     ·cases hi
     ·rename_i m he;exact EY t (by simp) (e:=0) _ he) (QU t) 0 0 (λ_=>true) [] ⟨[],[],true⟩ g hr q hq hd
 obtain⟨k',hk⟩:=key;rw[<-h1] at hk;obtain⟨i,x,hs,_⟩:=hQq h3 h2 hk;exact⟨k',i,x,hs⟩
end
section
section
variable {P:Program} {ops:Array Oper} {md:Region.Mode} {C:World->Prop} {Q:Exit->Act->World->Prop}
def PanE (N:Slots)(T:Env)(Xd:List PanicEntry->World->Prop)(Q:Exit->Act->World->Prop):Exit->Act->World->Prop
 | .panic ch,a,w=>Fits N T a/\Xd ch w
 | e,a,w=>Q e a w
def uS (T:Env)(d:Option Tmp):Bool:=match d with
 | none=>true
 | some d=> !(jb d T)
theorem PanE.put {N:Slots}{T:Env}{Xd:List PanicEntry->World->Prop}{Q:Exit->Act->World->Prop}{ch:List PanicEntry}{a:Act}{d:Option Tmp}{v:Value}{w:World}(hd:uS T d=true)(h:PanE N T Xd Q (.panic ch) (a.put d v) w):PanE N T Xd Q (.panic ch) a w:=by
 obtain⟨h1,h3⟩:=h;cases d with
 | none=>exact⟨h1,h3⟩
 | some d=>
  refine⟨⟨by simpa [Act.put] using h1.size,by simpa [Act.put] using h1.defers,λk x hk=>?_⟩,h3⟩;have h4:=h1.has k x hk;have QK:d≠k:=λe=>by
   subst e;have h5:jb d T=false:=by simpa [uS] using hd
   rw[LZ h5] at hk;cases hk
  simpa [Act.put,QK] using h4
theorem PanE.imp {c:Cx}{T:Env}{Xd:List PanicEntry->World->Prop}{Q:Zd}(hp:∀ch w,Xd ch w->Q (.panic ch) T w):∀(e:Exit)(a:Act)(w:World),PanE c.N T Xd (Up c Q) e a w->Up c Q e a w:=λe a w h=>by
 cases e<;>first | exact h | (obtain⟨h1,h3⟩:=h;exact⟨T,h1,hp _ _ h3⟩)
theorem hQY {N:Slots}{T:Env}{Xd:List PanicEntry->World->Prop}{n i:Nat}{oi:Oper}{v:Value}{L:Array Bool->Act->World->Prop}(hi:ops[i]? =some oi)(mR:∀(j:Nat)(o:Oper) cs b,ops[j]? =some o->o.op≠ .select cs b)(hT:uS T oi.dst=true)
  (hs:jk md ops n) (Q7:i<n) (wA:∀listed a w,L listed a w->∀j∈Region.ready md ops listed,n<=j):
  ∀(f:Nat) (listed:Array Bool) (a:Act) (w:World),HeadInv md ops n listed->
   (∀j oj,ops[j]? =some oj->j≠i->listed.getD j true=false->(∀e∈oj.after,Region.binds md e=true->e.on≠i)->oi.apart ops oj=true)->
   i∈Region.ready md ops listed->YieldsIf P ops C oi v a->C w->
   Wz P md ops (PanE N T Xd Q) C n L f (listed.setIfInBounds i true) (a.put oi.dst v) w->Wz P md ops (PanE N T Xd Q) C n L (f+1) listed a w:=by
 intro f;induction f with
 | zero=>
  intro listed a w inv _ hr hy hC H;have Jy:=(mem_ready.1 hr).1;refine⟨λh=>(by rw[h] at hr;cases hr),λj hj=>?_⟩;have J3:=qD hs inv Q7 Jy j hj;refine⟨J3,?_⟩;by_cases KE:j=i
  ·subst KE;exact hy.wpOp hi hC ⟨hC,H⟩
  ·have:=wA _ _ _ H j (ready_mono hj KE);omega
 | succ f ih=>
  intro listed a w inv mS hr hy hC H;have Jy:=(mem_ready.1 hr).1;refine⟨λh=>(by rw[h] at hr;cases hr),λj hj=>?_⟩;have J3:=qD hs inv Q7 Jy j hj;refine⟨J3,?_⟩;by_cases KE:j=i
  ·subst KE;exact hy.wpOp hi hC ⟨hC,H⟩
  ·have h1:=(H.2 j (ready_mono hj KE)).2;obtain⟨mT,oj,dZ,hall⟩:=mem_ready.1 hj;have kG:∀e∈oj.after,Region.binds md e=true->e.on≠i:=λe he hb heq=>by
    have h1:=hall e he hb;rw[heq,getD_both Jy] at h1;cases h1
   have h2:=wpOp_putIf dZ (mS j oj dZ KE mT kG) (λcs b=>mR i oi cs b hi) (λcs b=>mR j oj cs b dZ) (λ_ _ _ h=>PanE.put hT h) hy h1;have wB:∀k ok,ops[k]? =some ok->k≠i->(listed.setIfInBounds j true).getD k true=false->
     (∀e∈ok.after,Region.binds md e=true->e.on≠i)->oi.apart ops ok=true:=λk ok hk wC Jy Xi=>by
    refine mS k ok hk wC ?_ Xi;by_cases mU:j=k
    ·subst mU;exact mT
    ·rw[getD_set_ne true mU] at Jy;exact Jy
   refine wpOp_mono (λa' w' h3=>⟨h3.2.1,ih (listed.setIfInBounds j true) a' w' (inv.set hj J3) wB (ready_mono hr (Ne.symm KE)) h3.1 h3.2.1 ?_⟩) h2;rw[aQE _ _ KE];exact h3.2.2
end
section
variable {c:Cx} {S:Env} {a:Act}
def jV (c:Cx)(T:Env)(Xd:List PanicEntry->World->Prop)(all:List Oper)(C:World->Prop):List (Bool×Nat)->Env->World->(Env->World->Prop)->Prop
 | [],S,w,K=>K S w
 | (true,k)::l,S,w,K=>match Vm all k with
  | some o=>ib all o S (λS=>qF c o S C (λS=>jV c T Xd all C l S w K)) (λS=>Xf c S o.dst (.v undef) (λS=>jV c T Xd all C l S w K))
  | none=>False
 | (false,k)::l,S,w,K=>match Vm all k with
  | some o=>ib all o S (λS=>dm c o S w (λS w=>C w/\jV c T Xd all C l S w K) (λe S w=>match e with
   | .panic ch=>Has T S/\Xd ch w
   | _=>False)) (λS=>Xf c S o.dst (.v undef) (λS=>jV c T Xd all C l S w K))
  | none=>False
theorem zJ (hg:c.g.Ok){md:Region.Mode}{ops:List Oper}{C:World->Prop}{Q:Exit->Act->World->Prop}{n:Nat}(hs:Region.noSelect ops.toArray=true){T:Env}(hT:ops.all (λo=>uS T o.dst)=true)(hk:jk md ops.toArray n){K:Env->World->Prop}{Xd:List PanicEntry->World->Prop}:
  ∀(l:List (Bool×Nat)) (listed:Array Bool) (S:Env) (a:Act) (w:World),HeadInv md ops.toArray n listed->cm md ops.toArray n l listed=true->jV c T Xd ops C l S w K->Fits c.N S a->C w->
  Wz c.g.P md ops.toArray (PanE c.N T Xd Q) C n (λKm a' w'=>Region.seqB md ops.toArray (ops.toArray.size-n) n Km=true/\∃S',Fits c.N S' a'/\K S' w') l.length listed a w
 | [],listed,S,a,w,inv,hB,h,hf,hC=>⟨hB,S,hf,h⟩
 | (true,k)::l,listed,S,a,w,inv,hB,h,hf,hC=>by
  simp only[cm,JR] at hB;obtain⟨⟨⟨Xj,hr⟩,kD⟩,Vu⟩:=hB;have Xj:k<n:=by rw[iZ] at Xj;exact Xj
  have Q0:k∈Region.ready md ops.toArray listed:=by simpa using hr
  obtain⟨_,o,ho,_⟩:=mem_ready.1 Q0;have hn:Vm ops k=some o:=by rw[gY];simpa using ho
  simp only[jV,hn] at h;have key:∃v,YieldsIf c.g.P ops.toArray C o v a/\∃S',Fits c.N S' (a.put o.dst v)/\jV c T Xd ops C l S' w K:=by
   rcases ll h hf with⟨hw,S1,Zz,h1⟩ | ⟨hw,S1,Zz,h1⟩
   ·obtain⟨v,h2,h3⟩:=ym hg h1 Zz;exact⟨v,.inl ⟨hw,h2⟩,h3⟩
   ·exact⟨undef,.inr ⟨hw,rfl⟩,Zp (e:=.v undef) h1 Zz⟩
  obtain⟨v,hy,S',QW,h'⟩:=key;exact hQY ho (Region.noSelect_spec hs) (W5.1 hT o (Xe (by simpa using ho))) hk Xj (λKm a' w' hL=>seqB_ready hL.1) l.length listed a w inv (Region.free_spec ho kD) Q0 hy hC
   (zJ hg hs hT hk l _ S' _ w (inv.set Q0 Xj) Vu h' QW hC)
 | (false,k)::l,listed,S,a,w,inv,hB,h,hf,hC=>by
  simp only[cm,JR,Vl] at hB;obtain⟨⟨Xj,hr⟩,Vu⟩:=hB;have Xj:k<n:=by rw[iZ] at Xj;exact Xj
  have Q0:k∈Region.ready md ops.toArray listed:=by rw[hr];simp
  obtain⟨_,o,ho,_⟩:=mem_ready.1 Q0;have hn:Vm ops k=some o:=by rw[gY];simpa using ho
  simp only[jV,hn] at h;have gE:=inv.set Q0 Xj;refine⟨λh0=>(by rw[hr] at h0;cases h0),λi hi=>?_⟩;rw[hr] at hi;have pL:i=k:=by simpa using hi
  subst pL;refine⟨Xj,?_⟩;unfold wpOp;simp only[ho];rcases ll h hf with⟨hw,S1,Zz,h1⟩ | ⟨hw,S1,Zz,h1⟩
  ·rw[Qe hw];refine .inl ?_;have h2:=qw hg h1 Zz;have h3:=Oper.wp_mono (K':=λa' w'=>C w'/\Wz c.g.P md ops.toArray (PanE c.N T Xd Q) C n (λKm a' w'=>Region.seqB md ops.toArray (ops.toArray.size-n) n Km=true/\∃S',Fits c.N S' a'/\K S' w') l.length (listed.setIfInBounds i true) a' w')
    (λa' w' ⟨S',QW,Kc,Yq⟩=>⟨Kc,zJ hg hs hT hk l _ S' a' w' gE Vu Yq QW Kc⟩) h2
   unfold Oper.wp at h3 ⊢;generalize (execOp a.eval o).run c.g.P w=r at*;cases r with
   | ok nx w'=>
    cases nx<;>simp only[Oper.upon] at h3 ⊢ <;> try exact h3
    exact h3.mono λe KL he=>by
     cases e with
     | returned v=>exact he
     | panicked ch=>obtain⟨_,hfz,he⟩:=he;exact⟨he.1.fits hfz,he.2⟩
     | outgrown=>obtain⟨_,_,_,_,he⟩:=he;exact he.elim
   | halt x w'=>cases x<;>simp only[Oper.upon] at h3 ⊢ <;> first | exact h3 | (obtain⟨_,hfz,h3⟩:=h3;exact⟨h3.1.fits hfz,h3.2⟩) | (obtain⟨_,_,h3⟩:=h3;exact h3.elim)
  ·rw[if_neg (by rw[hw];decide)];obtain⟨S',QW,h'⟩:=Zp (e:=.v undef) h1 Zz;exact⟨hC,zJ hg hs hT hk l _ S' _ w gE Vu h' QW hC⟩
theorem hQZ (hg:c.g.Ok){id:Nat}{ops:List Oper}{w:World}{Q:Zd}(T:Env)(hT:ops.all (λo=>uS T o.dst)=true)(Xd:List PanicEntry->World->Prop)(Iu:∀ch w,Xd ch w->Q (.panic ch) T w)(C:World->Prop)(n:Nat)(plan:List (Bool×Nat))
  (hB:(Region.noSelect ops.toArray&&Nat.beq plan.length n&&qE .any ops.toArray n&&cm .any ops.toArray n plan (Array.replicate ops.toArray.size false))=true) (hC:C w.drew)
  (h:jV {c with named:=1000000} T Xd ops C plan S w.drew (λS w=>Yf c ops (ops.drop n) S w (λS w=>Q .normal S w) (λe S w=>match e with
   | .panic ch=>Has T S/\Xd ch w
   | _=>False))):Wv c id ops S w Q:=by
 unfold Wv;intro a hf;simp only[JR] at hB;obtain⟨⟨⟨hs,hl⟩,aY⟩,Je⟩:=hB;have hl:=Vk hl;have hk:=yk aY;have H6:n<=ops.length:=by
  rcases hk with hk | hk
  ·rw[hk];simp
  ·have:=hk.1;simp at this;omega
 refine Code.wp_mono (PanE.imp Iu) (wp_region_any hg.mixed ?_);have oU:HeadInv .any ops.toArray n (Array.replicate ops.toArray.size false):=
  ⟨by simp,λj oj _ hl=>(by rw[getD_replicate_false] at hl;cases hl),λt _ ht=>getD_in (by simpa using ht) (getD_replicate_false _ _)⟩
 have H:=zJ (c:={c with named:=1000000}) hg (Q:=Up c Q) hs hT hk plan _ S a _ oU Je h hf hC;have YF:(ops.drop n).length=ops.toArray.size-n:=by simp
 have H2:=tU (Q:=PanE c.N T Xd (Up c Q)) (g:=ops.toArray.size-n) (λKm a' w' hL=>by
  obtain⟨hq,S',QW,Yq⟩:=hL;have h2:=jf (c:=c) hg ops _ _ _ _ Yq QW;have:=wpAny_of_seq (P:=c.g.P) (md:=.any) (ops:=ops.toArray) (Q':=PanE c.N T Xd (Up c Q)) (ops.drop n) n Km a' w' (λj=>by simp) (by rw[YF];exact hq) (lj (λe a w hq=>by
   cases e with
   | normal=>exact hq
   | panic ch=>obtain⟨_,hfz,h⟩:=hq;exact⟨h.1.fits hfz,h.2⟩
   | _=>exact Xm hq (by rintro⟨_,_,h⟩;exact h)) h2)
  rwa [YF] at this) _ _ _ _ H
 rw[hl,show n+(ops.toArray.size-n)=ops.toArray.size by simp;omega] at H2;exact H2
end
end
end Go.Proofs.YtjabbbcdgmlojaaGreatDoor
