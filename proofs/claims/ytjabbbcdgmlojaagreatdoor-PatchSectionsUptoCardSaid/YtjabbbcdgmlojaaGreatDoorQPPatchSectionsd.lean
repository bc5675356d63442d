/-
  What PPatchSections rests on, part 4 (wip/shake.py).
  Conditions: none.
-/
import Derived.Test.YtjabbbcdgmlojaaGreatDoorQPPatchSectionsc
set_option linter.all false
set_option linter.deprecated false
set_option maxHeartbeats 12800000
namespace Go.Proofs.YtjabbbcdgmlojaaGreatDoor
open Go Go.RowKit
section
variable {nm:List (List Nat)} {n:Nat}
def Kh (e:Nat->Bool):Tr->List (List Nat)
 | .nil=>[]
 | .ln s r=>s::Kh e r
 | .sc v ng h l r=>(if(e v !=ng)=true then Kh e h else Kh e l)++Kh e r
theorem rg (e:Nat->Bool):∀a b:Tr,Kh e (ap a b)=Kh e a++Kh e b
 | .nil,b=>rfl
 | .ln s r,b=>by rw[ap,Kh,Kh,rg e r b]<;>rfl
 | .sc v ng h l r,b=>by rw[ap,Kh,Kh,rg e r b];simp
theorem jQt (e:Nat->Bool)(v:Nat)(h l r:Tr):Kh e (jY v h l r)=(if e v=true then Kh e h else Kh e l)++Kh e r:=by
 by_cases hh:h= .nil
 ·subst hh;show(if(e v !=true)=true then Kh e l else [])++Kh e r=(if e v=true then [] else Kh e l)++Kh e r;generalize e v=b;cases b<;>rfl
 ·rw[q9 hh];show(if(e v !=false)=true then Kh e h else Kh e l)++Kh e r=_;generalize e v=b;cases b<;>rfl
def bY (nm:List (List Nat)):Tr->Prop
 | .nil=>True
 | .ln _ r=>bY nm r
 | .sc _ _ h l r=>h≠ .nil/\(l≠ .nil->Ie (fl nm h) (fl nm l))/\bY nm h/\bY nm l/\bY nm r
theorem rh:∀{a b:Tr},bY nm (ap a b)↔bY nm a/\bY nm b
 | .nil,b=>by simp[ap,bY]
 | .ln s r,b=>by simp[ap,bY,rh (a:=r) (b:=b)]
 | .sc v ng h l r,b=>by simp[ap,bY,rh (a:=r) (b:=b),and_assoc]
theorem jQu {v:Nat}{h l r:Tr}(h1:h≠ .nil∨l≠ .nil)(h2:Ie (fl nm h) (fl nm l))(h3:bY nm h)(h4:bY nm l)(h5:bY nm r):bY nm (jY v h l r):=by
 by_cases hh:h= .nil
 ·subst hh;exact⟨h1.resolve_left (λe=>e rfl),λe=>Xd rfl e,h4,trivial,h5⟩
 ·rw[q9 hh];exact⟨hh,λ_=>h2,h3,h4,h5⟩
def dT:Tr->Nat
 | .nil=>0
 | .ln _ r=>dT r
 | .sc _ _ h l r=>max (1+max (dT h) (dT l)) (dT r)
theorem xS:∀a b:Tr,dT (ap a b)=max (dT a) (dT b)
 | .nil,b=>by simp[ap,dT]
 | .ln s r,b=>by rw[ap,dT,dT,xS r b]
 | .sc v ng h l r,b=>by rw[ap,dT,dT,xS r b,Nat.max_assoc]
theorem jQv (v:Nat)(h l r:Tr):dT (jY v h l r)<=max (1+max (dT h) (dT l)) (dT r):=by
 by_cases hh:h= .nil
 ·subst hh;show max (1+max (dT l) 0) (dT r)<=_;simp only[dT];omega
 ·rw[q9 hh];exact QC _
def Wf (P:List Nat->Prop):Tr->Prop
 | .nil=>True
 | .ln s r=>P s/\Wf P r
 | .sc _ _ h l r=>Wf P h/\Wf P l/\Wf P r
theorem ri {P:List Nat->Prop}:∀{a b:Tr},Wf P (ap a b)↔Wf P a/\Wf P b
 | .nil,b=>by simp[ap,Wf]
 | .ln s r,b=>by simp[ap,Wf,ri (a:=r) (b:=b),and_assoc]
 | .sc v ng h l r,b=>by simp[ap,Wf,ri (a:=r) (b:=b),and_assoc]
theorem jQw {P:List Nat->Prop}{v:Nat}{h l r:Tr}(h1:Wf P h)(h2:Wf P l)(h3:Wf P r):Wf P (jY v h l r):=by
 by_cases hh:h= .nil
 ·subst hh;exact⟨h2,trivial,h3⟩
 ·rw[q9 hh];exact⟨h1,h2,h3⟩
theorem jQx {v:Nat}{h l r:Tr}(h0:v<n)(h1:Wt n h)(h2:Wt n l)(h3:Wt n r):Wt n (jY v h l r):=by
 by_cases hh:h= .nil
 ·subst hh;exact⟨h0,h2,trivial,h3⟩
 ·rw[q9 hh];exact⟨h0,h1,h2,h3⟩
theorem jQy (v:Nat)(h l r:Tr):(fl nm (jY v h l r)).length<=(fl nm h).length+(fl nm l).length+(fl nm r).length+3:=by
 by_cases hh:h= .nil
 ·subst hh;rw[jY,bV];simp[YZ,fl];omega
 ·rw[q9 hh,bV];by_cases hl:l= .nil
  ·subst hl;simp[YZ,fl];omega
  ·rw[UF hl];simp;omega
def jZ:List (List Nat)->Tr
 | []=>.nil
 | s::l=>.ln s (jZ l)
theorem If:∀l:List (List Nat),fl nm (jZ l)=l
 | []=>rfl
 | s::l=>by rw[jZ,fl,If l]
theorem UG (e:Nat->Bool):∀l:List (List Nat),Kh e (jZ l)=l
 | []=>rfl
 | s::l=>by rw[jZ,Kh,UG e l]
theorem UH:∀l:List (List Nat),bY nm (jZ l)
 | []=>trivial
 | s::l=>UH l
theorem UI:∀l:List (List Nat),dT (jZ l)=0
 | []=>rfl
 | s::l=>UI l
theorem UJ:∀{l:List (List Nat)},(∀s∈l,Zk s= .txt)->Wt n (jZ l)
 | [],_=>trivial
 | s::l,h=>⟨h s (by simp),UJ (λt ht=>h t (by simp[ht]))⟩
theorem UK {P:List Nat->Prop}:∀{l:List (List Nat)},(∀s∈l,P s)->Wf P (jZ l)
 | [],_=>trivial
 | s::l,h=>⟨h s (by simp),UK (λt ht=>h t (by simp[ht]))⟩
def X0 (nm:List (List Nat))(f:Nat->List Nat):Nat->Nat->List Nat->List (List Nat)
 | 0,_,l=>QW (f (l.headD 0))
 | k+1,v,l=>if∀c∈l,f c=f (l.headD 0)then QW (f (l.headD 0))else
  if l.filter (λc=> !c.testBit v)=[]∨l.filter (λc=>c.testBit v)=[] then X0 nm f k (v+1) l else
  if X0 nm f k (v+1) (l.filter (λc=>c.testBit v))=X0 nm f k (v+1) (l.filter (λc=> !c.testBit v))then X0 nm f k (v+1) (l.filter (λc=>c.testBit v))else
  W3 nm v (X0 nm f k (v+1) (l.filter (λc=>c.testBit v))) (X0 nm f k (v+1) (l.filter (λc=> !c.testBit v)))
theorem uJ {l:List Nat}(h:l≠ []):l.headD 0∈l:=by
 cases l with
 | nil=>exact Xd rfl h
 | cons a l=>simp
theorem xT {f:Nat->List Nat}{l:List Nat}(hl:l≠ []){t:List Nat}(h:∀c∈l,f c=t):∀k v,X0 nm f k v l=QW t:=by
 have h0:=h _ (uJ hl);intro k v;cases k with
 | zero=>rw[X0,h0]
 | succ k=>rw[X0,Qe (λc hc=>by rw[h c hc,h0]),h0]
theorem rj {f:Nat->List Nat}{l:List Nat}(hl:l≠ [])(k v:Nat):X0 nm f (k+1) v l=
  if l.filter (λc=> !c.testBit v)=[]∨l.filter (λc=>c.testBit v)=[] then X0 nm f k (v+1) l else
  if X0 nm f k (v+1) (l.filter (λc=>c.testBit v))=X0 nm f k (v+1) (l.filter (λc=> !c.testBit v))then X0 nm f k (v+1) (l.filter (λc=>c.testBit v))else
  W3 nm v (X0 nm f k (v+1) (l.filter (λc=>c.testBit v))) (X0 nm f k (v+1) (l.filter (λc=> !c.testBit v))):=by
 by_cases hc:∀c∈l,f c=f (l.headD 0)
 ·rw[xT hl hc,xT hl hc];split
  ·rfl
  ·rename_i h;have h1:l.filter (λc=> !c.testBit v)≠ []:=λe=>h (.inl e)
   have h2:l.filter (λc=>c.testBit v)≠ []:=λe=>h (.inr e)
   rw[xT h1 (λc hm=>hc c (Jc.1 hm).1),xT h2 (λc hm=>hc c (Jc.1 hm).1),Qe rfl]
 ·rw[X0,if_neg hc]
def jQz (t:List Nat):Prop:=∀s∈QW t,Zk s= .txt
def Apt (l:List Nat)(v k:Nat):Prop:=∀c∈l,∀c'∈l,(∀i,v<=i->i<v+k->c.testBit i=c'.testBit i)->c=c'
theorem Apt.sub {l m:List Nat}{v k:Nat}(h:Apt l v (k+1))(hm:∀c∈m,c∈l)(he:∀c∈m,∀c'∈m,c.testBit v=c'.testBit v):Apt m (v+1) k:=λc hc c' Z3 hb=>h c (hm c hc) c' (hm c' Z3) (λi h1 h2=>by
 by_cases e:i=v
 ·subst e;exact he c hc c' Z3
 ·exact hb i (by omega) (by omega))
theorem CX (hI:xR nm n){f:Nat->List Nat}{P:List Nat->Prop}{M:Nat}:∀(k v:Nat)(l:List Nat),v+k<=n->l≠ []->Apt l v k->(∀c∈l,jQz (f c)/\(∀s∈QW (f c),P s)/\(QW (f c)).length<=M)->
  ∃T,X0 nm f k v l=fl nm T/\Wt n T/\bY nm T/\dT T<=k/\Wf P T/\(fl nm T).length+3<=l.length*(M+3)/\∀c∈l,Kh (λi=>c.testBit i) T=QW (f c)
 | 0,v,l,hv,hl,ha,hp=>by
  have h0:=hp _ (uJ hl);have hall:∀c∈l,c=l.headD 0:=λc hc=>ha c hc _ (uJ hl) (λi h1 h2=>by omega)
  refine⟨jZ (QW (f (l.headD 0))),by rw[If,X0],UJ h0.1,UH _,by rw[UI];exact QC _,UK h0.2.1,?_,λc hc=>by rw[UG,hall c hc]⟩;rw[If];have:1<=l.length:=Gk.2 hl;have:=Y8 (M+3) this;have:=h0.2.2;omega
 | k+1,v,l,hv,hl,ha,hp=>by
  rw[rj hl];split
  ·rename_i h;have he:∀c∈l,∀c'∈l,c.testBit v=c'.testBit v:=by
    rcases h with h | h
    ·have:=wz.1 h;intro c hc c' Z3;have h1:=this c hc;have h2:=this c' Z3;simp at h1 h2;rw[h1,h2]
    ·have:=wz.1 h;intro c hc c' Z3;have h1:=this c hc;have h2:=this c' Z3;simp at h1 h2;rw[h1,h2]
   obtain⟨T,h1,h2,h3,h4,h5⟩:=CX hI (P:=P) (M:=M) k (v+1) l (by omega) hl (ha.sub (λc hc=>hc) he) hp;exact⟨T,h1,h2,h3,by omega,h5⟩
  ·rename_i h;have n1:l.filter (λc=> !c.testBit v)≠ []:=λe=>h (.inl e)
   have n2:l.filter (λc=>c.testBit v)≠ []:=λe=>h (.inr e)
   have m1:∀c∈l.filter (λc=> !c.testBit v),c∈l/\c.testBit v=false:=λc hc=>by have:=Jc.1 hc;exact⟨this.1,by simpa using this.2⟩
   have m2:∀c∈l.filter (λc=>c.testBit v),c∈l/\c.testBit v=true:=λc hc=>by have:=Jc.1 hc;exact⟨this.1,by simpa using this.2⟩
   have Q0:(l.filter (λc=>c.testBit v)).length+(l.filter (λc=> !c.testBit v)).length=l.length:=by
    clear h hl ha hp n1 n2 m1 m2;induction l with
    | nil=>rfl
    | cons a l ih=>by_cases e:a.testBit v=true<;>simp[gh,e]<;>omega
   obtain⟨L,a1,a2,a3,a4,a5,a6,a7⟩:=CX hI (P:=P) (M:=M) k (v+1) _ (by omega) n1 (ha.sub (λc hc=>(m1 c hc).1) (λc hc c' Z3=>by rw[(m1 c hc).2,(m1 c' Z3).2])) (λc hc=>hp c (m1 c hc).1);obtain⟨H,b1,b2,b3,b4,b5,b6,b7⟩:=CX hI (P:=P) (M:=M) k (v+1) _ (by omega) n2 (ha.sub (λc hc=>(m2 c hc).1) (λc hc c' Z3=>by rw[(m2 c hc).2,(m2 c' Z3).2])) (λc hc=>hp c (m2 c hc).1);rw[a1,b1];have An:l.length*(M+3)=(l.filter (λc=>c.testBit v)).length*(M+3)+(l.filter (λc=> !c.testBit v)).length*(M+3):=by rw[<-nz,Q0]
   split
   ·rename_i e;have hHL:H=L:=Id hI b2 a2 e;subst hHL;refine⟨H,rfl,b2,b3,by omega,b5,by omega,λc hc=>?_⟩;cases hb:c.testBit v with
    | true=>exact b7 c (Jc.2 ⟨hc,hb⟩)
    | false=>exact a7 c (Jc.2 ⟨hc,by simp[hb]⟩)
   ·rename_i e;obtain⟨Q,H2,L2,E,rfl,rfl,hj,QO,ao⟩:=jQs hI (v:=v) b2 a2 e;obtain⟨q1,q2⟩:=iG.1 b2;obtain⟨q2,q3⟩:=iG.1 q2;obtain⟨_,r2⟩:=iG.1 a2;obtain⟨r2,_⟩:=iG.1 r2;obtain⟨s1,s2⟩:=rh.1 b3;obtain⟨s2,s3⟩:=rh.1 s2;obtain⟨_,t2⟩:=rh.1 a3;obtain⟨t2,_⟩:=rh.1 t2;obtain⟨u1,u2⟩:=ri.1 b5;obtain⟨u2,u3⟩:=ri.1 u2;obtain⟨_,w2⟩:=ri.1 a5;obtain⟨w2,_⟩:=ri.1 w2;rw[xS,xS] at a4 b4;rw[gy,gy,Qq,Qq] at a6 b6;rw[hj];refine⟨_,rfl,iG.2 ⟨q1,jQx (by omega) q2 r2 q3⟩,rh.2 ⟨s1,jQu QO ao s2 t2 s3⟩,?_,ri.2 ⟨u1,jQw u2 w2 u3⟩,?_,λc hc=>?_⟩
    ·rw[xS];have:=jQv v H2 L2 E;omega
    ·rw[gy,Qq];have:=jQy (nm:=nm) v H2 L2 E;omega
    ·rw[rg,jQt];cases hb:c.testBit v with
     | true=>
      have:=b7 c (Jc.2 ⟨hc,hb⟩);rw[rg,rg] at this;rw[Qe rfl];exact this
     | false=>
      have:=a7 c (Jc.2 ⟨hc,by simp[hb]⟩);rw[rg,rg] at this;rw[if_neg (by decide)];exact this
end
section
section
def ChG:Nat->List Sg->Nat->Prop
 | a,[],b=>a=b
 | a,s::l,b=>s.f=a/\ChG s.t l b
theorem ChG.snoc {x:Sg}:∀{l:List Sg}{a b:Nat},ChG a (l++ [x]) b↔ChG a l x.f/\x.t=b
 | [],a,b=>by simp only[aZ,ChG];exact⟨λh=>⟨h.1.symm,h.2⟩,λh=>⟨h.1.symm,h.2⟩⟩
 | s::l,a,b=>by
  simp only[Z5,ChG];rw[ChG.snoc (l:=l)];exact⟨λh=>⟨⟨h.1,h.2.1⟩,h.2.2⟩,λh=>⟨h.1.1,h.1.2,h.2⟩⟩
structure SgOk (fs:List (List Nat×List Nat)) (tx:List Nat) (s:Sg):Prop where
 ft:s.f<s.t
 tl:s.t<=tx.length
 nl:tx[s.t-1]? =some 10
 src:∃x,fs[s.fl]? =some x/\s.at_+(s.t-s.f)<=x.2.length/\(x.2.drop s.at_).take (s.t-s.f)=(tx.take s.t).drop s.f
theorem SgOk.app {fs:List (List Nat×List Nat)}{tx:List Nat}{s:Sg}(h:SgOk fs tx s)(l:List Nat):SgOk fs (tx++l) s:=by
 obtain⟨h1,h2,h3,x,h4,h5,h6⟩:=h;refine⟨h1,by rw[Qq];omega,by rw[eK (by omega)];exact h3,x,h4,h5,?_⟩;rw[Gg h2];exact h6
structure GInv (fs:List (List Nat×List Nat)) (g:Gs):Prop where
 ch:ChG 0 g.sg g.tx.length
 ok:∀s∈g.sg,SgOk fs g.tx s
theorem GInv.fr {fs:List (List Nat×List Nat)}{g:Gs}(h:GInv fs g)(b:Bool):GInv fs {g with fr:=b}:=⟨h.ch,h.ok⟩
def iL (n p:Nat)(k:BF)(g:Gs):Prop:=g.fr=false->∃l x,g.sg=l++ [x]/\x.fl=n/\x.at_+(x.t-x.f)=p/\x.o=k
theorem Ig {fs:List (List Nat×List Nat)}{n p:Nat}{k:BF}{g g':Gs}{s:List Nat}(h:GInv fs g)(hc:iL n p k g){x:List Nat×List Nat}(hx:fs[n]? =some x)(hs:x.2.drop p=s++x.2.drop (p+s.length))(hp:p+s.length<=x.2.length)(hl:s.getLast? =some 10)
  (ha:Vi s n p k g=some g'):GInv fs g'/\iL n (p+s.length) k g':=by
 unfold Vi at ha;split at ha
 ·cases ha
 cases ha;have DB:0<s.length:=by
  cases s with
  | nil=>cases hl
  | cons _ _=>simp
 have KQ:(g.tx++s)[g.tx.length+s.length-1]? =some 10:=by
  rw[WV (by omega),show g.tx.length+s.length-1-g.tx.length=s.length-1 by omega,<-tz];exact hl
 cases hf:g.fr with
 | true=>
  rw[Qe rfl,iD];refine⟨⟨?_,λy hy=>?_⟩,λ_=>⟨_,_,rfl,rfl,?_,rfl⟩⟩
  ·simp only;rw[ChG.snoc];exact⟨h.ch,by simp⟩
  ·simp only[Xv,QL] at hy;rcases hy with hy | rfl
   ·exact(h.ok y hy).app s
   ·refine⟨by simp only;omega,by simp,KQ,x,hx,by simp only;omega,?_⟩;simp only;rw[show g.tx.length+s.length-g.tx.length=s.length by omega,hs,List.take_left,Jv (by simp),qi]
  ·simp only;omega
 | false=>
  rw[if_neg (by decide)];obtain⟨l,y,e,e1,e2,e3⟩:=hc hf;have Ju:=h.ch;have XY:=h.ok;rw[e] at Ju XY;rw[ChG.snoc] at Ju;obtain⟨q1,q2,q3,z,q4,q5,q6⟩:=XY y (by simp);rw[e,iD];have hz:z=x:=by rw[e1,hx] at q4;exact(Option.some.inj q4).symm
  subst hz;refine⟨⟨?_,λu hu=>?_⟩,λ_=>⟨_,_,rfl,e1,?_,e3⟩⟩
  ·simp only;rw[ChG.snoc];exact⟨Ju.1,by simp⟩
  ·simp only[Xv,QL] at hu;rcases hu with hu | rfl
   ·exact(XY u (by simp[hu])).app s
   ·refine⟨by simp only;omega,by simp,KQ,z,q4,by simp only;omega,?_⟩;simp only;rw[show g.tx.length+s.length-y.f=(y.t-y.f)+s.length by omega,Jv (l:=g.tx++s) (by simp),P0 (by omega)];rw[List.take_add,tr,e2,hs,List.take_left,q6,Ju.2,qd]
  ·simp only;omega
theorem UL {nm:List (List Nat)}{fs:List (List Nat×List Nat)}{n d0:Nat}{inc:oq}{x:List Nat×List Nat}(hx:fs[n]? =some x)
  (hi:∀r ln d k g g',inc r ln d k g= .ok g'->GInv fs g->GInv fs g'):∀(ls:List (List Nat)) (ln at_:Nat) (k:BF) (op:List Se) (g g':Gs),
  x.2.drop at_=Qk ls->at_<=x.2.length->GInv fs g->iL n at_ k g->ZZ nm n d0 inc ls ln at_ k op g= .ok g'->GInv fs g'/\g'.fr=true
 | [],ln,at_,k,op,g,g',_,_,hg,_,hr=>by
  cases op with
  | nil=>simp only[ZZ,Except.ok.injEq] at hr;subst hr;exact⟨hg.fr true,rfl⟩
  | cons _ _=>simp[ZZ] at hr
 | s::ls,ln,at_,k,op,g,g',hd,dB,hg,hc,hr=>by
  have XJ:x.2.drop at_=(s++ [10])++Qk ls:=by rw[hd,V6];simp
  have hL:(s++ [10]).length=s.length+1:=by simp
  have Q0:x.2.length-at_=s.length+1+(Qk ls).length:=by
   have:=QD List.length XJ;simp only[YR,Qq,Q6,Ji] at this;omega
  have aL:x.2.drop (at_+s.length+1)=Qk ls:=by
   rw[show at_+s.length+1=at_+(s++ [10]).length by simp;omega,<-tr,XJ,qi]
  have ih:=λk op g g' h1 h2 h3=>UL (nm:=nm) (d0:=d0) hx hi ls (ln+1) (at_+s.length+1) k op g g' aL (by omega) h1 h2 h3
  have cf:∀k' (g:Gs),iL n (at_+s.length+1) k' {g with fr:=true}:=λk' g h=>by cases h
  rw[ZZ.eq_def] at hr;simp only at hr;cases XZ:Zk s with
  | txt=>
   rw[XZ] at hr;simp only at hr;cases ha:Vi (s++ [10]) n at_ k g with
   | none=>rw[ha] at hr;cases hr
   | some g1=>
    rw[ha] at hr;simp only at hr;obtain⟨i1,i2⟩:=Ig hg hc hx (by rw[hL,<-kS,aL];exact XJ) (by rw[hL];omega) (by simp) ha;exact ih k op g1 g' i1 (by rw[hL,<-kS] at i2;exact i2) hr
  | ifd r=>
   rw[XZ] at hr;simp only at hr;cases hs:VQ nm r with
   | error e=>rw[hs] at hr;cases hr
   | ok d=>
    rw[hs] at hr;simp only at hr;split at hr
    ·cases hr
    ·exact ih _ _ _ _ (hg.fr true) (cf _ _) hr
  | inc r=>
   rw[XZ] at hr;simp only at hr;cases hs:inc r (ln+1) (d0+op.length) k g with
   | error e=>rw[hs] at hr;cases hr
   | ok g1=>
    rw[hs] at hr;exact ih _ _ _ _ ((hi _ _ _ _ _ _ hs hg).fr true) (cf _ _) hr
  | elif r=>
   rw[XZ] at hr;cases op with
   | nil=>cases hr
   | cons y op=>
    simp only at hr;split at hr
    ·cases hr
    ·cases hs:VQ nm r with
     | error e=>rw[hs] at hr;cases hr
     | ok d=>rw[hs] at hr;exact ih _ _ _ _ (hg.fr true) (cf _ _) hr
  | els=>
   rw[XZ] at hr;cases op with
   | nil=>cases hr
   | cons y op=>
    simp only at hr;split at hr
    ·cases hr
    ·exact ih _ _ _ _ (hg.fr true) (cf _ _) hr
  | en=>
   rw[XZ] at hr;cases op with
   | nil=>cases hr
   | cons y op=>exact ih _ _ _ _ (hg.fr true) (cf _ _) hr
theorem UM {nm:List (List Nat)}{fs:List (List Nat×List Nat)}(hf:∀x∈fs,cN x.2):∀(f:Nat)(rd:List Nat)(d n:Nat)(k:BF)(g g':Gs),n<fs.length->GInv fs g->WZ nm fs f rd d n k g= .ok g'->GInv fs g'/\g'.fr=true
 | 0,_,_,_,_,_,_,_,_,hr=>by cases hr
 | f+1,rd,d,n,k,g,g',hn,hg,hr=>by
  have hx:fs[n]? =some fs[n]:=XB hn;rw[WZ,hx] at hr;simp only[ww,gc] at hr;refine UL hx ?_ (QW fs[n].2) 0 0 k [] {g with fr:=true} g' (by rw[tw,aE (hf _ (PX hn))]) (Xt _) (hg.fr true) (λh=>by cases h) hr;intro r ln d' k' g1 g2 hi fk;cases he:cO (Jj (fs.map (·.1))) (n::rd) r with
  | error e=>rw[he] at hi;cases hi
  | ok m=>
   rw[he] at hi;simp only at hi;split at hi
   ·cases hi
   ·have hm:m<fs.length:=by
     obtain⟨_,tn,AA⟩:=H4 he;have:=lI AA;simpa using this
    exact(UM hf f _ _ m _ g1 g2 hm fk hi).1
theorem UN {nm:List (List Nat)}{fs:List (List Nat×List Nat)}{root:List Nat}{g:Gs}(hr:KH nm fs root= .ok g):GInv fs g/\fs.length<=256/\∀x∈fs,x.2.length<=1048576:=by
 unfold KH at hr;split at hr
 ·cases hr
 cases K4:YY fs with
 | some p=>rw[K4] at hr;cases hr
 | none=>
  rw[K4] at hr;simp only at hr;have nQL:fs.length<=256:=by
   unfold YY at K4;split at K4
   ·cases K4
   ·omega
  have hall:∀x∈fs,lK x.1=true/\br x.2=true/\x.2.length<=1048576:=by
   unfold YY at K4;rw[if_neg (by omega)] at K4;exact CN fs [] 0 K4
  cases KF:Jj (fs.map (·.1)) root with
  | none=>rw[KF] at hr;cases hr
  | some n=>
   rw[KF] at hr;simp only at hr;have hn:n<fs.length:=by have:=lI KF;simpa using this
   exact⟨(UM (λx hx=>oz (hall x hx).2.1) 65 [] 0 n _ _ g hn (⟨rfl,λs hs=>by cases hs⟩:GInv fs ⟨[],[],false⟩) hr).1,nQL,λx hx=>(hall x hx).2.2⟩
end
section
def mkX (s:Sg)(x:DV):Sx:=⟨s.f,s.t,s.fl,s.at_,x⟩
def AllS (k:Nat):List Sg->List Sx->Prop
 | [],[]=>True
 | s::l,y::m=>(y.f=s.f/\y.t=s.t/\y.fl=s.fl/\y.at_=s.at_/\Set1 k y.x.nd y.x.r s.o)/\AllS k l m
 | _,_=>False
theorem AllS.len {k:Nat}:∀{l:List Sg}{m:List Sx},AllS k l m->l.length=m.length
 | [],[],_=>rfl
 | _::_,_::_,h=>by simp[AllS.len h.2]
theorem AllS.get {k:Nat}:∀{l:List Sg}{m:List Sx}{i:Nat}{s:Sg}{y:Sx},AllS k l m->l[i]? =some s->m[i]? =some y->y.f=s.f/\y.t=s.t/\y.fl=s.fl/\y.at_=s.at_/\Set1 k y.x.nd y.x.r s.o
 | _::_,_::_,0,_,_,h,h1,h2=>by cases h1;cases h2;exact h.1
 | _::_,_::_,i+1,_,_,h,h1,h2=>AllS.get (i:=i) h.2 (by simpa using h1) (by simpa using h2)
theorem UO {w:World}{k:Nat}{A:Option Addr}{n c:Nat}{sg:List Sg}{L:List DV}(h:SgIn w k A n c sg L):∃M,SX w A n c M/\AllS k sg M:=by
 have key:∀(sg:List Sg) (L:List DV),L.length=sg.length->(∀(j:Nat) (s:Sg) (x:DV),sg[j]? =some s->L[j]? =some x->SB w x.A x.n x.c x.nd/\Set1 k x.nd x.r s.o)->
   ∃M:List Sx,M.flatMap Sx.cells=cR sg L/\M.length=sg.length/\(∀y∈M,SB w y.x.A y.x.n y.x.c y.x.nd)/\AllS k sg M:=by
  intro sg;induction sg with
  | nil=>
   intro L hl _;have:L=[]:=Wx hl;subst this;exact⟨[],rfl,rfl,(λy hy=>by cases hy),⟨⟩⟩
  | cons s sg ih=>
   intro L hl hd;cases L with
   | nil=>cases hl
   | cons x L=>
    obtain⟨M,h1,h2,h3,h4⟩:=ih L (by simpa using hl) (λj s x h1 h2=>hd (j+1) s x (by simpa using h1) (by simpa using h2));obtain⟨d1,d2⟩:=hd 0 s x rfl rfl;refine⟨mkX s x::M,?_,by simp[h2],?_,⟨⟨rfl,rfl,rfl,rfl,d2⟩,h4⟩⟩
    ·rw[VH,h1]<;>rfl
    ·intro y hy;rcases Q3.1 hy with rfl | hy
     ·exact d1
     ·exact h3 y hy
 obtain⟨M,h1,h2,h3,h4⟩:=key sg L h.len h.dg;exact⟨M,⟨⟨by rw[h1];exact h.sl,by rw[h2];exact h.n⟩,h3⟩,h4⟩
theorem UP {k:Nat}(hk:k<=12){fs:List (List Nat×List Nat)}{tx:List Nat}(kO:∀x∈fs,x.2.length<=1048576):∀{sg:List Sg}{M:List Sx}{a:Nat},AllS k sg M->ChG a sg tx.length->(∀s∈sg,SgOk fs tx s)->gB tx a M
 | [],[],a,_,h,_=>by have:a=tx.length:=h;subst this;rfl
 | s::sg,y::M,a,h,hc,hs=>by
  obtain⟨⟨e1,e2,e3,e4,e5⟩,hr⟩:=h;obtain⟨q1,q2,q3,x,q4,q5,q6⟩:=hs s (by simp);have hx:=kO x (Xk q4);have hcf:s.f=a:=hc.1;refine⟨⟨by omega,by omega,by omega,?_,e5.chk hk,by omega,by omega,by omega⟩,?_⟩
  ·rw[show(y.t-1).toNat=s.t-1 by omega];exact q3
  ·rw[e2];exact UP hk kO hr hc.2 (λz hz=>hs z (by simp[hz]))
theorem jQA {k:Nat}(hk:k<=12){nm:List (List Nat)}{fs:List (List Nat×List Nat)}{root:List Nat}{g:Gs}{M:List Sx}(hr:KH nm fs root= .ok g)(hg:GsOk g)(hM:AllS k g.sg M):iI g.tx M=0:=by
 obtain⟨h1,h2,h3⟩:=UN hr;exact Uo.2 ⟨hg.tl,by rw[<-hM.len];exact hg.sl,UP hk h3 hM h1.ch h1.ok⟩
def CY (e:Nat->Bool)(sg:List Sg):List Sg:=sg.filter (λs=>s.o e)
def KI (tx:List Nat)(s:Sg):List Nat:=(tx.take s.t).drop s.f
def j0 (tx:List Nat)(sg:List Sg)(e:Nat->Bool):List Nat:=(CY e sg).flatMap (KI tx)
def Ih:List Sg->List Sx->Prop
 | [],[]=>True
 | s::l,y::m=>(y.f=s.f/\y.t=s.t/\y.fl=s.fl/\y.at_=s.at_)/\Ih l m
 | _,_=>False
theorem AllS.on {k:Nat}(c:Nat):∀{l:List Sg}{m:List Sx},AllS k l m->Ih (CY (We c) l) (Vw c m)
 | [],[],_=>⟨⟩
 | s::l,y::m,⟨⟨h1,h2,h3,h4,h5⟩,h⟩=>by
  have ih:=h.on c;unfold CY Vw at ih ⊢;rw[gh,gh];have e:xQ c y=s.o (We c):=h5.mean _;rw[e];split
  ·exact⟨⟨h1,h2,h3,h4⟩,ih⟩
  ·exact ih
theorem UQ {tx:List Nat}:∀{l:List Sg}{m:List Sx},Ih l m->m.flatMap (bX tx)=l.flatMap (KI tx)
 | [],[],_=>rfl
 | s::l,y::m,⟨⟨h1,h2,_,_⟩,h⟩=>by
  rw[VH,VH,UQ h];unfold bX KI;rw[h1,h2]<;>rfl
structure SrcIn (w:World) (k:Nat) (A:Option Addr) (c:Nat) (g:Gs):Prop where
 ok:GsOk g
 kl:k<=12
 ex:∃M,SX w A g.sg.length c M/\AllS k g.sg M/\iI g.tx M=0
theorem SrcIn.ext {w w':World}{k:Nat}{A:Option Addr}{c:Nat}{g:Gs}(h:SrcIn w k A c g)(hE:Ext w w'):SrcIn w' k A c g:=⟨h.ok,h.kl,let ⟨M,h1,h2,h3⟩:=h.ex;⟨M,h1.ext hE,h2,h3⟩⟩
theorem jQB {k:Nat}(hk:k<=12){nm:List (List Nat)}{fs:List (List Nat×List Nat)}{root:List Nat}{g:Gs}(hr:KH nm fs root= .ok g){w:World}{A:Option Addr}{c:Nat}{L:List DV}(hg:GsOk g)(h:SgIn w k A g.sg.length c g.sg L):SrcIn w k A c g:=by
 obtain⟨M,h1,h2⟩:=UO h;exact⟨hg,hk,M,h1,h2,jQA hk hr hg h2⟩
section
variable {w:World} {k:Nat} {A:Option Addr} {c:Nat} {g:Gs}
theorem Ii (h:SrcIn w k A c g)(x:Nat)(hx:x<=18446744073709551615):Fn Tryz.prog 21 [qY g.tx A g.sg.length c,.int .u64 x] w (λu w'=>u= .string (Qf (j0 g.tx g.sg (We x)))/\Ext w w'):=by
 obtain⟨M,h1,h2,h3⟩:=h.ex;refine(jQf g.tx A _ c M x w h1 hx h.ok.b8).mono ?_;rintro u w' ⟨rfl,hE⟩;exact⟨by unfold CT j0;rw[Qe h3,UQ (h2.on x)],hE⟩
end
end
section
end
end
section
theorem gC (a b:List Nat)(h:a.length+b.length<=100000):(Qf a).size+(Qf b).size<=maxLen:=by
 rw[Xi,Xi];unfold maxLen;omega
def UR (p q:List Nat)(b:Nat):List Nat:=
 if b=0∨b=1 then p else if b=2 then 33::p else if b=3 then p++ [32,38,38,32]++q else if b=4 then p++ [32,124,124,32,33]++q
 else if b=5 then [33,40]++p++ [32,38,38,32]++q++ [41] else if b=6 then [33]++p++ [38,38,33]++q else [116,114,117,101]
def YK (nm:List (List Nat))(b:Nat):List Nat:=
 if nm=[] then([[116,114,117,101],[102,97,108,115,101],[33,102,97,108,115,101]][b % 3]?).getD []
 else UR ((nm[b/8 % nm.length]?).getD []) ((nm[(b/64+b/8+1) % nm.length]?).getD []) (b % 8)
theorem US (nm:List (List Nat))(A:Option Addr)(n c:Nat)(b:Nat)(w:World)(h:Sl w 1 A n c (X9 nm))(hl:∀s∈nm,s.length<=100)(hb:b<=255):
  Fn Tryz.prog 130 [.slice A n c,.int .u8 b] w (λv w'=>v= .string (Qf (YK nm b))/\Ext w w'):=by
 have hn:nm.length=n:=by have:=h.len;rw[bn] at this;omega
 have bI:n<=9223372036854775807:=by have:=h.le;have:=h.cap;simp only[maxLen] at this;omega
 refine QH (c:={eQY with cuts:=[]}) Qa Tryz.func130 rfl rfl rfl ?_;refine Zd (λc1=>?_) (λc1=>?_)
 ·have Ac:nm=[]:=Wx (by omega);have kO:YK nm b=([[116,114,117,101],[102,97,108,115,101],[33,102,97,108,115,101]][b % 3]?).getD []:=Qe Ac;have h3:b % 3<3:=eM _ (by decide);refine Xw Qa ([[116,114,117,101],[102,97,108,115,101],[33,102,97,108,115,101]].map (λs=>[Value.string (Qf s)])) rfl rfl rfl rfl rfl ⟨rfl,rfl,rfl,rfl,rfl,rfl,⟨⟩⟩ rfl (λcs h=>by simp only[ZG] at h;obtain⟨s,_,rfl⟩:=h;rfl) rfl (by decide) (by decide) ?_;intro w1 Qd Q9 Qh;refine Qj ((b:Nat):Int) rfl (by omega) ?_;refine normIf (m:=((b % 3:Nat):Int)) (by decide) rfl ?_;refine index (j:=b % 3) h3 ?_;refine Qp Qh (v:=.string (Qf (([[116,114,117,101],[102,97,108,115,101],[33,102,97,108,115,101]][b % 3]?).getD []))) (by
   generalize b % 3=r at h3;rcases(show r=0∨r=1∨r=2 by omega)with rfl | rfl | rfl<;>rfl) ?_
  exact⟨by rw[kO],Qd⟩
 ·have QO:nm≠ []:=λe=>by rw[e] at hn;simp at hn;omega
  have jt:0<n:=by omega
  have kO:YK nm b=UR ((nm[b/8 % nm.length]?).getD []) ((nm[(b/64+b/8+1) % nm.length]?).getD []) (b % 8):=if_neg QO;rw[hn] at kO;have l1:b/8 % n<n:=eM _ jt;have l2:(b/64+b/8+1) % n<n:=eM _ jt;have yF:IntKind.u8.wrap (((b:Nat):Int).tdiv 8)=((b/8:Nat):Int):=by
   show IntKind.u8.wrap ((b/8:Nat):Int)=_;rw[tN];omega
  have cQG:IntKind.u8.wrap (((b:Nat):Int).tdiv 64)=((b/64:Nat):Int):=by
   show IntKind.u8.wrap ((b/64:Nat):Int)=_;rw[tN];omega
  have fk:nm[b/8 % n]? =some (nm[b/8 % n]'(by omega)):=XB _;have cm:nm[(b/64+b/8+1) % n]? =some (nm[(b/64+b/8+1) % n]'(by omega)):=XB _;have pQ4:=hl _ (Xk fk);have pQ5:=hl _ (Xk cm);rw[fk,cm] at kO;simp only[gc] at kO;generalize nm[b/8 % n]'(by omega)=p at*;generalize nm[(b/64+b/8+1) % n]'(by omega)=q at*;have ps:=Xi p;have qs:=Xi q;refine normIf (m:=((b/8:Nat):Int)) (by decide) yF ?_;refine Qj ((b/8:Nat):Int) rfl (by omega) ?_;refine normIf (m:=((b/8 % n:Nat):Int)) (by omega) (iv _ _) ?_;refine Vr h l1 (λad u hA hu Xy=>?_);rw[lj fk] at hu;cases hu;refine load Xy ?_;refine normIf (m:=((b/64:Nat):Int)) (by decide) cQG ?_;refine normIf (m:=((b/8:Nat):Int)) (by decide) yF ?_;refine norm (m:=((b/64+b/8:Nat):Int)) (by show IntKind.u8.wrap (((b/64:Nat):Int)+((b/8:Nat):Int))=_;rw[<-Int.natCast_add,tN];omega) ?_;refine norm (m:=((b/64+b/8+1:Nat):Int)) (by show IntKind.u8.wrap (((b/64+b/8:Nat):Int)+((1:Nat):Int))=_;rw[<-Int.natCast_add,tN];omega) ?_;refine Qj ((b/64+b/8+1:Nat):Int) rfl (by omega) ?_;refine normIf (m:=(((b/64+b/8+1) % n:Nat):Int)) (by omega) (iv _ _) ?_;refine Vr h l2 (λad' u' FP gZ oQ6=>?_);rw[lj cm] at gZ;cases gZ;refine load oQ6 ?_;have eu:((b:Nat):Int).tmod 8=((b % 8:Nat):Int):=iv b 8;have m8:b % 8<8:=eM _ (by decide);generalize b % 8=r at eu m8 kO;refine normIf (m:=((r:Nat):Int)) (by decide) eu ?_;clear eu yF cQG;rw[kO];rcases(show r=0∨r=1∨r=2∨r=3∨r=4∨r=5∨r=6∨r=7 by omega)with rfl | rfl | rfl | rfl | rfl | rfl | rfl | rfl
  ·refine Xc rfl ?_;exact⟨rfl,Ext.refl _⟩
  ·refine Q7 rfl ?_;refine Xc rfl ?_;exact⟨rfl,Ext.refl _⟩
  ·refine Q7 rfl ?_;refine Q7 rfl ?_;refine Xc rfl ?_;refine XM (v':=.string (Qf ([33]++p))) (gC [33] p (by simp;omega)) (QD Value.string (ZY [33] p)) ?_;exact⟨rfl,Ext.refl _⟩
  ·refine Q7 rfl ?_;refine Q7 rfl ?_;refine Q7 rfl ?_;refine Xc rfl ?_;refine XM (v':=.string (Qf (p++ [32,38,38,32]))) (gC p [32,38,38,32] (by simp;omega)) (QD Value.string (ZY p [32,38,38,32])) ?_;refine XM (v':=.string (Qf ((p++ [32,38,38,32])++q))) (gC (p++ [32,38,38,32]) q (by simp;omega)) (QD Value.string (ZY (p++ [32,38,38,32]) q)) ?_;exact⟨rfl,Ext.refl _⟩
  ·refine Q7 rfl ?_;refine Q7 rfl ?_;refine Q7 rfl ?_;refine Q7 rfl ?_;refine Xc rfl ?_;refine XM (v':=.string (Qf (p++ [32,124,124,32,33]))) (gC p [32,124,124,32,33] (by simp;omega)) (QD Value.string (ZY p [32,124,124,32,33])) ?_;refine XM (v':=.string (Qf ((p++ [32,124,124,32,33])++q))) (gC (p++ [32,124,124,32,33]) q (by simp;omega)) (QD Value.string (ZY (p++ [32,124,124,32,33]) q)) ?_;exact⟨rfl,Ext.refl _⟩
  ·refine Q7 rfl ?_;refine Q7 rfl ?_;refine Q7 rfl ?_;refine Q7 rfl ?_;refine Q7 rfl ?_;refine Xc rfl ?_;refine XM (v':=.string (Qf ([33,40]++p))) (gC [33,40] p (by simp;omega)) (QD Value.string (ZY [33,40] p)) ?_;refine XM (v':=.string (Qf (([33,40]++p)++ [32,38,38,32]))) (gC ([33,40]++p) [32,38,38,32] (by simp;omega)) (QD Value.string (ZY ([33,40]++p) [32,38,38,32])) ?_;refine XM (v':=.string (Qf (([33,40]++p++ [32,38,38,32])++q))) (gC ([33,40]++p++ [32,38,38,32]) q (by simp;omega)) (QD Value.string (ZY ([33,40]++p++ [32,38,38,32]) q)) ?_;refine XM (v':=.string (Qf (([33,40]++p++ [32,38,38,32]++q)++ [41]))) (gC ([33,40]++p++ [32,38,38,32]++q) [41] (by simp;omega)) (QD Value.string (ZY ([33,40]++p++ [32,38,38,32]++q) [41])) ?_;exact⟨rfl,Ext.refl _⟩
  ·refine Q7 rfl ?_;refine Q7 rfl ?_;refine Q7 rfl ?_;refine Q7 rfl ?_;refine Q7 rfl ?_;refine Q7 rfl ?_;refine Xc rfl ?_;refine XM (v':=.string (Qf ([33]++p))) (gC [33] p (by simp;omega)) (QD Value.string (ZY [33] p)) ?_;refine XM (v':=.string (Qf (([33]++p)++ [38,38,33]))) (gC ([33]++p) [38,38,33] (by simp;omega)) (QD Value.string (ZY ([33]++p) [38,38,33])) ?_;refine XM (v':=.string (Qf (([33]++p++ [38,38,33])++q))) (gC ([33]++p++ [38,38,33]) q (by simp;omega)) (QD Value.string (ZY ([33]++p++ [38,38,33]) q)) ?_;exact⟨rfl,Ext.refl _⟩
  ·refine Q7 rfl ?_;refine Q7 rfl ?_;refine Q7 rfl ?_;refine Q7 rfl ?_;refine Q7 rfl ?_;refine Q7 rfl ?_;refine Q7 rfl ?_;exact⟨rfl,Ext.refl _⟩
def jQC (p q:Fm)(b:Nat):Fm:=
 if b=0∨b=1 then p else if b=2 then .not p else if b=3 then .and p q else if b=4 then .or p (.not q)else if b=5 then .not (.and p q)else if b=6 then .and (.not p) (.not q)else .c true
def CZ (k b:Nat):Fm:=if k=0 then(if b % 3=0 then .c true else if b % 3=1 then .c false else .not (.c false))else jQC (.v (b/8 % k)) (.v ((b/64+b/8+1) % k)) (b % 8)
def rm (k b:Nat):Bool:=match eY (X5.take k) (YK (X5.take k) b)with
 | .ok t=>decide (t=CZ k b)
 | .error _=>false
theorem xU {k b:Nat}(h:rm k b=true):eY (X5.take k) (YK (X5.take k) b)= .ok (CZ k b):=by
 unfold rm at h;split at h
 ·rename_i t ht;rw[ht,YC h]
 ·cases h
theorem jQD:(List.range 256).all (rm 4)=true:=by decide+kernel
theorem jQE:(List.range 256).all (rm 3)=true:=by decide+kernel
theorem jQF:(List.range 256).all (rm 2)=true:=by decide+kernel
theorem jQG:(List.range 256).all (rm 1)=true:=by decide+kernel
theorem jQH:(List.range 256).all (rm 0)=true:=by decide+kernel
theorem jQI {k b:Nat}(hk:k<=4)(hb:b<=255):eY (X5.take k) (YK (X5.take k) b)= .ok (CZ k b):=by
 have hm:b∈List.range 256:=YS.2 (by omega);rcases(show k=0∨k=1∨k=2∨k=3∨k=4 by omega)with rfl | rfl | rfl | rfl | rfl
 ·exact xU (J0.1 jQH b hm)
 ·exact xU (J0.1 jQG b hm)
 ·exact xU (J0.1 jQF b hm)
 ·exact xU (J0.1 jQE b hm)
 ·exact xU (J0.1 jQD b hm)
def uK (k b:Nat):BF:=evF (CZ k b)
theorem jQJ {k b:Nat}(hk:k<=4)(hb:b<=255):VQ (X5.take k) (YK (X5.take k) b)= .ok (uK k b):=by
 unfold VQ;rw[jQI hk hb]<;>rfl
theorem jQK (x:Nat)(hx:x<256):IntKind.u8.wrap ((BitVec.ofInt 8 (x:Int) &&& BitVec.ofInt 8 1).toNat)=((x % 2:Nat):Int):=by
 have e:(BitVec.ofInt 8 (x:Int) &&& BitVec.ofInt 8 1).toNat=x % 2:=by
  rw[BitVec.ofInt_natCast,show BitVec.ofInt 8 1=BitVec.ofNat 8 1 from rfl,BitVec.toNat_and,BitVec.toNat_ofNat,BitVec.toNat_ofNat];rw[jE (by omega),show 1 % 2^8=1 by decide,Nat.and_one_is_mod]
 rw[e];rcases(show x % 2=0∨x % 2=1 by omega)with h | h<;>rw[h]<;>decide
theorem jQL (q:Nat):(((q:Nat):Int)==1)=decide (q=1):=by
 by_cases h:q=1
 ·subst h;rfl
 ·rw[Zn h];exact beq_eq_false_iff_ne.2 (by omega)
theorem UT (k:Nat)(hk:k<=1000000):IntKind.i64.wrap ((k:Int).tdiv 8)=((k/8:Nat):Int):=by
 rw[show(8:Int)=((8:Nat):Int) from rfl,eQk];exact IntWalk.i64_in _ (by omega)
theorem jQM (v:Nat)(hv:v<=6):IntKind.i64.wrap (1*2^(min ((v:Nat):Int).toNat IntKind.i64.bits))=((2^v:Nat):Int):=by
 rcases(show v=0∨v=1∨v=2∨v=3∨v=4∨v=5∨v=6 by omega)with rfl | rfl | rfl | rfl | rfl | rfl | rfl<;>decide
theorem UU (l:List Nat)(A:Option Addr)(n c N:Nat)(w0:World)(h:Sl w0 1 A n c (Vs l))(h8:∀x∈l,x<=255)(hN:N<=6):∀(d v k:Nat)(w:World),Ext w0 w->v+d=N->k<2^v->
  Fn Tryz.prog 72 [.slice A n c,.int .i64 N,.int .i64 v,.int .i64 k] w (gA w N (cS l d v k))
 | 0,v,k,w,hE,hv,hk=>by
  have hn:l.length=n:=by have:=h.len;rw[tP] at this;omega
  have p6:2^v<=2^6:=WW (by decide) (by omega);have Lv:n<=9223372036854775807:=by have:=h.le;have:=h.cap;simp only[maxLen] at this;omega
  refine QH (c:={RO with cuts:=[]}) Qa Tryz.func72 rfl rfl rfl ?_;refine new (λw1 Qd Q9 Qh=>?_);refine J2 (by omega) ?_;refine normIf (m:=((k/8:Nat):Int)) (by decide) (UT k (by omega)) ?_;have fin:∀b:Bool,b=CO l k->∀w2,Ext w1 w2->∀w3,w2.grownBy w3 (some w.heap.size)->gA w N (cS l 0 v k) (Xl none 0 0 (if b then 1 else 0)) w3:=λb hb w2 Qg w3 Je=>by
   have Z7:Mod (·=w.heap.size) w2 w3:=qQT Je rfl;exact⟨none,0,0,[],_,rfl,Z7.ext (Qd.trans Qg) (λi hi=>by omega),SlS.nil _,(bT N b).congr (λ_=>by rw[hb];rfl),λi hi=>by obtain⟨_,e,_⟩:=hi;cases e⟩
  refine Qz (λh1=>?_) (λh1=>?_)
  ·refine normIf (m:=((k/8:Nat):Int)) (by decide) (UT k (by omega)) ?_;have hg:=XB (show k/8<l.length by omega);generalize l[k/8]=x at hg;have Lq:=h8 x (Xk hg);refine Vr ((h.ext hE).ext Qd) (by omega) (λad u hA hu Xy=>?_);rw[qA hg] at hu;cases hu;refine load Xy ?_;have m8:k % 8<8:=eM _ (by decide);refine eQl (d:=8) (by decide) ?_;refine norm (m:=((k % 8:Nat):Int)) (IntWalk.u64_in _ (by omega)) ?_;refine BL (k % 8) (2^(k % 8)) (by omega) (by show min ((k % 8:Nat):Int).toNat 8=_;omega) rfl ?_;have Xe:x/2^(k % 8)<256:=Nat.lt_of_le_of_lt (Nat.div_le_self _ _) (by omega);refine norm (m:=((x/2^(k % 8) % 2:Nat):Int)) (jQK _ Xe) ?_;refine call (CR (((x/2^(k % 8) % 2:Nat):Int)==1) w1) ?_;rintro _ w2 ⟨rfl,Qg⟩;refine Qw (Qh.ext Qg) rfl (sc rfl) (λw3 Je _ Qu=>?_);refine Qt Qu rfl ?_;refine fin _ ?_ w2 Qg w3 Je;unfold CO;rw[X2 (show k/8<l.length by omega),hg];simp only[gc,bg];exact jQL _
  ·refine call (CR false w1) ?_;rintro _ w2 ⟨rfl,Qg⟩;refine Qw (Qh.ext Qg) rfl (sc rfl) (λw3 Je _ Qu=>?_);refine Qt Qu rfl ?_;refine fin false ?_ w2 Qg w3 Je;unfold CO;rw[Zn (show¬k/8<l.length by omega)]<;>rfl
 | d+1,v,k,w,hE,hv,hk=>by
  have p6:2^v<=2^6:=WW (by decide) (by omega);have ps:2^(v+1)=2^v+2^v:=by rw[nD];omega
  have ih:=UU l A n c N w0 h h8 hN d;refine QH (c:={RO with cuts:=[]}) Qa Tryz.func72 rfl rfl rfl ?_;refine new (λw1 Qd Q9 Qh=>?_);refine XG (by omega) ?_;refine call (hQc (v:Nat) w1 (by omega) (by omega)) ?_;rintro _ w2 ⟨XA,xn,xc,rfl,Qg,KJ,_⟩;refine new (λw3 Qi JD Qu=>?_);refine Qw Qu rfl (sc rfl) (λw4 W8 _ QX=>?_);have ZE:Ext w2 w4:=XV Qi Qu W8;have JP:=Qg.trans ZE;have Xr:=Qd.trans JP;have Y3:=KJ.ext ZE;have sv:=H8 (k:=N) (v:=v) (by omega) (by omega);have qB:∀w',Ext w4 w'->∀(j:Nat) (u:Value),[Value.slice XA xn xc,.int .i64 2][j]? =some u->w'.cell? ((⟨w2.heap.size,0,none⟩:Addr).add j)=some u:=λw' Qb j u hj=>by rw[(QX.ext Qb).cell];exact hj
  refine XL Qa (Ext w4) 21 [(true,0),(true,1),(true,2),(true,3),(true,4),(true,5),(true,6),(true,7),(true,8),(true,9),(true,12),(true,13),(true,14),(true,15),(true,16),(true,18),(false,10),(false,11),(false,17),(false,19),(false,20)] (by kernel_rfl) (Ext.drew w4) ?_;refine Xo (vs:=[.slice XA xn xc,.int .i64 2]) rfl (λw' Qb j u hj=>qB w' Qb j u hj) ?_;refine Qj ((v+1:Nat):Int) (by omega) (by omega) ?_;refine norm (m:=((v:Nat):Int)) (IntWalk.u64_in _ (by omega)) ?_;refine normIf (m:=((2^v:Nat):Int)) (by omega) (jQM v (by omega)) ?_;refine Qj ((k+2^v:Nat):Int) (by omega) (by omega) ?_;refine Qj ((v+1:Nat):Int) (by omega) (by omega) ?_;refine Xo (vs:=[.slice XA xn xc,.int .i64 2]) rfl (λw' Qb j u hj=>qB w' Qb j u hj) ?_;refine call (ih (v+1) (k+2^v) _ ((hE.trans Xr).trans (Ext.drew w4)) (by omega) (by omega)) ?_;rintro _ w5 ⟨T1,t1n,t1c,nd1,r1,rfl,Qx,hT1,Vb,_⟩;have aN:=(Ext.drew w4).trans Qx;refine⟨aN,?_⟩;refine call (xP (by omega) XA xn xc T1 t1n t1c w5 (Y3.ext aN) hT1 sv Vb) ?_;rintro _ w6 ⟨U1,u1n,u1c,ud1,q1,rfl,QN,hU1,r8,_⟩;have XK:=aN.trans QN;refine⟨XK,?_⟩;refine call (ih (v+1) k _ ((hE.trans Xr).trans XK) (by omega) (by omega)) ?_;rintro _ w7 ⟨T2,t2n,t2c,kr,r2,rfl,Xf,WM,LJ,_⟩;have Ys:=XK.trans Xf;refine⟨Ys,?_⟩;refine call (Un (by omega) T2 t2n t2c XA xn xc w7 WM (Y3.ext Ys) LJ sv) ?_;rintro _ w8 ⟨U2,u2n,u2c,ud2,q2,rfl,Xp,oZ,D9,_⟩;have eB:=Ys.trans Xp;refine⟨eB,?_⟩;refine call (jQa (by omega) U1 u1n u1c U2 u2n u2c w8 ((hU1.ext Xf).ext Xp) oZ r8 D9) ?_;rintro _ w9 ⟨U3,u3n,u3c,ud3,q3,rfl,XE,hU3,mr,iZ⟩;have vu:=eB.trans XE;refine⟨vu,?_⟩;have Yq:=(Xr.trans eB).size;have mQY:=(JP.trans eB).size;refine Qw ((Qh.ext JP).ext vu) rfl (sc rfl) (λQK mM _ Km=>?_);have ZA:Mod (·=w.heap.size) w9 QK:=qQT mM rfl;refine Qt Km rfl ?_;refine⟨U3,u3n,u3c,ud3,q3,rfl,ZA.ext (Xr.trans vu) (λi hi=>by omega),hU3.mod ZA (λi hi e=>by have:=iZ i hi;omega),mr.congr (λe=>?_),λi hi=>by have:=iZ i hi;omega⟩;show Kt 1 (Kt 0 (e v) (cS l d (v+1) (k+2^v) e)) (cS l d (v+1) k e && !e v)=if e v then cS l d (v+1) (k+2^v) e else cS l d (v+1) k e
  cases e v<;>simp[Kt]
theorem UV (l:List Nat)(A:Option Addr)(n c N:Nat)(w:World)(h:Sl w 1 A n c (Vs l))(h8:∀x∈l,x<=255)(hN:N<=6):
  Fn Tryz.prog 28 [.slice A n c,.int .i64 N] w (gA w N (cS l N 0 0)):=by
 refine QH (c:={c28 with cuts:=[]}) Qa Tryz.func28 rfl rfl rfl ?_;refine new (λw1 Qd Q9 Qh=>?_);refine norm (m:=((N:Nat):Int)) (by split<;>omega) ?_;refine norm (m:=((N:Nat):Int)) (by split<;>omega) ?_;refine call (UU l A n c N w1 (h.ext Qd) h8 hN N 0 0 w1 (Ext.refl _) (by omega) (by decide)) ?_;rintro _ w2 ⟨U,un,uc,nd,r,rfl,Qg,hU,hS,hR⟩;refine Qw (Qh.ext Qg) rfl (sc rfl) (λw3 Je _ Qu=>?_);have Z7:Mod (·=w.heap.size) w2 w3:=qQT Je rfl;refine Qt Qu rfl ?_;exact⟨U,un,uc,nd,r,rfl,Z7.ext (Qd.trans Qg) (λi hi=>by omega),hU.mod Z7 (λi hi e=>by have:=hR i hi;omega),hS,λi hi=>by have:=hR i hi;omega⟩
theorem jQN {s:List Nat}(h:s.head? ≠some 35):Zk s= .txt:=by
 unfold Zk;cases s with
 | nil=>rfl
 | cons b t=>
  have hb:b≠35:=λe=>h (by rw[e];rfl)
  have e1:ZC.isPrefixOf (b::t)=false:=by simp[ZC,List.isPrefixOf,hb.symm]
  have e2:pInc.isPrefixOf (b::t)=false:=by simp[pInc,List.isPrefixOf,hb.symm]
  have e3:pElif.isPrefixOf (b::t)=false:=by simp[pElif,List.isPrefixOf,hb.symm]
  rw[e1,e2,e3,if_neg (by decide),if_neg (by decide),if_neg (by decide),if_neg (by simp[Ku,hb]),if_neg (by simp[X6,hb])]
theorem UW (ls:List (List Nat)):br (Qk ls)=true:=by
 unfold br;rcases TF ls with h | h
 ·rw[h]<;>rfl
 ·rw[h];simp
theorem Ij {ls:List (List Nat)}(h:∀s∈ls,∀x∈s,x<256):∀x∈Qk ls,x<256:=λx hx=>by
 unfold Qk at hx;obtain⟨s,hs,hxs⟩:=cB.1 hx;rcases Xv.1 hxs with hxs | hxs
 ·exact h s hs x hxs
 ·simp only[QL] at hxs;subst hxs;decide
theorem UX (ls:List (List Nat))(s:List Nat):Qk (ls++ [s])=Qk ls++(s++ [10]):=by simp[Qk]
theorem UY {l:List Nat}:∀{names:List (List Nat)}{i:Nat}{QT:Option Nat},l∉names->dO l names i QT=QT
 | [],_,_,_=>rfl
 | s::names,i,QT,h=>by
  simp only[Q3,not_or] at h;rw[dO,if_neg (λe=>h.1 e.symm)];exact UY h.2
theorem jQO {x:List Nat}{l:List (List Nat)}(h:x∉l):Jj (x::l) x=some 0:=by
 unfold Jj;rw[dO,Qe rfl];exact UY h
theorem jQP (F:List Nat):Zk (ZC++F)= .ifd F:=by simp[Zk,ZC,List.isPrefixOf]
theorem jQQ (F:List Nat):Zk (pElif++F)= .elif F:=by simp[Zk,ZC,pElif,pInc,List.isPrefixOf]
abbrev CB:=List (Nat×BF)
def Wg (g:Gs):CB:=g.sg.flatMap (λs=>(KI g.tx s).map (λb=>(b,s.o)))
theorem UZ {tx s:List Nat}{x:Sg}(h:x.t<=tx.length):KI (tx++s) x=KI tx x:=by
 unfold KI;rw[Gg h]
theorem U0 (g:Gs)(b:Bool):Wg {g with fr:=b}=Wg g:=rfl
theorem Ik {tx s:List Nat}:∀{l:List Sg},(∀x∈l,x.t<=tx.length)->l.flatMap (λx=>(KI (tx++s) x).map (λb=>(b,x.o)))=l.flatMap (λx=>(KI tx x).map (λb=>(b,x.o)))
 | [],_=>rfl
 | x::l,h=>by rw[VH,VH,Ik (λy hy=>h y (by simp[hy])),UZ (h x (by simp))]
theorem jQR {fs:List (List Nat×List Nat)}{n p:Nat}{k:BF}{g g':Gs}{s:List Nat}(h:GInv fs g)(hc:iL n p k g)(ha:Vi s n p k g=some g'):Wg g'=Wg g++s.map (λb=>(b,k)):=by
 unfold Vi at ha;split at ha
 ·cases ha
 cases ha;cases hf:g.fr with
 | true=>
  rw[Qe rfl,iD];unfold Wg;simp only;rw[Wy,Ik (λx hx=>(h.ok x hx).tl)];congr 1;simp only[VH,tD,JZ];congr 1;unfold KI;simp only;rw[Jv (by simp),qi]
 | false=>
  rw[if_neg (by decide)];obtain⟨l,y,e,e1,e2,e3⟩:=hc hf;have Ju:=h.ch;have XY:=h.ok;rw[e] at Ju XY;rw[ChG.snoc] at Ju;have hy:=XY y (by simp);rw[e,iD];unfold Wg;simp only;rw[e,Wy,Wy,Ik (λx hx=>(XY x (by simp[hx])).tl),ZR];congr 1;have h1:=hy.ft;have h2:=Ju.2;have e4:KI (g.tx++s) {y with t:=g.tx.length+s.length}=KI g.tx y++s:=by
   unfold KI;simp only;rw[Jv (by simp),P0 (by omega),h2,qd]
  simp only[VH,tD,JZ];rw[e4,be,e3]
theorem U4 {tx:List Nat}:∀{l:List Sg}{a:Nat},ChG a l tx.length->(∀x∈l,x.f<x.t/\x.t<=tx.length)->(l.flatMap (λx=>(KI tx x).map (λb=>(b,x.o)))).map (·.1)=tx.drop a
 | [],a,h,_=>by
  have:a=tx.length:=h;subst this;simp
 | x::l,a,h,hx=>by
  obtain⟨h1,h2⟩:=hx x (by simp);rw[VH,be,U4 h.2 (λy hy=>hx y (by simp[hy]))];have:x.f=a:=h.1;subst this;rw[ny];rw[show((λ(p:Nat×BF)=>p.1)∘λb=>(b,x.o))=id from rfl,List.map_id];unfold KI
  conv=>rhs;rw[<-dE x.t tx]
  rw[P0 (by rw[K5];omega)]
theorem jQS {fs:List (List Nat×List Nat)}{g:Gs}(h:GInv fs g):(Wg g).map (·.1)=g.tx:=by
 have:=U4 h.ch (λx hx=>⟨(h.ok x hx).ft,(h.ok x hx).tl⟩);rw[tw] at this;exact this
theorem jQT {fs:List (List Nat×List Nat)}{g:Gs}(h:GInv fs g):(Wg g).length=g.tx.length:=by
 rw[<-jQS h,JR]
theorem U5 {tx:List Nat}:∀{l:List Sg}{a:Nat},ChG a l tx.length->(∀x∈l,x.f<x.t/\x.t<=tx.length)->a+l.length<=tx.length
 | [],a,h,_=>by have:a=tx.length:=h;simp;omega
 | x::l,a,h,hx=>by
  have h1:=hx x (by simp);have h2:=U5 h.2 (λy hy=>hx y (by simp[hy]));have:x.f=a:=h.1;simp only[Q6];omega
theorem jQU {fs:List (List Nat×List Nat)}{g:Gs}(h:GInv fs g):g.sg.length<=g.tx.length:=by
 have:=U5 h.ch (λx hx=>⟨(h.ok x hx).ft,(h.ok x hx).tl⟩);omega
theorem U6 (g:Gs)(e:Nat->Bool):j0 g.tx g.sg e=((Wg g).filter (λp=>p.2 e)).map (·.1):=by
 unfold j0 Wg CY;generalize g.sg=l;induction l with
 | nil=>rfl
 | cons x l ih=>
  rw[VH,tC,be,<-ih,gh];cases he:x.o e with
  | true=>
   rw[Qe rfl,VH];congr 1;rw[List.filter_map,ny];rw[List.filter_eq_self.2 (λb _=>by simpa using he)];rw[show((λ(p:Nat×BF)=>p.1)∘λb=>(b,x.o))=id from rfl,List.map_id]
  | false=>
   rw[if_neg (by decide)];have:((KI g.tx x).map (λb=>(b,x.o))).filter (λp=>p.2 e)=[]:=by
    rw[wz];intro p hp;obtain⟨b,_,rfl⟩:=ZG.1 hp;simp[he]
   rw[this]<;>rfl
inductive Mn where
 | tx (s:List Nat)
 | ifd (F:List Nat) (o:BF)
 | elif (F:List Nat) (o:BF)
 | els
 | en
 | inc
def xV:List Nat:=[34,110,34]
def Jl:Mn->List Nat
 | .tx s=>s
 | .ifd F _=>ZC++F
 | .elif F _=>pElif++F
 | .els=>Ku
 | .en=>X6
 | .inc=>pInc++xV
structure TxOk (s:List Nat):Prop where
 nl:10∉s
 dr:Zk s= .txt
 b8:∀x∈s,x<256
structure FOk (nm:List (List Nat)) (F:List Nat) (o:BF):Prop where
 nl:10∉F
 st:VQ nm F= .ok o
 b8:∀x∈F,x<256
def JB (nm:List (List Nat))(ic:Bool)(D:Nat):List Bool->List Mn->Prop
 | [],[]=>True
 | _::_,[]=>False
 | op,.tx s::l=>TxOk s/\JB nm ic D op l
 | op,.ifd F o::l=>FOk nm F o/\op.length<D/\JB nm ic D (false::op) l
 | false::op,.elif F o::l=>FOk nm F o/\JB nm ic D (false::op) l
 | false::op,.els::l=>JB nm ic D (true::op) l
 | _::op,.en::l=>JB nm ic D op l
 | op,.inc::l=>ic=true/\JB nm ic D op l
 | _,_=>False
def Zr (ie:BF->CB):List Mn->BF->List (BF×BF)->CB
 | [],_,_=>[]
 | .tx s::l,k,op=>(s++ [10]).map (λb=>(b,k))++Zr ie l k op
 | .ifd _ o::l,k,op=>Zr ie l (ZD k o) ((k,JI k o)::op)
 | .elif _ o::l,k,op=>match op with
  | []=>[]
  | (ou,re)::op=>Zr ie l (ZD re o) ((ou,JI re o)::op)
 | .els::l,k,op=>match op with
  | []=>[]
  | (ou,re)::op=>Zr ie l re ((ou,re)::op)
 | .en::l,k,op=>match op with
  | []=>[]
  | (ou,_)::op=>Zr ie l ou op
 | .inc::l,k,op=>ie k++Zr ie l k op
theorem jQV (F:List Nat):Zk (pInc++F)= .inc F:=by simp[Zk,ZC,pInc,List.isPrefixOf]
abbrev j5 (op:List Se):List (BF×BF):=op.map (λx=>(x.ou,x.re))
abbrev cT (op:List Se):List Bool:=op.map (·.ot)
theorem jQW {fs:List (List Nat×List Nat)}{g:Gs}{s:List Nat}{n p:Nat}{k:BF}(h:GInv fs g)(hl:(Wg g).length+s.length<=60000):∃g',Vi s n p k g=some g':=by
 have h1:=jQT h;have h2:=jQU h;unfold Vi;rw[if_neg (by intro hh;rcases hh with hh | ⟨_,hh⟩<;>omega)];exact⟨_,rfl⟩
theorem U7 {nm:List (List Nat)}{fs:List (List Nat×List Nat)}{n d0:Nat}{inc:oq}{x:List Nat×List Nat}(hx:fs[n]? =some x){ic:Bool}{D:Nat}{ie:BF->CB}
  (hi:ic=true->∀ln d k g,GInv fs g->d0<=d->d<=d0+D->(Wg g).length+(ie k).length<=60000->∃g',inc xV ln d k g= .ok g'/\GInv fs g'/\Wg g'=Wg g++ie k) (MD:d0+D<64):
  ∀(l:List Mn) (ln at_:Nat) (k:BF) (op:List Se) (g:Gs),x.2.drop at_=Qk (l.map Jl)->at_<=x.2.length->GInv fs g->iL n at_ k g->JB nm ic D (cT op) l->op.length<=D->(Wg g).length+(Zr ie l k (j5 op)).length<=60000->
   ∃g',ZZ nm n d0 inc (l.map Jl) ln at_ k op g= .ok g'/\GInv fs g'/\Wg g'=Wg g++Zr ie l k (j5 op)
 | [],ln,at_,k,op,g,_,_,hg,_,hw,_,_=>by
  cases op with
  | nil=>exact⟨{g with fr:=true},rfl,hg.fr true,by rw[Zr,JZ];rfl⟩
  | cons y op=>exact hw.elim
 | m::l,ln,at_,k,op,g,cz,dB,hg,hc,hw,Zp,Q0=>by
  have FQ:x.2.drop at_=(Jl m++ [10])++Qk (l.map Jl):=by rw[cz,Kr,V6];simp
  generalize hs:Jl m=s at FQ;have hL:(s++ [10]).length=s.length+1:=by simp
  have jv:x.2.length-at_=s.length+1+(Qk (l.map Jl)).length:=by
   have:=QD List.length FQ;simp only[YR,Qq,Q6,Ji] at this;omega
  have aL:x.2.drop (at_+s.length+1)=Qk (l.map Jl):=by
   rw[show at_+s.length+1=at_+(s++ [10]).length by simp;omega,<-tr,FQ,qi]
  have ih:=λk op g h1 h2 h3 h4 h5=>U7 (nm:=nm) hx hi MD l (ln+1) (at_+s.length+1) k op g aL (by omega) h1 h2 h3 h4 h5
  have cf:∀k' (g:Gs),iL n (at_+s.length+1) k' {g with fr:=true}:=λk' g h=>by cases h
  rw[Kr,hs];cases m with
  | tx t=>
   have ht:t=s:=hs;subst ht;obtain⟨w1,w2⟩:TxOk t/\JB nm ic D (cT op) l:=by cases op<;>exact hw
   rw[Zr,Qq,JR] at Q0;obtain⟨g1,ha⟩:=jQW (s:=t++ [10]) (n:=n) (p:=at_) (k:=k) hg (by omega);obtain⟨i1,i2⟩:=Ig hg hc hx (by rw[hL,<-kS,aL];exact FQ) (by rw[hL];omega) (by simp) ha;have i3:=jQR hg hc ha;rw[lQ w1.dr,ha];obtain⟨g',r1,r2,r3⟩:=ih k op g1 i1 (by rw[hL,<-kS] at i2;exact i2) w2 Zp (by rw[i3,Qq,JR];omega);exact⟨g',r1,r2,by rw[r3,i3,Zr,ZR]⟩
  | ifd F o=>
   have ht:ZC++F=s:=hs;obtain⟨w1,w2,w3⟩:FOk nm F o/\(cT op).length<D/\JB nm ic D (false::cT op) l:=by cases op<;>exact hw
   simp only[JR] at w2;have XZ:Zk s= .ifd F:=by rw[<-ht];exact jQP _
   rw[CH XZ,w1.st];simp only;rw[if_neg (by omega)];rw[Zr] at Q0 ⊢;exact ih _ (⟨k,JI k o,false,ln+1⟩::op) {g with fr:=true} (hg.fr true) (cf _ _) w3 (by simp;omega) Q0
  | elif F o=>
   have ht:pElif++F=s:=hs;cases op with
   | nil=>exact hw.elim
   | cons y op=>
    have dx:y.ot=false:=by
     cases ho:y.ot with
     | false=>rfl
     | true=>
      have hw:JB nm ic D (y.ot::cT op) (.elif F o::l):=hw;rw[ho] at hw;exact hw.elim
    obtain⟨w1,w3⟩:FOk nm F o/\JB nm ic D (false::cT op) l:=by
     have hw:JB nm ic D (y.ot::cT op) (.elif F o::l):=hw;rw[dx] at hw;exact hw
    have XZ:Zk s= .elif F:=by rw[<-ht];exact jQQ _
    rw[CI XZ,w1.st];simp only;rw[if_neg (by rw[dx];decide)];have e:Zr ie (.elif F o::l) k (j5 (y::op))=Zr ie l (ZD y.re o) (j5 ({y with re:=JI y.re o}::op)):=rfl;rw[e] at Q0 ⊢;exact ih _ ({y with re:=JI y.re o}::op) {g with fr:=true} (hg.fr true) (cf _ _) (by rw[<-dx] at w3;exact w3) Zp Q0
  | els=>
   have ht:Ku=s:=hs;subst ht;cases op with
   | nil=>exact hw.elim
   | cons y op=>
    have dx:y.ot=false:=by
     cases ho:y.ot with
     | false=>rfl
     | true=>
      have hw:JB nm ic D (y.ot::cT op) (.els::l):=hw;rw[ho] at hw;exact hw.elim
    have w3:JB nm ic D (true::cT op) l:=by
     have hw:JB nm ic D (y.ot::cT op) (.els::l):=hw;rw[dx] at hw;exact hw
    rw[CJ iQs];simp only;rw[if_neg (by rw[dx];decide)];have e:Zr ie (.els::l) k (j5 (y::op))=Zr ie l y.re (j5 ({y with ot:=true}::op)):=rfl;rw[e] at Q0 ⊢;exact ih _ ({y with ot:=true}::op) {g with fr:=true} (hg.fr true) (cf _ _) w3 Zp Q0
  | en=>
   have ht:X6=s:=hs;subst ht;cases op with
   | nil=>exact hw.elim
   | cons y op=>
    have w3:JB nm ic D (cT op) l:=by
     have hw:JB nm ic D (y.ot::cT op) (.en::l):=hw;cases hy:y.ot<;>rw[hy] at hw<;>exact hw
    rw[H3 iQt];have e:Zr ie (.en::l) k (j5 (y::op))=Zr ie l y.ou (j5 op):=rfl;rw[e] at Q0 ⊢;exact ih _ op {g with fr:=true} (hg.fr true) (cf _ _) w3 (by simp at Zp;omega) Q0
  | inc=>
   have ht:pInc++xV=s:=hs;subst ht;obtain⟨w1,w2⟩:ic=true/\JB nm ic D (cT op) l:=by
    cases op with
    | nil=>exact hw
    | cons y op=>
     have hw:JB nm ic D (y.ot::cT op) (.inc::l):=hw;cases hy:y.ot<;>rw[hy] at hw<;>refine⟨hw.1,?_⟩<;>show JB nm ic D (y.ot::cT op) l<;>rw[hy]<;>exact hw.2
   rw[Zr,Qq] at Q0;obtain⟨g1,j1,j2,j3⟩:=hi w1 (ln+1) (d0+op.length) k g hg (by omega) (by omega) (by omega);rw[xN (jQV xV),j1];simp only;obtain⟨g',r1,r2,r3⟩:=ih k op {g1 with fr:=true} (j2.fr true) (cf _ _) w2 Zp (by rw[U0,j3,Qq];omega);exact⟨g',r1,r2,by rw[r3,U0,j3,Zr,ZR]⟩
end
section
open Go Go.RowKit Go.ChangeShapes
variable {H:Type} {enc:TypeId×Value->H}
theorem law_of {P:Program}{f:FuncId}{l:List Value}{w:World}(h:Fn P f l w (λv w'=>v= .bool true/\Ext w w')):
  Calls P f l.toArray w λe w'=>e= .returned (.bool true)/\Below w.heap.size w w':=by
 unfold Fn at h;exact h.mono λe w' he=>by
  cases e with
  | returned v=>exact⟨by rw[he.1],he.2.below⟩
  | panicked ch=>exact he.elim
  | outgrown=>exact he.elim
theorem pQA {W:World}{a:Option Addr}{len cap:Nat}{d:DataW H}{p:List MemPlace}(h:DataW.Trod enc Tryz.prog W 0 (λ_=>true) true 37 (.slice a len cap) d p):∃l,Sl W 1 a len cap (X9 l)/\KG l:=by
 obtain⟨cA,hf⟩:=h;rcases Go.Deep.open_slice Tryz.underlying37 hf with⟨XO,_⟩ | ⟨x,l,c,m,n,D,Pl,XO,_,hl,hm,ZP,_,hx⟩
 ·simp[Value.cells] at XO;obtain⟨rfl,rfl,rfl⟩:=XO;exact⟨[],Sl.nil W 1,λs hs=>by cases hs⟩
 ·simp[Value.cells] at XO;obtain⟨rfl,rfl,rfl⟩:=XO;simp only[if_true] at ZP;subst ZP;have hc9:Tryz.prog.cellsOf 9=1:=by kernel_rfl
  have each:∀i,i<m->∃y:ByteArray,y.size<=maxLen/\W.cell? (x.add i)=some (.string y):=by
   intro i hi;obtain⟨cs,h1,h2⟩:=hx i hi;rw[hc9] at h1;obtain⟨_,Q0,Xy⟩:=World.cells?_some h1
   match cs,Q0 with
   | [v],_=>
    obtain⟨s,e1,_,cr⟩:=DataW.trod_string Tryz.underlying9 h2;simp at e1;subst e1;refine⟨s,cr,?_⟩;have:=Xy 0 (by decide);rw[ga] at this;simpa [add_add] using this
  have Q5:Inhabited ByteArray:=⟨⟨#[]⟩⟩
  obtain⟨Y,hY⟩:=Go.Deep.choose_lt each;refine⟨(List.range len).map (λi=>Wa (Y i)),⟨by simp[X9],hl,hm,λ_=>⟨x,rfl,λj u hu=>?_⟩⟩,?_⟩
  ·simp only[X9,ny,aq,F9] at hu;obtain⟨k,hk,rfl⟩:=hu;have hj:=(ZM.1 hk).1;simp at hj;have:k=j:=by rw[List.getElem?_range hj] at hk;exact(Option.some.inj hk).symm
   subst this;rw[(hY k (by omega)).2];simp[eQt]
  ·intro y hy;simp only[ZG,YS] at hy;obtain⟨i,hi,rfl⟩:=hy;have:=(hY i (by omega)).1;exact⟨eQs _,by rw[wS];simpa [maxLen] using this⟩
theorem jQX {W:World}{a:Option Addr}{len cap:Nat}{d:DataW H}{p:List MemPlace}(h:DataW.Trod enc Tryz.prog W 0 (λ_=>true) true 62 (.slice a len cap) d p):∃l,Sl W 1 a len cap (Vs l)/\∀b∈l,b<=255:=by
 obtain⟨cA,hf⟩:=h;rcases open_ints Tryz.underlying62 Tryz.underlying5 (by kernel_rfl) hf with⟨XO,_⟩ | ⟨x,l,c,zs,XO,_,hl,hm,hz,_,Xy,Ak⟩
 ·simp[Value.cells] at XO;obtain⟨rfl,rfl,rfl⟩:=XO;exact⟨[],Sl.nil W 1,by simp⟩
 ·simp[Value.cells] at XO;obtain⟨rfl,rfl,rfl⟩:=XO;simp at hz;have hr:∀n∈zs,0<=n/\n<=255:=λn hn=>by
   have:=Ak n hn;simp[Lit.wf,IntKind.min,IntKind.max,IntKind.signed,IntKind.bits] at this;omega
  refine⟨(zs.take len).map Int.toNat,⟨by simp[Vs];omega,hl,hm,λ_=>⟨x,rfl,λj u hu=>?_⟩⟩,?_⟩
  ·simp only[Vs,ny,aq,F9] at hu;obtain⟨y,hy,rfl⟩:=hu;rw[F7] at hy;split at hy
   ·rename_i hj;have FR:j<zs.length:=by omega
    rw[XB FR] at hy;cases hy;have h2:=hr zs[j] (PX FR);rw[Xy j FR];have:zs.getD j 0=zs[j]:=by simp[FR]
    rw[this];show some (Value.int .u8 _)=some (Value.int .u8 ((zs[j].toNat:Nat):Int));congr 2;omega
   ·cases hy
  ·intro y hy;simp only[ZG] at hy;obtain⟨z,Q9,rfl⟩:=hy;have:=hr z (bf Q9);omega
theorem u8_of {a:Int}(w:(Lit.int .u8 a).wf=true):∃n:Nat,a=n/\n<=255:=by
 simp[Lit.wf,IntKind.min,IntKind.max,IntKind.signed,IntKind.bits] at w;exact⟨a.toNat,by omega,by omega⟩
end
section
open Go Go.RowKit Go.ChangeShapes
variable {H:Type} {enc:TypeId×Value->H}
theorem C0 {α:Type}{l:List α}(h:l.length=3):∃a b c,l=[a,b,c]:=by
 match l,h with
 | [a,b,c],_=>exact⟨a,b,c,rfl⟩
theorem U8 {W:World}{α:Type}{cells:α->List Value}{e:Nat}(AH:∀x,(cells x).length=e)(he:0<e){t te:TypeId}{cA:Nat}{cs:List Value}{z:DataW H×List MemPlace}
  (ht:Tryz.prog.underlying t=some (.slice te)) (hc5:Tryz.prog.cellsOf te=e) (Q5:Inhabited α)
  (one:∀(cs:List Value) (cA:Nat) (D:DataW H×List MemPlace),cs.length=e->DataW.trod enc Tryz.prog W 0 (λ_=>true) true cA te cs=some D->∃y,cells y=cs)
  {a:Option Addr} {len cap:Nat} (XO:cs=[.slice a len cap]) (hf:DataW.trod enc Tryz.prog W 0 (λ_=>true) true cA t cs=some z):∃l,SlS cells e W a len cap l:=by
 subst XO;rcases Go.Deep.open_slice ht hf with⟨XO,_⟩ | ⟨x,l,c,m,n,D,Pl,XO,_,hl,hm,ZP,_,hx⟩
 ·simp at XO;obtain⟨rfl,rfl,rfl⟩:=XO;exact⟨[],SlS.nil W⟩
 ·simp at XO;obtain⟨rfl,rfl,rfl⟩:=XO;simp only[if_true] at ZP;subst ZP;have each:∀i,i<m->∃y:α,∀j v,(cells y)[j]? =some v->W.cell? (x.add (i*e+j))=some v:=by
   intro i hi;obtain⟨cs,h1,h2⟩:=hx i hi;rw[hc5] at h1;obtain⟨_,Q0,Xy⟩:=World.cells?_some h1;obtain⟨y,rfl⟩:=one _ _ _ Q0 h2;refine⟨y,λj v hj=>?_⟩;have hj5:j<e:=by have:=(ZM.1 hj).1;rw[AH] at this;exact this
   have:=Xy j hj5;rw[add_add] at this;rw[this];exact hj
  obtain⟨Y,hY⟩:=Go.Deep.choose_lt each;refine⟨(List.range len).map Y,⟨⟨?_,hl,hm,λ_=>⟨x,rfl,λj u hu=>?_⟩⟩,by simp⟩⟩
  ·rw[dN AH];simp
  ·have aj:=(ZM.1 hu).1;rw[dN AH] at aj;simp at aj;have hi:j/e<len:=Nat.div_lt_of_lt_mul (by rw[wy];exact aj);have hr:j % e<e:=eM _ he;have FE:j/e*e+j % e=j:=by rw[wy];exact Nat.div_add_mod j e
   have hg:((List.range len).map Y)[j/e]? =some (Y (j/e)):=by simp[hi]
   have hc:=XB (l:=cells (Y (j/e))) (i:=j % e) (by rw[AH];exact hr);have h1:=jS AH _ _ _ _ _ hg hc;rw[FE,hu] at h1;have h2:=hY (j/e) (Ye hi hl) _ _ hc;rw[FE] at h2;rw[h2,<-Option.some.inj h1]
end
section
open Go Go.RowKit Go.ChangeShapes
variable {H:Type} {enc:TypeId×Value->H}
theorem U9 {α:Type}{p:α->Prop}{f:α->List Value}{sz:Nat}{W:World}{a:Option Addr}{len cap:Nat}(h:∃l:List {x:α // p x},SlS (λy=>f y.1) sz W a len cap l):∃l:List α,SlS f sz W a len cap l/\∀x∈l,p x:=by
 obtain⟨l,h1,h2⟩:=h;refine⟨l.map Subtype.val,⟨?_,by simpa using h2⟩,λx hx=>?_⟩
 ·rw[List.flatMap_map];exact h1
 ·obtain⟨y,_,rfl⟩:=ZG.1 hx;exact y.2
structure Lx where
 k:Nat
 i:Nat
 ws:List Nat
 A:Option Addr
 n:Nat
 c:Nat
def Lx.cells (x:Lx):List Value:=[.int .u8 (x.k:Nat),.int .u8 (x.i:Nat),.slice x.A x.n x.c]
structure LxOk (W:World) (x:Lx):Prop where
 k8:x.k<=255
 i8:x.i<=255
 sl:Sl W 1 x.A x.n x.c (Vs x.ws)
 w8:∀b∈x.ws,b<=255
theorem LxOk.ext {W W':World}{x:Lx}(h:LxOk W x)(k:Ext W W'):LxOk W' x:=⟨h.k8,h.i8,h.sl.ext k,h.w8⟩
theorem jQY {W:World}(cs:List Value)(cA:Nat)(D:DataW H×List MemPlace)(hl:cs.length=3)(h:DataW.trod enc Tryz.prog W 0 (λ_=>true) true cA 83 cs=some D):∃y:{x:Lx // LxOk W x},y.1.cells=cs:=by
 have r9:Tryz.prog.cellsOf 5=1:=by kernel_rfl
 have Ea:Tryz.prog.cellsOf 62=1:=by kernel_rfl
 obtain⟨xs,k,_,_,_,gU,Ja⟩:=DataW.trod_struct Tryz.underlying83 h;obtain⟨y0,y1,y2,rfl⟩:=C0 (show xs.length=3 from gU);obtain⟨v0,v1,v2,rfl⟩:=C0 hl;have g0:=Ja 0 _ rfl;have g1:=Ja 1 _ rfl;have g2:=Ja 2 _ rfl;simp[r9,Ea] at g0 g1 g2;obtain⟨n0,e0,_,w0⟩:=DataW.trod_int Tryz.underlying5 g0;obtain⟨n1,e1,_,w1⟩:=DataW.trod_int Tryz.underlying5 g1;simp at e0 e1;subst e0 e1;have key:∃a n c,v2= .slice a n c:=by
  rcases Go.Deep.open_slice Tryz.underlying62 g2 with⟨XO,_⟩ | ⟨x,l,c,m,n,D,Pl,XO,_⟩
  ·simp at XO;exact⟨_,_,_,XO⟩
  ·simp at XO;exact⟨_,_,_,XO⟩
 obtain⟨a,n,c,rfl⟩:=key;obtain⟨ws,hS,h8⟩:=jQX ⟨_,g2⟩;obtain⟨m0,rfl,q0⟩:=u8_of w0;obtain⟨m1,rfl,q1⟩:=u8_of w1;exact⟨⟨⟨m0,m1,ws,a,n,c⟩,⟨q0,q1,hS,h8⟩⟩,rfl⟩
theorem jQZ {W:World}{a:Option Addr}{len cap:Nat}{d:DataW H}{p:List MemPlace}(h:DataW.Trod enc Tryz.prog W 0 (λ_=>true) true 22 (.slice a len cap) d p):∃l,SlS Lx.cells 3 W a len cap l/\∀x∈l,LxOk W x:=by
 obtain⟨cA,hf⟩:=h;exact U9 (U8 (cells:=λy:{x:Lx // LxOk W x}=>y.1.cells) (λ_=>rfl) (by decide) Tryz.underlying22 (by kernel_rfl) ⟨⟨⟨0,0,[],none,0,0⟩,⟨by simp,by simp,Sl.nil W 1,by simp⟩⟩⟩ jQY rfl hf)
end
section
theorem okL:((List.range 5).all λk=>(List.range 256).all λb=>(YK (X5.take k) b).all (λx=>decide (x≠10/\x<256))&&decide ((YK (X5.take k) b).length<=20))=true:=by decide+kernel
theorem uL {k b:Nat}(hk:k<=4)(hb:b<=255):10∉YK (X5.take k) b/\(∀x∈YK (X5.take k) b,x<256)/\(YK (X5.take k) b).length<=20:=by
 have h:=J0.1 (J0.1 okL k (YS.2 (by omega))) b (YS.2 (by omega));rw[Z4] at h;have h1:=J0.1 h.1;exact⟨λhh=>(YC (h1 10 hh)).1 rfl,λx hx=>(YC (h1 x hx)).2,YC h.2⟩
def Y0 (k:Nat):List Nat:=([[120],[43],[121],[42],[40],[41],[105,102],[101,108,115,101],[59],[94],[122],[37,99]][k % 12]?).getD []
theorem aQa (k:Nat):10∉Y0 k/\35∉Y0 k/\(∀x∈Y0 k,x<256)/\(Y0 k).length<=4:=by
 unfold Y0;have h:=eM k (show 12>0 by decide);generalize k % 12=r at h;have key:(List.range 12).all (λr=>decide (10∉(([[120],[43],[121],[42],[40],[41],[105,102],[101,108,115,101],[59],[94],[122],[37,99]]:List (List Nat))[r]?).getD []/\35∉(([[120],[43],[121],[42],[40],[41],[105,102],[101,108,115,101],[59],[94],[122],[37,99]]:List (List Nat))[r]?).getD []/\(∀x∈(([[120],[43],[121],[42],[40],[41],[105,102],[101,108,115,101],[59],[94],[122],[37,99]]:List (List Nat))[r]?).getD [],x<256)/\((([[120],[43],[121],[42],[40],[41],[105,102],[101,108,115,101],[59],[94],[122],[37,99]]:List (List Nat))[r]?).getD []).length<=4))=true:=by decide
 exact YC (J0.1 key r (YS.2 h))
def aJ:Bool->List Nat->List Nat
 | _,[]=>[]
 | sp,w::l=>(if sp then [32] else [])++(Y0 w++(if w % 12=11 then [] else aJ true l))
theorem aQb:∀(sp:Bool)(l:List Nat),10∉aJ sp l/\35∉aJ sp l/\(∀x∈aJ sp l,x<256)/\(aJ sp l).length<=5*l.length
 | _,[]=>by simp[aJ]
 | sp,w::l=>by
  obtain⟨h1,h2,h3,h4⟩:=aQa w;obtain⟨i1,i2,i3,i4⟩:=aQb true l;have key:∀x∈aJ sp (w::l),x=32∨x∈Y0 w∨x∈aJ true l:=λx hx=>by
   rw[aJ] at hx;rcases Xv.1 hx with hx | hx
   ·cases sp<;>simp at hx;exact .inl hx
   rcases Xv.1 hx with hx | hx
   ·exact .inr (.inl hx)
   ·split at hx
    ·cases hx
    ·exact .inr (.inr hx)
  refine⟨λh=>?_,λh=>?_,λx hx=>?_,?_⟩
  ·rcases key _ h with h | h | h
   ·cases h
   ·exact h1 h
   ·exact i1 h
  ·rcases key _ h with h | h | h
   ·cases h
   ·exact h2 h
   ·exact i2 h
  ·rcases key _ hx with h | h | h
   ·omega
   ·exact h3 _ h
   ·exact i3 _ h
  ·rw[aJ,Qq,Qq,Q6];have e1:(if sp=true then [32] else []:List Nat).length<=1:=by split<;>simp
   have e2:(if w % 12=11 then [] else aJ true l).length<=5*l.length:=by split<;>simp[i4]
   omega
def KD (k:Nat)(ws:List Nat):List Nat:=List.replicate (k/8 % 4) 32++aJ false (ws.take 6)
theorem oC (k:Nat)(ws:List Nat):10∉KD k ws/\35∉KD k ws/\(∀x∈KD k ws,x<256)/\(KD k ws).length<=33:=by
 obtain⟨h1,h2,h3,h4⟩:=aQb false (ws.take 6);have hl:(ws.take 6).length<=6:=by rw[K5];omega
 have key:∀x∈KD k ws,x=32∨x∈aJ false (ws.take 6):=λx hx=>by
  rcases Xv.1 hx with hx | hx
  ·exact .inl (Bg hx)
  ·exact .inr hx
 refine⟨λh=>?_,λh=>?_,λx hx=>?_,?_⟩
 ·rcases key _ h with h | h
  ·cases h
  ·exact h1 h
 ·rcases key _ h with h | h
  ·cases h
  ·exact h2 h
 ·rcases key _ hx with h | h
  ·omega
  ·exact h3 _ h
 ·unfold KD;rw[Qq,List.length_replicate];omega
theorem jQ0 (k:Nat)(ws:List Nat):TxOk (KD k ws):=by
 obtain⟨h1,h2,h3,_⟩:=oC k ws;exact⟨h1,jQN (λe=>h2 (List.mem_of_mem_head? e)),h3⟩
theorem aQc {k b:Nat}(hk:k<=4)(hb:b<=255):FOk (X5.take k) (YK (X5.take k) b) (uK k b):=
 ⟨(uL hk hb).1,jQJ hk hb,(uL hk hb).2.1⟩
def Ym (k0:Nat)(ic:Bool)(x:Lx)(op:List Bool):Mn×List Bool:=
 if x.k % 8=4/\op.length<3 then(.ifd (YK (X5.take k0) x.i) (uK k0 x.i),false::op)
 else if x.k % 8=5/\op.head? =some false/\x.i % 2=0 then(.elif (YK (X5.take k0) (x.i/2)) (uK k0 (x.i/2)),op)
 else if x.k % 8=5/\op.head? =some false then(.els,true::op.tail)
 else if x.k % 8=6/\op≠ [] then(.en,op.tail)
 else if x.k % 8=7/\ic=true then(.inc,op)
 else(.tx (KD x.k x.ws),op)
def Y1 (k0:Nat)(ic:Bool):List Lx->List Bool->List Mn
 | [],op=>op.map (λ_=>.en)
 | x::l,op=>(Ym k0 ic x op).1::Y1 k0 ic l (Ym k0 ic x op).2
theorem aQd (nm:List (List Nat))(ic:Bool)(D:Nat):∀(op:List Bool),JB nm ic D op (op.map (λ_=>.en))
 | []=>trivial
 | b::op=>by
  have:=aQd nm ic D op;cases b<;>exact this
theorem aQe {nm:List (List Nat)}{ic:Bool}{D:Nat}{op:List Bool}{s:List Nat}{l:List Mn}(h:TxOk s)(h':JB nm ic D op l):JB nm ic D op (.tx s::l):=by
 cases op with
 | nil=>exact⟨h,h'⟩
 | cons b op=>cases b<;>exact⟨h,h'⟩
theorem jQ1 {nm:List (List Nat)}{ic:Bool}{D:Nat}{op:List Bool}{l:List Mn}(h:ic=true)(h':JB nm ic D op l):JB nm ic D op (.inc::l):=by
 cases op with
 | nil=>exact⟨h,h'⟩
 | cons b op=>cases b<;>exact⟨h,h'⟩
theorem Il {nm:List (List Nat)}{ic:Bool}{D:Nat}{op:List Bool}{F:List Nat}{o:BF}{l:List Mn}(hb:FOk nm F o)(h:op.length<D)(h':JB nm ic D (false::op) l):JB nm ic D op (.ifd F o::l):=by
 cases op with
 | nil=>exact⟨hb,h,h'⟩
 | cons c op=>cases c<;>exact⟨hb,h,h'⟩
theorem Im {nm:List (List Nat)}{ic:Bool}{D:Nat}{c:Bool}{op:List Bool}{l:List Mn}(h':JB nm ic D op l):JB nm ic D (c::op) (.en::l):=by
 cases c<;>exact h'
theorem aQf {k0:Nat}(hk:k0<=4)(ic:Bool):∀(l:List Lx)(op:List Bool),(∀x∈l,x.i<=255)->op.length<=3->JB (X5.take k0) ic 3 op (Y1 k0 ic l op)
 | [],op,_,_=>aQd _ ic 3 op
 | x::l,op,hx,Zp=>by
  have WU:=hx x (by simp);have ih:=λop h=>aQf hk ic l op (λy hy=>hx y (by simp[hy])) h
  rw[Y1];unfold Ym;split
  ·rename_i h;exact Il (aQc hk WU) h.2 (ih _ (by simp;omega))
  split
  ·rename_i h;cases op with
   | nil=>cases h.2.1
   | cons b op=>
    have hb:b=false:=by have:=h.2.1;simpa using this
    subst hb;exact⟨aQc hk (by omega),ih _ Zp⟩
  split
  ·rename_i h;cases op with
   | nil=>cases h.2
   | cons b op=>
    have hb:b=false:=by have:=h.2;simpa using this
    subst hb;exact ih (true::op) Zp
  split
  ·rename_i h;cases op with
   | nil=>exact Xd rfl h.2
   | cons b op=>exact Im (ih op (by simp at Zp;omega))
  split
  ·rename_i h;exact jQ1 h.2 (ih _ Zp)
  ·exact aQe (jQ0 _ _) (ih _ Zp)
def xW (nm:List (List Nat)):Mn->Prop
 | .tx s=>TxOk s
 | .ifd F o=>FOk nm F o
 | .elif F o=>FOk nm F o
 | _=>True
theorem C1 {nm:List (List Nat)}{ic:Bool}{D:Nat}:∀{l:List Mn}{op:List Bool},JB nm ic D op l->∀m∈l,xW nm m
 | [],_,_,m,hm=>by cases hm
 | x::l,op,h,m,hm=>by
  have key:xW nm x/\∃Xz,JB nm ic D Xz l:=by
   cases x with
   | tx s=>cases op with
    | nil=>exact⟨h.1,_,h.2⟩
    | cons b op=>cases b<;>exact⟨h.1,_,h.2⟩
   | ifd F o=>cases op with
    | nil=>exact⟨h.1,_,h.2.2⟩
    | cons b op=>cases b<;>exact⟨h.1,_,h.2.2⟩
   | elif F o=>cases op with
    | nil=>exact h.elim
    | cons b op=>cases b with
     | false=>exact⟨h.1,_,h.2⟩
     | true=>exact h.elim
   | els=>cases op with
    | nil=>exact h.elim
    | cons b op=>cases b with
     | false=>exact⟨trivial,_,h⟩
     | true=>exact h.elim
   | en=>cases op with
    | nil=>exact h.elim
    | cons b op=>cases b<;>exact⟨trivial,_,h⟩
   | inc=>cases op with
    | nil=>exact⟨trivial,_,h.2⟩
    | cons b op=>cases b<;>exact⟨trivial,_,h.2⟩
  rcases Q3.1 hm with rfl | hm
  ·exact key.1
  ·obtain⟨Xz,h'⟩:=key.2;exact C1 h' m hm
theorem aQg {nm:List (List Nat)}{m:Mn}(h:xW nm m):10∉Jl m/\∀x∈Jl m,x<256:=by
 cases m with
 | tx s=>exact⟨h.nl,h.b8⟩
 | ifd F o=>exact⟨by simp[Jl,ZC,h.nl],H0 (by decide) h.b8⟩
 | elif F o=>exact⟨by simp[Jl,pElif,h.nl],H0 (by decide) h.b8⟩
 | els=>exact⟨by decide,by decide⟩
 | en=>exact⟨by decide,by decide⟩
 | inc=>exact⟨by decide,by decide⟩
theorem jQ2 {nm:List (List Nat)}{l:List Mn}(h:∀m∈l,xW nm m):lJ (l.map Jl):=λs hs=>by
 obtain⟨m,hm,rfl⟩:=ZG.1 hs;exact(aQg (h m hm)).1
theorem jQ3 {nm:List (List Nat)}{l:List Mn}(h:∀m∈l,xW nm m):∀x∈Qk (l.map Jl),x<256:=Ij (λs hs=>by
 obtain⟨m,hm,rfl⟩:=ZG.1 hs;exact(aQg (h m hm)).2)
def oE (M:Nat)(l:List Mn):Prop:=∀m∈l,(Jl m).length<M
theorem In {M:Nat}:∀{l:List Mn},oE M l->(Qk (l.map Jl)).length<=l.length*M
 | [],_=>by simp[Qk]
 | m::l,h=>by
  rw[Kr,V6,Qq,Q6,Q6];have h1:=In (λx hx=>h x (by simp[hx]):oE M l);have h2:=h m (by simp);rw[nz,Bl];omega
theorem aQh {M:Nat}{ie:BF->CB}(FM:∀k,(ie k).length<=M):∀(l:List Mn)(k:BF)(op:List (BF×BF)),oE M l->(Zr ie l k op).length<=l.length*M
 | [],_,_,_=>by simp[Zr]
 | m::l,k,op,h=>by
  have ih:=λk op=>aQh FM l k op (λx hx=>h x (by simp[hx]))
  have hm:=h m (by simp);have e:(m::l).length*M=l.length*M+M:=by rw[Q6,nz,Bl]
  rw[e];cases m with
  | tx s=>
   have hm:s.length<M:=hm;have:=ih k op;rw[Zr,Qq,JR,Qq,gi];omega
  | ifd F o=>have:=ih (ZD k o) ((k,JI k o)::op);rw[Zr];omega
  | elif F o=>
   cases op with
   | nil=>simp[Zr]
   | cons x op=>obtain⟨ou,re⟩:=x;have:=ih (ZD re o) ((ou,JI re o)::op);rw[Zr];omega
  | els=>
   cases op with
   | nil=>simp[Zr]
   | cons x op=>obtain⟨ou,re⟩:=x;have:=ih re ((ou,re)::op);rw[Zr];omega
  | en=>
   cases op with
   | nil=>simp[Zr]
   | cons x op=>obtain⟨ou,re⟩:=x;have:=ih ou op;rw[Zr];omega
  | inc=>
   have:=FM k;have:=ih k op;rw[Zr,Qq];omega
theorem Io {k0:Nat}{ic:Bool}{x:Lx}{op:List Bool}(h:op.length<=3):(Ym k0 ic x op).2.length<=3:=by
 unfold Ym;split
 ·rename_i h;simp;omega
 split
 ·exact h
 split
 ·rename_i hh;cases op with
  | nil=>cases hh.2
  | cons b op=>simpa using h
 split
 ·simp;omega
 split<;>exact h
theorem aQi (k0:Nat)(ic:Bool):∀(l:List Lx)(op:List Bool),op.length<=3->(Y1 k0 ic l op).length<=l.length+3
 | [],op,h=>by simp[Y1];omega
 | x::l,op,h=>by
  rw[Y1,Q6,Q6];have:=aQi k0 ic l _ (Io (k0:=k0) (ic:=ic) (x:=x) h);omega
theorem Ip {k0:Nat}(hk:k0<=4){ic:Bool}{x:Lx}(hx:x.i<=255){op:List Bool}:(Jl (Ym k0 ic x op).1).length<34:=by
 unfold Ym;split
 ·have:=(uL hk hx).2.2;simp[Jl,ZC];omega
 split
 ·have:=(uL hk (show x.i/2<=255 by omega)).2.2;simp[Jl,pElif];omega
 split
 ·exact(by decide:(Jl Mn.els).length<34)
 split
 ·exact(by decide:(Jl Mn.en).length<34)
 split
 ·exact(by decide:(Jl Mn.inc).length<34)
 ·have:=(oC x.k x.ws).2.2.2;show(KD x.k x.ws).length<34;omega
theorem aQj {k0:Nat}(hk:k0<=4)(ic:Bool):∀(l:List Lx)(op:List Bool),(∀x∈l,x.i<=255)->oE 34 (Y1 k0 ic l op)
 | [],op,_=>λm hm=>by
  obtain⟨_,_,rfl⟩:=ZG.1 hm;decide
 | x::l,op,h=>λm hm=>by
  rw[Y1] at hm;rcases Q3.1 hm with rfl | hm
  ·exact Ip hk (h x (by simp))
  ·exact aQj hk ic l _ (λy hy=>h y (by simp[hy])) m hm
def Iq (k0:Nat)(main:List Lx):List Mn:=Y1 k0 true (main.take 12) []
def jQ4 (k0:Nat)(bJ:List Lx):List Mn:=Y1 k0 false (bJ.take 5) []
def Ir (k0:Nat)(main bJ:List Lx):List (List Nat×List Nat):=[([109],Qk ((Iq k0 main).map Jl)),([110],Qk ((jQ4 k0 bJ).map Jl))]
def iM:BF->CB:=λ_=>[]
theorem jQ5 {fs:List (List Nat×List Nat)}(h:fs.length<=256)(hc:cP fs [] 0=none):YY fs=none:=by
 unfold YY;rw[if_neg (by omega),hc]
def YL (e:Nat->Bool)(c:CB):List Nat:=(c.filter (λp=>p.2 e)).map (·.1)
theorem Is (e:Nat->Bool)(a b:CB):YL e (a++b)=YL e a++YL e b:=by simp[YL]
theorem aQk {e:Nat->Bool}{k:BF}(h:k e=true)(l:List Nat):YL e (l.map (λb=>(b,k)))=l:=by
 induction l with
 | nil=>rfl
 | cons x l ih=>unfold YL at ih ⊢;rw[Kr,gh,Qe (by exact h),Kr,ih]
theorem aQl {e:Nat->Bool}{k:BF}(h:k e=false)(l:List Nat):YL e (l.map (λb=>(b,k)))=[]:=by
 induction l with
 | nil=>rfl
 | cons x l ih=>unfold YL at ih ⊢;rw[Kr,gh,if_neg (by simp[h]),ih]
theorem It {nm:List (List Nat)}{M D:Nat}(hn:ZQ nm=true)(hD:D<64){l:List Mn}(hw:JB nm false D [] l)(hb:oE M l)(hl:l.length*M<=60000){f:List Nat}(Zh:lK f=true):
  ∃g,KH nm [(f,Qk (l.map Jl))] f= .ok g/\Wg g=Zr iM l (λ_=>true) []:=by
 have hL:=jQ2 (C1 hw);have l1:=In hb;generalize hF: [(f,Qk (l.map Jl))]=fs;have de:fs[0]? =some (f,Qk (l.map Jl)):=by rw[<-hF]<;>rfl
 have O4:fs.map (·.1)=[f]:=by rw[<-hF]<;>rfl
 have K4:YY fs=none:=by
  rw[<-hF];refine jQ5 (by simp) ?_;rw[cP,if_neg (λhh=>hh ⟨Zh,(by simp),UW _⟩),if_neg (by simp only;omega)];rfl
 unfold KH;rw[if_neg (by rw[hn];decide),K4,O4];simp only[show Jj [f] f=some 0 from jQO (by simp)];rw[WZ,de];simp only[ww,gc];rw[qU hL];have yv:GInv fs ⟨[],[],true⟩:=⟨rfl,λs hs=>by cases hs⟩
 have qQF:=aQh (ie:=iM) (λ_=>Xt _) l (λ_=>true) [] hb;obtain⟨g,r1,r2,r3⟩:=U7 (nm:=nm) (n:=0) (d0:=0) (inc:=λr ln d k g=>match cO (Jj (fs.map (·.1))) [0] r with
   | .error e=>.error ⟨e,(0:Nat),ln⟩
   | .ok m=>if d=64 then .error ⟨2,(0:Nat),ln⟩else WZ nm fs 64 [0] (d+1) m k g) de (ic:=false) (D:=D) (ie:=iM) (λh=>by cases h) (by omega) l 0 0 (λ_=>true) [] ⟨[],[],true⟩ (by rw[tw]) (Xt _) yv (λh=>by cases h) hw (Xt _) (by
   have e:(Wg ⟨[],[],true⟩).length=0:=rfl;rw[e,a8];show(Zr iM l (λ_=>true) []).length<=_;omega)
 exact⟨g,r1,r3⟩
end
section
variable {nm:List (List Nat)} {n:Nat}
def vF (nm:List (List Nat))(v:Nat)(ng:Bool):List Nat:=(if ng then [33] else [])++(nm[v]?).getD []
def vO (v:Nat)(ng:Bool):BF:=λe=>e v !=ng
def Iu (nm:List (List Nat))(n:Nat):Prop:=∀v ng,v<n->FOk nm (vF nm v ng) (vO v ng)
def VR (nm:List (List Nat)):Tr->List Mn
 | .nil=>[]
 | .ln s r=>.tx s::VR nm r
 | .sc v ng h .nil r=>.ifd (vF nm v ng) (vO v ng)::(VR nm h++ .en::VR nm r)
 | .sc v ng h l r=>.ifd (vF nm v ng) (vO v ng)::(VR nm h++ .els::(VR nm l++ .en::VR nm r))
theorem C2 (v:Nat)(ng:Bool)(h l r:Tr):(l= .nil/\VR nm (.sc v ng h l r)= .ifd (vF nm v ng) (vO v ng)::(VR nm h++ .en::VR nm r)/\fl nm (.sc v ng h l r)=JV nm v ng::(fl nm h++X6::fl nm r))∨(l≠ .nil/\VR nm (.sc v ng h l r)= .ifd (vF nm v ng) (vO v ng)::(VR nm h++ .els::(VR nm l++ .en::VR nm r))/\fl nm (.sc v ng h l r)=JV nm v ng::(fl nm h++Ku::(fl nm l++X6::fl nm r))):=by
 cases l with
 | nil=>exact .inl ⟨rfl,rfl,rfl⟩
 | _=>exact .inr ⟨(by intro e;cases e),rfl,rfl⟩
theorem oF:∀t:Tr,(VR nm t).map Jl=fl nm t
 | .nil=>rfl
 | .ln s r=>by rw[VR,fl,Kr,oF r]<;>rfl
 | .sc v ng h l r=>by
  rcases C2 (nm:=nm) v ng h l r with⟨_,h1,h2⟩ | ⟨_,h1,h2⟩<;>rw[h1,h2]
  ·simp only[Kr,be,oF h,oF r];rfl
  ·simp only[Kr,be,oF h,oF l,oF r];rfl
theorem uM (hV:Iu nm n){D:Nat}:∀(t:Tr)(op:List Bool)(rest:List Mn),Wt n t->Wf TxOk t->op.length+dT t<=D->JB nm false D op rest->JB nm false D op (VR nm t++rest)
 | .nil,op,rest,_,_,_,hr=>hr
 | .ln s r,op,rest,w,hl,hd,hr=>by
  rw[VR,Z5];exact aQe hl.1 (uM hV r op rest w.2 hl.2 hd hr)
 | .sc v ng h l r,op,rest,w,hl,hd,hr=>by
  have ZJ:op.length+max (1+max (dT h) (dT l)) (dT r)<=D:=hd;have ihr:=uM hV r op rest w.2.2.2 hl.2.2 (by omega) hr;rcases C2 (nm:=nm) v ng h l r with⟨_,h1,_⟩ | ⟨_,h1,_⟩<;>rw[h1,Z5,ZR]
  ·refine Il (hV v ng w.1) (by omega) (uM hV h (false::op) _ w.2.1 hl.1 (by rw[Q6];omega) ?_);rw[Z5];exact Im ihr
  ·refine Il (hV v ng w.1) (by omega) (uM hV h (false::op) _ w.2.1 hl.1 (by rw[Q6];omega) ?_);rw[Z5,ZR];show JB nm false D (true::op) _;refine uM hV l (true::op) _ w.2.2.1 hl.2.1 (by rw[Q6];omega) ?_;rw[Z5];exact Im ihr
theorem uN {e:Nat->Bool}:∀(t:Tr)(rest:List Mn)(k:BF)(op:List (BF×BF)),YL e (Zr iM (VR nm t++rest) k op)=(if k e=true then Qk (Kh e t)else [])++YL e (Zr iM rest k op)
 | .nil,rest,k,op=>by
  have:(if k e=true then Qk (Kh e .nil)else [])=[]:=by split<;>rfl
  rw[this]<;>rfl
 | .ln s r,rest,k,op=>by
  rw[VR,Z5,Zr,Is,uN r rest k op,<-ZR];congr 1;cases hk:k e with
  | true=>rw[aQk hk,Qe rfl,Qe rfl,Kh,V6];simp
  | false=>rw[aQl hk,if_neg (by decide),if_neg (by decide)]<;>rfl
 | .sc v ng h l r,rest,k,op=>by
  have hs:Kh e (.sc v ng h l r)=(if(e v !=ng)=true then Kh e h else Kh e l)++Kh e r:=rfl;have hu:∀a b:List (List Nat),Qk (a++b)=Qk a++Qk b:=λa b=>by simp[Qk]
  rcases C2 (nm:=nm) v ng h l r with⟨e0,h1,_⟩ | ⟨_,h1,_⟩<;>rw[h1,Z5,ZR,Zr,uN h,Z5,Zr]
  ·show _++YL e (Zr iM (VR nm r++rest) k op)=_;rw[uN r rest k op,<-ZR];congr 1;subst e0;rw[hs];cases hk:k e with
   | true=>
    have:ZD k (vO v ng) e=(e v !=ng):=by show(k e&&(e v !=ng))=_;rw[hk]<;>rfl
    rw[this,Qe rfl,Qe rfl,hu];congr 1;generalize (e v !=ng)=b;cases b<;>rfl
   | false=>
    have:ZD k (vO v ng) e=false:=by show(k e&&(e v !=ng))=_;rw[hk]<;>rfl
    rw[this]<;>rfl
  ·show _++YL e (Zr iM ((VR nm l++ .en::VR nm r)++rest) (JI k (vO v ng)) ((k,JI k (vO v ng))::op))=_;rw[ZR,uN l,Z5,Zr];show _++(_++YL e (Zr iM (VR nm r++rest) k op))=_;rw[uN r rest k op,<-ZR,<-ZR];congr 1;rw[hs];cases hk:k e with
   | true=>
    have a1:ZD k (vO v ng) e=(e v !=ng):=by show(k e&&(e v !=ng))=_;rw[hk]<;>rfl
    have a2:JI k (vO v ng) e= !(e v !=ng):=by show(k e && !(e v !=ng))=_;rw[hk]<;>rfl
    rw[a1,a2,Qe rfl,Qe rfl,hu];congr 1;generalize (e v !=ng)=b;cases b
    ·rfl
    ·exact JZ _
   | false=>
    have a1:ZD k (vO v ng) e=false:=by show(k e&&(e v !=ng))=_;rw[hk]<;>rfl
    have a2:JI k (vO v ng) e=false:=by show(k e && !(e v !=ng))=_;rw[hk]<;>rfl
    rw[a1,a2]<;>rfl
theorem jQ6 (hn:ZQ nm=true)(hV:Iu nm n){M D:Nat}(hD:D<64){t:Tr}(w:Wt n t)(hl:Wf TxOk t)(hd:dT t<=D)(hM:oE M (VR nm t))(hb:(fl nm t).length*M<=60000){f:List Nat}(hf:lK f=true):
  ∃g,KH nm [(f,Qk (fl nm t))] f= .ok g/\∀e,j0 g.tx g.sg e=Qk (Kh e t):=by
 have hw:=uM hV t [] [] w hl (by simpa using hd) (show JB nm false D [] [] from trivial);rw[JZ] at hw;have Q0:(VR nm t).length=(fl nm t).length:=by rw[<-oF t,JR]
 obtain⟨g,h1,h2⟩:=It hn hD hw hM (by rw[Q0];exact hb) hf;rw[oF] at h1;refine⟨g,h1,λe=>?_⟩;have:=uN (nm:=nm) (e:=e) t [] (λ_=>true) [];rw[JZ,<-h2,Qe rfl] at this;rw[U6];show YL e (Wg g)=_;rw[this];show Qk (Kh e t)++YL e []=_;simp[YL]
end
noncomputable section
def Iv (v:Nat)(ng:Bool):Fm:=if ng then .not (.v v)else .v v
def C3 (k v:Nat)(ng:Bool):Bool:=(match eY (X5.take k) (vF (X5.take k) v ng)with
 | .ok t=>decide (t=Iv v ng)
 | .error _=>false)&&(vF (X5.take k) v ng).all (λb=>decide (b<256)&&b !=10)
theorem jQ7:((List.range 5).all λk=>(List.range k).all λv=>C3 k v true&&C3 k v false)=true:=by decide+kernel
theorem jQ8 {k:Nat}(hk:k<=4):Iu (X5.take k) k:=λv ng hv=>by
 have h1:=J0.1 jQ7 k (YS.2 (by omega));have h2:=J0.1 h1 v (YS.2 hv);have h3:C3 k v ng=true:=by
  rw[Z4] at h2;cases ng
  ·exact h2.2
  ·exact h2.1
 unfold C3 at h3;rw[Z4] at h3;obtain⟨h4,h5⟩:=h3;refine⟨λhm=>?_,?_,λx hx=>?_⟩
 ·have:=J0.1 h5 10 hm;simp at this
 ·unfold VQ;split at h4
  ·rename_i t ht;rw[ht,YC h4];show Except.ok (evF (Iv v ng))= .ok (vO v ng);congr 1;funext e;unfold Iv vO;cases ng
   ·show e v=(e v !=false);simp
   ·show(!e v)=(e v !=true);simp
  ·cases h4
 ·have:=J0.1 h5 x hx;simp at this;exact this.1
def C4 (k v v':Nat)(ng ng':Bool):Bool:=decide (JV (X5.take k) v ng=JV (X5.take k) v' ng'->v=v'/\ng=ng')
theorem jQ9:((List.range 5).all λk=>(List.range k).all λv=>(List.range k).all λv'=>C4 k v v' true true&&C4 k v v' true false&&C4 k v v' false true&&C4 k v v' false false)=true:=by decide+kernel
theorem kQa {k:Nat}(hk:k<=4):xR (X5.take k) k:=λv v' ng ng' hv OB=>by
 have h1:=J0.1 jQ9 k (YS.2 (by omega));have h2:=J0.1 h1 v (YS.2 hv);have h3:=J0.1 h2 v' (YS.2 OB);simp only[Z4] at h3;obtain⟨⟨⟨a1,a2⟩,a3⟩,a4⟩:=h3;cases ng<;>cases ng'
 ·exact YC a4
 ·exact YC a3
 ·exact YC a2
 ·exact YC a1
theorem kQb {k:Nat}(hk:k<=4){v:Nat}(hv:v<k)(ng:Bool):(vF (X5.take k) v ng).length<=2:=by
 rcases(show k=0∨k=1∨k=2∨k=3∨k=4 by omega)with rfl | rfl | rfl | rfl | rfl
 ·omega
 all_goals
  rcases(show v=0∨v=1∨v=2∨v=3 by omega)with rfl | rfl | rfl | rfl<;>first | omega | (cases ng<;>decide)
theorem kQc {c c':Nat}(h:c<8)(h':c'<8)(hb:∀i,i<3->c.testBit i=c'.testBit i):c=c':=by
 refine Nat.eq_of_testBit_eq (λi=>?_);by_cases hi:i<3
 ·exact hb i hi
 ·have e:8<=2^i:=X4 (by decide) (WW (by decide) (show 3<=i by omega));rw[wA (by omega),wA (by omega)]
theorem xX {k:Nat}(hk:k<=4){M:Nat}(h8:8<=M):∀{t:Tr},Wt k t->Wf (λs=>TxOk s/\s.length<M) t->oE M (VR (X5.take k) t)
 | .nil,_,_=>λm hm=>by cases hm
 | .ln s r,w,h=>λm hm=>by
  rcases Q3.1 hm with rfl | hm
  ·exact h.1.2
  ·exact xX hk h8 w.2 h.2 m hm
 | .sc v ng a l r,w,h=>λm hm=>by
  have hi:(Jl (.ifd (vF (X5.take k) v ng) (vO v ng))).length<M:=by
   have:=kQb hk w.1 ng;show(ZC++_).length<M;rw[Qq];show 4+_<M;omega
  have he:(Jl .en).length<M:=by show 4<M;omega
  have hs:(Jl .els).length<M:=by show 5<M;omega
  have ha:=xX hk h8 w.2.1 h.1;have hl:=xX hk h8 w.2.2.1 h.2.1;have hr:=xX hk h8 w.2.2.2 h.2.2;rcases C2 (nm:=X5.take k) v ng a l r with⟨_,h1,_⟩ | ⟨_,h1,_⟩<;>rw[h1] at hm<;>simp only[Q3,Xv] at hm
  ·rcases hm with rfl | hm | rfl | hm
   ·exact hi
   ·exact ha m hm
   ·exact he
   ·exact hr m hm
  ·rcases hm with rfl | hm | rfl | hm | rfl | hm
   ·exact hi
   ·exact ha m hm
   ·exact hs
   ·exact hl m hm
   ·exact he
   ·exact hr m hm
theorem xY {P Q:List Nat->Prop}(h:∀s,P s->Q s):∀{t:Tr},Wf P t->Wf Q t
 | .nil,_=>trivial
 | .ln s r,k=>⟨h s k.1,xY h k.2⟩
 | .sc _ _ a l r,k=>⟨xY h k.1,xY h k.2.1,xY h k.2.2⟩
def Ki (b c:Nat):Bool:=decide (b % 256=0)||b.testBit c
def J6 (b:Nat):List Nat:=(List.range 8).filter (Ki b)
theorem uO {b c:Nat}(h:c∈J6 b):c<8:=YS.1 (Jc.1 h).1
theorem uP (b:Nat):(J6 b).length<=8:=X4 (qh _ _) (by simp)
theorem C5 {b:Nat}(hb:b<=255):J6 b≠ []:=by
 intro e;have h:=wz.1 e;have h0:∀c,c<8->Ki b c=false:=λc hc=>by have:=h c (YS.2 hc);simpa using this
 unfold Ki at h0;have i9:b≠0:=λe=>by subst e;have:=h0 0 (by decide);simp at this
 refine i9 (Nat.eq_of_testBit_eq (λi=>?_));rw[Nat.zero_testBit];by_cases hi:i<8
 ·have:=h0 i hi;rw[Bool.or_eq_false_iff] at this;exact this.2
 ·exact wA (Ye (show b<2^8 by omega) (WW (by decide) (by omega)))
abbrev Pt:=List Nat×List (List Nat)
def ro:List Pt->Nat->List (List Nat)->List Pt
 | [],c,s=>[([c],s)]
 | p::ps,c,s=>if p.2=s then(p.1++ [c],p.2)::ps else p::ro ps c s
def xZ (single:Bool)(f:Nat->List (List Nat))(ps:List Pt)(c:Nat):List Pt:=if single then ps++ [([c],f c)] else ro ps c (f c)
def rp (single:Bool)(f:Nat->List (List Nat))(S:List Nat):List Pt:=S.foldl (xZ single f) []
structure PtOk (f:Nat->List (List Nat)) (S:List Nat) (ps:List Pt):Prop where
 cov:∀c∈S,∃p∈ps,c∈p.1
 tx:∀p∈ps,∀c∈p.1,c∈S/\f c=p.2
 ne:∀p∈ps,p.1≠ []
 dj:∀(i j:Nat) (p q:Pt) (c:Nat),ps[i]? =some p->ps[j]? =some q->c∈p.1->c∈q.1->i=j
theorem PtOk.snoc {f:Nat->List (List Nat)}{S:List Nat}{ps:List Pt}(h:PtOk f S ps){c:Nat}(hc:c∉S):PtOk f (S++ [c]) (ps++ [([c],f c)]):=by
 refine⟨λd hd=>?_,λp hp d hd=>?_,λp hp=>?_,λi j p q d hi hj hp hq=>?_⟩
 ·rcases Xv.1 hd with hd | hd
  ·obtain⟨p,h1,h2⟩:=h.cov d hd;exact⟨p,Gm _ h1,h2⟩
  ·exact⟨([c],f c),by simp,hd⟩
 ·rcases Xv.1 hp with hp | hp
  ·exact⟨Gm _ (h.tx p hp d hd).1,(h.tx p hp d hd).2⟩
  ·rw[QL.1 hp] at hd ⊢;have:d=c:=QL.1 hd;subst this;exact⟨by simp,rfl⟩
 ·rcases Xv.1 hp with hp | hp
  ·exact h.ne p hp
  ·rw[QL.1 hp];simp
 ·have key:∀i p,(ps++ [([c],f c)])[i]? =some p->d∈p.1->(i<ps.length/\ps[i]? =some p/\d≠c)∨(i=ps.length/\d=c):=λi p hi hp=>by
   by_cases hl:i<ps.length
   ·rw[eK hl] at hi;exact .inl ⟨hl,hi,λe=>hc (e▸(h.tx p (Xk hi) d hp).1)⟩
   ·rw[WV (by omega)] at hi;have:i-ps.length=0:=by
     by_cases e:i-ps.length=0
     ·exact e
     ·rw[nA (by simp;omega)] at hi;cases hi
    rw[this] at hi;cases hi;exact .inr ⟨by omega,QL.1 hp⟩
  rcases key i p hi hp with⟨_,a2,a3⟩ | ⟨a1,a2⟩<;>rcases key j q hj hq with⟨_,b2,b3⟩ | ⟨b1,b2⟩
  ·exact h.dj i j p q d a2 b2 hp hq
  ·exact Xd b2 a3
  ·exact Xd a2 b3
  ·omega
theorem PtOk.set {f:Nat->List (List Nat)}{S:List Nat}{ps:List Pt}(h:PtOk f S ps){c k:Nat}{p0:Pt}(hc:c∉S)(hk:ps[k]? =some p0)(hf:f c=p0.2):PtOk f (S++ [c]) (ps.set k (p0.1++ [c],p0.2)):=by
 have JM:k<ps.length:=(ZM.1 hk).1;have Eb:=Xk hk;have get:∀i p,(ps.set k (p0.1++ [c],p0.2))[i]? =some p->(i=k/\p=(p0.1++ [c],p0.2))∨(i≠k/\ps[i]? =some p):=λi p hi=>by
  rw[Ga] at hi;by_cases e:k=i
  ·rw[Qe e,Qe (by omega)] at hi;exact .inl ⟨e.symm,(Option.some.inj hi).symm⟩
  ·rw[if_neg e] at hi;exact .inr ⟨λe'=>e e'.symm,hi⟩
 have mem:∀p∈ps.set k (p0.1++ [c],p0.2),p=(p0.1++ [c],p0.2)∨p∈ps:=λp hp=>by
  obtain⟨i,hi⟩:=ip.1 hp;rcases get i p hi with⟨_,e⟩ | ⟨_,e⟩
  ·exact .inl e
  ·exact .inr (Xk e)
 refine⟨λd hd=>?_,λp hp d hd=>?_,λp hp=>?_,λi j p q d hi hj hp hq=>?_⟩
 ·have VZ:(p0.1++ [c],p0.2)∈ps.set k (p0.1++ [c],p0.2):=ip.2 ⟨k,by rw[Ga,Qe rfl,Qe JM]⟩;rcases Xv.1 hd with hd | hd
  ·obtain⟨p,h1,h2⟩:=h.cov d hd;obtain⟨i,hi⟩:=ip.1 h1;by_cases e:i=k
   ·subst e;rw[hk] at hi;cases hi;exact⟨_,VZ,Gm _ h2⟩
   ·exact⟨p,ip.2 ⟨i,by rw[Ga,if_neg (λe'=>e e'.symm),hi]⟩,h2⟩
  ·exact⟨_,VZ,List.mem_append_right _ hd⟩
 ·rcases mem p hp with rfl | hp
  ·rcases Xv.1 hd with hd | hd
   ·exact⟨Gm _ (h.tx p0 Eb d hd).1,(h.tx p0 Eb d hd).2⟩
   ·rw[QL.1 hd];exact⟨by simp,hf⟩
  ·exact⟨Gm _ (h.tx p hp d hd).1,(h.tx p hp d hd).2⟩
 ·rcases mem p hp with rfl | hp
  ·simp
  ·exact h.ne p hp
 ·have nc:∀(i:Nat) (p:Pt),ps[i]? =some p->c∉p.1:=λi p hi hm=>hc (h.tx p (Xk hi) c hm).1
  rcases get i p hi with⟨rfl,rfl⟩ | ⟨e1,ju⟩<;>rcases get j q hj with⟨rfl,rfl⟩ | ⟨e2,gX⟩
  ·rfl
  ·rcases Xv.1 hp with hp | hp
   ·exact h.dj _ _ _ _ d hk gX hp hq
   ·rw[QL.1 hp] at hq;exact Xd hq (nc j q gX)
  ·rcases Xv.1 hq with hq | hq
   ·exact h.dj _ _ _ _ d ju hk hp hq
   ·rw[QL.1 hq] at hp;exact Xd hp (nc i p ju)
  ·exact h.dj _ _ _ _ d ju gX hp hq
def oG (ps:List Pt)(s:List (List Nat)):Nat:=(ps.takeWhile (λp=>decide (p.2≠s))).length
theorem aQm (c:Nat)(s:List (List Nat)):∀ps:List Pt,(∃p,ps[oG ps s]? =some p/\p.2=s/\ro ps c s=ps.set (oG ps s) (p.1++ [c],p.2))∨(oG ps s=ps.length/\ro ps c s=ps++ [([c],s)])
 | []=>.inr ⟨rfl,rfl⟩
 | p::ps=>by
  by_cases h:p.2=s
  ·have e:oG (p::ps) s=0:=by unfold oG;simp[h]
   rw[e,ro,Qe h];exact .inl ⟨p,rfl,h,rfl⟩
  ·have e:oG (p::ps) s=oG ps s+1:=by unfold oG;simp[h]
   rw[e,ro,if_neg h];rcases aQm c s ps with⟨q,h1,h2,h3⟩ | ⟨h1,h2⟩
   ·exact .inl ⟨q,by simpa using h1,h2,by rw[h3];rfl⟩
   ·exact .inr ⟨by simp[h1],by rw[h2];rfl⟩
theorem kQd (single:Bool){f:Nat->List (List Nat)}{S:List Nat}{ps:List Pt}(h:PtOk f S ps){c:Nat}(hc:c∉S):PtOk f (S++ [c]) (xZ single f ps c):=by
 cases single with
 | true=>exact h.snoc hc
 | false=>
  show PtOk f (S++ [c]) (ro ps c (f c));rcases aQm c (f c) ps with⟨p,h1,h2,h3⟩ | ⟨_,h2⟩
  ·rw[h3];exact h.set hc h1 h2.symm
  ·rw[h2];exact h.snoc hc
theorem kQe (single:Bool)(f:Nat->List (List Nat))(S:List Nat)(c:Nat):rp single f (S++ [c])=xZ single f (rp single f S) c:=by
 unfold rp;rw[P4]<;>rfl
theorem kQf (single:Bool)(f:Nat->List (List Nat)):∀(S:List Nat),S.Nodup->PtOk f S (rp single f S):=by
 have key:∀(T S:List Nat) (ps:List Pt),(S++T).Nodup->PtOk f S ps->PtOk f (S++T) (T.foldl (xZ single f) ps):=by
  intro T;induction T with
  | nil=>intro S ps _ h;simpa using h
  | cons c T ih=>
   intro S ps hn h;have hc:c∉S:=λhm=>by
    have:=(Gb.1 hn).2.2 c hm c (by simp);exact this rfl
   have:=ih (S++ [c]) (xZ single f ps c) (by simpa using hn) (kQd single h hc);simpa using this
 intro S hn;have h0:PtOk f [] []:=⟨(λc hc=>by cases hc),(λp hp=>by cases hp),(λp hp=>by cases hp),λi j p q c hi=>by simp at hi⟩
 have:=key S [] [] (by simpa using hn) h0;rw[aZ] at this;exact this
theorem kQg (b:Nat):(J6 b).Nodup:=(List.nodup_range).sublist (List.filter_sublist)
theorem Iw (c:Nat):We c=λi=>c.testBit i:=by
 funext i;unfold We;rw[Nat.testBit_eq_decide_div_mod_eq]
def QF (n:Nat)(o:BF):List Nat:=(List.range (2^n)).filter (λc=>o (λi=>c.testBit i))
theorem Z0 {n:Nat}{o:BF}{c:Nat}:c∈QF n o↔c<2^n/\o (λi=>c.testBit i)=true:=by
 unfold QF;rw[Jc,YS]
def C6 (n:Nat)(o:BF):Prop:=∀e e',(∀i,i<n->e i=e' i)->o e=o e'
theorem C7:∀(n:Nat)(e:Nat->Bool),∃c,c<2^n/\∀i,i<n->c.testBit i=e i
 | 0,e=>⟨0,by decide,λi hi=>Xd hi (by omega)⟩
 | n+1,e=>by
  obtain⟨c,hc,hb⟩:=C7 n e;cases he:e n with
  | false=>
   refine⟨c,Nat.lt_trans hc (Nat.pow_lt_pow_right (by decide) (by omega)),λi hi=>?_⟩;by_cases h:i<n
   ·exact hb i h
   ·have:i=n:=by omega
    subst this;rw[he];exact wA hc
  | true=>
   refine⟨2^n+c,by rw[nD];omega,λi hi=>?_⟩;by_cases h:i<n
   ·rw[Nat.testBit_two_pow_add_gt h,hb i h]
   ·have:i=n:=by omega
    subst this;rw[he,Nat.testBit_two_pow_add_eq,wA hc]<;>rfl
theorem Set1.dep {k:Nat}{nd:List Br}{r:Int}{o:BF}(h:Set1 k nd r o):C6 k o:=λe e' he=>by
 rw[<-h.mean,<-h.mean];exact CQ h.vd.wf h.vin (λb hb=>by
  obtain⟨j,hj⟩:=ip.1 hb;have:=h.vd.1 j b hj;exact this.1) he (r.toNat+1) r (by omega) h.vd.2.2.1
theorem aQn {n:Nat}{o:BF}(h:C6 n o){p:BF}(hp:C6 n p):(∀e,o e=true->p e=true)↔∀c∈QF n o,p (λi=>c.testBit i)=true:=by
 constructor
 ·exactλk c hc=>k _ (Z0.1 hc).2
 ·intro k e he;obtain⟨c,hc,hb⟩:=C7 n e;rw[<-hp _ e hb];exact k c (Z0.2 ⟨hc,by rw[h _ e hb];exact he⟩)
theorem kQh {n:Nat}{o:BF}(h:C6 n o):QF n o=[]↔∀e,o e=false:=by
 constructor
 ·intro k e;cases he:o e with
  | false=>rfl
  | true=>
   obtain⟨c,hc,hb⟩:=C7 n e;have:c∈QF n o:=Z0.2 ⟨hc,by rw[h _ e hb];exact he⟩;rw[k] at this;cases this
 ·intro k;refine Bm.2 (λc hc=>?_);have:=(Z0.1 hc).2;rw[k] at this;cases this
theorem Set1.root0 {k:Nat}{nd:List Br}{r:Int}{o:BF}(h:Set1 k nd r o):r=0↔QF k o=[]:=by
 rw[kQh h.dep];constructor
 ·rintro rfl e;rw[<-h.mean,JT (by decide)]<;>rfl
 ·intro h0;have:=h.unique (bT k false) h0;exact QD Prod.snd this
theorem aQo {n:Nat}{o p:BF}{v:Nat}(b:Bool)(hp:∀e,p e=(o e&&(e v==b))):QF n p=(QF n o).filter (λc=>c.testBit v==b):=by
 unfold QF;rw[List.filter_filter];congr 1;funext c;rw[hp,Bool.and_comm]
theorem kQi {n:Nat}{o:BF}:Apt (QF n o) 0 n:=λc hc c' Z3 hb=>by
 have h1:=(Z0.1 hc).1;have h2:=(Z0.1 Z3).1;refine Nat.eq_of_testBit_eq (λi=>?_);by_cases hi:i<n
 ·exact hb i (Xt _) (by omega)
 ·have e:2^n<=2^i:=WW (by decide) (by omega);rw[wA (by omega),wA (by omega)]
structure Pr where
 o:BF
 t:List Nat
abbrev bits (c:Nat):Nat->Bool:=λi=>c.testBit i
def fP (ps:List Pr)(c:Nat):List Nat:=((ps.find? (λp=>p.o (bits c))).map (·.t)).getD []
structure PaOk (S:List Nat) (ps:List Pr):Prop where
 cov:∀c∈S,∃p∈ps,p.o (bits c)=true
 dj:∀c∈S,∀(i j:Nat) (p q:Pr),ps[i]? =some p->ps[j]? =some q->p.o (bits c)=true->q.o (bits c)=true->i=j
theorem PaOk.sub {S T:List Nat}{ps:List Pr}(h:PaOk S ps)(hT:∀c∈T,c∈S):PaOk T ps:=⟨λc hc=>h.cov c (hT c hc),λc hc=>h.dj c (hT c hc)⟩
theorem PaOk.get {S:List Nat}{ps:List Pr}(h:PaOk S ps){c:Nat}(hc:c∈S){p:Pr}(hp:p∈ps)(Yd:p.o (bits c)=true):fP ps c=p.t:=by
 unfold fP;cases hf:ps.find? (λp=>p.o (bits c))with
 | none=>
  have:=wx.1 hf p hp;exact Xd Yd this
 | some q=>
  have hq:=List.find?_some hf;have jB:=dQN hf;obtain⟨i,hi⟩:=ip.1 hp;obtain⟨j,hj⟩:=ip.1 jB;have:=h.dj c hc i j p q hi hj Yd hq;subst this;rw[hi] at hj;cases hj;rfl
theorem kQj {nm:List (List Nat)}{S:List Nat}{ps:List Pr}(h:PaOk S ps)(hS:S≠ []){p:Pr}(hp:p∈ps)(hw:∀c∈S,p.o (bits c)=true)(k v:Nat):X0 nm (fP ps) k v S=QW p.t:=
 xT hS (λc hc=>h.get hc hp (hw c hc)) k v
theorem kQk {S:List Nat}{ps:List Pr}(h:PaOk S ps)(hS:S≠ []){v:Nat}(ha:Apt S v 0):∃p∈ps,∀c∈S,p.o (bits c)=true:=by
 obtain⟨c,hc⟩:∃c,c∈S:=⟨_,uJ hS⟩
 obtain⟨p,hp,Yd⟩:=h.cov c hc;refine⟨p,hp,λd hd=>?_⟩;rw[ha d hd c hc (λi h1 h2=>by omega)];exact Yd
abbrev dY (S:List Nat)(v:Nat):List Nat:=S.filter (λc=>c.testBit v)
abbrev gD (S:List Nat)(v:Nat):List Nat:=S.filter (λc=> !c.testBit v)
theorem aQp {S:List Nat}{v:Nat}(h:gD S v=[]):dY S v=S:=by
 rw[List.filter_eq_self];intro c hc;have:=wz.1 h c hc;simpa using this
theorem kQl {S:List Nat}{v:Nat}(h:dY S v=[]):gD S v=S:=by
 rw[List.filter_eq_self];intro c hc;have:=wz.1 h c hc;simpa using this
theorem kQm {nm:List (List Nat)}{f:Nat->List Nat}{S:List Nat}(hS:S≠ []){k v:Nat}(h:gD S v=[]):X0 nm f (k+1) v S=X0 nm f k (v+1) (dY S v):=by
 rw[rj hS,Qe (.inl h),aQp h]
theorem kQn {nm:List (List Nat)}{f:Nat->List Nat}{S:List Nat}(hS:S≠ []){k v:Nat}(h:dY S v=[]):X0 nm f (k+1) v S=X0 nm f k (v+1) (gD S v):=by
 rw[rj hS,Qe (.inr h),kQl h]
theorem kQo {nm:List (List Nat)}{f:Nat->List Nat}{S:List Nat}(hS:S≠ []){k v:Nat}(h:gD S v≠ [])(h':dY S v≠ []):X0 nm f (k+1) v S=if X0 nm f k (v+1) (dY S v)=X0 nm f k (v+1) (gD S v)then X0 nm f k (v+1) (dY S v)else W3 nm v (X0 nm f k (v+1) (dY S v)) (X0 nm f k (v+1) (gD S v)):=by
 rw[rj hS,if_neg (λe=>e.elim h h')]
theorem kQp {S:List Nat}{v k:Nat}(h:Apt S v (k+1)):Apt (dY S v) (v+1) k:=h.sub (λc hc=>(Jc.1 hc).1) (λc hc c' Z3=>by
 rw[(Jc.1 hc).2,(Jc.1 Z3).2])
theorem kQq {S:List Nat}{v k:Nat}(h:Apt S v (k+1)):Apt (gD S v) (v+1) k:=h.sub (λc hc=>(Jc.1 hc).1) (λc hc c' Z3=>by
 have h1:=(Jc.1 hc).2;have h2:=(Jc.1 Z3).2;simp at h1 h2;rw[h1,h2])
def Kv (n:Nat)(nd:List Br)(r:Int):Bool:=open Classical in decide (XH nd r=0/\∀b∈nd,b.v<n)
def oD (x:DV):BF:=ev x.nd x.r
theorem uQ {n:Nat}{nd:List Br}{r:Int}:Kv n nd r=true↔XH nd r=0/\VIn n nd:=by unfold Kv;exact decide_eq_true_iff
theorem iN {n:Nat}{x:DV}(h:Kv n x.nd x.r=true):Set1 n x.nd x.r (oD x):=by
 obtain⟨h1,h2⟩:=uQ.1 h;exact⟨(gw.1 h1).2,h2,λe=>rfl⟩
theorem gE {n:Nat}(hn:n<=12){x:DV}{o:BF}(h:Set1 n x.nd x.r o):Kv n x.nd x.r=true/\∀e,oD x e=o e:=
 ⟨uQ.2 ⟨h.chk hn,h.vin⟩,λe=>h.mean e⟩
abbrev iO (n:Nat)(R:List Nat)(o:BF):List Nat:=R.filter (λc=> !o (bits c))
def aK (n:Nat):List Nat->List (DV×List Nat)->Bool
 | R,[]=>decide (R=[])
 | R,p::ps=>(Kv n p.1.nd p.1.r&&decide (QF n (oD p.1)≠ [])&&(QF n (oD p.1)).all (λc=>decide (c∈R))&&Vj p.2)&&aK n (iO n R (oD p.1)) ps
def Zv (ps:List (DV×List Nat)):List Pr:=ps.map (λp=>⟨oD p.1,p.2⟩)
def lS (nm:List (List Nat))(d:DV)(ps:List (DV×List Nat)):Except Int (List Nat):=
 if ZQ nm=false∨Kv nm.length d.nd d.r=false then .error 1
 else if aK nm.length (QF nm.length (oD d)) ps=false then .error 290
 else if ps=[] then .ok []
 else if 1048576<(Qk (X0 nm (fP (Zv ps)) nm.length 0 (QF nm.length (oD d)))).length then .error 2
 else .ok (Qk (X0 nm (fP (Zv ps)) nm.length 0 (QF nm.length (oD d))))
theorem Ix {n:Nat}{R:List Nat}{p:DV×List Nat}{ps:List (DV×List Nat)}:aK n R (p::ps)=true↔(Kv n p.1.nd p.1.r=true/\QF n (oD p.1)≠ []/\(∀c∈QF n (oD p.1),c∈R)/\Vj p.2=true)/\aK n (iO n R (oD p.1)) ps=true:=by
 rw[aK];simp only[Z4,VJ,J0];constructor
 ·rintro⟨⟨⟨⟨h1,h2⟩,h3⟩,h4⟩,h5⟩;exact⟨⟨h1,h2,h3,h4⟩,h5⟩
 ·rintro⟨⟨h1,h2,h3,h4⟩,h5⟩;exact⟨⟨⟨⟨h1,h2⟩,h3⟩,h4⟩,h5⟩
theorem aQq {n:Nat}:∀{ps:List (DV×List Nat)}{R:List Nat},(∀c∈R,c<2^n)->aK n R ps=true->PaOk R (Zv ps)/\(∀p∈ps,Kv n p.1.nd p.1.r=true/\QF n (oD p.1)≠ []/\Vj p.2=true/\∀c∈QF n (oD p.1),c∈R)
 | [],R,hR,h=>by
  have:R=[]:=by simpa [aK] using h
  subst this;exact⟨⟨(λc hc=>by cases hc),λc hc=>by cases hc⟩,λp hp=>by cases hp⟩
 | p::ps,R,hR,h=>by
  obtain⟨⟨h1,h2,h3,h4⟩,h5⟩:=Ix.1 h;obtain⟨⟨k1,k2⟩,k3⟩:=aQq (R:=iO n R (oD p.1)) (λc hc=>hR c (Jc.1 hc).1) h5;have Q5:∀q∈ps,∀c,c<2^n->oD q.1 (bits c)=true->oD p.1 (bits c)=false:=λq hq c hc O7=>by
   have:=(k3 q hq).2.2.2 c (Z0.2 ⟨hc,O7⟩);have:=(Jc.1 this).2;simpa using this
  refine⟨⟨λc hc=>?_,λc hc i j a b hi hj ha hb=>?_⟩,λq hq=>?_⟩
  ·cases Yd:oD p.1 (bits c)with
   | true=>exact⟨_,P5,Yd⟩
   | false=>
    obtain⟨q,hq,O7⟩:=k1 c (Jc.2 ⟨hc,by simp[Yd]⟩);exact⟨q,dF _ hq,O7⟩
  ·have pv:=hR c hc;cases i with
   | zero=>
    cases j with
    | zero=>rfl
    | succ j=>
     have ea:a=⟨oD p.1,p.2⟩:=by simpa [Zv] using hi.symm
     have hjm:b∈Zv ps:=Xk (by simpa [Zv] using hj);obtain⟨q,hq,rfl⟩:=ZG.1 hjm;subst ea;have:=Q5 q hq c pv hb;exact Xd (ha.symm.trans this) (by decide)
   | succ i=>
    have him:a∈Zv ps:=Xk (by simpa [Zv] using hi);obtain⟨q,hq,rfl⟩:=ZG.1 him;have Yd:=Q5 q hq c pv ha;cases j with
    | zero=>
     have eb:b=⟨oD p.1,p.2⟩:=by simpa [Zv] using hj.symm
     subst eb;exact Xd (hb.symm.trans Yd) (by decide)
    | succ j=>
     have O8:c∈iO n R (oD p.1):=Jc.2 ⟨hc,by simp[Yd]⟩;have:=k2 c O8 i j _ _ (by simpa [Zv] using hi) (by simpa [Zv] using hj) ha hb;rw[this]
  ·rcases Q3.1 hq with rfl | hq
   ·exact⟨h1,h2,h4,h3⟩
   ·obtain⟨a1,a2,a3,a4⟩:=k3 q hq;exact⟨a1,a2,a3,λc hc=>(Jc.1 (a4 c hc)).1⟩
theorem kQr (ls:List (List Nat))(A:Option Addr)(n c:Nat)(w:World)(h:Sl w 1 A n c (X9 ls))(hb:∀s∈ls,∀x∈s,x<256):
  Fn Tryz.prog 169 [.slice A n c,.func (.func 47) #[] #[]] w (λu w'=>(∃k:Int,u= .int .i64 k/\(0<=k↔ls.any bW=true))/\Ext w w'):=by
 have hn:ls.length=n:=by have:=h.len;rw[bn] at this;omega
 have ZL:=h.le;have bI:=h.cap;refine QH (c:={fQv with cuts:=[]}) Qa Tryz.func169 rfl rfl rfl ?_;refine loop Qa [8] (λi:Nat=>[.int .i64 i]) (λi w'=>Ext w w'/\i<=n/\(ls.take i).any bW=false) (λi _=>n-i) 0 rfl ⟨Ext.refl _,Xt _,by simp⟩ ?_;rintro i w1 ⟨Qd,hi,Xq⟩;refine Qz (λc1=>?_) (λc1=>?_)
 ·have Q5:i<n:=by omega
  have hg:ls[i]? =some ls[i]:=XB (by omega);have vY:=hb _ (Xk hg);generalize ls[i]=l at*;refine Vr (h.ext Qd) Q5 (λad u hA hu Xy=>?_);rw[lj hg] at hu;cases hu;refine load Xy ?_;refine call (CV l w1 vY) ?_;rintro _ w2 ⟨rfl,Qg⟩;have VC:(ls.take (i+1)).any bW=bW l:=by rw[V3,hg,List.any_append,Xq];simp
  refine YT (λd1=>?_) (λd1=>?_)
  ·have d1:bW l=true:=d1;exact⟨⟨i,rfl,⟨λ_=>wB.2 ⟨l,Xk hg,d1⟩,λ_=>by omega⟩⟩,Qd.trans Qg⟩
  ·have d1:bW l=false:=d1;simp only[maxLen] at bI;refine Qj ((i+1:Nat):Int) (by show((i:Nat):Int)+1=_;omega) (by omega) ?_;exact⟨i+1,rfl,⟨Qd.trans Qg,Q5,by rw[VC,d1]⟩,by show n-(i+1)<n-i;omega⟩
 ·have Q5:i=n:=by omega
  rw[Q5,Jv (by omega)] at Xq;exact⟨⟨-1,rfl,by rw[Xq];simp⟩,Qd⟩
theorem aQr (ls:List (List Nat))(A:Option Addr)(n c:Nat)(w:World)(h:Sl w 1 A n c (X9 ls))(hb:∀s∈ls,∀x∈s,x<256):
  Fn Tryz.prog 114 [.slice A n c,.func (.func 47) #[] #[]] w (λu w'=>u= .bool (ls.any bW)/\Ext w w'):=by
 refine QH (c:={eQS with cuts:=[]}) Qa Tryz.func114 rfl rfl rfl ?_;refine call (kQr ls A n c w h hb) ?_;rintro _ w1 ⟨⟨k,rfl,hk⟩,Qd⟩;refine⟨?_,Qd⟩;refine QD Value.bool ?_;cases ha:ls.any bW with
 | true=>exact X2 (hk.2 ha)
 | false=>exact Zn (λhh=>by rw[hk.1 hh] at ha;cases ha)
theorem aQs (l:List Nat)(w:World)(hl:∀x∈l,x<256)(Q0:l.length<=1000000000):
  Fn Tryz.prog 63 [.string (Qf l)] w (λu w'=>u= .bool (Vj l)/\Ext w w'):=by
 refine QH (c:={c63 with cuts:=[]}) Qa Tryz.func63 rfl rfl rfl ?_;have fin:∀w1,Ext w w1->br l=true->∀ls,iH l=ls->∀w2,Ext w1 w2->(Value.bool (!(ls.any bW))= .bool (Vj l)/\Ext w w2):=λw1 Qd ht ls Vg w2 Qg=>by
  refine⟨?_,Qd.trans Qg⟩;rw[<-Vg,Cz (oz ht),iQx,Bool.not_not];unfold Vj;rw[ht,bg]
 by_cases h0:l=[]
 ·subst h0;refine Xc rfl ?_;refine call (CD [] w hl Q0) ?_;rintro _ w1 ⟨A,c,rfl,Qd,Vb⟩;refine call (aQr _ A _ c w1 Vb.1 (λs hs=>by simp[iH,Jk] at hs)) ?_;rintro _ w2 ⟨rfl,Qg⟩;exact fin w1 Qd rfl _ rfl w2 Qg
 ·refine XF (λe=>h0 (Kg hl (by simp) e)) ?_;refine call (jQp l w hl (by omega)) ?_;rintro _ _ ⟨rfl,rfl⟩;refine YT (λd1=>?_) (λd1=>?_)
  ·have d1:(l.getLast? ==some 10)=true:=d1;have ht:br l=true:=by unfold br;rw[d1,Bool.or_true]
   refine call (CD l w hl Q0) ?_;rintro _ w1 ⟨A,c,rfl,Qd,Vb⟩;refine call (aQr _ A _ c w1 Vb.1 (λs hs x hx=>by
    rw[Cz (oz ht)] at hs;obtain⟨r,hr,rfl⟩:=ZG.1 hs;rcases Xv.1 hx with hx | hx
    ·have hu:=aE (oz ht);refine hl x ?_;rw[<-hu];exact cB.2 ⟨r,hr,by simp[hx]⟩
    ·rw[QL.1 hx];decide)) ?_
   rintro _ w2 ⟨rfl,Qg⟩;exact fin w1 Qd ht _ rfl w2 Qg
  ·have d1:(l.getLast? ==some 10)=false:=d1;refine⟨?_,Ext.refl _⟩;unfold Vj br;rw[d1,Zn h0]<;>rfl
theorem kQs (b:Br)(n bx:Nat)(w:World)(hB:Blk w bx 3 [.int .i64 n]):
  Fn Tryz.prog 110 [.agg b.cells.toArray,.pointer (some ⟨bx,0,none⟩)] w (λu w'=>u= .bool (decide ((n:Int)<=b.v))/\Ext w w'):=by
 refine QH (c:={eQP with cuts:=[]}) Qa Tryz.func110 rfl rfl rfl ?_;refine new (λw1 Qd Q9 Qh=>?_);refine Qy Qh rfl ?_;refine Qy (hB.ext Qd) rfl ?_;exact⟨rfl,Qd⟩
theorem kQt (nd:List Br)(A:Option Addr)(m c n bx:Nat)(w:World)(h:SB w A m c nd)(hB:Blk w bx 3 [.int .i64 n]):
  Fn Tryz.prog 165 [.slice A m c,.func (.func 110) #[] #[.pointer (some ⟨bx,0,none⟩)]] w (λu w'=>(∃k:Int,u= .int .i64 k/\(0<=k↔∃b∈nd,(n:Int)<=b.v))/\Ext w w'):=by
 have hn:=h.2;have ZL:=h.1.le;have bI:=h.1.cap;refine QH (c:={fQs with cuts:=[]}) Qa Tryz.func165 rfl rfl rfl ?_;refine loop Qa [8] (λi:Nat=>[.int .i64 i]) (λi w'=>Ext w w'/\i<=m/\∀b∈nd.take i,¬(n:Int)<=b.v) (λi _=>m-i) 0 rfl ⟨Ext.refl _,Xt _,λb hb=>by simp at hb⟩ ?_;rintro i w1 ⟨Qd,hi,Xq⟩;refine Qz (λc1=>?_) (λc1=>?_)
 ·have Q5:i<m:=by omega
  refine Zz WY (h.ext Qd) rfl Q5 (λp b hb hc=>?_);refine JN (vs:=b.cells) rfl hc ?_;refine call (kQs b n bx w1 (hB.ext Qd)) ?_;rintro _ w2 ⟨rfl,Qg⟩;have wg:=Xk hb;refine Qz (λd1=>?_) (λd1=>?_)
  ·exact⟨⟨i,rfl,⟨λ_=>⟨b,wg,d1⟩,λ_=>by omega⟩⟩,Qd.trans Qg⟩
  ·simp only[maxLen] at bI;refine Qj ((i+1:Nat):Int) (by show((i:Nat):Int)+1=_;omega) (by omega) ?_;refine⟨i+1,rfl,⟨Qd.trans Qg,Q5,λb' hb'=>?_⟩,by show m-(i+1)<m-i;omega⟩;rw[V3,hb] at hb';rcases Xv.1 hb' with hb' | hb'
   ·exact Xq b' hb'
   ·have:b'=b:=by simpa using hb'
    rw[this];exact d1
 ·have Q5:i=m:=by omega
  rw[Q5,Jv (by omega)] at Xq;exact⟨⟨-1,rfl,⟨λhh=>Xd hh (by decide),λ⟨b,hb,hh⟩=>Xd hh (Xq b hb)⟩⟩,Qd⟩
theorem Iy (A:Option Addr)(m c n:Nat)(nd:List Br)(r:Int)(w:World)(h:SB w A m c nd):
  Fn Tryz.prog 61 [Xl A m c r,.int .i64 n] w (λu w'=>u= .bool (Kv n nd r)/\Ext w w'):=by
 refine QH (c:={c61 with cuts:=[]}) Qa Tryz.func61 rfl rfl rfl ?_;refine new (λw1 Qd Q9 Qh=>?_);refine new (λw2 Qg Zi Qv=>?_);have QR:=Qd.trans Qg;refine Qt (Qh.ext Qg) rfl ?_;refine call (uf A m c nd r w2 (h.ext QR)) ?_;rintro _ w3 ⟨rfl,Qi⟩;have QY:=QR.trans Qi;refine Zd (λc1=>?_) (λc1=>?_)
 ·refine Qy ((Qh.ext Qg).ext Qi) rfl ?_;refine call (QH (c:={eQO with cuts:=[]}) (R:=λu w'=>u= .bool (decide (∃b∈nd,(n:Int)<=b.v))/\Ext w3 w') Qa Tryz.func109 rfl rfl rfl ?_) ?_
  ·refine call (kQt nd A m c n w1.heap.size w3 (h.ext QY) (Qv.ext Qi)) ?_;rintro _ w4 ⟨⟨k,rfl,hk⟩,Qs⟩;refine⟨?_,Qs⟩;refine QD Value.bool ?_;by_cases hh:∃b∈nd,(n:Int)<=b.v
   ·rw[X2 hh];exact X2 (hk.2 hh)
   ·rw[Zn hh];exact Zn (λh2=>hh (hk.1 h2))
  rintro _ w4 ⟨rfl,Qs⟩;refine⟨?_,QY.trans Qs⟩;refine QD Value.bool ?_;by_cases hh:∃b∈nd,(n:Int)<=b.v
  ·rw[X2 hh]
   symm;refine eN.2 (λho=>?_);obtain⟨b,hb,hv⟩:=hh;have:=(uQ.1 ho).2 b hb;omega
  ·rw[Zn hh];exact(uQ.2 ⟨c1,λb hb=>by
    apply Classical.byContradiction;intro hv;exact hh ⟨b,hb,by omega⟩⟩).symm
 ·refine⟨?_,QY⟩;refine QD Value.bool ?_;exact(eN.2 (λho=>c1 (uQ.1 ho).1)).symm
theorem kQu {k:Nat}(hk:k<=12)(x y:DV){o o':BF}(w:World)(h:SB w x.A x.n x.c x.nd)(h':SB w y.A y.n y.c y.nd)(s:Set1 k x.nd x.r o)(s':Set1 k y.nd y.r o'):
  Fn Tryz.prog 115 [Xl x.A x.n x.c x.r,Xl none 0 0 0,Xl y.A y.n y.c y.r] w (xO w k (λe=> !o e&&o' e)):=by
 have gU:=h.2;have hyl:=h'.2;have l1:=s.len hk;have l2:=s'.len hk;refine QH (c:={eQT with cuts:=[]}) Qa Tryz.func115 rfl rfl rfl ?_;refine new (λw1 Qd Q9 Qh=>?_);refine new (λw2 Qg Zi Qv=>?_);refine new (λw3 Qi JD Qu=>?_);refine new (λw4 Qs KW QX=>?_);have Va:=Qi.trans Qs;have ZE:=Qg.trans Va;have Xr:=Qd.trans ZE;have Kc:=Qh.ext ZE;have mF:=Qv.ext Va;have kj:=Qu.ext Qs;refine Qt Kc rfl ?_;refine Qt mF rfl ?_;refine Qt kj rfl ?_;refine Xw Qa [x.cells,(⟨none,0,0,[],0⟩:DV).cells,y.cells] rfl rfl rfl rfl rfl ⟨rfl,rfl,rfl,rfl,rfl,rfl,⟨⟩⟩ rfl (λcs h=>by simp only[Q3,Jx,or_false] at h;rcases h with rfl | rfl | rfl<;>rfl) rfl (by decide) (by decide) ?_;intro w5 Qx KL QB;have Z9:=Xr.trans Qx;have hL:SlS DV.cells 2 w5 (some ⟨w4.heap.size,0,none⟩) 3 3 [x,⟨none,0,0,[],0⟩,y]:=⟨Sl.own (sz:=2) (n:=3) QB (QC _) (by decide) (by simp[DV.cells]),rfl⟩
 refine call (Cr _ 3 3 _ w5 hL (λz hz=>by
  simp only[Q3,Jx,or_false] at hz;rcases hz with rfl | rfl | rfl
  ·exact h.ext Z9
  ·exact SlS.nil _
  ·exact h'.ext Z9)) ?_
 rintro v w6 ⟨rfl,QN⟩;have XK:=Qx.trans QN;have XS:=Xr.trans XK;have jh:cL [x,(⟨none,0,0,[],0⟩:DV),y]=0:=by
  have e1:XH x.nd x.r=0:=s.chk hk;have e2:XH y.nd y.r=0:=s'.chk hk;have e3:XH ([]:List Br) 0=0:=(bT k false).chk hk;simp[cL,e1,e2,e3]
 rw[jh];refine YU rfl ?_;refine Qt (Kc.ext XK) rfl ?_;refine Qt (mF.ext XK) rfl ?_;refine Qt (kj.ext XK) rfl ?_;have va:=s.vd;have vb:=s'.vd;have hb2:=Hq va vb 4;have An:(x.nd.length+2)*(y.nd.length+2)<=4098*4098:=Nat.mul_le_mul (by omega) (by omega);refine call (iQD x.A x.n x.c x.nd x.r y.A y.n y.c y.nd y.r w6 (h.ext XS) (h'.ext XS) va.dok vb.dok va.2.1 (by have:=va.2.2.1;omega) vb.2.1 (by have:=vb.2.2.1;omega) (by omega) (by omega) (by omega)) ?_;have c4:Set1 k _ _ (λe=> !o e&&o' e):=(eX s s' 4).congr (λe=>by simp[Kt]);have Zp:=iC hk s s' 4;have eI:jU (V4 x.nd x.r y.nd y.r 4)=(V4 x.nd x.r y.nd y.r 4,0):=by unfold jU;rw[if_neg (by have:=c4.len hk;omega)]
 generalize V4 x.nd x.r y.nd y.r 4=D at*;obtain⟨D1,D2⟩:=D;rintro v w7 ⟨OA,m,oc,rfl,Xf,yO,Vk⟩;have Ys:=XK.trans Xf;have z67:=XS.size;refine call (TI OA m oc _ _ w4 w7 yO (λi hi=>by have:=Vk i hi;have:=XK.size;omega) Ys) ?_;rw[eI];rintro v w8 ⟨PA,q,pc,rfl,Xp,yP,vq⟩;refine Qw (QX.ext Xp) rfl (sc rfl) (λw9 bB _ JO=>?_);have Zb:Mod (·=w3.heap.size) w8 w9:=qQT bB rfl;refine Qt JO rfl ?_;exact⟨PA,q,pc,D1,D2,rfl,Zb.ext (Xr.trans Xp) (λi hi=>by omega),⟨yP.1.modS Zb (λ_ i hi e=>by have:=vq i hi;omega),yP.2⟩,c4,λi hi=>by have:=vq i hi;omega⟩
theorem Iz (w:World):Fn Tryz.prog 44 [.int .i64 0] w (λ_ w'=>w=w'):=by
 refine QH (c:={RI with cuts:=[]}) Qa Tryz.func44 rfl rfl rfl ?_;refine YU rfl ?_;exact rfl
theorem C8 (x:DV)(w:World):Fn Tryz.prog 100 [Xl x.A x.n x.c x.r,.int .i64 0] w (λu w'=>u=Xl x.A x.n x.c x.r/\Ext w w'):=by
 refine QH (c:={eQG with cuts:=[]}) Qa Tryz.func100 rfl rfl rfl ?_;refine new (λw1 Qd Q9 Qh=>?_);refine new (λw2 Qg Zi Qv=>?_);refine call (Iz w2) ?_;rintro _ _ rfl;refine Qt (Qh.ext Qg) rfl ?_;refine Qw Qv rfl (sc rfl) (λw3 Je _ Qu=>?_);have Z7:Mod (·=w1.heap.size) w2 w3:=qQT Je rfl;refine Qt Qu rfl ?_;exact⟨rfl,Z7.ext (Qd.trans Qg) (λi hi=>by omega)⟩
theorem oH {k:Nat}(hk:k<=12)(x y:DV){o o':BF}(w:World)(h:SB w x.A x.n x.c x.nd)(h':SB w y.A y.n y.c y.nd)(s:Set1 k x.nd x.r o)(s':Set1 k y.nd y.r o'):
  Fn Tryz.prog 49 [Xl x.A x.n x.c x.r,Xl y.A y.n y.c y.r] w (gA w k (λe=>o e&&o' e)):=by
 refine QH (c:={c49 with cuts:=[]}) Qa Tryz.func49 rfl rfl rfl ?_;refine new (λw1 Qd Q9 Qh=>?_);refine new (λw2 Qg Zi Qv=>?_);refine new (λw3 Qi JD Qu=>?_);have Ya:=Qg.trans Qi;have QY:=Qd.trans Ya;refine Qt (Qh.ext Ya) rfl ?_;refine Qt (Qv.ext Qi) rfl ?_;refine call (xF x.A x.n x.c x.nd x.r y.A y.n y.c y.nd y.r w3 (h.ext QY) (h'.ext QY)) ?_;rw[iC hk s s' 0];have c1:Set1 k _ _ (λe=>o e&&o' e):=(eX s s' 0).congr (λe=>by simp[Kt]);generalize V4 x.nd x.r y.nd y.r 0=D at*;obtain⟨D1,D2⟩:=D;rintro _ w5 ⟨PA,pn,pc,rfl,Qx,rR,bE⟩;refine call (C8 ⟨PA,pn,pc,D1,D2⟩ w5) ?_;rintro _ w6 ⟨rfl,QN⟩;have bF:=Qx.trans QN;refine Qw (Qu.ext bF) rfl (sc rfl) (λw7 Zs _ Q8=>?_);have Xb:Mod (·=w2.heap.size) w6 w7:=qQT Zs rfl;refine Qt Q8 rfl ?_;exact⟨PA,pn,pc,D1,D2,rfl,Xb.ext (QY.trans bF) (λi hi=>by omega),SB.mod (rR.ext QN) Xb (λi hi e=>by have:=bE i hi;omega),c1,λi hi=>by have:=bE i hi;omega⟩
theorem fd {k:Nat}(hk:k<=12)(x y:DV){o o':BF}(w:World)(h:SB w x.A x.n x.c x.nd)(h':SB w y.A y.n y.c y.nd)(s:Set1 k x.nd x.r o)(s':Set1 k y.nd y.r o'):
  Fn Tryz.prog 64 [Xl x.A x.n x.c x.r,Xl y.A y.n y.c y.r] w (gA w k (λe=>o e && !o' e)):=by
 refine QH (c:={c64 with cuts:=[]}) Qa Tryz.func64 rfl rfl rfl ?_;refine new (λw1 Qd Q9 Qh=>?_);refine new (λw2 Qg Zi Qv=>?_);refine new (λw3 Qi JD Qu=>?_);have Ya:=Qg.trans Qi;have QY:=Qd.trans Ya;refine Qt (Qv.ext Qi) rfl ?_;refine Qt (Qh.ext Ya) rfl ?_;refine call (kQu hk y x w3 (h'.ext QY) (h.ext QY) s' s) ?_;rintro _ w5 ⟨PA,pn,pc,D1,D2,rfl,Qx,rR,iX,bE⟩;refine call (C8 ⟨PA,pn,pc,D1,D2⟩ w5) ?_;rintro _ w6 ⟨rfl,QN⟩;have bF:=Qx.trans QN;refine Qw (Qu.ext bF) rfl (sc rfl) (λw7 Zs _ Q8=>?_);have Xb:Mod (·=w2.heap.size) w6 w7:=qQT Zs rfl;refine Qt Q8 rfl ?_;exact⟨PA,pn,pc,D1,D2,rfl,Xb.ext (QY.trans bF) (λi hi=>by omega),SB.mod (rR.ext QN) Xb (λi hi e=>by have:=bE i hi;omega),iX.congr (λe=>by rw[Bool.and_comm]),λi hi=>by have:=bE i hi;omega⟩
abbrev J7 (ls:List (List Nat)):List Value:=X9 (ls.map (·++ [10]))
theorem C9 (ls:List (List Nat)):(J7 ls).length=ls.length:=by rw[bn,JR]
theorem iP {ls:List (List Nat)}{j:Nat}{s:List Nat}(h:ls[j]? =some s):(J7 ls)[j]? =some (.string (Qf (s++ [10]))):=lj (by rw[aq,h];rfl)
theorem Sl.from {w:World}{n c l:Nat}{A:Option Addr}{cs:List Value}(h:Sl w 1 A n c cs)(hl:l<=n):Sl w 1 (if c=l then A else A.map (·.add (l*1))) (n-l) (c-l) (cs.drop l):=by
 have h1:=h.len;have h2:=h.le;have h3:=h.cap;refine⟨by rw[YR];omega,by omega,by omega,λh0=>?_⟩;obtain⟨ad,rfl,hc⟩:=h.at_ (by omega);refine⟨ad.add (l*1),by rw[if_neg (by omega)];rfl,λj u hu=>?_⟩;rw[Addr.add_add,ga];exact hc _ _ (by rw[List.getElem?_drop] at hu;exact hu)
def lT (ls:List (List Nat)):Prop:=∀s∈ls,(∀x∈s,x<256)/\s.length<=1000000000
theorem gF {s:List Nat}(h:∀x∈s,x<256):∀x∈s++ [10],x<256:=λx hx=>by
 rcases Xv.1 hx with hx | hx
 ·exact h x hx
 ·rw[QL.1 hx];decide
def bw (back:Bool)(a:List (List Nat)):List (List Nat):=if back then a.reverse else a
theorem IB (back:Bool)(a:List (List Nat)):(bw back a).length=a.length:=by cases back<;>simp[bw]
theorem aQt {back:Bool}{a:List (List Nat)}{k:Nat}{s:List Nat}(h:(bw back a)[k]? =some s):a[if back then a.length-1-k else k]? =some s:=by
 cases back with
 | false=>exact h
 | true=>
  have hk:k<a.length:=by have:=(ZM.1 h).1;rw[IB] at this;exact this
  rw[show bw true a=a.reverse from rfl,List.getElem?_reverse hk] at h;exact h
theorem kQv (b:List (List Nat))(k best:Nat)(o:Int):lN [] b k best o=best:=by cases b<;>rfl
theorem kQw (a:List (List Nat))(k best:Nat)(o:Int):lN a [] k best o=best:=by cases a<;>rfl
theorem aQu {α:Type}{l:List α}{k:Nat}{x:α}(h:l[k]? =some x):l.drop k=x::l.drop (k+1):=by
 obtain⟨hk,e⟩:=ZM.1 h;rw[av hk,e]
theorem aQv (a b:List (List Nat))(A B:Option Addr)(n c m d:Nat)(back:Bool)(w:World)(h:Sl w 1 A n c (J7 a))(h':Sl w 1 B m d (J7 b))(ha:lT a)(hb:lT b)(hn:n<=1000000000):
  Fn Tryz.prog 171 [.slice A n c,.slice B m d,.bool back] w (λu w'=>u= .int .i64 (Yk (bw back a) (bw back b))/\Ext w w'):=by
 have Vf:a.length=n:=by have:=h.len;rw[C9] at this;omega
 have fU:b.length=m:=by have:=h'.len;rw[C9] at this;omega
 have FO:m<=9223372036854775807:=by have:=h'.le;have:=h'.cap;simp only[maxLen] at this;omega
 have hA:=IB back a;have hB:=IB back b;refine QH (c:={fQx with cuts:=[]}) Qa Tryz.func171 rfl rfl rfl ?_;refine norm (m:=((min n m:Nat):Int)) (by rw[Nat.min_def];split<;>split<;>omega) ?_;generalize Fp:min n m=mn;have Zw:mn<=n:=by omega
 have XR:mn<=m:=by omega
 have XD:mn=n∨mn=m:=by omega
 refine loop Qa [17,7,8] (λs:Nat×Nat×Int=>[.int .i64 s.1,.int .i64 s.2.1,.int .i64 s.2.2]) (λs w'=>Ext w w'/\s.1<=mn/\s.2.1<=s.1/\ -(s.1:Int)<=s.2.2/\s.2.2<=s.1/\lN ((bw back a).drop s.1) ((bw back b).drop s.1) s.1 s.2.1 s.2.2=Yk (bw back a) (bw back b)) (λs _=>mn-s.1) (0,0,0) rfl ⟨Ext.refl _,Xt _,QC _,by simp,by simp,rfl⟩ ?_;rintro⟨k,best,o⟩ w1 ⟨Qd,hk,gW,et,gJ,QE⟩;simp only at hk gW et gJ QE;refine Qz (λc1=>?_) (λc1=>?_)
 ·have Xn:k<mn:=by simp only at c1;omega
  obtain⟨x,hx⟩:∃x,(bw back a)[k]? =some x:=⟨_,XB (by omega)⟩
  obtain⟨y,hy⟩:∃y,(bw back b)[k]? =some y:=⟨_,XB (by omega)⟩
  rw[aQu hx,aQu hy,lN] at QE;have KP:=aQt hx;have sY:=aQt hy;have Jt:=ha x (Xk KP);have eG:=hb y (Xk sY);obtain⟨x0,de⟩:∃x0,a[k]? =some x0:=⟨_,XB (by omega)⟩
  obtain⟨y0,hy0⟩:∃y0,b[k]? =some y0:=⟨_,XB (by omega)⟩
  refine XL Qa (Ext w1) 10 [(true,0),(true,1),(true,2),(true,3),(true,4),(true,5),(true,6),(true,7),(true,8),(true,9)] (by kernel_rfl) (Ext.drew w1) ?_;refine Vr (h.ext Qd) (by omega) (λad u FP hu Xy=>?_);rw[iP de] at hu;cases hu;refine QQ (v:=.string (Qf (x0++ [10]))) (λw' Qb=>Qb.cell Xy) ?_;refine Vr (h'.ext Qd) (by omega) (λad u FP hu Xy=>?_);rw[iP hy0] at hu;cases hu;refine QQ (v:=.string (Qf (y0++ [10]))) (λw' Qb=>Qb.cell Xy) ?_;cases back with
  | false=>
   refine Q7 rfl ?_;have ex:x=x0:=(Option.some.inj (de.symm.trans KP)).symm;have ey:y=y0:=(Option.some.inj (hy0.symm.trans sY)).symm;subst ex ey;have dk:=Qd.trans (Ext.drew w1);have aX:(Qf (x++ [10])=Qf (y++ [10]))↔x=y:=⟨λhh=>by have:=Kg (gF Jt.1) (gF eG.1) hh;exact Gn this,λhh=>by rw[hh]⟩
   by_cases Xu:x=y
   ·rw[Qe Xu] at QE;refine Q7 (by simp[aX.2 Xu]) ?_;refine call (HV (x++ [10]) ZC _ (gF Jt.1) (by decide)) ?_;rintro _ _ ⟨rfl,rfl⟩;rw[T7];cases hp:ZC.isPrefixOf x with
    | true=>
     have hd:Vv x=1:=by unfold Vv;rw[Qe hp]
     refine Xc rfl ?_;refine Qj (o+1) rfl (by omega) ?_;have Zt:=QE;rw[hd] at Zt;by_cases h0:o+1=0
     ·rw[Qe h0] at Zt;refine J2 h0 ?_;refine Qj ((k+1:Nat):Int) (by show((k:Nat):Int)+1=_;omega) (by omega) ?_;refine Qj ((k+1:Nat):Int) (by show((k:Nat):Int)+1=_;omega) (by omega) ?_;exact⟨(k+1,k+1,o+1),rfl,⟨dk,Xn,QC _,by show -((k+1:Nat):Int)<=o+1;omega,by show o+1<=((k+1:Nat):Int);omega,Zt⟩,by show mn-(k+1)<mn-k;omega⟩
     ·rw[if_neg h0] at Zt;refine XG h0 ?_;refine Qj ((k+1:Nat):Int) (by show((k:Nat):Int)+1=_;omega) (by omega) ?_;exact⟨(k+1,best,o+1),rfl,⟨dk,Xn,by show best<=k+1;omega,by show -((k+1:Nat):Int)<=o+1;omega,by show o+1<=((k+1:Nat):Int);omega,Zt⟩,by show mn-(k+1)<mn-k;omega⟩
    | false=>
     refine Q7 rfl ?_;have QO:(Qf (x++ [10])=Qf (X6++ [10]))↔x=X6:=⟨λhh=>by have:=Kg (gF Jt.1) (by decide) hh;exact Gn this,λhh=>by rw[hh]⟩
     by_cases he:x=X6
     ·have hd:Vv x= -1:=by unfold Vv;rw[if_neg (by rw[hp];decide),Qe he]
      refine Zq (QO.2 he) ?_;refine Qj (o-1) rfl (by omega) ?_;have Zt:=QE;rw[hd,show o+(-1)=o-1 by omega] at Zt;by_cases h0:o-1=0
      ·rw[Qe h0] at Zt;refine J2 h0 ?_;refine Qj ((k+1:Nat):Int) (by show((k:Nat):Int)+1=_;omega) (by omega) ?_;refine Qj ((k+1:Nat):Int) (by show((k:Nat):Int)+1=_;omega) (by omega) ?_;exact⟨(k+1,k+1,o-1),rfl,⟨dk,Xn,QC _,by show -((k+1:Nat):Int)<=o-1;omega,by show o-1<=((k+1:Nat):Int);omega,Zt⟩,by show mn-(k+1)<mn-k;omega⟩
      ·rw[if_neg h0] at Zt;refine XG h0 ?_;refine Qj ((k+1:Nat):Int) (by show((k:Nat):Int)+1=_;omega) (by omega) ?_;exact⟨(k+1,best,o-1),rfl,⟨dk,Xn,by show best<=k+1;omega,by show -((k+1:Nat):Int)<=o-1;omega,by show o-1<=((k+1:Nat):Int);omega,Zt⟩,by show mn-(k+1)<mn-k;omega⟩
     ·have hd:Vv x=0:=by unfold Vv;rw[if_neg (by rw[hp];decide),if_neg he]
      refine XF (λhh=>he (QO.1 hh)) ?_;have Zt:=QE;rw[hd,show o+0=o by omega] at Zt;by_cases h0:o=0
      ·rw[Qe h0] at Zt;refine J2 h0 ?_;refine Qj ((k+1:Nat):Int) (by show((k:Nat):Int)+1=_;omega) (by omega) ?_;refine Qj ((k+1:Nat):Int) (by show((k:Nat):Int)+1=_;omega) (by omega) ?_;exact⟨(k+1,k+1,o),rfl,⟨dk,Xn,QC _,by show -((k+1:Nat):Int)<=o;omega,by show o<=((k+1:Nat):Int);omega,Zt⟩,by show mn-(k+1)<mn-k;omega⟩
      ·rw[if_neg h0] at Zt;refine XG h0 ?_;refine Qj ((k+1:Nat):Int) (by show((k:Nat):Int)+1=_;omega) (by omega) ?_;exact⟨(k+1,best,o),rfl,⟨dk,Xn,by show best<=k+1;omega,by show -((k+1:Nat):Int)<=o;omega,by show o<=((k+1:Nat):Int);omega,Zt⟩,by show mn-(k+1)<mn-k;omega⟩
   ·rw[if_neg Xu] at QE;refine Xc (by rw[Zn (λhh=>Xu (aX.1 hh))];rfl) ?_;exact⟨by rw[<-QE],dk⟩
  | true=>
   refine Xc rfl ?_;refine XL Qa (Ext w1.drew) 18 [(true,0),(true,1),(true,2),(true,3),(true,4),(true,5),(true,6),(true,7),(true,8),(true,9),(true,10),(true,11),(true,12),(true,13),(true,14),(true,15),(true,16),(true,17)] (by kernel_rfl) (Ext.drew w1.drew) ?_;refine Qj ((a.length-1:Nat):Int) (by omega) (by omega) ?_;refine Qj ((a.length-1-k:Nat):Int) (by omega) (by omega) ?_;refine Vr ((h.ext Qd).ext (Ext.drew w1)) (by omega) (λad u FP hu Xy=>?_);rw[iP (show a[a.length-1-k]? =some x from KP)] at hu;cases hu;refine QQ (v:=.string (Qf (x++ [10]))) (λw' Qb=>Qb.cell Xy) ?_;refine Qj ((b.length-1:Nat):Int) (by omega) (by omega) ?_;refine Qj ((b.length-1-k:Nat):Int) (by omega) (by omega) ?_;refine Vr ((h'.ext Qd).ext (Ext.drew w1)) (by omega) (λad u FP hu Xy=>?_);rw[iP (show b[b.length-1-k]? =some y from sY)] at hu;cases hu;refine QQ (v:=.string (Qf (y++ [10]))) (λw' Qb=>Qb.cell Xy) ?_;have dk:=(Qd.trans (Ext.drew w1)).trans (Ext.drew _);have aX:(Qf (x++ [10])=Qf (y++ [10]))↔x=y:=⟨λhh=>by have:=Kg (gF Jt.1) (gF eG.1) hh;exact Gn this,λhh=>by rw[hh]⟩
   by_cases Xu:x=y
   ·rw[Qe Xu] at QE;refine Q7 (by simp[aX.2 Xu]) ?_;refine call (HV (x++ [10]) ZC _ (gF Jt.1) (by decide)) ?_;rintro _ _ ⟨rfl,rfl⟩;rw[T7];cases hp:ZC.isPrefixOf x with
    | true=>
     have hd:Vv x=1:=by unfold Vv;rw[Qe hp]
     refine Xc rfl ?_;refine Qj (o+1) rfl (by omega) ?_;have Zt:=QE;rw[hd] at Zt;by_cases h0:o+1=0
     ·rw[Qe h0] at Zt;refine J2 h0 ?_;refine Qj ((k+1:Nat):Int) (by show((k:Nat):Int)+1=_;omega) (by omega) ?_;refine Qj ((k+1:Nat):Int) (by show((k:Nat):Int)+1=_;omega) (by omega) ?_;exact⟨(k+1,k+1,o+1),rfl,⟨dk,Xn,QC _,by show -((k+1:Nat):Int)<=o+1;omega,by show o+1<=((k+1:Nat):Int);omega,Zt⟩,by show mn-(k+1)<mn-k;omega⟩
     ·rw[if_neg h0] at Zt;refine XG h0 ?_;refine Qj ((k+1:Nat):Int) (by show((k:Nat):Int)+1=_;omega) (by omega) ?_;exact⟨(k+1,best,o+1),rfl,⟨dk,Xn,by show best<=k+1;omega,by show -((k+1:Nat):Int)<=o+1;omega,by show o+1<=((k+1:Nat):Int);omega,Zt⟩,by show mn-(k+1)<mn-k;omega⟩
    | false=>
     refine Q7 rfl ?_;have QO:(Qf (x++ [10])=Qf (X6++ [10]))↔x=X6:=⟨λhh=>by have:=Kg (gF Jt.1) (by decide) hh;exact Gn this,λhh=>by rw[hh]⟩
     by_cases he:x=X6
     ·have hd:Vv x= -1:=by unfold Vv;rw[if_neg (by rw[hp];decide),Qe he]
      refine Zq (QO.2 he) ?_;refine Qj (o-1) rfl (by omega) ?_;have Zt:=QE;rw[hd,show o+(-1)=o-1 by omega] at Zt;by_cases h0:o-1=0
      ·rw[Qe h0] at Zt;refine J2 h0 ?_;refine Qj ((k+1:Nat):Int) (by show((k:Nat):Int)+1=_;omega) (by omega) ?_;refine Qj ((k+1:Nat):Int) (by show((k:Nat):Int)+1=_;omega) (by omega) ?_;exact⟨(k+1,k+1,o-1),rfl,⟨dk,Xn,QC _,by show -((k+1:Nat):Int)<=o-1;omega,by show o-1<=((k+1:Nat):Int);omega,Zt⟩,by show mn-(k+1)<mn-k;omega⟩
      ·rw[if_neg h0] at Zt;refine XG h0 ?_;refine Qj ((k+1:Nat):Int) (by show((k:Nat):Int)+1=_;omega) (by omega) ?_;exact⟨(k+1,best,o-1),rfl,⟨dk,Xn,by show best<=k+1;omega,by show -((k+1:Nat):Int)<=o-1;omega,by show o-1<=((k+1:Nat):Int);omega,Zt⟩,by show mn-(k+1)<mn-k;omega⟩
     ·have hd:Vv x=0:=by unfold Vv;rw[if_neg (by rw[hp];decide),if_neg he]
      refine XF (λhh=>he (QO.1 hh)) ?_;have Zt:=QE;rw[hd,show o+0=o by omega] at Zt;by_cases h0:o=0
      ·rw[Qe h0] at Zt;refine J2 h0 ?_;refine Qj ((k+1:Nat):Int) (by show((k:Nat):Int)+1=_;omega) (by omega) ?_;refine Qj ((k+1:Nat):Int) (by show((k:Nat):Int)+1=_;omega) (by omega) ?_;exact⟨(k+1,k+1,o),rfl,⟨dk,Xn,QC _,by show -((k+1:Nat):Int)<=o;omega,by show o<=((k+1:Nat):Int);omega,Zt⟩,by show mn-(k+1)<mn-k;omega⟩
      ·rw[if_neg h0] at Zt;refine XG h0 ?_;refine Qj ((k+1:Nat):Int) (by show((k:Nat):Int)+1=_;omega) (by omega) ?_;exact⟨(k+1,best,o),rfl,⟨dk,Xn,by show best<=k+1;omega,by show -((k+1:Nat):Int)<=o;omega,by show o<=((k+1:Nat):Int);omega,Zt⟩,by show mn-(k+1)<mn-k;omega⟩
   ·rw[if_neg Xu] at QE;refine Xc (by rw[Zn (λhh=>Xu (aX.1 hh))];rfl) ?_;exact⟨by rw[<-QE],dk⟩
 ·have Xn:k=mn:=by simp only at c1;omega
  subst Xn;refine⟨?_,Qd⟩;rcases XD with e | e
  ·rw[qg (by omega),kQv] at QE;rw[<-QE]
  ·rw[qg (show(bw back b).length<=k by omega),kQw] at QE;rw[<-QE]
theorem cU (ls:List (List Nat)):∀u∈X9 ls,JF u=true:=λu hu=>by
 unfold X9 at hu;obtain⟨s,_,rfl⟩:=ZG.1 hu;rfl
theorem kQx (ls:List (List Nat))(A:Option Addr)(n c:Nat)(w:World)(h:Sl w 1 A n c (X9 ls))(hn:n<=1000000000):
  Fn Tryz.prog 172 [.slice A n c] w (λu w'=>∃A' c',u= .slice A' n c'/\Ext w w'/\Own w' w.heap.size 9 1 A' n c' (X9 ls)):=by
 have hl:ls.length=n:=by have:=h.len;rw[bn] at this;omega
 refine QH (c:={fQy with cuts:=[]}) Qa Tryz.func172 rfl rfl rfl ?_;cases A with
 | none=>
  have h0:n=0:=Classical.byContradiction (λhh=>by obtain⟨ad,e,_⟩:=h.at_ (by omega);cases e);subst h0;have Vg:ls=[]:=Wx hl;subst Vg;refine Xc rfl ?_;exact⟨none,0,rfl,Ext.refl _,Own.nil _ _ _ _⟩
 | some a=>
  refine Q7 rfl ?_;refine Xw Qa [] rfl rfl rfl rfl rfl ⟨⟩ rfl (λcs h=>by cases h) rfl (by decide) (by decide) ?_;intro w1 Qd Q9 Qh;have hO1:Own w1 w.heap.size 9 1 (some ⟨w.heap.size,0,none⟩) 0 0 []:=Own.empty Qh (QC _);refine JH (n:=0) Qa rfl rfl rfl rfl rfl (by decide) rfl rfl ⟨_,rfl⟩ rfl rfl hO1 (h.ext Qd) (cU ls) (by unfold maxLen;omega) (by show(0+n)*16<=_;omega) (by omega) ?_;intro A' c' w2 XR eo oU;rw[a8,aZ] at eo;refine⟨A',c',by rw[a8],XR.ext Qd (λk hk=>(hO1.rows k hk).1),eo⟩
theorem IC (ls:List (List Nat))(k:Nat):(J7 ls).take k=J7 (ls.take k):=by simp[J7,X9,List.map_take]
theorem aQw (ls:List (List Nat))(k:Nat):(J7 ls).drop k=J7 (ls.drop k):=by simp[J7,X9,List.map_drop]
theorem kQy (a b:List (List Nat)):J7 (a++b)=J7 a++J7 b:=by simp[J7,X9]
theorem aQx {c:Cx}(hg:c.g.Ok){o:Oper}{S:Env}{C:World->Prop}{K:Env->Prop}{t e:Nat}{x y:Operand}{A:Option Addr}{n cp:Nat}{h:Nat}{r:TyRow}(ho:o.op= .slice t x none (some y) none)(hr:QU c.g.tys t=some r)(hd:r.d= .slice e){re:TyRow}(X8:QU c.g.tys e=some re)
  (hx:S.ev x=some (.slice A n cp)) (hy:S.ev y=some (.int .i64 h)) (hh:h<=cp)
  (k:Xh c S o.dst (.v (.slice A h cp)) K):cH c o S C K:=by
 have Q4:=(hg.row hr).1;rw[hd] at Q4;unfold cH;refine⟨_,λa w hf _=>?_,k⟩;have e1:=hf.ev hx;have e2:=hf.ev hy;simp[execOp,ho,e1,e2,Instr.sliceAt,Instr.slice,ZX Q4,Instr.sliceBounds,Instr.sliceBound,asIntOf,hh,run_sizeOf hg X8];intro _;cases A<;>simp[Addr.add]
theorem aQy {c:Cx}(hg:c.g.Ok){o:Oper}{S:Env}{C:World->Prop}{K:Env->Prop}{t e:Nat}{x y:Operand}{A:Option Addr}{n cp:Nat}{l:Nat}{r:TyRow}(ho:o.op= .slice t x (some y) none none)(hr:QU c.g.tys t=some r)(hd:r.d= .slice e){re:TyRow}(X8:QU c.g.tys e=some re)
  (hx:S.ev x=some (.slice A n cp)) (hy:S.ev y=some (.int .i64 l)) (hl:l<=n)
  (k:Xh c S o.dst (.v (.slice (if cp=l then A else A.map (·.add (l*re.sz))) (n-l) (cp-l))) K):cH c o S C K:=by
 have Q4:=(hg.row hr).1;rw[hd] at Q4;unfold cH;refine⟨_,λa w hf _=>?_,k⟩;have e1:=hf.ev hx;have e2:=hf.ev hy;simp[execOp,ho,e1,e2,Instr.sliceAt,Instr.slice,ZX Q4,Instr.sliceBounds,Instr.sliceBound,asIntOf,hl,run_sizeOf hg X8]
structure Lo (w0 w:World) (O:Option Addr) (n oc:Nat) (ls:List (List Nat)):Prop where
 e:Ext w0 w
 ow:Own w w0.heap.size 9 1 O n oc (J7 ls)
theorem Lo.ext {w0 w w':World}{O:Option Addr}{n oc:Nat}{ls:List (List Nat)}(h:Lo w0 w O n oc ls)(k:Ext w w'):Lo w0 w' O n oc ls:=⟨h.e.trans k,h.ow.ext k⟩
theorem Lo.app {w0 w w':World}{O O':Option Addr}{n m oc oc':Nat}{ls ys:List (List Nat)}(h:Lo w0 w O n oc ls)(hm:Mod (Ql O) w w')(ho:Own w' w0.heap.size 9 1 O' (n+m) oc' (J7 ls++J7 ys)):Lo w0 w' O' (n+m) oc' (ls++ys):=
 ⟨hm.ext h.e (λk hk=>(h.ow.rows k hk).1),by rw[kQy];exact ho⟩
theorem Lo.len {w0 w:World}{O:Option Addr}{n oc:Nat}{ls:List (List Nat)}(h:Lo w0 w O n oc ls):ls.length=n:=by have:=h.ow.sl.len;rw[C9] at this;omega
theorem j6 {w:World}{A:Option Addr}{n c:Nat}{ls:List (List Nat)}(h:Sl w 1 A n c (J7 ls)):ls.length=n:=by have:=h.len;rw[C9] at this;omega
theorem Lo.fin {w w0 w1:World}{O:Option Addr}{n oc:Nat}{ls:List (List Nat)}(hE:Ext w w0)(h:Lo w0 w1 O n oc ls):uF w (.slice O n oc) (ls.map (·++ [10])) w1:=⟨O,oc,by rw[JR,h.len],hE.trans h.e,by rw[JR,h.len];exact⟨h.ow.sl,λh0=>by obtain⟨g,sp,hA,_⟩:=h.ow.blk h0;exact⟨g,0,hA⟩⟩⟩
def fe (nm:List (List Nat))(v:Nat):List Nat:=(nm[v]?).getD []
theorem kQz (nm:List (List Nat))(v:Nat)(H L:List (List Nat))(A B:Option Addr)(n c m d:Nat)(w:World)(h:Sl w 1 A n c (J7 H))(h':Sl w 1 B m d (J7 L))(hH:lT H)(hL:lT L)(hv:(fe nm v).length<=1000000000)(hn:n<=100000000)(hm:m<=100000000):
  Fn Tryz.prog 118 [.string (Qf (fe nm v)),.slice A n c,.slice B m d] w (λu w'=>uF w u ((W3 nm v H L).map (·++ [10])) w'):=by
 have hHl:=j6 h;have O9:=j6 h';refine QH (c:={eQW with cuts:=[]}) Qa Tryz.func118 rfl rfl rfl ?_;have Ec:=aQv H L A B n c m d false w h h' hH hL (by omega);have Eb:Yk (bw false H) (bw false L)=Yk H L:=rfl;rw[Eb] at Ec;refine call Ec ?_;rintro _ w1 ⟨rfl,Qd⟩;obtain⟨p1,p2,_,_,_⟩:=Cw H L;have KB:W3 nm v H L=W3 nm v H L:=rfl;unfold W3 at KB;simp only at KB;generalize hp:Yk H L=p at*;have ZL:=h.le;have qQG:=h'.le;refine jO Qa rfl rfl rfl rfl rfl rfl (by omega) ?_;have ht:=(h.ext Qd).take (m:=p) (by omega);rw[ga,IC] at ht;refine call (kQx ((H.take p).map (·++ [10])) A p c w1 ht (by omega)) ?_;rintro _ w2 ⟨O,oc,rfl,Qg,hO2⟩;have lo:Lo w1 w2 O p oc (H.take p):=⟨Qg,hO2⟩
 have q1:=(h.ext Qd).from (l:=p) (by omega)
 have q2:=(h'.ext Qd).from (l:=p) (by omega)
 rw[aQw] at q1 q2;refine XL Qa (Ext w2) 8 [(true,0),(true,1),(true,2),(true,3),(true,4),(true,5),(true,6),(true,7)] (by kernel_rfl) (Ext.drew w2) ?_;refine aQy Qa rfl rfl rfl rfl rfl rfl (by omega) ?_;refine aQy Qa rfl rfl rfl rfl rfl rfl (by omega) ?_;have M0:=lo.ext (Ext.drew w2);have hDl:(H.drop p).length=n-p:=by rw[YR];omega
 have hDm:(L.drop p).length=m-p:=by rw[YR];omega
 have bD:∀{X:List (List Nat)} {k:Nat},lT X->lT (X.drop k):=λhX s hs=>hX s (au hs)
 have Yr:=aQv (H.drop p) (L.drop p) _ _ _ _ _ _ true w2.drew (q1.ext M0.e) (q2.ext M0.e) (bD hH) (bD hL) (by omega);have DB:Yk (bw true (H.drop p)) (bw true (L.drop p))=W0 (H.drop p) (L.drop p):=rfl;rw[DB] at Yr;refine call Yr ?_;rintro _ w3 ⟨rfl,Qi⟩;have lo3:=M0.ext Qi;obtain⟨s1,s2,_⟩:=HS (H.drop p) (L.drop p);generalize hs:W0 (H.drop p) (L.drop p)=s at*;have hcA:p<=c:=by omega
 refine Qj ((n-p-s:Nat):Int) (by omega) (by omega) ?_;refine Rz Qa rfl rfl rfl rfl rfl rfl (by omega) ?_;refine XL Qa (Ext w3) 14 [(true,0),(true,1),(true,2),(true,3),(true,4),(true,5),(true,6),(true,7),(true,8),(true,9),(true,10),(true,11),(true,12),(true,13)] (by kernel_rfl) (Ext.drew w3) ?_;refine Qj ((n-p-s:Nat):Int) (by omega) (by omega) ?_;refine aQx Qa rfl rfl rfl rfl rfl rfl (by omega) ?_;refine Qj ((m-p-s:Nat):Int) (by omega) (by omega) ?_;refine aQx Qa rfl rfl rfl rfl rfl rfl (by omega) ?_;have lo4:=lo3.ext (Ext.drew w3);have r1:=q1.take (m:=n-p-s) (by omega);have r2:=q2.take (m:=m-p-s) (by omega);have rE:=q1.from (l:=n-p-s) (by omega)
 rw[ga (n-p-s),IC] at r1;rw[ga (m-p-s),IC] at r2;rw[aQw] at rE;have hj:W3 nm v H L=H.take p++((if(H.drop p).take (n-p-s)=[] then JV nm v true::(L.drop p).take (m-p-s)else JV nm v false::((H.drop p).take (n-p-s)++if(L.drop p).take (m-p-s)=[] then [] else Ku::(L.drop p).take (m-p-s)))++X6::(H.drop p).drop (n-p-s)):=by
  unfold W3;simp only[hp,hs,hDl,hDm]
 have lH2:=j6 r1;have lL2:=j6 r2;have lE:=j6 rE;generalize (H.drop p).take (n-p-s)=H2 at*;generalize (L.drop p).take (m-p-s)=L2 at*;generalize (H.drop p).drop (n-p-s)=E at*;have kP:=Xi (fe nm v);have h1s:(Qf [10]).size=1:=rfl;refine Zd (λc7=>?_) (λc7=>?_)
 ·have e2:H2=[]:=Wx (by omega);rw[Qe e2] at hj;have mv:=Xi (ZC++(33::fe nm v));refine XM (v':=.string (Qf (ZC++(33::fe nm v)))) (by show(Qf [35,105,102,32,33]).size+_<=_;rw[Xi,kP];show 5+_<=_;unfold maxLen;omega) (by show Value.string (Qf (ZC++ [33])++Qf (fe nm v))=_;rw[ZY];rfl) ?_;refine XM (v':=.string (Qf (JV nm v true++ [10]))) (by rw[mv];show _+1<=_;simp[ZC];unfold maxLen;omega) (by show Value.string (Qf (ZC++(33::fe nm v))++Qf [10])=_;rw[ZY];rfl) ?_;refine Xw Qa [[Value.string (Qf (JV nm v true++ [10]))]] rfl rfl rfl rfl rfl ⟨rfl,rfl,⟨⟩⟩ rfl (λcs h=>by simp only[QL] at h;subst h;rfl) rfl (by decide) (by decide) ?_;intro wxa Pa oQ7 Pb;have sxa:Sl wxa 1 _ 1 1 (J7 [JV nm v true]):=Sl.own' (n:=1) Pb rfl (by decide);have lya:=lo4.ext Pa;have lza:=lya.len;refine JH Qa rfl rfl rfl rfl rfl (by decide) rfl rfl ⟨_,rfl⟩ rfl rfl lya.ow sxa (cU _) (by unfold maxLen;omega) (by show(_+1)*16<=_;omega) lya.e.size ?_;intro Oa oca wa Pd Pe _;have loa:=lya.app Pd Pe;refine JH Qa rfl rfl rfl rfl rfl (by decide) rfl rfl ⟨_,rfl⟩ rfl rfl loa.ow (r2.ext loa.e) (cU _) (by unfold maxLen;omega) (by show(_+_)*16<=_;omega) loa.e.size ?_;intro Ob ocb wb Pf Pg _;have lob:=loa.app Pf Pg;refine Xw Qa [[Value.string (Qf (X6++ [10]))]] rfl rfl rfl rfl rfl ⟨rfl,rfl,⟨⟩⟩ rfl (λcs h=>by simp only[QL] at h;subst h;rfl) rfl (by decide) (by decide) ?_;intro wxc AI dQy AJ;have sxc:Sl wxc 1 _ 1 1 (J7 [X6]):=Sl.own' (n:=1) AJ rfl (by decide);have lyc:=lob.ext AI;have lzc:=lyc.len;refine JH Qa rfl rfl rfl rfl rfl (by decide) rfl rfl ⟨_,rfl⟩ rfl rfl lyc.ow sxc (cU _) (by unfold maxLen;omega) (by show(_+1)*16<=_;omega) lyc.e.size ?_;intro Oc occ wc wh AK _;have loc:=lyc.app wh AK;refine JH Qa rfl rfl rfl rfl rfl (by decide) rfl rfl ⟨_,rfl⟩ rfl rfl loc.ow (rE.ext loc.e) (cU _) (by unfold maxLen;omega) (by show(_+_)*16<=_;omega) loc.e.size ?_;intro Od ocd wd bM AL _;have lod:=loc.app bM AL;have fin:=lod.fin Qd;have e9:((((H.take p++ [JV nm v true])++L2)++ [X6])++E)=W3 nm v H L:=by rw[hj];simp
  rw[e9] at fin;exact fin
 ·have e2:H2≠ []:=λe=>c7 (by subst e;simp at lH2;omega)
  rw[if_neg e2] at hj;have mv:=Xi (ZC++fe nm v);refine XM (v':=.string (Qf (ZC++fe nm v))) (by show(Qf [35,105,102,32]).size+_<=_;rw[Xi,kP];show 4+_<=_;unfold maxLen;omega) (by show Value.string (Qf ZC++Qf (fe nm v))=_;rw[ZY]) ?_;refine XM (v':=.string (Qf (JV nm v false++ [10]))) (by rw[mv];show _+1<=_;simp[ZC];unfold maxLen;omega) (by show Value.string (Qf (ZC++fe nm v)++Qf [10])=_;rw[ZY];rfl) ?_;refine Xw Qa [[Value.string (Qf (JV nm v false++ [10]))]] rfl rfl rfl rfl rfl ⟨rfl,rfl,⟨⟩⟩ rfl (λcs h=>by simp only[QL] at h;subst h;rfl) rfl (by decide) (by decide) ?_;intro wxa Pa oQ7 Pb;have sxa:Sl wxa 1 _ 1 1 (J7 [JV nm v false]):=Sl.own' (n:=1) Pb rfl (by decide);have lya:=lo4.ext Pa;have lza:=lya.len;refine JH Qa rfl rfl rfl rfl rfl (by decide) rfl rfl ⟨_,rfl⟩ rfl rfl lya.ow sxa (cU _) (by unfold maxLen;omega) (by show(_+1)*16<=_;omega) lya.e.size ?_;intro Oa oca wa Pd Pe _;have loa:=lya.app Pd Pe;refine JH Qa rfl rfl rfl rfl rfl (by decide) rfl rfl ⟨_,rfl⟩ rfl rfl loa.ow (r1.ext loa.e) (cU _) (by unfold maxLen;omega) (by show(_+_)*16<=_;omega) loa.e.size ?_;intro Ob ocb wb Pf Pg _;have lob:=loa.app Pf Pg;refine Qz (λc8=>?_) (λc8=>?_)
  ·have e3:L2≠ []:=λe=>by subst e;simp at lL2;omega
   rw[if_neg e3] at hj;refine Xw Qa [[Value.string (Qf (Ku++ [10]))]] rfl rfl rfl rfl rfl ⟨rfl,rfl,⟨⟩⟩ rfl (λcs h=>by simp only[QL] at h;subst h;rfl) rfl (by decide) (by decide) ?_;intro wxc AI dQy AJ;have sxc:Sl wxc 1 _ 1 1 (J7 [Ku]):=Sl.own' (n:=1) AJ rfl (by decide);have lyc:=lob.ext AI;have lzc:=lyc.len;refine JH Qa rfl rfl rfl rfl rfl (by decide) rfl rfl ⟨_,rfl⟩ rfl rfl lyc.ow sxc (cU _) (by unfold maxLen;omega) (by show(_+1)*16<=_;omega) lyc.e.size ?_;intro Oc occ wc wh AK _;have loc:=lyc.app wh AK;refine JH Qa rfl rfl rfl rfl rfl (by decide) rfl rfl ⟨_,rfl⟩ rfl rfl loc.ow (r2.ext loc.e) (cU _) (by unfold maxLen;omega) (by show(_+_)*16<=_;omega) loc.e.size ?_;intro Od ocd wd bM AL _;have lod:=loc.app bM AL;refine Xw Qa [[Value.string (Qf (X6++ [10]))]] rfl rfl rfl rfl rfl ⟨rfl,rfl,⟨⟩⟩ rfl (λcs h=>by simp only[QL] at h;subst h;rfl) rfl (by decide) (by decide) ?_;intro wxe oQ8 qQH oQ9;have sxe:Sl wxe 1 _ 1 1 (J7 [X6]):=Sl.own' (n:=1) oQ9 rfl (by decide);have lye:=lod.ext oQ8;have lze:=lye.len;refine JH Qa rfl rfl rfl rfl rfl (by decide) rfl rfl ⟨_,rfl⟩ rfl rfl lye.ow sxe (cU _) (by unfold maxLen;omega) (by show(_+1)*16<=_;omega) lye.e.size ?_;intro Oe oce we pV pQa _;have loe:=lye.app pV pQa;refine JH Qa rfl rfl rfl rfl rfl (by decide) rfl rfl ⟨_,rfl⟩ rfl rfl loe.ow (rE.ext loe.e) (cU _) (by unfold maxLen;omega) (by show(_+_)*16<=_;omega) loe.e.size ?_;intro Of ocf wf hmf pQb _;have lof:=loe.app hmf pQb;have fin:=lof.fin Qd;have e9:((((((H.take p++ [JV nm v false])++H2)++ [Ku])++L2)++ [X6])++E)=W3 nm v H L:=by rw[hj];simp
   rw[e9] at fin;exact fin
  ·have e3:L2=[]:=Wx (by omega);rw[Qe e3] at hj;refine Xw Qa [[Value.string (Qf (X6++ [10]))]] rfl rfl rfl rfl rfl ⟨rfl,rfl,⟨⟩⟩ rfl (λcs h=>by simp only[QL] at h;subst h;rfl) rfl (by decide) (by decide) ?_;intro wxc AI dQy AJ;have sxc:Sl wxc 1 _ 1 1 (J7 [X6]):=Sl.own' (n:=1) AJ rfl (by decide);have lyc:=lob.ext AI;have lzc:=lyc.len;refine JH Qa rfl rfl rfl rfl rfl (by decide) rfl rfl ⟨_,rfl⟩ rfl rfl lyc.ow sxc (cU _) (by unfold maxLen;omega) (by show(_+1)*16<=_;omega) lyc.e.size ?_;intro Oc occ wc wh AK _;have loc:=lyc.app wh AK;refine JH Qa rfl rfl rfl rfl rfl (by decide) rfl rfl ⟨_,rfl⟩ rfl rfl loc.ow (rE.ext loc.e) (cU _) (by unfold maxLen;omega) (by show(_+_)*16<=_;omega) loc.e.size ?_;intro Od ocd wd bM AL _;have lod:=loc.app bM AL;have fin:=lod.fin Qd;have e9:((((H.take p++ [JV nm v false])++H2)++ [X6])++E)=W3 nm v H L:=by rw[hj];simp
   rw[e9] at fin;exact fin
theorem kQA {a b:List Nat}(h:Qf (a++ [10])=Qf (b++ [10]))(ha:∀x∈a,x<256)(hb:∀x∈b,x<256):a=b:=Gn (Kg (gF ha) (gF hb) h)
theorem kQB {α:Type}{l l':List α}{n:Nat}(h1:l.length=n)(h2:l'.length=n)(h:∀j,j<n->l[j]? =l'[j]?):l=l':=by
 refine Bc (λj=>?_);by_cases hj:j<n
 ·exact h j hj
 ·rw[nA (by omega),nA (by omega)]
theorem kQC (A B:Option Addr)(n c m e:Nat)(l l':List (List Nat))(w:World)(h:Sl w 1 A n c (J7 l))(h':Sl w 1 B m e (J7 l'))(hb:lT l)(hb':lT l'):
  Fn Tryz.prog 117 [.slice A n c,.slice B m e] w (λv w'=>v= .bool (decide (l=l'))/\Ext w w'):=by
 have hl:=j6 h;have dv:=j6 h';have bI:n<=9223372036854775807:=by have:=h.le;have:=h.cap;simp only[maxLen] at this;omega
 refine QH (c:={eQV with cuts:=[]}) Qa Tryz.func117 rfl rfl rfl ?_;refine YE (λh1=>?_) (λh1=>?_)
 ·exact⟨by rw[Zn (λe=>by subst e;omega)],Ext.refl w⟩
 refine loop Qa [13] (λs:Nat=>[.int .i64 s]) (λs w'=>Ext w w'/\s<=n/\∀j,j<s->l[j]? =l'[j]?) (λs _=>n-s) 0 rfl ⟨Ext.refl w,Xt _,λj hj=>Xd hj (by omega)⟩ ?_;rintro s w1 ⟨Qd,hs,hall⟩;refine Qz (λh2=>?_) (λh2=>?_)
 ·have aV:s<n:=by omega
  obtain⟨x,hx⟩:∃x,l[s]? =some x:=⟨_,XB (by omega)⟩
  obtain⟨y,hy⟩:∃y,l'[s]? =some y:=⟨_,XB (by omega)⟩
  refine XL Qa (Ext w1) 9 [(true,0),(true,1),(true,2),(true,3),(true,4),(true,5),(true,6),(true,7),(true,8)] (by kernel_rfl) (Ext.drew w1) ?_;refine Vr (h.ext Qd) aV (λad u hA hu Xy=>?_);rw[iP hx] at hu;cases hu;refine QQ (v:=.string (Qf (x++ [10]))) (λw' Qb=>Qb.cell Xy) ?_;refine Vr (h'.ext Qd) (by omega) (λad u hA hu Xy=>?_);rw[iP hy] at hu;cases hu;refine QQ (v:=.string (Qf (y++ [10]))) (λw' Qb=>Qb.cell Xy) ?_;have dz:=Qd.trans (Ext.drew w1);have Jt:=hb x (Xk hx);have eG:=hb' y (Xk hy);by_cases Xu:x=y
  ·refine Q7 (by rw[Xu];simp) ?_;refine Qj ((s+1:Nat):Int) (by show((s:Nat):Int)+1=_;omega) (by omega) ?_;refine⟨s+1,rfl,⟨dz,by omega,λj hj=>?_⟩,by show n-(s+1)<n-s;omega⟩;by_cases Y5:j<s
   ·exact hall j Y5
   ·have:j=s:=by omega
    subst this;rw[hx,hy,Xu]
  ·refine Xc (by rw[Zn (λhh=>Xu (kQA hh Jt.1 eG.1))];rfl) ?_;refine⟨?_,dz⟩;rw[Zn (λe=>Xu (by subst e;rw[hx] at hy;exact Option.some.inj hy))]
 ·refine⟨?_,Qd⟩;rw[X2 (kQB hl (by omega) (λj hj=>hall j (by omega)))]
theorem kQD {nm:List (List Nat)}{v:Nat}{H L:List (List Nat)}{P:List Nat->Prop}(hH:∀s∈H,P s)(hL:∀s∈L,P s)(h1:∀ng,P (JV nm v ng))(h2:P Ku)(h3:P X6):∀s∈W3 nm v H L,P s:=by
 intro s hs;unfold W3 at hs;simp only at hs;have t:∀{X:List (List Nat)} {a b:Nat},(∀s∈X,P s)->∀s∈(X.drop a).take b,P s:=λh s hs=>h s (au (bf hs))
 generalize W0 (H.drop (Yk H L)) (L.drop (Yk H L))=q at*;generalize Yk H L=p at*;rcases Xv.1 hs with hs | hs
 ·exact hH s (bf hs)
 rcases Xv.1 hs with hs | hs
 ·split at hs
  ·rcases Q3.1 hs with rfl | hs
   ·exact h1 true
   ·exact t hL s hs
  ·rcases Q3.1 hs with rfl | hs
   ·exact h1 false
   rcases Xv.1 hs with hs | hs
   ·exact t hH s hs
   split at hs
   ·cases hs
   ·rcases Q3.1 hs with rfl | hs
    ·exact h2
    ·exact t hL s hs
 ·rcases Q3.1 hs with rfl | hs
  ·exact h3
  ·exact hH s (au (au hs))
theorem kQE (nm:List (List Nat))(v:Nat)(H L:List (List Nat)):(W3 nm v H L).length<=H.length+L.length+3:=by
 obtain⟨p1,p2,_⟩:=Cw H L;obtain⟨q1,q2,_⟩:=HS (H.drop (Yk H L)) (L.drop (Yk H L));unfold W3;simp only;generalize W0 (H.drop (Yk H L)) (L.drop (Yk H L))=q at*;generalize Yk H L=p at*;rw[YR] at q1 q2;split
 ·simp only[Qq,Q6,K5,YR];omega
 ·split
  ·simp only[Qq,Q6,K5,YR,Ji];omega
  ·simp only[Qq,Q6,K5,YR];omega
theorem rq {nm:List (List Nat)}{f:Nat->List Nat}{P:List Nat->Prop}{M:Nat}(h1:∀v ng,P (JV nm v ng))(h2:P Ku)(h3:P X6):∀(k v:Nat)(l:List Nat),l≠ []->(∀c∈l,(∀s∈QW (f c),P s)/\(QW (f c)).length<=M)->
  (∀s∈X0 nm f k v l,P s)/\(X0 nm f k v l).length+3<=l.length*(M+3)
 | 0,v,l,hl,hp=>by
  have h0:=hp _ (uJ hl);rw[X0];have:1<=l.length:=Gk.2 hl;have:=Y8 (M+3) this;exact⟨h0.1,by have:=h0.2;omega⟩
 | k+1,v,l,hl,hp=>by
  rw[rj hl];split
  ·exact rq h1 h2 h3 k (v+1) l hl hp
  ·rename_i h;have n1:l.filter (λc=> !c.testBit v)≠ []:=λe=>h (.inl e)
   have n2:l.filter (λc=>c.testBit v)≠ []:=λe=>h (.inr e)
   have Q0:(l.filter (λc=>c.testBit v)).length+(l.filter (λc=> !c.testBit v)).length=l.length:=by
    clear h hl hp n1 n2;induction l with
    | nil=>rfl
    | cons a l ih=>by_cases e:a.testBit v=true<;>simp[gh,e]<;>omega
   obtain⟨a1,a2⟩:=rq h1 h2 h3 (P:=P) (M:=M) k (v+1) _ n1 (λc hc=>hp c (Jc.1 hc).1);obtain⟨b1,b2⟩:=rq h1 h2 h3 (P:=P) (M:=M) k (v+1) _ n2 (λc hc=>hp c (Jc.1 hc).1);have An:l.length*(M+3)=(l.filter (λc=>c.testBit v)).length*(M+3)+(l.filter (λc=> !c.testBit v)).length*(M+3):=by rw[<-nz,Q0]
   split
   ·exact⟨b1,by omega⟩
   ·refine⟨kQD b1 a1 (h1 v) h2 h3,?_⟩;have:=kQE nm v (X0 nm f k (v+1) (l.filter (λc=>c.testBit v))) (X0 nm f k (v+1) (l.filter (λc=> !c.testBit v)));omega
end
section
inductive PT where
 | done
 | skip
 | quiet (k:Nat) (t:PT)
 | fork (k:Nat) (t o:PT)
def PT.alts:PT->List Nat
 | .fork k _ o=>k::o.alts
 | _=>[]
def J8 (md:Region.Mode)(ops:Array Oper)(n:Nat):PT->Bool->Nat->Array Bool->Bool
 | .done,inch,m,listed=> !inch&&Nat.beq m 0&&Region.seqB md ops (ops.size-n) n listed
 | .skip,inch,_,_=>inch
 | .quiet _ _,_,0,_=>false
 | .quiet k t,inch,m+1,listed=> !inch&&(Nat.blt k n&&(Region.ready md ops listed).contains k&&Region.free md ops listed k&&J8 md ops n t false m (listed.setIfInBounds k true))
 | .fork _ _ _,_,0,_=>false
 | .fork k t o,inch,m+1,listed=>(inch||decide (Region.ready md ops listed=k::o.alts))&&(Nat.blt k n&&J8 md ops n t false m (listed.setIfInBounds k true))&&J8 md ops n o true (m+1) listed
def lU (c:Cx)(all:List Oper)(C:World->Prop):PT->Env->World->(Env->World->Prop)->Prop
 | .done,S,w,K=>K S w
 | .skip,_,_,_=>True
 | .quiet k t,S,w,K=>match K6 all k with
  | some o=>gp all o S (λS=>qD c o S C (λS=>lU c all C t S w K)) (λS=>Xh c S o.dst (.v undef) (λS=>lU c all C t S w K))
  | none=>False
 | .fork k t o,S,w,K=>(match K6 all k with
  | some op=>gp all op S (λS=>dI c op S w (λS w=>C w/\lU c all C t S w K) (λ_ _ _=>False)) (λS=>Xh c S op.dst (.v undef) (λS=>lU c all C t S w K))
  | none=>False)/\lU c all C o S w K
section
variable {c:Cx} {S:Env} {a:Act}
theorem x9 (hg:c.g.Ok){md:Region.Mode}{ops:List Oper}{C:World->Prop}{Q:Exit->Act->World->Prop}{n:Nat}(hs:Region.noSelect ops.toArray=true)(hk:jP md ops.toArray n){K:Env->World->Prop}:
  ∀(t:PT) (m:Nat) (listed:Array Bool) (S:Env) (a:Act) (w:World),HeadInv md ops.toArray n listed->lU c ops C t S w K->Fits c.N S a->C w->
  (J8 md ops.toArray n t false m listed=true->Yf c.g.P md ops.toArray (NoPan Q) C n (λJo a' w'=>Region.seqB md ops.toArray (ops.toArray.size-n) n Jo=true/\∃S',Fits c.N S' a'/\K S' w') m listed a w)/\
  (∀m',m=m'+1->J8 md ops.toArray n t true m listed=true->(∀i∈t.alts,i∈Region.ready md ops.toArray listed)->∀i∈t.alts,i<n/\wpOp c.g.P ops.toArray (NoPan Q) i (λa' w'=>C w'/\Yf c.g.P md ops.toArray (NoPan Q) C n (λJo a' w'=>Region.seqB md ops.toArray (ops.toArray.size-n) n Jo=true/\∃S',Fits c.N S' a'/\K S' w') m' (listed.setIfInBounds i true) a' w') a w)
 | .done,m,listed,S,a,w,inv,h,hf,hC=>by
  refine⟨λhB=>?_,λm' hm hB=>?_⟩
  ·simp only[J8,Bool.not_false,bg,Z4] at hB;have:=VG hB.1;subst this;exact⟨hB.2,S,hf,h⟩
  ·simp[J8] at hB
 | .skip,m,listed,S,a,w,inv,h,hf,hC=>by
  refine⟨λhB=>?_,λm' hm hB _ i hi=>?_⟩
  ·simp[J8] at hB
  ·simp[PT.alts] at hi
 | .quiet k t,0,listed,S,a,w,inv,h,hf,hC=>by
  refine⟨λhB=>?_,λm' hm hB=>?_⟩
  ·simp[J8] at hB
  ·simp[J8] at hB
 | .quiet k t,m+1,listed,S,a,w,inv,h,hf,hC=>by
  refine⟨λhB=>?_,λm' hm hB=>?_⟩
  ·simp only[J8,Bool.not_false,bg,Z4] at hB;obtain⟨⟨⟨Xn,hr⟩,jl⟩,K2⟩:=hB;have Xn:k<n:=by rw[ii] at Xn;exact Xn
   have Q4:k∈Region.ready md ops.toArray listed:=by simpa using hr
   obtain⟨_,o,ho,_⟩:=mem_ready.1 Q4;have hn:K6 ops k=some o:=by rw[gm];simpa using ho
   simp only[lU,hn] at h;have key:∃v,YieldsIf c.g.P ops.toArray C o v a/\∃S',Fits c.N S' (a.put o.dst v)/\lU c ops C t S' w K:=by
    rcases jQ h hf with⟨hw,S1,Zh,h1⟩ | ⟨hw,S1,Zh,h1⟩
    ·obtain⟨v,h2,h3⟩:=wU hg h1 Zh;exact⟨v,.inl ⟨hw,h2⟩,h3⟩
    ·exact⟨undef,.inr ⟨hw,rfl⟩,Zy (e:=.v undef) h1 Zh⟩
   obtain⟨v,hy,S',QZ,h'⟩:=key;exact GL ho (Region.noSelect_spec hs) hk Xn (λJo a' w' hL=>seqB_ready hL.1) m listed a w inv (Region.free_spec ho jl) Q4 hy hC
    ((x9 hg hs hk t m _ S' _ w (inv.set Q4 Xn) h' QZ hC).1 K2)
  ·simp[J8] at hB
 | .fork k t o,0,listed,S,a,w,inv,h,hf,hC=>by
  refine⟨λhB=>?_,λm' hm hB=>?_⟩
  ·simp[J8] at hB
  ·simp[J8] at hB
 | .fork k t o,m+1,listed,S,a,w,inv,h,hf,hC=>by
  have key:(Nat.blt k n&&J8 md ops.toArray n t false m (listed.setIfInBounds k true))=true->J8 md ops.toArray n o true (m+1) listed=true->(∀i∈(PT.fork k t o).alts,i∈Region.ready md ops.toArray listed)->
    ∀i∈(PT.fork k t o).alts,i<n/\wpOp c.g.P ops.toArray (NoPan Q) i (λa' w'=>C w'/\Yf c.g.P md ops.toArray (NoPan Q) C n (λJo a' w'=>Region.seqB md ops.toArray (ops.toArray.size-n) n Jo=true/\∃S',Fits c.N S' a'/\K S' w') m (listed.setIfInBounds i true) a' w') a w:=by
   intro hB fX hall i hi;simp only[Z4] at hB;obtain⟨Xn,K2⟩:=hB;have Xn:k<n:=by rw[ii] at Xn;exact Xn
   simp only[PT.alts,Q3] at hi;have Q4:k∈Region.ready md ops.toArray listed:=hall k (by simp[PT.alts]);obtain⟨h1,h2⟩:=h;rcases hi with rfl | hi
   ·refine⟨Xn,?_⟩;obtain⟨_,op,ho,_⟩:=mem_ready.1 Q4;have hn:K6 ops i=some op:=by rw[gm];simpa using ho
    simp only[hn] at h1;have eE:=inv.set Q4 Xn;unfold wpOp;simp only[ho];rcases jQ h1 hf with⟨hw,S1,Zh,h3⟩ | ⟨hw,S1,Zh,h3⟩
    ·rw[Qe hw];refine .inl ?_;have h4:=qw hg h3 Zh;have h5:=Oper.wp_mono (K':=λa' w'=>C w'/\Yf c.g.P md ops.toArray (NoPan Q) C n (λJo a' w'=>Region.seqB md ops.toArray (ops.toArray.size-n) n Jo=true/\∃S',Fits c.N S' a'/\K S' w') m (listed.setIfInBounds i true) a' w')
      (λa' w' ⟨S',QZ,Z3,VZ⟩=>⟨Z3,(x9 hg hs hk t m _ S' a' w' eE VZ QZ Z3).1 K2⟩) h4
     unfold Oper.wp at h5 ⊢;generalize (execOp a.eval op).run c.g.P w=r at*;cases r with
     | ok nx w'=>
      cases nx<;>simp only[Oper.upon] at h5 ⊢ <;> try exact h5
      exact h5.mono λe Vc he=>by
       cases e with
       | returned v=>exact he
       | panicked ch=>obtain⟨_,_,he⟩:=he;exact he.elim
       | outgrown=>obtain⟨_,_,_,_,he⟩:=he;exact he.elim
     | halt x w'=>cases x<;>simp only[Oper.upon] at h5 ⊢ <;> first | exact h5 | (obtain⟨_,_,h5⟩:=h5;exact h5.elim)
    ·rw[if_neg (by rw[hw];decide)];obtain⟨S',QZ,h'⟩:=Zy (e:=.v undef) h3 Zh;exact⟨hC,(x9 hg hs hk t m _ S' _ w eE h' QZ hC).1 K2⟩
   ·exact(x9 hg hs hk o (m+1) listed S a w inv h2 hf hC).2 m rfl fX (λj hj=>hall j (by simp[PT.alts,hj])) i hi
  refine⟨λhB=>?_,λm' hm hB hall=>?_⟩
  ·simp only[J8,Bool.false_or,Z4,VJ] at hB;obtain⟨⟨hr,Qh⟩,Qv⟩:=hB;have Wl:Region.ready md ops.toArray listed=(PT.fork k t o).alts:=hr;refine⟨λh0=>(by rw[hr] at h0;cases h0),λi hi=>?_⟩;exact key (by simpa using Qh) Qv (λj hj=>by rw[Wl];exact hj) i (by rw[Wl] at hi;exact hi)
  ·simp only[J8,Bool.true_or,bg] at hB;rw[Z4] at hB;have ZP:m'=m:=by omega
   subst ZP;exact key hB.1 hB.2 hall
theorem ID (hg:c.g.Ok){id:Nat}{ops:List Oper}{w:World}{Q:Zj}(C:World->Prop)(n:Nat)(t:PT)
  (hB:(Region.noSelect ops.toArray&&qC .any ops.toArray n&&J8 .any ops.toArray n t false n (Array.replicate ops.toArray.size false))=true) (hC:C w.drew)
  (h:lU {c with named:=1000000} ops C t S w.drew (λS w=>YD c ops (ops.drop n) S w (λS w=>Q .normal S w) (λ_ _ _=>False))):WA c id ops S w Q:=by
 unfold WA;intro a hf;simp only[Z4] at hB;obtain⟨⟨hs,aU⟩,Jf⟩:=hB;have hk:=wT aU;have Fq:n<=ops.length:=by
  rcases hk with hk | hk
  ·rw[hk];simp
  ·have:=hk.1;simp at this;omega
 refine Code.wp_mono NoPan.imp (wp_region_any hg.mixed ?_);have mj:HeadInv .any ops.toArray n (Array.replicate ops.toArray.size false):=
  ⟨by simp,λj oj _ hl=>(by rw[getD_replicate_false] at hl;cases hl),λt _ ht=>getD_in (by simpa using ht) (getD_replicate_false _ _)⟩
 have H:=(x9 (c:={c with named:=1000000}) hg (Q:=Up c Q) hs hk t n _ S a _ mj h hf hC).1 Jf;have Yw:(ops.drop n).length=ops.toArray.size-n:=by simp
 have H2:=tQ (Q:=NoPan (Up c Q)) (g:=ops.toArray.size-n) (λJo a' w' hL=>by
  obtain⟨hq,S',QZ,VZ⟩:=hL;have h2:=jK (c:=c) hg ops _ _ _ _ VZ QZ;have:=wpAny_of_seq (P:=c.g.P) (md:=.any) (ops:=ops.toArray) (Q':=NoPan (Up c Q)) (ops.drop n) n Jo a' w' (λj=>by simp) (by rw[Yw];exact hq) (ld (λe a w hq=>by
   cases e with
   | normal=>exact hq
   | _=>exact Xd hq (by rintro⟨_,_,h⟩;exact h)) h2)
  rwa [Yw] at this) _ _ _ _ H
 rw[show n+(ops.toArray.size-n)=ops.toArray.size by simp;omega] at H2;exact H2
theorem aQz {α:Type}{id:Nat}{ops:List Oper}{w:World}{Q:Zj}(sl:List Nat)(val:α->List Value)(R:α->World->Prop)
  (hx:WX (eS (.region id ops.toArray true)) S [] (λS0=>WA c id ops S w (λe S2 w2=>match e with
   | .normal=>∃s,dK sl (val s) S0 (λT=>Has T S2)/\R s w2
   | e=>Q e S2 w2)))
  (hy:WX (eS (.region id ops.toArray true)) S [] (λS0=>∀s w',R s w'->dK sl (val s) S0 (λS1=>Q .normal S1 w'))):WA c id ops S w Q:=by
 rw[BH] at hx hy;unfold WA at*;intro a hf;generalize nI (eS (.region id ops.toArray true)) S []=S0 at*;have mT:∀s (K:Env->Prop),dK sl (val s) S0 K->K ((sl.zip ((val s).map Ent.v)).reverse++S0):=λs K h=>by
  obtain⟨T,rfl,hk⟩:=GH h;exact hk
 refine Code.wp_mono (λe a2 w2 hq=>?_) (hx a hf);obtain⟨S2,ZV,hq⟩:=hq;cases e with
 | normal=>
  obtain⟨s,hz,hR⟩:=hq;exact⟨_,(mT s _ hz).fits ZV,mT s _ (hy s w2 hR)⟩
 | exit i=>exact⟨S2,ZV,hq⟩
 | goto l=>exact⟨S2,ZV,hq⟩
 | ret=>exact⟨S2,ZV,hq⟩
 | panic ch=>exact⟨S2,ZV,hq⟩
 | outgrown=>exact⟨S2,ZV,hq⟩
end
end
section
def JK (p:DV×List Nat):List Value:=[.slice p.1.A p.1.n p.1.c,.int .i64 p.1.r,.string (Qf p.2)]
theorem IE (p:DV×List Nat):(JK p).length=3:=rfl
structure WP where
 pb:Nat
 wb:Nat
 nb:Nat
 PA:Option Addr
 pn:Nat
 pc:Nat
 NA:Option Addr
 nn:Nat
 nc:Nat
 nm:List (List Nat)
 ps:List (DV×List Nat)
def WP.caps (p:WP):List Value:=[.pointer (some ⟨p.pb,0,none⟩),.pointer (some ⟨p.wb,0,none⟩),.pointer (some ⟨p.nb,0,none⟩)]
def WP.clo (p:WP):Value:=.func (.func 116) #[] #[.pointer (some ⟨p.pb,0,none⟩),.pointer (some ⟨p.wb,0,none⟩),.pointer (some ⟨p.nb,0,none⟩)]
structure WK (w:World) (p:WP):Prop where
 pbb:Blk w p.pb 54 [.slice p.PA p.pn p.pc]
 wbb:Blk w p.wb 192 [p.clo]
 nbb:Blk w p.nb 37 [.slice p.NA p.nn p.nc]
 pss:SlS JK 3 w p.PA p.pn p.pc p.ps
 sbs:∀q∈p.ps,SB w q.1.A q.1.n q.1.c q.1.nd
 nms:Sl w 1 p.NA p.nn p.nc (X9 p.nm)
theorem WK.ext {w w':World}{p:WP}(h:WK w p)(k:Ext w w'):WK w' p:=⟨h.pbb.ext k,h.wbb.ext k,h.nbb.ext k,h.pss.ext k,λq hq=>(h.sbs q hq).ext k,h.nms.ext k⟩
def kQF (k:Nat)(wR:World)(oh ol:BF)(t:DV×DV×Nat×Nat)(w':World):Prop:=Ext wR w'/\Blk w' t.2.2.1 32 t.1.cells/\Blk w' t.2.2.2 32 t.2.1.cells/\SB w' t.1.A t.1.n t.1.c t.1.nd/\Set1 k t.1.nd t.1.r oh/\SB w' t.2.1.A t.2.1.n t.2.1.c t.2.1.nd/\Set1 k t.2.1.nd t.2.1.r ol
theorem IF {k:Nat}(hk:k<=12){x y:DV}{o o':BF}(s:Set1 k x.nd x.r o)(s':Set1 k y.nd y.r o'):iK x.nd x.r y.nd y.r=true↔∀e,o e=true->o' e=true:=by
 rw[Ic];constructor
 ·rintro⟨_,_,hn⟩ e he;cases h:o' e with
  | true=>rfl
  | false=>exact Xd ⟨e,by rw[s.mean];exact he,by rw[s'.mean];exact h⟩ hn
 ·intro h;refine⟨s.chk hk,s'.chk hk,λ⟨e,h1,h2⟩=>?_⟩;rw[s.mean] at h1;rw[s'.mean,h e h1] at h2;cases h2
theorem kQG (p:WP)(n:Nat)(mO:n<=4)(zT:p.nm.length=n)(Yc:KG p.nm)(KQ:∀s∈p.nm,s.length<=1000000)(YB:∀q∈p.ps,Kv n q.1.nd q.1.r=true/\Vj q.2=true/\(∀b∈q.2,b<256)/\q.2.length<=1000000):
  ∀(k v:Nat) (x:DV) (o:BF) (w:World),v+k=n->WK w p->SB w x.A x.n x.c x.nd->Set1 n x.nd x.r o->QF n o≠ []->PaOk (QF n o) (Zv p.ps)->Apt (QF n o) v k->
  Fn Tryz.prog 116 (Xl x.A x.n x.c x.r:: .int .i64 v::p.caps) w (λu w'=>uF w u ((X0 p.nm (fP (Zv p.ps)) k v (QF n o)).map (·++ [10])) w'):=by
 have hk:n<=12:=by omega
 intro k;induction k using Nat.strongRecOn with
 | ind k ih=>
 intro v x o w Fy hK hx sx QO Jh ao;have Jf:=hK.pss.2;refine QH (c:={eQU with cuts:=[]}) Qa Tryz.func116 rfl rfl rfl ?_;refine new (λw1 Qd Q9 Qh=>?_);have Kn:=hK.ext Qd;refine Qy Kn.pbb rfl ?_;refine loop Qa [17] (λi:Nat=>[.int .i64 i]) (λi w'=>Ext w1 w'/\i<=p.pn/\∀q∈p.ps.take i,¬∀e,o e=true->oD q.1 e=true) (λi _=>p.pn-i) 0 rfl ⟨Ext.refl _,Xt _,λq hq=>by simp at hq⟩ ?_;rintro i w2 ⟨Qg,hi,Xq⟩;have QR:=Qd.trans Qg;have qQI:p.pn<=9223372036854775807:=by have:=hK.pss.1.le;have:=hK.pss.1.cap;simp only[maxLen] at this;omega
 refine Qz (λc1=>?_) (λc1=>?_)
 ·have Q5:i<p.pn:=by omega
  refine Zz IE (hK.ext QR).pss rfl Q5 (λad q hq hc=>?_);have jB:=Xk hq;obtain⟨o1,o2,o3,o4⟩:=YB q jB;refine JN (vs:=JK q) rfl hc ?_;refine new (λw3 Qi JD Qu=>?_);refine Qw Qu rfl (sc rfl) (λw4 W8 _ QX=>?_);have ZE:Ext w2 w4:=XV Qi Qu W8;have Xr:=QR.trans ZE;refine Qt (Qh.ext (Qg.trans ZE)) rfl ?_;refine gq (vs:=[.slice q.1.A q.1.n q.1.c,.int .i64 q.1.r]) QX rfl (λj u hj=>by match j,hj with | 0,hj=>exact hj | 1,hj=>exact hj) ?_;refine call (UD x.A x.n x.c x.nd x.r q.1.A q.1.n q.1.c q.1.nd q.1.r w4 (hx.ext Xr) ((hK.sbs q jB).ext Xr)) ?_;rintro _ w5 ⟨rfl,Qx⟩;have Z9:=Xr.trans Qx;refine YT (λd1=>?_) (λd1=>?_)
  ·have d1:iK x.nd x.r q.1.nd q.1.r=true:=d1;have hw:=(IF hk sx (iN o1)).1 d1;refine Qp (QX.ext Qx) rfl ?_;refine call (CD q.2 w5 o3 (by omega)) ?_;rintro _ w6 ⟨A,c,rfl,QN,kt⟩;have hwv:X0 p.nm (fP (Zv p.ps)) k v (QF n o)=QW q.2:=kQj Jh QO (p:=⟨oD q.1,q.2⟩) (ZG.2 ⟨q,jB,rfl⟩) (λc hc=>hw _ (Z0.1 hc).2) k v;have ht:br q.2=true:=by unfold Vj at o2;rw[Z4] at o2;exact o2.1
   have jv:iH q.2=(X0 p.nm (fP (Zv p.ps)) k v (QF n o)).map (·++ [10]):=by rw[hwv,Cz (oz ht)]
   rw[jv] at kt ⊢;exact⟨A,c,rfl,Z9.trans QN,kt⟩
  ·have d1:iK x.nd x.r q.1.nd q.1.r=false:=d1;refine Qj ((i+1:Nat):Int) (by show((i:Nat):Int)+1=_;omega) (by omega) ?_;refine⟨i+1,rfl,⟨(Qg.trans ZE).trans Qx,Q5,λq' hq' hall=>?_⟩,by show p.pn-(i+1)<p.pn-i;omega⟩;rw[V3,hq] at hq';rcases Xv.1 hq' with hq' | hq'
   ·exact Xq q' hq' hall
   ·have:q'=q:=by simpa using hq'
    subst this;rw[(IF hk sx (iN o1)).2 hall] at d1;cases d1
 have Q5:i=p.pn:=by omega
 rw[Q5,Jv (by omega)] at Xq;cases k with
 | zero=>
  obtain⟨q0,Yv,hall⟩:=kQk Jh QO ao;obtain⟨q,hq,rfl⟩:=ZG.1 Yv;exact Xd ((aQn sx.dep (iN (YB q hq).1).dep).2 hall) (Xq q hq)
 | succ k=>
 have OU:v<n:=by omega
 refine call (HG (v:Int) w2 (by omega) (by omega)) ?_;rintro _ w3 ⟨YA,yn,yc,rfl,Qi,hY3,_⟩;refine call (C8 ⟨YA,yn,yc,[⟨(v:Int),0,1⟩],2⟩ w3) ?_;rintro _ w4 ⟨rfl,Qs⟩;refine new (λw5 Qx KL QB=>?_);refine Qw QB rfl (sc rfl) (λwR hgR _ hBR=>?_);have dQz:Ext w4 wR:=XV Qx QB hgR;have pQc:=(Qi.trans Qs).trans dQz;have dQA:=Qg.trans pQc;have Ph:=Qd.trans dQA;obtain⟨y,hy⟩:∃y:DV,y=⟨YA,yn,yc,[⟨(v:Int),0,1⟩],2⟩:=⟨_,rfl⟩
 have sy:Set1 n y.nd y.r (λe=>e v):=by rw[hy];exact H8 OU (by omega)
 have eG:SB wR y.A y.n y.c y.nd:=by rw[hy];exact hY3.ext (Qs.trans dQz)
 have hBY:Blk wR w4.heap.size 32 y.cells:=by rw[hy];exact hBR
 have hBX:=Qh.ext dQA;have hxR:=hx.ext Ph;have hKR:=hK.ext Ph;clear hBR QB;refine aQz [11,12] (λt:DV×DV×Nat×Nat=>[.pointer (some ⟨t.2.2.1,0,none⟩),.pointer (some ⟨t.2.2.2,0,none⟩)]) (λt w'=>kQF n wR (λe=>o e&&e v) (λe=>o e && !e v) t w') ?_ ?_
 ·have eR:=Ext.drew wR;have hx:=hxR;have hy:=eG;refine ID Qa (Ext wR) 10 (.quiet 0 (.quiet 1 (.quiet 3 (.quiet 4 (.fork 2 (.fork 5 (.fork 6 (.fork 7 (.fork 8 (.fork 9 .done .skip) .skip) .skip) (.fork 7 (.fork 6 (.fork 8 (.fork 9 .done .skip) .skip) .skip) .skip)) (.fork 6 (.fork 5 (.fork 7 (.fork 8 (.fork 9 .done .skip) .skip) .skip) (.fork 7 (.fork 5 (.fork 8 (.fork 9 .done .skip) .skip) .skip) .skip)) (.fork 7 (.fork 5 (.fork 6 (.fork 8 (.fork 9 .done .skip) .skip) .skip) (.fork 6 (.fork 5 (.fork 8 (.fork 9 .done .skip) .skip) .skip) .skip)) .skip))) (.fork 6 (.fork 2 (.fork 5 (.fork 7 (.fork 8 (.fork 9 .done .skip) .skip) .skip) (.fork 7 (.fork 5 (.fork 8 (.fork 9 .done .skip) .skip) .skip) .skip)) (.fork 7 (.fork 2 (.fork 5 (.fork 8 (.fork 9 .done .skip) .skip) .skip) .skip) .skip)) (.fork 7 (.fork 2 (.fork 5 (.fork 6 (.fork 8 (.fork 9 .done .skip) .skip) .skip) (.fork 6 (.fork 5 (.fork 8 (.fork 9 .done .skip) .skip) .skip) .skip)) (.fork 6 (.fork 2 (.fork 5 (.fork 8 (.fork 9 .done .skip) .skip) .skip) .skip) .skip)) .skip))))))) (by kernel_rfl) (Ext.drew wR) ?_;refine Xo (vs:=x.cells) rfl (λw' Qb j u hj=>by rw[(hBX.ext Qb).cell];exact hj) ?_;refine Xo (vs:=y.cells) rfl (λw' Qb j u hj=>by rw[(hBY.ext Qb).cell];exact hj) ?_;refine Xo (vs:=x.cells) rfl (λw' Qb j u hj=>by rw[(hBX.ext Qb).cell];exact hj) ?_;refine Xo (vs:=y.cells) rfl (λw' Qb j u hj=>by rw[(hBY.ext Qb).cell];exact hj) ?_;refine⟨?_,?_⟩
  ·refine call (oH hk x y wR.drew (hx.ext eR) (hy.ext eR) sx sy) ?_;rintro _ v1 ⟨HA,Hn,Hc,Hnd,Hr,rfl,g1,Hb,Hs,HR⟩;have e1:=eR.trans g1;refine⟨e1,?_⟩;have z1:=g1.size;have y1:=λad ea h0=>SB.lt Hb ad ea h0
   have r1:=λ(ad:Addr) (ea:HA=some ad)=>HR ad.block ⟨ad,ea,rfl⟩
   refine⟨?_,?_⟩
   ·refine call (fd hk x y v1 (hx.ext e1) (hy.ext e1) sx sy) ?_;rintro _ v2 ⟨LA,Ln,Lc,Lnd,Lr,rfl,g2,Lb,Ls,LR⟩;have e2:=e1.trans g2;refine⟨e2,?_⟩;have z2:=g2.size;have y2:=λad ea h0=>SB.lt Lb ad ea h0
    have r2:=λ(ad:Addr) (ea:LA=some ad)=>LR ad.block ⟨ad,ea,rfl⟩
    refine⟨?_,?_⟩
    ·refine new (λv3 g3 z3 B3=>?_);have e3:=e2.trans g3;refine⟨e3,?_⟩;have l3:=e2.size;refine⟨?_,trivial⟩;refine new (λv4 g4 z4 B4=>?_);have e4:=e3.trans g4;refine⟨e4,?_⟩;have l4:=e3.size;refine⟨?_,trivial⟩;refine Qw (B3.ext g4) rfl (sc rfl) (λv5 h5 _ B5=>?_);have m5:Mod (·=v2.heap.size) v4 v5:=qQT h5 rfl;have e5:Ext wR v5:=m5.ext e4 (λi hi=>by omega);refine⟨e5,?_⟩;refine⟨?_,trivial⟩;refine Qw (B4.mod m5 (by show¬v3.heap.size=v2.heap.size;omega)) rfl (sc rfl) (λv6 h6 _ B6=>?_);have m6:Mod (·=v3.heap.size) v5 v6:=qQT h6 rfl;have e6:Ext wR v6:=m6.ext e5 (λi hi=>by omega);refine⟨e6,?_⟩;exact⟨(⟨HA,Hn,Hc,Hnd,Hr⟩,⟨LA,Ln,Lc,Lnd,Lr⟩,v2.heap.size,v3.heap.size),rfl,⟨e6,(B5.mod m6 (by show¬v2.heap.size=v3.heap.size;omega)),B6,(SB.modo (SB.modo (((Hb.ext g2).ext g3).ext g4) m5 (λad ea h0 hh=>by have q1:=y1 ad ea h0;have q2:=r1 ad ea;omega)) m6 (λad ea h0 hh=>by have q1:=y1 ad ea h0;have q2:=r1 ad ea;omega)),Hs,(SB.modo (SB.modo ((Lb.ext g3).ext g4) m5 (λad ea h0 hh=>by have q1:=y2 ad ea h0;have q2:=r2 ad ea;omega)) m6 (λad ea h0 hh=>by have q1:=y2 ad ea h0;have q2:=r2 ad ea;omega)),Ls⟩⟩
    ·refine⟨?_,trivial⟩;refine new (λv7 g7 z7 B7=>?_);have e7:=e2.trans g7;refine⟨e7,?_⟩;have l7:=e2.size;refine⟨?_,trivial⟩;refine new (λv8 g8 z8 B8=>?_);have e8:=e7.trans g8;refine⟨e8,?_⟩;have l8:=e7.size;refine⟨?_,trivial⟩;refine Qw B8 rfl (sc rfl) (λv9 h9 _ B9=>?_);have m9:Mod (·=v7.heap.size) v8 v9:=qQT h9 rfl;have e9:Ext wR v9:=m9.ext e8 (λi hi=>by omega);refine⟨e9,?_⟩;refine⟨?_,trivial⟩;refine Qw ((B7.ext g8).mod m9 (by show¬v2.heap.size=v7.heap.size;omega)) rfl (sc rfl) (λv10 XN _ B10=>?_);have Ee:Mod (·=v2.heap.size) v9 v10:=qQT XN rfl;have e10:Ext wR v10:=Ee.ext e9 (λi hi=>by omega);refine⟨e10,?_⟩;exact⟨(⟨HA,Hn,Hc,Hnd,Hr⟩,⟨LA,Ln,Lc,Lnd,Lr⟩,v7.heap.size,v2.heap.size),rfl,⟨e10,(B9.mod Ee (by show¬v7.heap.size=v2.heap.size;omega)),B10,(SB.modo (SB.modo (((Hb.ext g2).ext g7).ext g8) m9 (λad ea h0 hh=>by have q1:=y1 ad ea h0;have q2:=r1 ad ea;omega)) Ee (λad ea h0 hh=>by have q1:=y1 ad ea h0;have q2:=r1 ad ea;omega)),Hs,(SB.modo (SB.modo ((Lb.ext g7).ext g8) m9 (λad ea h0 hh=>by have q1:=y2 ad ea h0;have q2:=r2 ad ea;omega)) Ee (λad ea h0 hh=>by have q1:=y2 ad ea h0;have q2:=r2 ad ea;omega)),Ls⟩⟩
   ·refine⟨?_,?_⟩
    ·refine new (λzf yM DJ B11=>?_);have vv:=e1.trans yM;refine⟨vv,?_⟩;have l11:=e1.size;refine⟨?_,?_⟩
     ·refine call (fd hk x y zf (hx.ext vv) (hy.ext vv) sx sy) ?_;rintro _ Ef ⟨LA,Ln,Lc,Lnd,Lr,rfl,Eg,Lb,Ls,LR⟩;have M1:=vv.trans Eg;refine⟨M1,?_⟩;have z12:=Eg.size;have y12:=λad ea h0=>SB.lt Lb ad ea h0
      have r12:=λ(ad:Addr) (ea:LA=some ad)=>LR ad.block ⟨ad,ea,rfl⟩
      refine⟨?_,trivial⟩;refine new (λv13 Eh z13 B13=>?_);have e13:=M1.trans Eh;refine⟨e13,?_⟩;have l13:=M1.size;refine⟨?_,trivial⟩;refine Qw ((B11.ext Eg).ext Eh) rfl (sc rfl) (λM2 VY _ B14=>?_);have Ei:Mod (·=v1.heap.size) v13 M2:=qQT VY rfl;have zg:Ext wR M2:=Ei.ext e13 (λi hi=>by omega);refine⟨zg,?_⟩;refine⟨?_,trivial⟩;refine Qw (B13.mod Ei (by show¬Ef.heap.size=v1.heap.size;omega)) rfl (sc rfl) (λv15 WO _ B15=>?_);have Ej:Mod (·=Ef.heap.size) M2 v15:=qQT WO rfl;have e15:Ext wR v15:=Ej.ext zg (λi hi=>by omega);refine⟨e15,?_⟩;exact⟨(⟨HA,Hn,Hc,Hnd,Hr⟩,⟨LA,Ln,Lc,Lnd,Lr⟩,v1.heap.size,Ef.heap.size),rfl,⟨e15,(B14.mod Ej (by show¬v1.heap.size=Ef.heap.size;omega)),B15,(SB.modo (SB.modo (((Hb.ext yM).ext Eg).ext Eh) Ei (λad ea h0 hh=>by have q1:=y1 ad ea h0;have q2:=r1 ad ea;omega)) Ej (λad ea h0 hh=>by have q1:=y1 ad ea h0;have q2:=r1 ad ea;omega)),Hs,(SB.modo (SB.modo (Lb.ext Eh) Ei (λad ea h0 hh=>by have q1:=y12 ad ea h0;have q2:=r12 ad ea;omega)) Ej (λad ea h0 hh=>by have q1:=y12 ad ea h0;have q2:=r12 ad ea;omega)),Ls⟩⟩
     ·refine⟨?_,trivial⟩;refine new (λv16 M3 z16 B16=>?_);have Ek:=vv.trans M3;refine⟨Ek,?_⟩;have l16:=vv.size;refine⟨?_,trivial⟩;refine call (fd hk x y v16 (hx.ext Ek) (hy.ext Ek) sx sy) ?_;rintro _ v17 ⟨LA,Ln,Lc,Lnd,Lr,rfl,zh,Lb,Ls,LR⟩;have e17:=Ek.trans zh;refine⟨e17,?_⟩;have z17:=zh.size;have y17:=λad ea h0=>SB.lt Lb ad ea h0
      have r17:=λ(ad:Addr) (ea:LA=some ad)=>LR ad.block ⟨ad,ea,rfl⟩
      refine⟨?_,trivial⟩;refine Qw ((B11.ext M3).ext zh) rfl (sc rfl) (λM4 aP _ B18=>?_);have El:Mod (·=v1.heap.size) v17 M4:=qQT aP rfl;have e18:Ext wR M4:=El.ext e17 (λi hi=>by omega);refine⟨e18,?_⟩;refine⟨?_,trivial⟩;refine Qw ((B16.ext zh).mod El (by show¬zf.heap.size=v1.heap.size;omega)) rfl (sc rfl) (λv19 fJ _ B19=>?_);have Em:Mod (·=zf.heap.size) M4 v19:=qQT fJ rfl;have e19:Ext wR v19:=Em.ext e18 (λi hi=>by omega);refine⟨e19,?_⟩;exact⟨(⟨HA,Hn,Hc,Hnd,Hr⟩,⟨LA,Ln,Lc,Lnd,Lr⟩,v1.heap.size,zf.heap.size),rfl,⟨e19,(B18.mod Em (by show¬v1.heap.size=zf.heap.size;omega)),B19,(SB.modo (SB.modo (((Hb.ext yM).ext M3).ext zh) El (λad ea h0 hh=>by have q1:=y1 ad ea h0;have q2:=r1 ad ea;omega)) Em (λad ea h0 hh=>by have q1:=y1 ad ea h0;have q2:=r1 ad ea;omega)),Hs,(SB.modo (SB.modo Lb El (λad ea h0 hh=>by have q1:=y17 ad ea h0;have q2:=r17 ad ea;omega)) Em (λad ea h0 hh=>by have q1:=y17 ad ea h0;have q2:=r17 ad ea;omega)),Ls⟩⟩
    ·refine⟨?_,trivial⟩;refine new (λv20 M5 z20 B20=>?_);have vw:=e1.trans M5;refine⟨vw,?_⟩;have l20:=e1.size;refine⟨?_,?_⟩
     ·refine call (fd hk x y v20 (hx.ext vw) (hy.ext vw) sx sy) ?_;rintro _ v21 ⟨LA,Ln,Lc,Lnd,Lr,rfl,En,Lb,Ls,LR⟩;have M6:=vw.trans En;refine⟨M6,?_⟩;have z21:=En.size;have y21:=λad ea h0=>SB.lt Lb ad ea h0
      have r21:=λ(ad:Addr) (ea:LA=some ad)=>LR ad.block ⟨ad,ea,rfl⟩
      refine⟨?_,trivial⟩;refine new (λv22 Eo z22 B22=>?_);have e22:=M6.trans Eo;refine⟨e22,?_⟩;have l22:=M6.size;refine⟨?_,trivial⟩;refine Qw B22 rfl (sc rfl) (λM7 pz _ B23=>?_);have Eq:Mod (·=v21.heap.size) v22 M7:=qQT pz rfl;have e23:Ext wR M7:=Eq.ext e22 (λi hi=>by omega);refine⟨e23,?_⟩;refine⟨?_,trivial⟩;refine Qw (((B20.ext En).ext Eo).mod Eq (by show¬v1.heap.size=v21.heap.size;omega)) rfl (sc rfl) (λv24 iQ _ B24=>?_);have Er:Mod (·=v1.heap.size) M7 v24:=qQT iQ rfl;have e24:Ext wR v24:=Er.ext e23 (λi hi=>by omega);refine⟨e24,?_⟩;exact⟨(⟨HA,Hn,Hc,Hnd,Hr⟩,⟨LA,Ln,Lc,Lnd,Lr⟩,v21.heap.size,v1.heap.size),rfl,⟨e24,(B23.mod Er (by show¬v21.heap.size=v1.heap.size;omega)),B24,(SB.modo (SB.modo (((Hb.ext M5).ext En).ext Eo) Eq (λad ea h0 hh=>by have q1:=y1 ad ea h0;have q2:=r1 ad ea;omega)) Er (λad ea h0 hh=>by have q1:=y1 ad ea h0;have q2:=r1 ad ea;omega)),Hs,(SB.modo (SB.modo (Lb.ext Eo) Eq (λad ea h0 hh=>by have q1:=y21 ad ea h0;have q2:=r21 ad ea;omega)) Er (λad ea h0 hh=>by have q1:=y21 ad ea h0;have q2:=r21 ad ea;omega)),Ls⟩⟩
     ·refine⟨?_,trivial⟩;refine new (λv25 M8 z25 B25=>?_);have Es:=vw.trans M8;refine⟨Es,?_⟩;have l25:=vw.size;refine⟨?_,trivial⟩;refine call (fd hk x y v25 (hx.ext Es) (hy.ext Es) sx sy) ?_;rintro _ v26 ⟨LA,Ln,Lc,Lnd,Lr,rfl,zi,Lb,Ls,LR⟩;have e26:=Es.trans zi;refine⟨e26,?_⟩;have z26:=zi.size;have y26:=λad ea h0=>SB.lt Lb ad ea h0
      have r26:=λ(ad:Addr) (ea:LA=some ad)=>LR ad.block ⟨ad,ea,rfl⟩
      refine⟨?_,trivial⟩;refine Qw (B25.ext zi) rfl (sc rfl) (λM9 h27 _ B27=>?_);have Et:Mod (·=v20.heap.size) v26 M9:=qQT h27 rfl;have e27:Ext wR M9:=Et.ext e26 (λi hi=>by omega);refine⟨e27,?_⟩;refine⟨?_,trivial⟩;refine Qw (((B20.ext M8).ext zi).mod Et (by show¬v1.heap.size=v20.heap.size;omega)) rfl (sc rfl) (λv28 h28 _ B28=>?_);have Eu:Mod (·=v1.heap.size) M9 v28:=qQT h28 rfl;have e28:Ext wR v28:=Eu.ext e27 (λi hi=>by omega);refine⟨e28,?_⟩;exact⟨(⟨HA,Hn,Hc,Hnd,Hr⟩,⟨LA,Ln,Lc,Lnd,Lr⟩,v20.heap.size,v1.heap.size),rfl,⟨e28,(B27.mod Eu (by show¬v20.heap.size=v1.heap.size;omega)),B28,(SB.modo (SB.modo (((Hb.ext M5).ext M8).ext zi) Et (λad ea h0 hh=>by have q1:=y1 ad ea h0;have q2:=r1 ad ea;omega)) Eu (λad ea h0 hh=>by have q1:=y1 ad ea h0;have q2:=r1 ad ea;omega)),Hs,(SB.modo (SB.modo Lb Et (λad ea h0 hh=>by have q1:=y26 ad ea h0;have q2:=r26 ad ea;omega)) Eu (λad ea h0 hh=>by have q1:=y26 ad ea h0;have q2:=r26 ad ea;omega)),Ls⟩⟩
  ·refine⟨?_,?_⟩
   ·refine new (λzj g29 z29 B29=>?_);have vx:=eR.trans g29;refine⟨vx,?_⟩;have l29:=eR.size;refine⟨?_,?_⟩
    ·refine call (oH hk x y zj (hx.ext vx) (hy.ext vx) sx sy) ?_;rintro _ zk ⟨HA,Hn,Hc,Hnd,Hr,rfl,Ev,Hb,Hs,HR⟩;have vy:=vx.trans Ev;refine⟨vy,?_⟩;have z30:=Ev.size;have Ew:=λad ea h0=>SB.lt Hb ad ea h0
     have Ex:=λ(ad:Addr) (ea:HA=some ad)=>HR ad.block ⟨ad,ea,rfl⟩
     refine⟨?_,?_⟩
     ·refine call (fd hk x y zk (hx.ext vy) (hy.ext vy) sx sy) ?_;rintro _ v31 ⟨LA,Ln,Lc,Lnd,Lr,rfl,Ey,Lb,Ls,LR⟩;have Na:=vy.trans Ey;refine⟨Na,?_⟩;have z31:=Ey.size;have y31:=λad ea h0=>SB.lt Lb ad ea h0
      have r31:=λ(ad:Addr) (ea:LA=some ad)=>LR ad.block ⟨ad,ea,rfl⟩
      refine⟨?_,trivial⟩;refine new (λv32 Ez z32 B32=>?_);have e32:=Na.trans Ez;refine⟨e32,?_⟩;have l32:=Na.size;refine⟨?_,trivial⟩;refine Qw (((B29.ext Ev).ext Ey).ext Ez) rfl (sc rfl) (λNb h33 _ B33=>?_);have EC:Mod (·=wR.drew.heap.size) v32 Nb:=qQT h33 rfl;have e33:Ext wR Nb:=EC.ext e32 (λi hi=>by omega);refine⟨e33,?_⟩;refine⟨?_,trivial⟩;refine Qw (B32.mod EC (by show¬v31.heap.size=wR.drew.heap.size;omega)) rfl (sc rfl) (λv34 h34 _ B34=>?_);have ED:Mod (·=v31.heap.size) Nb v34:=qQT h34 rfl;have e34:Ext wR v34:=ED.ext e33 (λi hi=>by omega);refine⟨e34,?_⟩;exact⟨(⟨HA,Hn,Hc,Hnd,Hr⟩,⟨LA,Ln,Lc,Lnd,Lr⟩,wR.drew.heap.size,v31.heap.size),rfl,⟨e34,(B33.mod ED (by show¬wR.drew.heap.size=v31.heap.size;omega)),B34,(SB.modo (SB.modo ((Hb.ext Ey).ext Ez) EC (λad ea h0 hh=>by have q1:=Ew ad ea h0;have q2:=Ex ad ea;omega)) ED (λad ea h0 hh=>by have q1:=Ew ad ea h0;have q2:=Ex ad ea;omega)),Hs,(SB.modo (SB.modo (Lb.ext Ez) EC (λad ea h0 hh=>by have q1:=y31 ad ea h0;have q2:=r31 ad ea;omega)) ED (λad ea h0 hh=>by have q1:=y31 ad ea h0;have q2:=r31 ad ea;omega)),Ls⟩⟩
     ·refine⟨?_,trivial⟩;refine new (λv35 Nc z35 B35=>?_);have EE:=vy.trans Nc;refine⟨EE,?_⟩;have l35:=vy.size;refine⟨?_,trivial⟩;refine call (fd hk x y v35 (hx.ext EE) (hy.ext EE) sx sy) ?_;rintro _ v36 ⟨LA,Ln,Lc,Lnd,Lr,rfl,zl,Lb,Ls,LR⟩;have e36:=EE.trans zl;refine⟨e36,?_⟩;have z36:=zl.size;have y36:=λad ea h0=>SB.lt Lb ad ea h0
      have r36:=λ(ad:Addr) (ea:LA=some ad)=>LR ad.block ⟨ad,ea,rfl⟩
      refine⟨?_,trivial⟩;refine Qw (((B29.ext Ev).ext Nc).ext zl) rfl (sc rfl) (λv37 h37 _ B37=>?_);have EF:Mod (·=wR.drew.heap.size) v36 v37:=qQT h37 rfl;have e37:Ext wR v37:=EF.ext e36 (λi hi=>by omega);refine⟨e37,?_⟩;refine⟨?_,trivial⟩;refine Qw ((B35.ext zl).mod EF (by show¬zk.heap.size=wR.drew.heap.size;omega)) rfl (sc rfl) (λv38 h38 _ B38=>?_);have EG:Mod (·=zk.heap.size) v37 v38:=qQT h38 rfl;have e38:Ext wR v38:=EG.ext e37 (λi hi=>by omega);refine⟨e38,?_⟩;exact⟨(⟨HA,Hn,Hc,Hnd,Hr⟩,⟨LA,Ln,Lc,Lnd,Lr⟩,wR.drew.heap.size,zk.heap.size),rfl,⟨e38,(B37.mod EG (by show¬wR.drew.heap.size=zk.heap.size;omega)),B38,(SB.modo (SB.modo ((Hb.ext Nc).ext zl) EF (λad ea h0 hh=>by have q1:=Ew ad ea h0;have q2:=Ex ad ea;omega)) EG (λad ea h0 hh=>by have q1:=Ew ad ea h0;have q2:=Ex ad ea;omega)),Hs,(SB.modo (SB.modo Lb EF (λad ea h0 hh=>by have q1:=y36 ad ea h0;have q2:=r36 ad ea;omega)) EG (λad ea h0 hh=>by have q1:=y36 ad ea h0;have q2:=r36 ad ea;omega)),Ls⟩⟩
    ·refine⟨?_,trivial⟩;refine new (λv39 g39 z39 B39=>?_);have EH:=vx.trans g39;refine⟨EH,?_⟩;have l39:=vx.size;refine⟨?_,trivial⟩;refine call (oH hk x y v39 (hx.ext EH) (hy.ext EH) sx sy) ?_;rintro _ v40 ⟨HA,Hn,Hc,Hnd,Hr,rfl,EI,Hb,Hs,HR⟩;have EJ:=EH.trans EI;refine⟨EJ,?_⟩;have z40:=EI.size;have y40:=λad ea h0=>SB.lt Hb ad ea h0
     have r40:=λ(ad:Addr) (ea:HA=some ad)=>HR ad.block ⟨ad,ea,rfl⟩
     refine⟨?_,trivial⟩;refine call (fd hk x y v40 (hx.ext EJ) (hy.ext EJ) sx sy) ?_;rintro _ v41 ⟨LA,Ln,Lc,Lnd,Lr,rfl,zm,Lb,Ls,LR⟩;have e41:=EJ.trans zm;refine⟨e41,?_⟩;have z41:=zm.size;have y41:=λad ea h0=>SB.lt Lb ad ea h0
     have r41:=λ(ad:Addr) (ea:LA=some ad)=>LR ad.block ⟨ad,ea,rfl⟩
     refine⟨?_,trivial⟩;refine Qw (((B29.ext g39).ext EI).ext zm) rfl (sc rfl) (λNd h42 _ B42=>?_);have EL:Mod (·=wR.drew.heap.size) v41 Nd:=qQT h42 rfl;have e42:Ext wR Nd:=EL.ext e41 (λi hi=>by omega);refine⟨e42,?_⟩;refine⟨?_,trivial⟩;refine Qw (((B39.ext EI).ext zm).mod EL (by show¬zj.heap.size=wR.drew.heap.size;omega)) rfl (sc rfl) (λv43 h43 _ B43=>?_);have EM:Mod (·=zj.heap.size) Nd v43:=qQT h43 rfl;have e43:Ext wR v43:=EM.ext e42 (λi hi=>by omega);refine⟨e43,?_⟩;exact⟨(⟨HA,Hn,Hc,Hnd,Hr⟩,⟨LA,Ln,Lc,Lnd,Lr⟩,wR.drew.heap.size,zj.heap.size),rfl,⟨e43,(B42.mod EM (by show¬wR.drew.heap.size=zj.heap.size;omega)),B43,(SB.modo (SB.modo (Hb.ext zm) EL (λad ea h0 hh=>by have q1:=y40 ad ea h0;have q2:=r40 ad ea;omega)) EM (λad ea h0 hh=>by have q1:=y40 ad ea h0;have q2:=r40 ad ea;omega)),Hs,(SB.modo (SB.modo Lb EL (λad ea h0 hh=>by have q1:=y41 ad ea h0;have q2:=r41 ad ea;omega)) EM (λad ea h0 hh=>by have q1:=y41 ad ea h0;have q2:=r41 ad ea;omega)),Ls⟩⟩
   ·refine⟨?_,trivial⟩;refine new (λzo g44 z44 B44=>?_);have vC:=eR.trans g44;refine⟨vC,?_⟩;have l44:=eR.size;refine⟨?_,?_⟩
    ·refine call (oH hk x y zo (hx.ext vC) (hy.ext vC) sx sy) ?_;rintro _ zp ⟨HA,Hn,Hc,Hnd,Hr,rfl,EN,Hb,Hs,HR⟩;have vD:=vC.trans EN;refine⟨vD,?_⟩;have z45:=EN.size;have EO:=λad ea h0=>SB.lt Hb ad ea h0
     have EQ:=λ(ad:Addr) (ea:HA=some ad)=>HR ad.block ⟨ad,ea,rfl⟩
     refine⟨?_,?_⟩
     ·refine call (fd hk x y zp (hx.ext vD) (hy.ext vD) sx sy) ?_;rintro _ v46 ⟨LA,Ln,Lc,Lnd,Lr,rfl,ER,Lb,Ls,LR⟩;have Nf:=vD.trans ER;refine⟨Nf,?_⟩;have z46:=ER.size;have y46:=λad ea h0=>SB.lt Lb ad ea h0
      have r46:=λ(ad:Addr) (ea:LA=some ad)=>LR ad.block ⟨ad,ea,rfl⟩
      refine⟨?_,trivial⟩;refine new (λv47 ES z47 B47=>?_);have e47:=Nf.trans ES;refine⟨e47,?_⟩;have l47:=Nf.size;refine⟨?_,trivial⟩;refine Qw B47 rfl (sc rfl) (λNg h48 _ B48=>?_);have ET:Mod (·=v46.heap.size) v47 Ng:=qQT h48 rfl;have e48:Ext wR Ng:=ET.ext e47 (λi hi=>by omega);refine⟨e48,?_⟩;refine⟨?_,trivial⟩;refine Qw ((((B44.ext EN).ext ER).ext ES).mod ET (by show¬wR.drew.heap.size=v46.heap.size;omega)) rfl (sc rfl) (λv49 h49 _ B49=>?_);have EU:Mod (·=wR.drew.heap.size) Ng v49:=qQT h49 rfl;have e49:Ext wR v49:=EU.ext e48 (λi hi=>by omega);refine⟨e49,?_⟩;exact⟨(⟨HA,Hn,Hc,Hnd,Hr⟩,⟨LA,Ln,Lc,Lnd,Lr⟩,v46.heap.size,wR.drew.heap.size),rfl,⟨e49,(B48.mod EU (by show¬v46.heap.size=wR.drew.heap.size;omega)),B49,(SB.modo (SB.modo ((Hb.ext ER).ext ES) ET (λad ea h0 hh=>by have q1:=EO ad ea h0;have q2:=EQ ad ea;omega)) EU (λad ea h0 hh=>by have q1:=EO ad ea h0;have q2:=EQ ad ea;omega)),Hs,(SB.modo (SB.modo (Lb.ext ES) ET (λad ea h0 hh=>by have q1:=y46 ad ea h0;have q2:=r46 ad ea;omega)) EU (λad ea h0 hh=>by have q1:=y46 ad ea h0;have q2:=r46 ad ea;omega)),Ls⟩⟩
     ·refine⟨?_,trivial⟩;refine new (λv50 Ni z50 B50=>?_);have EV:=vD.trans Ni;refine⟨EV,?_⟩;have l50:=vD.size;refine⟨?_,trivial⟩;refine call (fd hk x y v50 (hx.ext EV) (hy.ext EV) sx sy) ?_;rintro _ v51 ⟨LA,Ln,Lc,Lnd,Lr,rfl,zq,Lb,Ls,LR⟩;have e51:=EV.trans zq;refine⟨e51,?_⟩;have z51:=zq.size;have y51:=λad ea h0=>SB.lt Lb ad ea h0
      have r51:=λ(ad:Addr) (ea:LA=some ad)=>LR ad.block ⟨ad,ea,rfl⟩
      refine⟨?_,trivial⟩;refine Qw (B50.ext zq) rfl (sc rfl) (λNj h52 _ B52=>?_);have EW:Mod (·=zp.heap.size) v51 Nj:=qQT h52 rfl;have e52:Ext wR Nj:=EW.ext e51 (λi hi=>by omega);refine⟨e52,?_⟩;refine⟨?_,trivial⟩;refine Qw ((((B44.ext EN).ext Ni).ext zq).mod EW (by show¬wR.drew.heap.size=zp.heap.size;omega)) rfl (sc rfl) (λv53 h53 _ B53=>?_);have EX:Mod (·=wR.drew.heap.size) Nj v53:=qQT h53 rfl;have e53:Ext wR v53:=EX.ext e52 (λi hi=>by omega);refine⟨e53,?_⟩;exact⟨(⟨HA,Hn,Hc,Hnd,Hr⟩,⟨LA,Ln,Lc,Lnd,Lr⟩,zp.heap.size,wR.drew.heap.size),rfl,⟨e53,(B52.mod EX (by show¬zp.heap.size=wR.drew.heap.size;omega)),B53,(SB.modo (SB.modo ((Hb.ext Ni).ext zq) EW (λad ea h0 hh=>by have q1:=EO ad ea h0;have q2:=EQ ad ea;omega)) EX (λad ea h0 hh=>by have q1:=EO ad ea h0;have q2:=EQ ad ea;omega)),Hs,(SB.modo (SB.modo Lb EW (λad ea h0 hh=>by have q1:=y51 ad ea h0;have q2:=r51 ad ea;omega)) EX (λad ea h0 hh=>by have q1:=y51 ad ea h0;have q2:=r51 ad ea;omega)),Ls⟩⟩
    ·refine⟨?_,trivial⟩;refine new (λv54 g54 z54 B54=>?_);have EY:=vC.trans g54;refine⟨EY,?_⟩;have l54:=vC.size;refine⟨?_,trivial⟩;refine call (oH hk x y v54 (hx.ext EY) (hy.ext EY) sx sy) ?_;rintro _ v55 ⟨HA,Hn,Hc,Hnd,Hr,rfl,EZ,Hb,Hs,HR⟩;have E0:=EY.trans EZ;refine⟨E0,?_⟩;have z55:=EZ.size;have y55:=λad ea h0=>SB.lt Hb ad ea h0
     have r55:=λ(ad:Addr) (ea:HA=some ad)=>HR ad.block ⟨ad,ea,rfl⟩
     refine⟨?_,trivial⟩;refine call (fd hk x y v55 (hx.ext E0) (hy.ext E0) sx sy) ?_;rintro _ v56 ⟨LA,Ln,Lc,Lnd,Lr,rfl,zr,Lb,Ls,LR⟩;have e56:=E0.trans zr;refine⟨e56,?_⟩;have z56:=zr.size;have y56:=λad ea h0=>SB.lt Lb ad ea h0
     have r56:=λ(ad:Addr) (ea:LA=some ad)=>LR ad.block ⟨ad,ea,rfl⟩
     refine⟨?_,trivial⟩;refine Qw ((B54.ext EZ).ext zr) rfl (sc rfl) (λNk h57 _ B57=>?_);have E1:Mod (·=zo.heap.size) v56 Nk:=qQT h57 rfl;have e57:Ext wR Nk:=E1.ext e56 (λi hi=>by omega);refine⟨e57,?_⟩;refine⟨?_,trivial⟩;refine Qw ((((B44.ext g54).ext EZ).ext zr).mod E1 (by show¬wR.drew.heap.size=zo.heap.size;omega)) rfl (sc rfl) (λv58 h58 _ B58=>?_);have E2:Mod (·=wR.drew.heap.size) Nk v58:=qQT h58 rfl;have e58:Ext wR v58:=E2.ext e57 (λi hi=>by omega);refine⟨e58,?_⟩;exact⟨(⟨HA,Hn,Hc,Hnd,Hr⟩,⟨LA,Ln,Lc,Lnd,Lr⟩,zo.heap.size,wR.drew.heap.size),rfl,⟨e58,(B57.mod E2 (by show¬zo.heap.size=wR.drew.heap.size;omega)),B58,(SB.modo (SB.modo (Hb.ext zr) E1 (λad ea h0 hh=>by have q1:=y55 ad ea h0;have q2:=r55 ad ea;omega)) E2 (λad ea h0 hh=>by have q1:=y55 ad ea h0;have q2:=r55 ad ea;omega)),Hs,(SB.modo (SB.modo Lb E1 (λad ea h0 hh=>by have q1:=y56 ad ea h0;have q2:=r56 ad ea;omega)) E2 (λad ea h0 hh=>by have q1:=y56 ad ea h0;have q2:=r56 ad ea;omega)),Ls⟩⟩
 rintro⟨xh,xl,b1,b2⟩ w6 ⟨QN,Qh,Qv,hHb,Pi,wi,jC⟩;simp only at Qh Qv hHb Pi wi jC;have XS:=Ph.trans QN;have cq:=hKR.ext QN;have mh:QF n (λe=>o e&&e v)=dY (QF n o) v:=by
  rw[aQo (o:=o) (v:=v) true (λe=>by cases e v<;>rfl)];congr 1;funext c;cases c.testBit v<;>rfl
 have ml:QF n (λe=>o e && !e v)=gD (QF n o) v:=by
  rw[aQo (o:=o) (v:=v) false (λe=>by cases e v<;>rfl)];congr 1;funext c;cases c.testBit v<;>rfl
 have h0:=Pi.root0;have l0:=jC.root0;rw[mh] at h0;rw[ml] at l0;have ihh:=λ(hq:dY (QF n o) v≠ []) (w7:World) (Xf:Ext w6 w7)=>ih k (eL k) (v+1) xh (λe=>o e&&e v) w7 (by omega) (cq.ext Xf) (hHb.ext Xf) Pi (by rw[mh];exact hq) (by rw[mh];exact Jh.sub (λc hc=>(Jc.1 hc).1)) (by rw[mh];exact kQp ao)
 rw[mh] at ihh;have ihl:=λ(hq:gD (QF n o) v≠ []) (w7:World) (Xf:Ext w6 w7)=>ih k (eL k) (v+1) xl (λe=>o e && !e v) w7 (by omega) (cq.ext Xf) (wi.ext Xf) jC (by rw[ml];exact hq) (by rw[ml];exact Jh.sub (λc hc=>(Jc.1 hc).1)) (by rw[ml];exact kQq ao)
 rw[ml] at ihl;have mo:((v+1:Nat):Int)=(v:Int)+1:=by omega
 refine Qp Qv rfl ?_;refine Zd (λc9=>?_) (λc9=>?_)
 ·have jz:=l0.1 c9;have mZ:dY (QF n o) v≠ []:=by rw[aQp jz];exact QO
  rw[kQm QO jz];refine Qy cq.wbb rfl ?_;refine Qt Qh rfl ?_;refine Qj ((v+1:Nat):Int) (by omega) (by omega) ?_;refine call (ihh mZ w6 (Ext.refl _)) ?_;rintro _ w7 ⟨A,c,rfl,Xf,YP⟩;exact⟨A,c,rfl,XS.trans Xf,YP⟩
 have jz:gD (QF n o) v≠ []:=λe=>c9 (l0.2 e)
 refine Qp Qh rfl ?_;refine Zd (λwX=>?_) (λwX=>?_)
 ·have mZ:=h0.1 wX;rw[kQn QO mZ];refine Qy cq.wbb rfl ?_;refine Qt Qv rfl ?_;refine Qj ((v+1:Nat):Int) (by omega) (by omega) ?_;refine call (ihl jz w6 (Ext.refl _)) ?_;rintro _ w7 ⟨A,c,rfl,Xf,YP⟩;exact⟨A,c,rfl,XS.trans Xf,YP⟩
 have mZ:dY (QF n o) v≠ []:=λe=>wX (h0.2 e)
 rw[kQo QO jz mZ];have hb:∀s,s∈QF n o->(∀r∈QW (fP (Zv p.ps) s),(∀x∈r,x<256)/\r.length<=1000000000)/\(QW (fP (Zv p.ps) s)).length<=1000000:=λs hs=>by
  obtain⟨q0,Yv,kA⟩:=Jh.cov s hs;obtain⟨q,hq,rfl⟩:=ZG.1 Yv;rw[Jh.get hs Yv kA];obtain⟨_,o2,o3,o4⟩:=YB q hq;have ht:br q.2=true:=by unfold Vj at o2;rw[Z4] at o2;exact o2.1
  have hu:=aE (oz ht);have hul:=xB (QW q.2);rw[hu] at hul;refine⟨λr hr=>⟨λx hx=>o3 x (by rw[<-hu];exact cB.2 ⟨r,hr,by simp[hx]⟩),?_⟩,by show(QW q.2).length<=_;omega⟩;have:r.length<=(Qk (QW q.2)).length:=by
   have h5:∀(ls:List (List Nat)),r∈ls->r.length<=(Qk ls).length:=λls=>by
    induction ls with
    | nil=>intro h;cases h
    | cons a ls ih2=>
     intro h;rw[V6,Qq,Q6];rcases Q3.1 h with rfl | h
     ·omega
     ·have:=ih2 h;omega
   exact h5 _ hr
  rw[hu] at this;omega
 have hif:∀v ng,(∀x∈JV p.nm v ng,x<256)/\(JV p.nm v ng).length<=1000000000:=λv ng=>by
  unfold JV;cases hg:p.nm[v]? with
  | none=>cases ng<;>exact⟨by simp[ZC],by simp[ZC]⟩
  | some s=>
   have gY:=Xk hg;have eC:=(Yc s gY).1;have mX:=KQ s gY;refine⟨λx hx=>?_,?_⟩
   ·rcases Xv.1 hx with hx | hx
    ·exact(show∀y∈ZC,y<256 by decide) x hx
    ·rcases Xv.1 hx with hx | hx
     ·cases ng
      ·cases hx
      ·rw[QL.1 hx];decide
     ·exact eC x hx
   ·simp only[Qq,gc];cases ng<;>simp[ZC]<;>omega
 have vX:(QF n o).length<=16:=by
  have h1:(QF n o).length<=2^n:=X4 (qh _ _) (by simp);have h2:2^n<=2^4:=WW (by decide) mO;omega
 have bnd:∀S,S≠ []->(∀c∈S,c∈QF n o)->S.length<=16->lT (X0 p.nm (fP (Zv p.ps)) k (v+1) S)/\(X0 p.nm (fP (Zv p.ps)) k (v+1) S).length<=100000000:=λS hS hSm pW=>by
  obtain⟨a1,a2⟩:=rq (nm:=p.nm) (f:=fP (Zv p.ps)) (P:=λr=>(∀x∈r,x<256)/\r.length<=1000000000) (M:=1000000) hif (by decide) (by decide) k (v+1) S hS (λc hc=>hb c (hSm c hc));have:=Y8 (1000000+3) pW;exact⟨a1,by omega⟩
 obtain⟨bh1,bh2⟩:=bnd _ mZ (λc hc=>(Jc.1 hc).1) (X4 (qh _ _) vX);obtain⟨bl1,bl2⟩:=bnd _ jz (λc hc=>(Jc.1 hc).1) (X4 (qh _ _) vX);generalize hWH:X0 p.nm (fP (Zv p.ps)) k (v+1) (dY (QF n o) v)=WH at*;generalize hWL:X0 p.nm (fP (Zv p.ps)) k (v+1) (gD (QF n o) v)=WL at*;refine XL Qa (Ext w6) 12 [(true,0),(true,1),(true,2),(true,3),(true,5),(true,6),(true,7),(true,8),(false,4),(false,9),(true,10),(true,11)] (by kernel_rfl) (Ext.drew w6) ?_;refine QQ (v:=p.clo) (λw' Qb=>by rw[(cq.wbb.ext Qb).cell0];rfl) ?_;refine Xo (vs:=xh.cells) rfl (λw' Qb j u hj=>by rw[(Qh.ext Qb).cell];exact hj) ?_;refine Qj ((v+1:Nat):Int) (by omega) (by omega) ?_;refine QQ (v:=p.clo) (λw' Qb=>by rw[(cq.wbb.ext Qb).cell0];rfl) ?_;refine Xo (vs:=xl.cells) rfl (λw' Qb j u hj=>by rw[(Qv.ext Qb).cell];exact hj) ?_;refine Qj ((v+1:Nat):Int) (by omega) (by omega) ?_;have hd:=Ext.drew w6;refine call (ihh mZ w6.drew hd) ?_;rintro _ w7 ⟨HA,hc,rfl,Xf,YP⟩;refine⟨hd.trans Xf,?_⟩;refine call (ihl jz w7 (hd.trans Xf)) ?_;rintro _ w8 ⟨LA,lc,rfl,Xp,gK⟩;refine⟨(hd.trans Xf).trans Xp,?_⟩;have gP:=(hd.trans Xf).trans Xp;refine call (kQC HA LA _ hc _ lc WH WL w8 (YP.ext Xp).1 gK.1 bh1 bl1) ?_;rintro _ w9 ⟨rfl,XE⟩;have gO:=gP.trans XE;by_cases heq:WH=WL
 ·rw[Qe heq];refine Zq heq ?_;exact⟨HA,hc,rfl,XS.trans gO,(YP.ext Xp).ext XE⟩
 ·rw[if_neg heq];refine XF heq ?_;have nQM:v<p.nn:=by have:=hK.nms.len;rw[bn] at this;omega
  refine Qy (cq.ext gO).nbb rfl ?_;obtain⟨s,hs⟩:∃s,p.nm[v]? =some s:=⟨_,XB (by omega)⟩
  refine Vr (cq.ext gO).nms nQM (λad u hA hu Xy=>?_);rw[lj hs] at hu;cases hu;refine load Xy ?_;have es:fe p.nm v=s:=by unfold fe;rw[hs]<;>rfl
  rw[<-es];refine call (kQz p.nm v WH WL HA LA _ hc _ lc w9 ((YP.ext Xp).ext XE).1 (gK.ext XE).1 bh1 bl1 (by rw[es];have:=KQ s (Xk hs);omega) (by rw[JR];exact bh2) (by rw[JR];exact bl2)) ?_;rintro _ QK ⟨JA,jc,rfl,Zx,yQ⟩;exact⟨JA,jc,rfl,(XS.trans gO).trans Zx,yQ⟩
theorem aQA (NA:Option Addr)(nn nc:Nat)(nm:List (List Nat))(x:DV)(o:BF)(PA:Option Addr)(pn pc:Nat)(ps:List (DV×List Nat))(n:Nat)(mO:n<=4)(zT:nm.length=n)(Yc:KG nm)(KQ:∀s∈nm,s.length<=1000000)(YB:∀q∈ps,Kv n q.1.nd q.1.r=true/\Vj q.2=true/\(∀b∈q.2,b<256)/\q.2.length<=1000000)(w:World)
  (hN:Sl w 1 NA nn nc (X9 nm)) (hx:SB w x.A x.n x.c x.nd) (sx:Set1 n x.nd x.r o) (hP:SlS JK 3 w PA pn pc ps) (AM:∀q∈ps,SB w q.1.A q.1.n q.1.c q.1.nd) (QO:QF n o≠ []) (Jh:PaOk (QF n o) (Zv ps)):
  Fn Tryz.prog 65 [.slice NA nn nc,Xl x.A x.n x.c x.r,.slice PA pn pc] w (λu w'=>uF w u ((X0 nm (fP (Zv ps)) n 0 (QF n o)).map (·++ [10])) w'):=by
 refine QH (c:={c65 with cuts:=[]}) Qa Tryz.func65 rfl rfl rfl ?_;refine new (λw1 Qd Q9 Qh=>?_);refine new (λw2 Qg Zi Qv=>?_);refine new (λw3 Qi JD Qu=>?_);refine new (λw4 Qs KW QX=>?_);have Va:=Qi.trans Qs;have ZE:=Qg.trans Va;have Xr:=Qd.trans ZE;refine KS QX (by decide) (λw5 Jn QB=>?_);have aN:Ext w3 w5:=Jn.ext Qs (λi hi=>by omega)
 let p:WP:=⟨w2.heap.size,w3.heap.size,w.heap.size,PA,pn,pc,NA,nn,nc,nm,ps⟩
 have Z9:Ext w w5:=((Qd.trans Qg).trans Qi).trans aN;have hK:WK w5 p:=⟨Qu.ext aN,QB,Qh.ext ((Qg.trans Qi).trans aN),hP.ext Z9,λq hq=>(AM q hq).ext Z9,hN.ext Z9⟩
 refine Qy hK.wbb rfl ?_;refine Qt (Qv.ext (Qi.trans aN)) rfl ?_;refine call (kQG p n mO zT Yc KQ YB n 0 x o w5 (by omega) hK (hx.ext Z9) sx QO Jh kQi) ?_;rintro _ w6 ⟨A,c,rfl,QN,kt⟩;exact⟨A,c,rfl,Z9.trans QN,kt⟩
theorem aQB:∀(xs:List (List UInt8)),([]:List UInt8).intercalate xs=xs.flatten
 | []=>rfl
 | [x]=>by simp[List.intercalate]
 | x::y::l=>by
  have ih:=aQB (y::l);simp only[List.intercalate,List.intersperse_cons₂,PQ,aZ] at ih ⊢;rw[ih]
theorem kQH (ls:List (List Nat)):Lib.join ((ls.map (λs=>Qf (s++ [10]))).map (·.data.toList)) []=(Qk ls).map UInt8.ofNat:=by
 unfold Lib.join;rw[aQB];induction ls with
 | nil=>rfl
 | cons s ls ih=>
  rw[Kr,Kr,PQ,ih,V6,xI];simp
theorem kQI (A:Option Addr)(n c:Nat)(ls:List (List Nat))(w:World)(h:Sn w A n c (J7 ls))(Xe:∀ad,A=some ad->0<n->ad.block<w.heap.size)(hn:n<=1000000000)(Q0:(Qk ls).length<=1000000000):
  Fn Tryz.prog 102 [.slice A n c,.string ⟨#[]⟩] w (λu w'=>u= .string (Qf (Qk ls))/\Ext w w'):=by
 have hl:=j6 h.1;by_cases h0:n=0
 ·subst h0;have:ls=[]:=Wx hl;subst this;refine QH (c:={eQI with cuts:=[]}) Qa Tryz.func102 rfl rfl rfl ?_;refine J2 rfl ?_;exact⟨rfl,Ext.refl _⟩
 ·obtain⟨g,o,rfl⟩:=h.2 (by omega);obtain⟨ad,e,hc⟩:=h.1.at_ (by omega);cases e;have hx:(ls.map (λs=>Qf (s++ [10]))).length=n:=by rw[JR,hl]
  have hj:=kQH ls;have At:=Tryz.strings_Join g o c (ls.map (λs=>Qf (s++ [10]))) ⟨#[]⟩ w (λj x hj=>by
   rw[aq] at hj;cases hs:ls[j]? with
   | none=>rw[hs] at hj;cases hj
   | some s=>
    rw[hs] at hj;cases hj;have:=hc j _ (iP hs);have e3:(⟨g,o,none⟩:Addr).add j=⟨g,o+j,none⟩:=by
     unfold Addr.add;by_cases oT:j=0
     ·subst oT;simp
     ·simp[oT]
    rw[e3] at this;exact this) (Xe _ rfl (by omega)) (by omega) (by rw[hx];exact h.1.le) (by
   have:(⟨#[]⟩:ByteArray).data.toList=[]:=rfl;rw[this,hj,JR];omega)
  have e0:(⟨#[]⟩:ByteArray).data.toList=[]:=rfl;rw[e0,hj,hx] at At;unfold Fn;refine At.mono λe w' he=>?_
  obtain⟨rfl,hb⟩:=he;exact⟨rfl,qQZ hb⟩
theorem aQC (ls:List (List Nat))(s:List Nat):(Qk (ls++ [s])).length=(Qk ls).length+(s.length+1):=by simp[Qk]
theorem kQJ (A:Option Addr)(n c:Nat)(ls:List (List Nat))(w:World)(h:Sn w A n c (J7 ls))(Q0:(Qk ls).length<=1048576):
  Fn Tryz.prog 50 [.slice A n c] w (λu w'=>u= .string (Qf (Qk ls))/\Ext w w'):=by
 have hl:=j6 h.1;have dy:=xB ls;refine QH (c:={RJ with cuts:=[]}) Qa Tryz.func50 rfl rfl rfl ?_;refine loop Qa [8,3] (λi:Nat=>[.int .i64 i,.int .i64 (Qk (ls.take i)).length]) (λi w'=>w=w'/\i<=n) (λi _=>n-i) 0 rfl ⟨rfl,Xt _⟩ ?_;rintro i _ ⟨rfl,hi⟩;refine Qz (λc1=>?_) (λc1=>?_)
 ·have Q5:i<n:=by omega
  obtain⟨s,hs⟩:∃s,ls[i]? =some s:=⟨_,XB (by omega)⟩
  have VC:ls.take (i+1)=ls.take i++ [s]:=by rw[V3,hs]<;>rfl
  have hu:=aQC (ls.take i) s;rw[<-VC] at hu;have ZL:(Qk (ls.take (i+1))).length<=(Qk ls).length:=by
   have e5:Qk ls=Qk (ls.take (i+1))++Qk (ls.drop (i+1)):=by
    have e6:∀a b:List (List Nat),Qk (a++b)=Qk a++Qk b:=λa b=>by simp[Qk]
    rw[<-e6,dE]
   rw[e5,Qq];omega
  refine Vr h.1 Q5 (λad u hA gZ Xy=>?_);rw[iP hs] at gZ;cases gZ;refine load Xy ?_;have X7:=Xi (s++ [10]);rw[Qq,gi] at X7;refine Qj (((Qk (ls.take (i+1))).length:Nat):Int) (by rw[hu];omega) (by omega) ?_;refine XF (by omega) ?_;refine Qj ((i+1:Nat):Int) (by show((i:Nat):Int)+1=_;omega) (by omega) ?_;exact⟨i+1,rfl,⟨rfl,Q5⟩,by show n-(i+1)<n-i;omega⟩
 ·refine call (kQI A n c ls w h (λad e h0=>?_) (by omega) (by omega)) ?_
  ·obtain⟨ad',e',hc⟩:=h.1.at_ h0;rw[e] at e';cases e';obtain⟨s,hs⟩:∃s,ls[0]? =some s:=⟨_,XB (by omega)⟩
   have:=hc 0 _ (iP hs);have h6:=World.block_lt_of_cell? w _ this;rw[nL] at h6;exact h6
  rintro _ w1 ⟨rfl,Qd⟩;exact⟨rfl,Qd⟩
namespace Nt
def val:List Nat->Nat
 | []=>0
 | x::l=>x+4294967296*val l
def Limbs (l:List Nat):Prop:=∀x∈l,x<4294967296
def oI:Nat->Nat->List Nat
 | 0,_=>[]
 | f+1,n=>if n=0 then [] else(n % 4294967296)::oI f (n/4294967296)
def J9 (n:Nat):List Nat:=oI n n
theorem kQK:∀(f g n:Nat),n<=f->n<=g->oI f n=oI g n:=by
 intro f;induction f with
 | zero=>
      intro g n h1 _;have:n=0:=by omega
      subst this;cases g<;>simp[oI]
 | succ f ih=>
  intro g n h1 h2;by_cases h0:n=0
  ·subst h0;cases g<;>simp[oI]
  ·cases g with
   | zero=>omega
   | succ g=>
    simp only[oI,if_neg h0];rw[ih g (n/4294967296) (by omega) (by omega)]
theorem ya:J9 0=[]:=rfl
theorem yb {n:Nat}(h:0<n):J9 n=(n % 4294967296)::J9 (n/4294967296):=by
 unfold J9;cases n with
 | zero=>omega
 | succ n=>
  rw[oI,if_neg (by omega)];rw[kQK n ((n+1)/4294967296) _ (by omega) (QC _)]
theorem Da:Limbs []:=λx h=>by cases h
theorem ru {x:Nat}{l:List Nat}:Limbs (x::l)↔x<4294967296/\Limbs l:=by
 unfold Limbs;simp
theorem kQL {l m:List Nat}:Limbs (l++m)↔Limbs l/\Limbs m:=by
 unfold Limbs;constructor
 ·exactλh=>⟨λx hx=>h x (by simp[hx]),λx hx=>h x (by simp[hx])⟩
 ·intro h x hx;rcases Xv.1 hx with h1 | h1
  ·exact h.1 x h1
  ·exact h.2 x h1
theorem Limbs.get {l:List Nat}(h:Limbs l){j x:Nat}(hx:l[j]? =some x):x<4294967296:=h x (Xk hx)
theorem Limbs.take {l:List Nat}(h:Limbs l)(n:Nat):Limbs (l.take n):=λx hx=>h x (bf hx)
theorem aQD (l m:List Nat):val (l++m)=val l+4294967296^l.length*val m:=by
 induction l with
 | nil=>simp[val]
 | cons x l ih=>simp only[Z5,val,ih,Q6,nD];grind
theorem IG (l:List Nat)(x:Nat):val (l++ [x])=val l+4294967296^l.length*x:=by
 rw[aQD];simp[val]
theorem aQE {l:List Nat}(h:Limbs l):val l<4294967296^l.length:=by
 induction l with
 | nil=>simp[val]
 | cons x l ih=>
  have h1:=(ru.1 h).1;have h2:=ih (ru.1 h).2;simp only[val,Q6,nD];omega
theorem aQF {l:List Nat}{i x:Nat}(h:l[i]? =some x):val (l.take (i+1))=val (l.take i)+4294967296^i*x:=by
 have hi:i<l.length:=(ZM.1 h).1;rw[V3,h,Option.toList_some,IG,K5,nv (Nat.le_of_lt hi)]
theorem rv (n:Nat):val (J9 n)=n:=by
 induction n using Nat.strongRecOn with
 | _ n ih=>
  by_cases h:n=0
  ·subst h;rfl
  ·rw[yb (by omega),val,ih _ (by omega)];omega
theorem Db (n:Nat):Limbs (J9 n):=by
 induction n using Nat.strongRecOn with
 | _ n ih=>
  by_cases h:n=0
  ·subst h;exact Da
  ·rw[yb (by omega),ru];exact⟨eM _ (by omega),ih _ (by omega)⟩
theorem kQM (n:Nat):(J9 n).getLast? ≠some 0:=by
 induction n using Nat.strongRecOn with
 | _ n ih=>
  by_cases h:n=0
  ·subst h;simp[ya]
  ·rw[yb (by omega)];by_cases h1:n/4294967296=0
   ·rw[h1,ya];simp;omega
   ·have:=ih (n/4294967296) (by omega);cases hl:J9 (n/4294967296)with
    | nil=>have:=rv (n/4294967296);rw[hl] at this;simp[val] at this;omega
    | cons y m=>rw[hl] at this;rw[List.getLast?_cons_cons];exact this
theorem kQN {l:List Nat}(h:Limbs l)(hz:l.getLast? ≠some 0):J9 (val l)=l:=by
 induction l with
 | nil=>rfl
 | cons x l ih=>
  obtain⟨hx,hl⟩:=ru.1 h;have ag:l.getLast? ≠some 0:=by
   cases l with
   | nil=>simp
   | cons y m=>rwa [List.getLast?_cons_cons] at hz
  have ih':=ih hl ag;have jt:0<x+4294967296*val l:=by
   rcases Nat.eq_zero_or_pos x with h0 | h0
   ·subst h0;cases l with
    | nil=>simp at hz
    | cons y m=>
     rcases Nat.eq_zero_or_pos (val (y::m))with h1 | h1
     ·rw[h1,ya] at ih';cases ih'
     ·omega
   ·omega
  rw[val,yb jt];have e1:(x+4294967296*val l) % 4294967296=x:=by omega
  have e2:(x+4294967296*val l)/4294967296=val l:=by omega
  rw[e1,e2,ih']
theorem IH (n k:Nat):(J9 n).length<=k↔n<4294967296^k:=by
 constructor
 ·intro h;have:=aQE (Db n);rw[rv] at this;exact Ye this (WW (by omega) h)
 ·intro h;induction k generalizing n with
  | zero=>simp at h;subst h;simp[ya]
  | succ k ih=>
   by_cases h0:n=0
   ·subst h0;simp[ya]
   ·rw[yb (by omega),Q6];have:n/4294967296<4294967296^k:=by
     rw[nD] at h;exact Nat.div_lt_of_lt_mul (by omega)
    have:=ih _ this;omega
def Vd (l:List Nat):Prop:=l.length<=1024/\l.getLast? ≠some 0
instance (l:List Nat):Decidable (Vd l):=by unfold Vd;infer_instance
theorem uR {n:Nat}(h:n<4294967296^1024):Vd (J9 n):=⟨(IH n 1024).2 h,kQM n⟩
def dZ (n:Nat):List Nat:=if(J9 n).length<=1024 then J9 n else []
def rx (n:Nat):Int:=if(J9 n).length<=1024 then 0 else 2
theorem kQO {l:List Nat}{n:Nat}(h:∀x∈l.drop n,x=0):val (l.take n)=val l:=by
 have h1:val l=val (l.take n++l.drop n):=by rw[dE]
 rw[h1,aQD];have:∀m:List Nat,(∀x∈m,x=0)->val m=0:=by
  intro m;induction m with
  | nil=>intro _;rfl
  | cons x m ih=>intro h;rw[val,h x (by simp),ih (λy hy=>h y (by simp[hy]))]
 rw[this _ h];simp
theorem kQP {l:List Nat}(hl:Limbs l){n:Nat}(h:∀x∈l.drop n,x=0)(hn:n=0∨∃x,l[n-1]? =some x/\x≠0):l.take n=J9 (val l):=by
 rw[<-kQO h,kQN (hl.take n)];rcases hn with rfl | ⟨x,hx,h0⟩
 ·simp
 ·have Xe:n-1<l.length:=(ZM.1 hx).1;rcases Nat.eq_zero_or_pos n with rfl | hp
  ·simp
  ·rw[tz,K5,nv (by omega),F7,Qe (by omega),hx];simpa using h0
theorem kQQ {l:List Nat}(h:Limbs l)(i:Nat):val (l.take i)<4294967296^i:=
 Ye (aQE (h.take i)) (WW (by omega) (by rw[K5];omega))
theorem pQB (l:List Nat)(i:Nat):val (l.drop i)=l[i]?.getD 0+4294967296*val (l.drop (i+1)):=by
 rcases Nat.lt_or_ge i l.length with h | h
 ·rw[av h,val];simp[h]
 ·rw[tv h,tv (by omega)];simp[val,h]
theorem aQG (l:List Nat)(i:Nat):val (l.take (i+1))=val (l.take i)+4294967296^i*l[i]?.getD 0:=by
 rcases Nat.lt_or_ge i l.length with h | h
 ·rw[aQF (XB h)];simp[h]
 ·rw[Jv h,Jv (by omega)];simp[h]
theorem kQR {l:List Nat}(h:Limbs l)(i:Nat):l[i]?.getD 0<4294967296:=by
 cases hi:l[i]? with
 | none=>simp
 | some x=>simpa using h.get hi
theorem kQS {p:List Nat}{i c:Nat}{a b:List Nat}(hp:p.length=i)(h:val p+c*4294967296^i=val (a.take i)+val (b.take i)){s:Nat}(hs:s=c+a[i]?.getD 0+b[i]?.getD 0):
  val (p++ [s % 4294967296])+s/4294967296*4294967296^(i+1)=val (a.take (i+1))+val (b.take (i+1)):=by
 rw[IG,hp,aQG,aQG,nD];have hd:s % 4294967296+4294967296*(s/4294967296)=s:=Nat.mod_add_div s 4294967296;generalize 4294967296^i=P at*;generalize s % 4294967296=r at*;generalize s/4294967296=q at*
 grind
theorem aQH {p:List Nat}(hp:Limbs p)(s:Nat):Limbs (p++ [s % 4294967296]):=kQL.2 ⟨hp,ru.2 ⟨eM _ (by omega),Da⟩⟩
theorem kQT {α:Type}(p:List α)(x y:α)(r:List α):(p++x::r).set p.length y=p++y::r:=by
 induction p with
 | nil=>rfl
 | cons z p ih=>simp[ih]
theorem aQI {α:Type}(p:List α)(x y:α)(r:List α){i:Nat}(hi:p.length=i):(p++x::r).set i y=(p++ [y])++r:=by
 subst hi;rw[kQT];simp
theorem kQU {α:Type}(p:List α)(x:α)(r:List α){i:Nat}(hi:p.length=i):(p++x::r)[i]? =some x:=by
 subst hi;simp
end Nt
namespace Nt
def cells (l:List Nat):List Value:=l.map λ(x:Nat)=>.int .u32 x
theorem Dc {l:List Nat}{j:Nat}{u:Value}(h:(cells l)[j]? =some u):∃x,l[j]? =some x/\u= .int .u32 (x:Int):=by
 simp only[cells,aq,F9] at h;obtain⟨x,hx,rfl⟩:=h;exact⟨x,hx,rfl⟩
theorem kQV {l:List Nat}{j x:Nat}(h:l[j]? =some x):(cells l)[j]? =some (.int .u32 (x:Int)):=by
 simp[cells,h]
theorem kQW (l m:List Nat):cells (l++m)=cells l++cells m:=by simp[cells]
theorem kQX (l:List Nat)(n:Nat):cells (l.take n)=(cells l).take n:=by simp[cells]
theorem aQJ (l:List Nat)(i x:Nat):cells (l.set i x)=(cells l).set i (.int .u32 (x:Int)):=by simp[cells,List.map_set]
theorem kQY (l:List Nat):∀u∈cells l,JF u=true:=by
 intro u hu;simp only[cells,ZG] at hu;obtain⟨x,_,rfl⟩:=hu;rfl
abbrev SN (w:World)(A:Option Addr)(n c:Nat)(l:List Nat):Prop:=Sl w 1 A n c (cells l)
theorem SN.length {w:World}{A:Option Addr}{n c:Nat}{l:List Nat}(h:SN w A n c l):l.length=n:=by have:=h.len;simpa [cells] using this
theorem SN.bd {w:World}{A:Option Addr}{n c:Nat}{l:List Nat}(h:SN w A n c l):n<=c/\(c:Int)<=9223372036854775807:=by
 have h1:=h.le;have h2:=h.cap;unfold maxLen at h2;omega
theorem kQZ (l:List Nat):decide (Vd l)=(decide (l.length<=1024)&&(decide (l.length=0)||(l.getLast? !=some 0))):=by
 unfold Vd;cases l with
 | nil=>simp
 | cons x l=>rw[p9];simp
theorem II (A:Option Addr)(n c:Nat)(l:List Nat)(w:World)(h:SN w A n c l):
  Fn Tryz.prog 139 [.slice A n c] w (λv w'=>v= .bool (decide (Vd l))/\w'=w):=by
 have hl:=h.length;have hb:=h.bd;refine QH (c:=eQ7) Qa Tryz.func139 rfl rfl rfl ?_;rw[kQZ];refine Qz (λh1=>?_) (λh1=>?_)
 ·refine Zd (λh2=>?_) (λh2=>?_)
  ·refine And.intro ?_ rfl;have:l=[]:=Wx (by omega);subst this;simp
  ·refine Qj ((n-1:Nat):Int) (by omega) (by omega) ?_;refine Vr h (by omega) (λad u hA hu Xy=>?_);obtain⟨x,hx,rfl⟩:=Dc hu;refine load Xy ?_;refine And.intro ?_ rfl;have pR:l.getLast? =some x:=by rw[tz];rw[hl];exact hx
   congr 1;rw[pR,X2 (by omega:l.length<=1024),Zn (by omega:¬l.length=0)];show((x:Int) !=0)=_;rw[p9];simp
 ·refine And.intro ?_ rfl;rw[Zn (by omega:¬l.length<=1024)]<;>rfl
theorem kQ0 {l:List Nat}{k:Nat}(hk:0<k)(h:∀x∈l.drop k,x=0)(h0:l[k-1]? =some 0):∀x∈l.drop (k-1),x=0:=by
 have Xe:k-1<l.length:=(ZM.1 h0).1;rw[av Xe];intro x hx;rcases Q3.1 hx with rfl | hx
 ·simpa [XB Xe] using h0
 ·rw[show k-1+1=k by omega] at hx;exact h x hx
theorem kQ1 (A:Option Addr)(n c:Nat)(l:List Nat)(w:World)(h:SN w A n c l)(hL:Limbs l):
  Fn Tryz.prog 195 [.slice A n c] w (λv w'=>∃A' c',v= .tuple #[.slice A' (dZ (val l)).length c',.int .i64 (rx (val l))]/\SN w A' (dZ (val l)).length c' (dZ (val l))/\(A'=A∨A'=none)/\w'=w):=by
 have hl:=h.length;have hb:=h.bd;refine QH (c:=fQG) Qa Tryz.func195 rfl rfl rfl ?_;refine loop Qa [4] (λk:Nat=>[.int .i64 k]) (λk w'=>w'=w/\k<=n/\∀x∈l.drop k,x=0) (λk _=>k) n rfl ⟨rfl,QC n,by rw[<-hl];simp⟩ ?_;intro k w' hI;obtain⟨rfl,Xn,hz⟩:=hI;have done:(k=0∨∃x,l[k-1]? =some x/\x≠0)->∃A' c',(if k<=1024 then Value.tuple #[.slice A k c,.int .i64 0] else .tuple #[.slice none 0 0,.int .i64 2])= .tuple #[.slice A' (dZ (val l)).length c',.int .i64 (rx (val l))]/\SN w' A' (dZ (val l)).length c' (dZ (val l))/\(A'=A∨A'=none)/\w'=w':=by
  intro pR;have hs:=kQP hL hz pR;have Q0:(J9 (val l)).length=k:=by rw[<-hs,K5];omega
  unfold dZ rx;rw[Q0];split
  ·refine⟨A,c,by rw[Q0],?_,.inl rfl,rfl⟩;rw[Q0];have:=h.take Xn
   rwa [ga,<-kQX,hs] at this
  ·exact⟨none,0,rfl,Sl.nil w' 1,.inr rfl,rfl⟩
 refine Qz (λh1=>?_) (λh1=>?_)
 ·refine Qj ((k-1:Nat):Int) (by omega) (by omega) ?_;refine Vr h (by omega) (λad u hA hu Xy=>?_);obtain⟨x,hx,rfl⟩:=Dc hu;refine load Xy ?_;refine Zd (λh2=>?_) (λh2=>?_)
  ·refine Qj ((k-1:Nat):Int) (by omega) (by omega) ?_;refine⟨k-1,rfl,⟨rfl,by omega,?_⟩,by show k-1<k;omega⟩;have:x=0:=by omega
   subst this;exact kQ0 (by omega) hz hx
  ·have hd:=done (.inr ⟨x,hx,by omega⟩);refine Qz (λh3=>?_) (λh3=>?_)
   ·rw[if_neg (by omega)] at hd;exact hd
   ·refine jO Qa rfl rfl rfl rfl rfl rfl (by omega) ?_;rw[Qe (by omega)] at hd;exact hd
 ·have hd:=done (.inl (by omega));refine Qz (λh3=>?_) (λh3=>?_)
  ·omega
  ·refine jO Qa rfl rfl rfl rfl rfl rfl (by omega) ?_;rw[Qe (by omega)] at hd;exact hd
theorem aQK (A:Option Addr)(n c:Nat)(l:List Nat)(w:World)(h:SN w A n c l)(hL:Limbs l):
  Fn Tryz.prog 195 [.slice A n c] w (λv w'=>∃A' c',v= .tuple #[.slice A' (dZ (val l)).length c',.int .i64 (rx (val l))]/\SN w A' (dZ (val l)).length c' (dZ (val l))/\w'=w):=
 (kQ1 A n c l w h hL).mono λ_ _ ⟨A',c',h1,h2,_,h4⟩=>⟨A',c',h1,h2,h4⟩
end Nt
namespace Nt
theorem IJ {n:Nat}(h:(J9 n).length<=1024):dZ n=J9 n:=Qe h
theorem kQ2 {n:Nat}(h:(J9 n).length<=1024):rx n=0:=Qe h
theorem kQ3 (N:Nat)(h:N<18446744073709551616):val [N % 4294967296,N/4294967296 % 4294967296]=N:=by
 simp[val];omega
theorem of_fn (N:Nat)(w:World)(hN:N<18446744073709551616):
  Fn Tryz.prog 135 [.int .u64 N] w (λv w'=>∃A c,v= .slice A (J9 N).length c/\SN w' A (J9 N).length c (J9 N)/\Ext w w'):=by
 refine QH (c:=eQ3) Qa Tryz.func135 rfl rfl rfl ?_;refine BM ?_;refine BL 32 4294967296 (by decide) rfl rfl ?_;refine BM ?_;refine tO Qa rfl rfl rfl rfl rfl rfl rfl rfl rfl rfl ?_;intro w1 hE X7 hB;have hs:SN w1 (some ⟨w.heap.size,0,none⟩) 2 2 [N % 4294967296,N/4294967296 % 4294967296]:=Sl.own' hB rfl (by simp[maxLen]);have hL:Limbs [N % 4294967296,N/4294967296 % 4294967296]:=ru.2 ⟨eM _ (by omega),ru.2 ⟨eM _ (by omega),Da⟩⟩;refine call (aQK _ _ _ _ _ hs hL) ?_;rintro v w' ⟨A',c',rfl,wj,rfl⟩;rw[kQ3 N hN] at wj ⊢;have hr:dZ N=J9 N:=IJ (by have:=(IH N 2).2 (by omega);omega);rw[hr] at wj ⊢;exact⟨A',c',rfl,wj,hE⟩
end Nt
namespace Nt
def IK (a b:List Nat)(n:Nat):List Nat:=if Vd a/\Vd b then dZ n else []
def IL (a b:List Nat)(n:Nat):Int:=if Vd a/\Vd b then rx n else 1
theorem aQL {a b:List Nat}{n:Nat}(h:¬(Vd a/\Vd b)):IK a b n=[]:=if_neg h
theorem aQM {a b:List Nat}{n:Nat}(h:¬(Vd a/\Vd b)):IL a b n=1:=if_neg h
theorem IM {a b:List Nat}{n:Nat}(ha:Vd a)(hb:Vd b):IK a b n=dZ n:=Qe ⟨ha,hb⟩
theorem aQN {a b:List Nat}{n:Nat}(ha:Vd a)(hb:Vd b):IL a b n=rx n:=Qe ⟨ha,hb⟩
def aQO (w:World)(l:List Nat)(e:Int)(v:Value)(w':World):Prop:=
 ∃A c,v= .tuple #[.slice A l.length c,.int .i64 e]/\SN w' A l.length c l/\Ext w w'
theorem aQP (w w':World)(e:Int)(h:Ext w w'):aQO w [] e (.tuple #[.slice none 0 0,.int .i64 e]) w':=⟨none,0,rfl,Sl.nil _ 1,h⟩
theorem add_fn (A B:Option Addr)(n c m d:Nat)(a b:List Nat)(w:World)(ha:SN w A n c a)(hb:SN w B m d b)(Pj:Limbs a)(wi:Limbs b):
  Fn Tryz.prog 138 [.slice A n c,.slice B m d] w (aQO w (IK a b (val a+val b)) (IL a b (val a+val b))):=by
 refine QH (c:={eQ6 with cuts:=[3,12]}) Qa Tryz.func138 rfl rfl rfl ?_;refine call (II _ _ _ _ _ ha) ?_;rintro v w' ⟨rfl,rfl⟩;refine nK (Qz (λkQ=>?_) (λkQ=>?_))
 case refine_2=>rw[aQL (λh=>kQ h.1),aQM (λh=>kQ h.1)];exact aQP _ _ _ (Ext.refl _)
 refine call (II _ _ _ _ _ hb) ?_;rintro v w' ⟨rfl,rfl⟩;refine nK (Qz (λia=>?_) (λia=>?_))
 case refine_2=>rw[aQL (λh=>ia h.2),aQM (λh=>ia h.2)];exact aQP _ _ _ (Ext.refl _)
 rw[IM kQ ia,aQN kQ ia];refine Ru Qa [0,1] (λs:(Option Addr×Nat×Nat×List Nat)×(Option Addr×Nat×Nat×List Nat)=>[.slice s.1.1 s.1.2.1 s.1.2.2.1,.slice s.2.1 s.2.2.1 s.2.2.2.1])
  (λs w2=>w2=w'/\SN w' s.1.1 s.1.2.1 s.1.2.2.1 s.1.2.2.2/\SN w' s.2.1 s.2.2.1 s.2.2.2.1 s.2.2.2.2/\Limbs s.1.2.2.2/\Limbs s.2.2.2.2/\s.2.2.1<=s.1.2.1/\s.1.2.1<=1024/\val a+val b=val s.1.2.2.2+val s.2.2.2.2) ?_ ?_
 ·have hla:=ha.length;have vY:=hb.length;have h1:=kQ.1;have h2:=ia.1;refine Qz (λh=>?_) (λh=>?_)
  ·exact⟨((B,m,d,b),(A,n,c,a)),rfl,rfl,hb,ha,wi,Pj,by show n<=m;omega,by show m<=1024;omega,Nat.add_comm _ _⟩
  ·exact⟨((A,n,c,a),(B,m,d,b)),rfl,rfl,ha,hb,Pj,wi,by show m<=n;omega,by show n<=1024;omega,rfl⟩
 rintro⟨⟨A,n,c,x⟩,⟨B,m,d,y⟩⟩ w2 ⟨rfl,hx,hy,pX,Pk,Fp,hn,hval⟩
 dsimp only at hx hy pX Pk Fp hn hval ⊢
 rw[hval];clear hval kQ ia ha hb Pj wi;have hlx:=hx.length;have hly:=hy.length;refine Qj ((n+1:Nat):Int) (by omega) (by omega) ?_;refine BO Qa rfl rfl rfl rfl rfl rfl rfl rfl (by show 4*_<=_;omega) (by unfold maxLen;omega) ?_;intro w3 Qi pQ6 Qu;refine eQr Qa rfl rfl rfl rfl rfl rfl rfl Qu (hx.ext Qi) (by omega) (by simp) (kQY x) ?_;intro w4 nQN pQ7 QX;have Qs:Ext w2 w4:=Qi.own nQN (QC _);have LM:Blk w4 w2.heap.size 219 (cells (x++ [0])):=by
  have e:cells x++(List.replicate (n+1) (Value.int .u32 0)).drop n=cells (x++ [0]):=by
   rw[kQW,List.drop_replicate,show n+1-n=1 by omega]<;>rfl
  rw[<-e];exact QX
 refine loop Qa [33,7] (λs:Nat×Nat=>[.int .i64 s.1,.int .u64 s.2]) (λs w5=>Ext w2 w5/\s.1<=n/\s.2<2/\∃p,p.length=s.1/\Limbs p/\Blk w5 w2.heap.size 219 (cells (p++(x.drop s.1++ [0])))/\val p+s.2*4294967296^s.1=val (x.take s.1)+val (y.take s.1))
  (λs _=>n-s.1) (0,0) rfl ⟨Qs,Xt _,by decide,[],rfl,Da,by simpa using LM,by simp[val]⟩ ?_
 rintro⟨i,k⟩ w5 ⟨Qx,hi,hk,p,hp,hLp,QB,hv⟩
 dsimp only at hi hk hp QB hv ⊢
 refine Qz (λh2=>?_) (λh2=>?_)
 ·have WU:x[i]? =some x[i]:=XB (by omega);have O5:x.drop i=x[i]::x.drop (i+1):=av (by omega);have gU:=pX.get WU;rw[O5,Z5] at QB;refine index (by omega) ?_;refine Qp QB (kQV (kQU p _ _ hp)) ?_;refine BJ (by omega) ?_;refine BK ((k+x[i]:Nat):Int) (by omega) (by omega) ?_;refine Ru Qa [7] (λs:Nat=>[.int .u64 s]) (λs w6=>w6=w5/\s=k+x[i]?.getD 0+y[i]?.getD 0) ?_ ?_
  ·refine Qz (λh3=>?_) (λh3=>?_)
   ·refine Vr (hy.ext Qx) (by omega) (λad u hA hu Xy=>?_);obtain⟨z,hz,rfl⟩:=Dc hu;have vZ:=Pk.get hz;refine load Xy ?_;refine BJ (by omega) ?_;refine BK ((k+x[i]+z:Nat):Int) (by omega) (by omega) ?_;exact⟨k+x[i]+z,rfl,rfl,by rw[hz,WU];rfl⟩
   ·exact⟨k+x[i],rfl,rfl,by rw[WU,nA (by omega)];rfl⟩
  rintro s w6 ⟨rfl,hs⟩;have hyl:=kQR Pk i;have hsb:s<2*4294967296:=by rw[WU,gc] at hs;omega
  refine BM ?_;refine index (by omega) ?_;refine wO QB (by simp[cells];omega) ?_;intro w7 Nm Q8;refine BL 32 4294967296 (by decide) rfl rfl ?_;refine Qj ((i+1:Nat):Int) (by omega) (by omega) ?_;refine⟨(i+1,s/4294967296),rfl,⟨Qx.own Nm (QC _),by show i+1<=n;omega,by show s/4294967296<2;omega,p++ [s % 4294967296],by simp[hp],aQH hLp s,?_,kQS hp hv hs⟩,by show n-(i+1)<n-i;omega⟩;rw[<-aQJ,aQI _ _ _ _ hp] at Q8;exact Q8
 ·have:i=n:=by omega
  subst this;rw[tv (by omega),aZ] at QB;rw[Jv (by omega),Jv (by omega)] at hv;refine BM ?_;refine index (by omega) ?_;refine wO QB (by simp[cells];omega) ?_;intro w7 Nm Q8;rw[<-aQJ,aQI _ _ _ _ hp,JZ] at Q8;have hs:SN w7 (some ⟨w2.heap.size,0,none⟩) (i+1) (i+1) (p++ [k % 4294967296]):=Sl.own' Q8 (by simp[cells,hp]) (by unfold maxLen;omega);refine call (aQK _ _ _ _ _ hs (aQH hLp k)) ?_;rintro v w8 ⟨A',c',rfl,wj,rfl⟩;have e:val (p++ [k % 4294967296])=val x+val y:=by
   rw[IG,hp,jE (by omega),wy];exact hv
  rw[e] at wj ⊢;exact⟨A',c',rfl,wj,Qx.own Nm (QC _)⟩
end Nt
namespace Nt
def lV (l:List Nat):Bool:=decide (Vd l)&&decide (l.length<=2)
def uS (l:List Nat):Nat:=if lV l=true then val l else 0
theorem aQQ {l:List Nat}(h:¬(Vd l/\l.length<=2)):uS l=0/\lV l=false:=by
 have hb:lV l=false:=by unfold lV;rw[eN];simpa using h
 exact⟨by unfold uS;rw[hb];rfl,hb⟩
theorem aQR {l:List Nat}(h1:Vd l)(h2:l.length<=2):uS l=val l/\lV l=true:=by
 have hb:lV l=true:=by unfold lV;simp[h1,h2]
 exact⟨by unfold uS;rw[hb];rfl,hb⟩
theorem aQS {x n d:Nat}{y:Int}{K:Int->Prop}(hy:0<=y)(hn:min y.toNat 64=n)(hd:2^n=d)(hx:x*d<=18446744073709551615)(k:K ((x*d:Nat):Int)):gk (0<=y) (IntKind.u64.wrap ((x:Int)*2^(min y.toNat IntKind.u64.bits))) K:=by
 refine normIf hy ?_ k;rw[show min y.toNat IntKind.u64.bits=n from hn];have e:(x:Int)*2^n=((x*d:Nat):Int):=by rw[<-hd];norm_cast
 rw[e];exact IntWalk.u64_in _ (by omega)
theorem kQ4 {a x:Nat}(ha:a<4294967296):a ||| (x*4294967296)=a+4294967296*x:=by
 have:=Nat.shiftLeft_add_eq_or_of_lt (b:=a) (i:=32) (by omega) x;rw[Nat.shiftLeft_eq,show(2:Nat)^32=4294967296 from rfl] at this;rw[Nat.or_comm];omega
theorem kQ5 (A:Option Addr)(n c:Nat)(l:List Nat)(w:World)(h:SN w A n c l)(hL:Limbs l):
  Fn Tryz.prog 88 [.slice A n c] w (λv w'=>v= .tuple #[.int .u64 (uS l),.bool (lV l)]/\w'=w):=by
 have hl:=h.length;refine QH (c:=c88) Qa Tryz.func88 rfl rfl rfl ?_;refine call (II _ _ _ _ _ h) ?_;rintro v w' ⟨rfl,rfl⟩;refine nK (Qz (λhv=>?_) (λhv=>?_))
 ·refine Qz (λh2=>?_) (λh2=>?_)
  ·obtain⟨e1,e2⟩:=aQQ (l:=l) (λk=>by omega);rw[e1,e2];exact And.intro rfl rfl
  ·obtain⟨e1,e2⟩:=aQR hv (by omega);rw[e1,e2];refine loop Qa [16,4] (λs:Nat=>[.int .i64 s,.int .u64 (val (l.take s):Nat)]) (λs w2=>w2=w'/\s<=n) (λs _=>n-s) 0 rfl ⟨rfl,Xt _⟩ ?_;rintro k w2 ⟨rfl,hk⟩
   dsimp only
   refine Qz (λh3=>?_) (λh3=>?_)
   ·refine Vr h (by omega) (λad u hA hu Xy=>?_);obtain⟨x,hx,rfl⟩:=Dc hu;have gU:=hL.get hx;refine load Xy ?_;refine BJ (by omega) ?_;have jZk:=aQF hx;have Xe:=kQQ hL k;rcases(by omega:k=0∨k=1)with rfl | rfl
    ·refine Qj 0 (by omega) (by omega) ?_;refine aQS (n:=0) (d:=1) (by decide) (by decide) (by decide) (by omega) ?_;rw[ga];have e0:val (l.take 0)=0:=by simp[val]
     rw[e0];refine Rx (s:=x) (Nat.zero_or x) (by omega) (by omega) ?_;refine Qj ((1:Nat):Int) (by omega) (by omega) ?_;have cr:val (l.take 1)=x:=by have h9:=jZk;rw[e0] at h9;simpa using h9
     refine⟨1,?_,⟨rfl,by omega⟩,by show n-1<n-0;omega⟩
     dsimp only
     rw[cr]<;>rfl
    ·refine Qj 32 (by omega) (by omega) ?_;refine aQS (n:=32) (d:=4294967296) (by decide) (by decide) (by decide) (by omega) ?_;refine Rx (kQ4 (by omega)) (by omega) (by omega) ?_;refine Qj ((2:Nat):Int) (by omega) (by omega) ?_;have mi:val (l.take 2)=val (l.take 1)+4294967296*x:=by have h9:=jZk;simpa using h9
     refine⟨2,?_,⟨rfl,by omega⟩,by show n-2<n-1;omega⟩
     dsimp only
     rw[mi]<;>rfl
   ·rw[Jv (by omega)];exact And.intro rfl rfl
 ·obtain⟨e1,e2⟩:=aQQ (l:=l) (λk=>hv k.1);rw[e1,e2];exact And.intro rfl rfl
theorem u8_of {a:Int}(h:(Lit.int .u8 a).wf=true):∃N:Nat,a=(N:Int)/\N<256:=by
 simp[Lit.wf,IntKind.min,IntKind.max,IntKind.signed,IntKind.bits] at h;exact⟨a.toNat,by omega,by omega⟩
end Nt
def NumIn (w:World)(b:Nat)(v:Value):Prop:=∃A m c N,v= .slice A m c/\Nt.SN w A m c (Nt.J9 N)/\N<=b
theorem NumIn.ext {w w':World}{b:Nat}{v:Value}(h:NumIn w b v)(k:Ext w w'):NumIn w' b v:=by
 obtain⟨A,m,c,N,h1,h2,h3⟩:=h;exact⟨A,m,c,N,h1,h2.ext k,h3⟩
theorem NumIn.mod {w w':World}{b g t:Nat}{v:Value}{cs:List Value}(h:NumIn w b v)(hB:Blk w g t cs)(XO:∀u∈cs,∃A m c,u= .slice A m c)(hm:Mod (·=g) w w'):NumIn w' b v:=by
 obtain⟨A,m,c,N,h1,h2,h3⟩:=h;refine⟨A,m,c,N,h1,h2.modS hm (λh0 i hi e=>?_),h3⟩;subst e;obtain⟨ad,rfl,hc⟩:=h2.at_ h0;obtain⟨ad',ea',hb⟩:=hi;cases ea';have Q0:=h2.length;obtain⟨x,hx⟩:∃x,(Nt.J9 N)[0]? =some x:=⟨_,XB (by omega)⟩
 have Xy:=hc 0 _ (show(Nt.cells (Nt.J9 N))[0]? =some (.int .u32 x) by unfold Nt.cells;rw[aq,hx];rfl);unfold World.cell? at Xy;rw[nL,hb,show w.heap[i]? =_ from hB] at Xy;simp only at Xy;split at Xy
 ·cases Xy
 ·rw[Gc] at Xy;obtain⟨_,_,_,hs⟩:=XO _ (Xk Xy);cases hs
def d9 (n:Nat)(nd:List Br)(x:Nat):Nat:=min n (Qm nd x).toNat
theorem kQ6 (x:DV)(n nb ab m:Nat)(w:World)(hN:Blk w nb 3 [.int .i64 n])(hA:Blk w ab 32 x.cells)(hx:SB w x.A x.n x.c x.nd)(hm:m<x.n+2)(h0:0<=Qm x.nd m):
  Fn Tryz.prog 136 [.int .i64 m,.pointer (some ⟨nb,0,none⟩),.pointer (some ⟨ab,0,none⟩)] w (λu w'=>u= .int .i64 (d9 n x.nd m)/\Ext w w'):=by
 refine QH (c:={eQ4 with cuts:=[]}) Qa Tryz.func136 rfl rfl rfl ?_;have hd:=Ext.drew w;refine XL Qa (Ext w) 6 [(true,0),(true,1),(true,2),(false,3),(true,4),(true,5)] (by kernel_rfl) hd ?_;refine QQ (v:=.int .i64 n) (λw' Qb=>by rw[(hN.ext Qb).cell0];rfl) ?_;refine Xo (vs:=x.cells) rfl (λw' Qb j u hj=>by rw[(hA.ext Qb).cell];exact hj) ?_;refine call (dQ x.A x.n x.c x.r m x.nd w.drew (hx.ext hd) (by omega)) ?_;rintro _ w2 ⟨rfl,Qg⟩;refine⟨hd.trans Qg,?_⟩;refine norm (m:=(d9 n x.nd m:Int)) (by unfold d9;split<;>omega) ?_;exact⟨rfl,hd.trans Qg⟩
abbrev kQ7 (nb ab:Nat):Value:=.func (.func 136) #[] #[.pointer (some ⟨nb,0,none⟩),.pointer (some ⟨ab,0,none⟩)]
structure CtK (w:World) (x:DV) (n nb ab cb pb sb:Nat) (cs:List Value):Prop where
 hN:Blk w nb 3 [.int .i64 n]
 hA:Blk w ab 32 x.cells
 hx:SB w x.A x.n x.c x.nd
 hC:Blk w cb 213 [.slice (some ⟨sb,0,none⟩) (x.n+2) (x.n+2)]
 hP:Blk w pb 215 [kQ7 nb ab]
 hS:Blk w sb 143 cs
 len:cs.length=x.n+2
 sl:∀u∈cs,∃A m c,u= .slice A m c
 nums:∀(j:Nat) (v:Value),cs[j]? =some v->NumIn w (2^(n-d9 n x.nd j)) v
theorem CtK.ext {w w':World}{x:DV}{n nb ab cb pb sb:Nat}{cs:List Value}(h:CtK w x n nb ab cb pb sb cs)(k:Ext w w'):CtK w' x n nb ab cb pb sb cs:=
 ⟨h.hN.ext k,h.hA.ext k,h.hx.ext k,h.hC.ext k,h.hP.ext k,h.hS.ext k,h.len,h.sl,λj v hv=>(h.nums j v hv).ext k⟩
theorem aQT {A B:Option Addr}{m c k d N M b:Nat}(hb:N+M<=b)(hb2:b<=4096)(w:World)(hA:Nt.SN w A m c (Nt.J9 N))(hB:Nt.SN w B k d (Nt.J9 M)):
  Fn Tryz.prog 138 [.slice A m c,.slice B k d] w (λu w'=>∃v,u= .tuple #[v,.int .i64 0]/\NumIn w' b v/\Ext w w'):=by
 have lim:∀x,x<=4096->x<4294967296^1024:=λx hx=>(show ∀k,0<k->x<4294967296^k from λk p=>Ye (show x<4294967296^1 by omega) (WW (by decide) p)) 1024 (by decide)
 have vA:=Nt.uR (lim N (by omega));have vB:=Nt.uR (lim M (by omega));refine(Nt.add_fn A B m c k d _ _ w hA hB (Nt.Db N) (Nt.Db M)).mono ?_;rintro u w' ⟨A',c',hu,hS,hE⟩;rw[Nt.aQN vA vB,Nt.IM vA vB,Nt.rv,Nt.rv,Nt.kQ2 (Nt.uR (lim (N+M) (by omega))).1,Nt.IJ (Nt.uR (lim (N+M) (by omega))).1] at hu;rw[Nt.IM vA vB,Nt.rv,Nt.rv,Nt.IJ (Nt.uR (lim (N+M) (by omega))).1] at hS;subst hu;exact⟨_,rfl,⟨A',_,c',N+M,rfl,hS,hb⟩,hE⟩
theorem IN {w:World}{x:DV}{n nb ab cb pb sb:Nat}{cs:List Value}(hn:n<=12)(K:CtK w x n nb ab cb pb sb cs)(m f:Nat)(hm:m<x.n+2)(h0:0<=Qm x.nd m)(hf:f<=d9 n x.nd m):
  Fn Tryz.prog 137 [.int .i64 m,.int .i64 f,.pointer (some ⟨cb,0,none⟩),.pointer (some ⟨pb,0,none⟩)] w (λu w'=>∃v,u= .tuple #[v,.int .i64 0]/\NumIn w' (2^(n-f)) v/\Ext w w'):=by
 have js:d9 n x.nd m<=n:=Nat.min_le_left _ _;have hmx:=K.hx.1.cap;have qQJ:=K.hx.1.le;refine QH (c:={eQ5 with cuts:=[]}) Qa Tryz.func137 rfl rfl rfl ?_;refine Qy K.hC rfl ?_;obtain⟨v,hv⟩:∃v,cs[m]? =some v:=⟨_,XB (by rw[K.len];omega)⟩
 refine index (j:=m) (by omega) ?_;refine Qp K.hS hv ?_;refine Qy K.hP rfl ?_;refine call (kQ6 x n nb ab m w K.hN K.hA K.hx hm h0) ?_;rintro _ w1 ⟨rfl,Qd⟩;generalize hp:d9 n x.nd m=p at*;refine Qj ((p-f:Nat):Int) (by omega) (by omega) ?_;have hN0:=(K.nums m v hv).ext Qd;rw[hp] at hN0;refine loop Qa [8,20] (λs:Value×Nat=>[s.1,.int .i64 s.2]) (λs w'=>Ext w w'/\s.2<=p-f/\NumIn w' (2^(n-p)*2^s.2) s.1) (λs _=>p-f-s.2) (v,0) rfl ⟨Qd,Xt _,by simpa using hN0⟩ ?_;rintro⟨u,i⟩ w2 ⟨Qg,hi,A,mm,c,N,rfl,hS,AN⟩;simp only at hi AN;refine Qz (λc1=>?_) (λc1=>?_)
 ·have Pm:i<p-f:=by simp only at c1;omega
  have e2:2^(n-p)*2^(i+1)<=4096:=by
   rw[<-Nat.pow_add];exact X4 (WW (by decide) (show n-p+(i+1)<=12 by omega)) (by decide)
  refine call (aQT (b:=2^(n-p)*2^(i+1)) (by rw[nD,<-Nat.mul_assoc];omega) e2 w2 hS hS) ?_;rintro _ w3 ⟨u,rfl,Po,Qi⟩;refine YU rfl ?_;refine Qj ((i+1:Nat):Int) (by show((i:Nat):Int)+1=_;omega) (by omega) ?_;exact⟨(u,i+1),rfl,⟨Qg.trans Qi,Pm,Po⟩,by show p-f-(i+1)<p-f-i;omega⟩
 ·have Pm:i=p-f:=by simp only at c1;omega
  refine⟨_,rfl,⟨A,mm,c,N,rfl,hS,?_⟩,Qg⟩;rw[Pm,<-Nat.pow_add,show n-p+(p-f)=n-f by omega] at AN;exact AN
theorem kQ8 {c:Cx}{o:Oper}{S:Env}{w:World}{K:Env->World->Prop}{Q:Zj}{x y z:Operand}{ts:Array TypeId}{k1 k2 k3:IntKind}(ho:o.op= .call ⟨.builtin .max, #[x,y,z],ts⟩)(hx:S.ev x=some (.int k1 0))(hy:S.ev y=some (.int k2 0))(hz:S.ev z=some (.int k3 0))
  (kk:Xh c S o.dst (.v (.int k1 0)) (λS=>K S w)):Zc c o S w K Q:=by
 refine JG (w':=w) (v:=.int k1 0) (λa hf=>?_) kk;have e1:=hf.ev hx;have e2:=hf.ev hy;have e3:=hf.ev hz;simp[execOp,ho,resolve,invoke,builtin,e1,e2,e3,Builtin.max_,Builtin.max2]
theorem kQ9 {n:Nat}{nd:List Br}{x:Nat}(h:(x:Int)<2)(hn:n<=12):d9 n nd x=n:=by
 unfold d9 Qm;rw[Qe h];show min n 64=n;omega
theorem lQa {n i:Nat}{nd:List Br}{b:Br}(hb:nd[i]? =some b)(h0:0<=b.v)(hv:b.v<n):d9 n nd (i+2)=b.v.toNat:=by
 unfold d9 Qm;rw[if_neg (by omega),show(((i+2:Nat):Int)-2).toNat=i by omega,hb];simp only[ww,gc];omega
theorem jZq {nd:List Br}{r:Int}(h:VD nd r){x:Int}:0<=Qm nd x:=by
 unfold Qm;split
 ·decide
 ·cases hb:nd[(x-2).toNat]? with
  | none=>simp
  | some b=>simpa using (h.1 _ b hb).1
theorem lQb (x:DV)(n:Nat)(hn:n<=12)(w:World)(hx:SB w x.A x.n x.c x.nd)(YB:Kv n x.nd x.r=true):
  Fn Tryz.prog 87 [Xl x.A x.n x.c x.r,.int .i64 n] w (λu w'=>∃v,u= .tuple #[v,.int .i64 0]/\NumIn w' (2^n) v/\Ext w w'):=by
 obtain⟨ni,dQB⟩:=uQ.1 YB;have wk:=(gw.1 ni).2;have hl:=hx.2;have bI:=hx.1.cap;have ZL:=hx.1.le;have pQ8:=(gw.1 ni).1;simp only[maxLen] at bI;refine QH (c:={c87 with cuts:=[]}) Qa Tryz.func87 rfl rfl rfl ?_;refine new (λw1 Qd Q9 Qh=>?_);refine new (λw2 Qg Zi Qv=>?_);have QR:=Qd.trans Qg;have hA2:=Qh.ext Qg;refine Qt hA2 rfl ?_;refine call (uf x.A x.n x.c x.nd x.r w2 (hx.ext QR)) ?_;rintro _ w3 ⟨rfl,Qi⟩;have QY:=QR.trans Qi;refine YU ni ?_;have hA3:=hA2.ext Qi;have gQ:=Qv.ext Qi;refine Qy gQ rfl ?_;refine XF (by omega) ?_;refine Qy gQ rfl ?_;refine XF (by omega) ?_;refine Qp hA3 rfl ?_;refine loop Qa [35] (λi:Nat=>[.int .i64 i]) (λi w'=>Ext w3 w'/\i<=x.n) (λi _=>x.n-i) 0 rfl ⟨Ext.refl _,Xt _⟩ ?_;rintro i w4 ⟨Qs,hi⟩;refine Qz (λc1=>?_) (λc1=>?_)
 ·have Q5:i<x.n:=by omega
  refine Zz WY ((hx.ext QY).ext Qs) rfl Q5 (λp b hb hc=>?_);refine JN (vs:=b.cells) rfl hc ?_;refine new (λw5 Qx KL QB=>?_);refine Qw QB rfl (sc rfl) (λw6 Wm _ Xg=>?_);have XK:Ext w4 w6:=XV Qx QB Wm;have VE:=dQB b (Xk hb);refine Qy Xg rfl ?_;refine Qy ((gQ.ext Qs).ext XK) rfl ?_;refine XF (by omega) ?_;refine Qj ((i+1:Nat):Int) (by show((i:Nat):Int)+1=_;omega) (by omega) ?_;exact⟨i+1,rfl,⟨Qs.trans XK,Q5⟩,by show x.n-(i+1)<x.n-i;omega⟩
 have Xr:=QY.trans Qs;have hA4:=hA3.ext Qs;have Nn:=gQ.ext Qs;refine Qp hA4 rfl ?_;refine Qj ((x.n+2:Nat):Int) (by omega) (by omega) ?_;refine BO Qa rfl rfl rfl rfl rfl rfl rfl rfl (by show 24*(x.n+2)<=_;omega) (by unfold maxLen;omega) (λw5 Qx KL QB=>?_);refine new (λw6 QN cj Xg=>?_);refine KS Xg (by decide) (λw7 Xb Q8=>?_);have JX:Ext w5 w7:=Xb.ext QN (λi hi=>by omega);have WJ:=Xb.size;have nQO:=QB.ext JX;have pQ9:=JX.size;refine XL Qa (λw'=>Mod (·=w4.heap.size) w7 w') 4 [(true,0),(false,1),(true,2),(false,3)] (by kernel_rfl) (Mod.of_ext _ (Ext.drew w7)) ?_;have ns:¬w5.heap.size=w4.heap.size:=by omega
 refine QQ (v:=.slice (some ⟨w4.heap.size,0,none⟩) (x.n+2) (x.n+2)) (λw' Qb=>by rw[(Q8.mod Qb ns).cell0];rfl) ?_;refine call (Nt.of_fn 1 w7.drew (by decide)) ?_;rintro _ w8 ⟨A8,c8,rfl,gK,Xp⟩;have Kz:Ext w7 w8:=(Ext.drew w7).trans Xp;refine⟨Mod.of_ext _ Kz,?_⟩;refine index (j:=1) (by omega) ?_;have Xx:=nQO.ext Kz;refine XQ Xx (by simp) (λw9 Zb JO=>?_);have Vn:Mod (·=w4.heap.size) w7 w9:=(Mod.of_ext _ Kz).trans Zb (λi hi=>.inl hi);refine⟨Vn,?_⟩;have vu:Ext w4 w9:=Vn.ext (Qx.trans JX) (λi hi=>by omega);have fy:=Vn.size;refine new (λQK Zx vm Km=>?_);refine KS Km (by decide) (λQJ Z8 Z1=>?_);have fG:Ext w9 QJ:=Z8.ext Zx (λi hi=>by omega);have di:=vu.trans fG;have rP:=Z8.size;have Wo:=Xr.trans di;have nQP:∀u∈(List.replicate (x.n+2) (Value.slice none 0 0)).set 1 (.slice A8 (Nt.J9 1).length c8),∃A m c,u= .slice A m c:=λu hu=>by
  rcases P6 hu with hu | rfl
  ·exact⟨none,0,0,Bg hu⟩
  ·exact⟨_,_,_,rfl⟩
 have K0:CtK QJ x n w1.heap.size w.heap.size w5.heap.size w9.heap.size w4.heap.size ((List.replicate (x.n+2) (Value.slice none 0 0)).set 1 (.slice A8 (Nt.J9 1).length c8)):=by
  refine⟨Nn.ext di,hA4.ext di,hx.ext Wo,(Q8.mod Vn ns).ext fG,Z1,JO.ext fG,by simp,nQP,λj v hv=>?_⟩;by_cases hj:1=j
  ·subst hj;rw[jG (by simp)] at hv;cases hv;rw[kQ9 (by decide) hn,A6];have h1:NumIn w8 (2^0) (.slice A8 (Nt.J9 1).length c8):=⟨A8,_,c8,1,rfl,gK,QC _⟩
   exact(h1.mod Xx (λu hu=>⟨none,0,0,Bg hu⟩) Zb).ext fG
  ·rw[gf hj] at hv;have:=Bg (Xk hv);subst this;exact⟨none,0,0,0,rfl,Sl.nil _ _,Xt _⟩
 generalize (List.replicate (x.n+2) (Value.slice none 0 0)).set 1 (.slice A8 (Nt.J9 1).length c8)=cs0 at*;refine Qp K0.hA rfl ?_;refine loop Qa [57] (λi:Nat=>[.int .i64 i]) (λi w'=>Mod (·=w4.heap.size) QJ w'/\i<=x.n/\∃cs,CtK w' x n w1.heap.size w.heap.size w5.heap.size w9.heap.size w4.heap.size cs) (λi _=>x.n-i) 0 rfl ⟨Mod.refl _ _,Xt _,cs0,K0⟩ ?_;rintro i Xa ⟨VU,hi,cs,K⟩;have rT:Ext w Xa:=VU.ext Wo (λj hj=>by have:=Xr.size;omega);refine Qz (λc1=>?_) (λc1=>?_)
 ·have Q5:i<x.n:=by omega
  refine Zz WY K.hx rfl Q5 (λp b hb hc=>?_);obtain⟨k1,k2,k3,k4,k5,k6,k7,k8,k9,k10⟩:=wk.1 i b hb;have VE:=dQB b (Xk hb);obtain⟨bv,hbe⟩:=Gp k1;obtain⟨bl,dQC⟩:=Gp k3;obtain⟨bh,dQD⟩:=Gp k5;refine JN (vs:=b.cells) rfl hc ?_;refine new (λX1 XI Mw Vm=>?_);refine Qw Vm rfl (sc rfl) (λZm fw _ Kc=>?_);have kB:Ext Xa Zm:=XV XI Vm fw;have K14:=K.ext kB;refine Qp Kc rfl ?_;refine Qy Kc rfl ?_;refine Qj ((bv+1:Nat):Int) (by show b.v+1=_;omega) (by omega) ?_;have Jf:∀y:Int,b.v<Qm x.nd y->∀m:Nat,y=m->bv+1<=d9 n x.nd m:=λy hy m hm=>by
   subst hm;unfold d9;omega
  show iu _ _ [.int .i64 b.l,_,_,_] _ _ _;rw[dQC];refine call (IN hn K14 bl (bv+1) (by omega) (jZq wk) (Jf b.l k9 bl dQC)) ?_;rintro _ KA ⟨ul,rfl,hUl,JQ⟩;refine Qp (Kc.ext JQ) rfl ?_;refine Qy (Kc.ext JQ) rfl ?_;refine Qj ((bv+1:Nat):Int) (by show b.v+1=_;omega) (by omega) ?_;show iu _ _ [.int .i64 b.h,_,_,_] _ _ _;rw[dQD];refine call (IN hn (K14.ext JQ) bh (bv+1) (by omega) (jZq wk) (Jf b.h k10 bh dQD)) ?_;rintro _ Y4 ⟨uh,rfl,⟨Ah,mh,ch,Nh,rfl,hSh,hNh⟩,VX⟩;obtain⟨Al,ml,cl,Nl,rfl,pW,hNl⟩:=hUl.ext VX;have hpw:2^(n-(bv+1))+2^(n-(bv+1))=2^(n-bv):=by
   rw[show n-bv=(n-(bv+1))+1 by omega,nD];omega
  refine call (aQT (b:=2^(n-bv)) (by omega) (X4 (WW (by decide) (show n-bv<=12 by omega)) (by decide)) Y4 pW hSh) ?_;rintro _ Vo ⟨_,rfl,⟨Au,mu,cu,Nu,rfl,hSu,Po⟩,pe⟩;have hUs:NumIn Vo (2^(n-bv)) (.slice Au mu cu):=⟨Au,mu,cu,Nu,rfl,hSu,Po⟩
  have pm:=(JQ.trans VX).trans pe;have K17:=K14.ext pm;refine kQ8 rfl rfl rfl rfl ?_;refine YU rfl ?_;refine Qy K17.hC rfl ?_;refine Qj ((i+2:Nat):Int) (by show((i:Nat):Int)+2=_;omega) (by omega) ?_;refine index (j:=i+2) (by omega) ?_;refine XQ (j:=i+2) K17.hS (by rw[K17.len];omega) (λKZ yW gL=>?_);refine Qj ((i+1:Nat):Int) (by show((i:Nat):Int)+1=_;omega) (by omega) ?_;have cQH:=kB.trans pm;refine⟨i+1,rfl,⟨(VU.trans (Mod.of_ext (·=w4.heap.size) cQH) (λj hj=>.inl hj)).trans yW (λj hj=>.inl hj),Q5,cs.set (i+2) (.slice Au mu cu),?_⟩,by show x.n-(i+1)<x.n-i;omega⟩;have Yp:b.v=bv:=hbe;have Jh:d9 n x.nd (i+2)=bv:=by rw[lQa hb k1 VE];omega
  have K18:Ext Xa Vo:=cQH;have th:Mod (·=w4.heap.size) Vo KZ:=yW;have n1:¬w1.heap.size=w4.heap.size:=by have:=Qi.size;have:=Qs.size;omega
  have n0:¬w.heap.size=w4.heap.size:=by have:=Qi.size;have:=Qs.size;omega
  have n9:¬w9.heap.size=w4.heap.size:=by have:=vu.size;omega
  have nQQ:=K17.hx;refine⟨K17.hN.mod th n1,K17.hA.mod th n0,nQQ.modo th (λad ea h0=>by have:=SB.lt hx ad ea h0;have:=Xr.size;omega),K17.hC.mod th ns,K17.hP.mod th n9,gL,by rw[gb];exact K17.len,λu hu=>?_,λj v hv=>?_⟩
  ·rcases P6 hu with hu | rfl
   ·exact K17.sl u hu
   ·exact⟨_,_,_,rfl⟩
  ·by_cases hj:i+2=j
   ·subst hj;rw[jG (by rw[K17.len];omega)] at hv;cases hv;rw[Jh];exact hUs.mod K17.hS K17.sl th
   ·rw[gf hj] at hv;exact(K17.nums j v hv).mod K17.hS K17.sl th
 ·obtain⟨rt,hrt⟩:=Gp wk.2.1;have Wl:=wk.2.2.1;refine Qp K.hA rfl ?_;show iu _ _ [.int .i64 x.r,_,_,_] _ _ _;rw[hrt];refine call (IN hn K rt 0 (by omega) (jZq wk) (Xt _)) ?_;rintro _ X1 ⟨u,rfl,hU,XI⟩;exact⟨u,rfl,hU,rT.trans XI⟩
def JL:Nat->List (List Nat)->List (Nat×List Nat)
 | _,[]=>[]
 | a,s::ls=>(a,s)::JL (a+s.length+1) ls
theorem aQU:∀(a:Nat)(l m:List (List Nat)),JL a (l++m)=JL a l++JL (a+(Qk l).length) m
 | a,[],m=>by simp[JL,Qk]
 | a,s::l,m=>by
  rw[Z5,JL,JL,aQU (a+s.length+1) l m,Z5,V6];congr 3;simp only[Qq,Q6];omega
theorem aQV {l:List Nat}(h:cN l)(s:List Nat)(hs:10∉s):QW (l++(s++ [10]))=QW l++ [s]:=by
 have h1:=aE h;have h2:l++(s++ [10])=Qk (QW l++ [s]):=by rw[UX,h1]
 rw[h2,qU (λt ht=>by
  rcases Xv.1 ht with ht | ht
  ·exact nX l t ht
  ·rw[QL.1 ht];exact hs)]
def gG (nm:List (List Nat)):List (List Nat)->Nat->BF->List (BF×BF)->List (Nat×List Nat×BF)
 | [],_,_,_=>[]
 | s::ls,a,k,op=>match Zk s with
  | .txt=>(a,s,k)::gG nm ls (a+s.length+1) k op
  | .ifd r=>match VQ nm r with
   | .ok d=>gG nm ls (a+s.length+1) (ZD k d) ((k,JI k d)::op)
   | .error _=>[]
  | .elif r=>match op with
   | []=>[]
   | x::Xz=>match VQ nm r with
    | .ok d=>gG nm ls (a+s.length+1) (ZD x.2 d) ((x.1,JI x.2 d)::Xz)
    | .error _=>[]
  | .els=>match op with
   | []=>[]
   | x::Xz=>gG nm ls (a+s.length+1) x.2 (x::Xz)
  | .en=>match op with
   | []=>[]
   | x::Xz=>gG nm ls (a+s.length+1) x.1 Xz
  | .inc _=>[]
abbrev Dd (tx:List Nat)(s:Sg):List (Nat×List Nat×BF):=(JL s.at_ (QW (KI tx s))).map (λq=>(q.1,q.2,s.o))
def j7 (g:Gs):List (Nat×List Nat×BF):=g.sg.flatMap (Dd g.tx)
theorem aQW {fs:List (List Nat×List Nat)}{tx:List Nat}{s:Sg}(h:SgOk fs tx s):cN (KI tx s)/\(KI tx s).length=s.t-s.f:=by
 have h1:=h.ft;have h2:=h.tl;have hl:(KI tx s).length=s.t-s.f:=by unfold KI;simp;omega
 refine⟨.inr ?_,hl⟩;rw[tz,hl];unfold KI;rw[List.getElem?_drop,qe (by omega),show s.f+(s.t-s.f-1)=s.t-1 by omega];exact h.nl
theorem IP {tx s:List Nat}:∀{l:List Sg},(∀x∈l,x.t<=tx.length)->l.flatMap (Dd (tx++s))=l.flatMap (Dd tx)
 | [],_=>rfl
 | x::l,h=>by rw[VH,VH,IP (λy hy=>h y (by simp[hy])),Dd,UZ (h x (by simp))]
theorem lQc {fs:List (List Nat×List Nat)}{n p:Nat}{k:BF}{g g':Gs}{s:List Nat}(h:GInv fs g)(hc:iL n p k g)(hs:10∉s)(ha:Vi (s++ [10]) n p k g=some g'):j7 g'=j7 g++ [(p,s,k)]:=by
 unfold Vi at ha;split at ha
 ·cases ha
 cases ha;cases hf:g.fr with
 | true=>
  rw[Qe rfl,iD];unfold j7;simp only;rw[Wy,IP (λx hx=>(h.ok x hx).tl)];congr 1;simp only[VH,tD,JZ];have e:KI (g.tx++(s++ [10])) ⟨g.tx.length,g.tx.length+(s++ [10]).length,n,p,k⟩=[]++(s++ [10]):=by
   unfold KI;simp only;rw[Jv (by simp),qi]<;>rfl
  show(JL p (QW (KI _ _))).map _=_;rw[e,aQV (.inl rfl) s hs]<;>rfl
 | false=>
  rw[if_neg (by decide)];obtain⟨l,y,e,e1,e2,e3⟩:=hc hf;have Ju:=h.ch;have XY:=h.ok;rw[e] at Ju XY;rw[ChG.snoc] at Ju;have hy:=XY y (by simp);rw[e,iD];unfold j7;simp only;rw[e,Wy,Wy,IP (λx hx=>(XY x (by simp[hx])).tl),ZR];congr 1;have h1:=hy.ft;have h2:=Ju.2;have hp:=aQW hy;have e4:KI (g.tx++(s++ [10])) {y with t:=g.tx.length+(s++ [10]).length}=KI g.tx y++(s++ [10]):=by
   unfold KI;simp only;rw[Jv (by simp),P0 (by omega),h2,qd]
  simp only[VH,tD,JZ];show(JL y.at_ (QW (KI _ {y with t:=g.tx.length+(s++ [10]).length}))).map _=_;rw[e4,aQV hp.1 s hs,aQU,aE hp.1,hp.2,e2,be];show _=(JL y.at_ (QW (KI g.tx y))).map (λq=>(q.1,q.2,y.o))++_;rw[e3]<;>rfl
def ChA:List Sg->Nat->Prop
 | [],_=>True
 | s::l,p=>(∀x∈l,s.at_+(s.t-s.f)<=x.at_)/\s.at_+(s.t-s.f)<=p/\ChA l p
theorem ChA.mono {p q:Nat}(h:p<=q):∀{l:List Sg},ChA l p->ChA l q
 | [],_=>trivial
 | _::_,⟨h1,h2,h3⟩=>⟨h1,by omega,h3.mono h⟩
theorem ChA.snoc {x:Sg}{p q:Nat}(hx:p<=x.at_)(hq:x.at_+(x.t-x.f)<=q):∀{l:List Sg},ChA l p->ChA (l++ [x]) q
 | [],_=>⟨(λ_ h=>by cases h),hq,trivial⟩
 | s::l,⟨h1,h2,h3⟩=>⟨λy hy=>by
   rcases Xv.1 hy with hy | hy
   ·exact h1 y hy
   ·rw[QL.1 hy];omega,by omega,ChA.snoc hx hq h3⟩
theorem qQ9 {x y:Sg}{p q:Nat}(hx:y.at_=x.at_)(hq:y.at_+(y.t-y.f)<=q)(jq:p<=q):∀{l:List Sg},ChA (l++ [x]) p->ChA (l++ [y]) q
 | [],_=>⟨(λ_ h=>by cases h),hq,trivial⟩
 | s::l,⟨h1,h2,h3⟩=>⟨λz hz=>by
   rcases Xv.1 hz with hz | hz
   ·exact h1 z (by simp[hz])
   ·rw[QL.1 hz,hx];exact h1 x (by simp),by omega,qQ9 hx hq jq h3⟩
theorem lQd {fs:List (List Nat×List Nat)}{n p:Nat}{k:BF}{g g':Gs}{s:List Nat}(h:GInv fs g)(hc:iL n p k g)(hp:ChA g.sg p)(ha:Vi (s++ [10]) n p k g=some g'):ChA g'.sg (p+s.length+1):=by
 unfold Vi at ha;split at ha
 ·cases ha
 cases ha;cases hf:g.fr with
 | true=>
  rw[Qe rfl,iD];exact hp.snoc (QC p) (by simp;omega)
 | false=>
  rw[if_neg (by decide)];obtain⟨l,y,e,e1,e2,e3⟩:=hc hf;have Ju:=h.ch;rw[e] at Ju hp;rw[ChG.snoc] at Ju;have hy:=(h.ok y (by rw[e];simp)).ft;rw[e,iD];exact qQ9 (p:=p) (q:=p+s.length+1) (x:=y) (y:={y with t:=g.tx.length+(s++ [10]).length}) rfl (by simp only[Qq,gi];omega) (by omega) hp
theorem aQX {nm:List (List Nat)}{fs:List (List Nat×List Nat)}{n d0:Nat}{inc:oq}{x:List Nat×List Nat}(hx:fs[n]? =some x)
  (hi:∀r ln d k g g',inc r ln d k g≠ .ok g'):∀(ls:List (List Nat)) (ln at_:Nat) (k:BF) (op:List Se) (g g':Gs),lJ ls->
  x.2.drop at_=Qk ls->at_<=x.2.length->GInv fs g->iL n at_ k g->ChA g.sg at_->ZZ nm n d0 inc ls ln at_ k op g= .ok g'->j7 g'=j7 g++gG nm ls at_ k (j5 op)/\ChA g'.sg (at_+(Qk ls).length)
 | [],ln,at_,k,op,g,g',_,_,_,hg,_,Ju,hr=>by
  cases op with
  | nil=>simp only[ZZ,Except.ok.injEq] at hr;subst hr;exact⟨by rw[gG,JZ];rfl,Ju⟩
  | cons _ _=>simp[ZZ] at hr
 | s::ls,ln,at_,k,op,g,g',hL0,hd,dB,hg,hc,Ju,hr=>by
  have XJ:x.2.drop at_=(s++ [10])++Qk ls:=by rw[hd,V6];simp
  have hL:(s++ [10]).length=s.length+1:=by simp
  have Q0:x.2.length-at_=s.length+1+(Qk ls).length:=by
   have:=QD List.length XJ;simp only[YR,Qq,Q6,Ji] at this;omega
  have hu:at_+(Qk (s::ls)).length=at_+s.length+1+(Qk ls).length:=by rw[V6];simp;omega
  have aL:x.2.drop (at_+s.length+1)=Qk ls:=by
   rw[show at_+s.length+1=at_+(s++ [10]).length by simp;omega,<-tr,XJ,qi]
  have nQR:10∉s:=hL0 s (by simp);have ih:=λk op g g' h1 h2 h3=>aQX (nm:=nm) (d0:=d0) hx hi ls (ln+1) (at_+s.length+1) k op g g' (λt ht=>hL0 t (by simp[ht])) aL (by omega) h1 h2 h3
  have cf:∀k' (g:Gs),iL n (at_+s.length+1) k' {g with fr:=true}:=λk' g h=>by cases h
  have FT:ChA g.sg (at_+s.length+1):=Ju.mono (by omega);rw[ZZ.eq_def] at hr;simp only at hr;rw[hu,gG.eq_def];simp only;cases XZ:Zk s with
  | txt=>
   rw[XZ] at hr;simp only at hr ⊢;cases ha:Vi (s++ [10]) n at_ k g with
   | none=>rw[ha] at hr;cases hr
   | some g1=>
    rw[ha] at hr;simp only at hr;obtain⟨i1,i2⟩:=Ig hg hc hx (by rw[hL,<-kS,aL];exact XJ) (by rw[hL];omega) (by simp) ha;obtain⟨j1,j2⟩:=ih k op g1 g' i1 (by rw[hL,<-kS] at i2;exact i2) (lQd hg hc Ju ha) hr;exact⟨by rw[j1,lQc hg hc nQR ha,ZR];rfl,j2⟩
  | ifd r=>
   rw[XZ] at hr;simp only at hr ⊢;cases hs:VQ nm r with
   | error e=>rw[hs] at hr;cases hr
   | ok d=>
    rw[hs] at hr;simp only at hr ⊢;split at hr
    ·cases hr
    ·exact ih _ _ _ _ (hg.fr true) (cf _ _) FT hr
  | inc r=>
   rw[XZ] at hr;simp only at hr;cases hs:inc r (ln+1) (d0+op.length) k g with
   | error e=>rw[hs] at hr;cases hr
   | ok g1=>exact Xd hs (hi _ _ _ _ _ _)
  | elif r=>
   rw[XZ] at hr;cases op with
   | nil=>cases hr
   | cons y op=>
    simp only at hr ⊢;split at hr
    ·cases hr
    ·cases hs:VQ nm r with
     | error e=>rw[hs] at hr;cases hr
     | ok d=>rw[hs] at hr;exact ih _ _ _ _ (hg.fr true) (cf _ _) FT hr
  | els=>
   rw[XZ] at hr;cases op with
   | nil=>cases hr
   | cons y op=>
    simp only at hr ⊢;split at hr
    ·cases hr
    ·exact ih y.re ({y with ot:=true}::op) {g with fr:=true} g' (hg.fr true) (cf _ _) FT hr
  | en=>
   rw[XZ] at hr;cases op with
   | nil=>cases hr
   | cons y op=>exact ih y.ou op {g with fr:=true} g' (hg.fr true) (cf _ _) FT hr
def fF (t:List Nat):List (List Nat×List Nat):=[([102],t)]
theorem IQ {rd s:List Nat}{e:Int}(t:List Nat)(h:0∈rd):∀m,cO (Jj ((fF t).map (·.1))) rd s≠ .ok m:=λm hm=>by
 obtain⟨h1,tn,AA⟩:=H4 hm;have:=lI AA;have h0:m=0:=by simpa [fF] using this
 rw[h0] at h1;exact h1 h
theorem IR {nm:List (List Nat)}{t:List Nat}{g:Gs}(hr:KH nm (fF t) [102]= .ok g):cN t/\j7 g=gG nm (QW t) 0 (λ_=>true) []/\ChA g.sg t.length/\GInv (fF t) g:=by
 have pQd:=(UN hr).1;unfold KH at hr;split at hr
 ·cases hr
 cases K4:YY (fF t)with
 | some p=>rw[K4] at hr;cases hr
 | none=>
  rw[K4] at hr;simp only at hr;have hall:∀x∈fF t,lK x.1=true/\br x.2=true/\x.2.length<=1048576:=by
   unfold YY at K4;rw[if_neg (by simp[fF])] at K4;exact CN _ [] 0 K4
  have ht:cN t:=oz (hall _ (QL.2 rfl)).2.1;cases KF:Jj ((fF t).map (·.1)) [102] with
  | none=>rw[KF] at hr;cases hr
  | some n=>
   rw[KF] at hr;simp only at hr;have hn:n<(fF t).length:=by have:=lI KF;simpa using this
   have h0:n=0:=by simpa [fF] using hn
   subst h0;have hx:(fF t)[0]? =some ([102],t):=rfl;rw[WZ,hx] at hr;simp only[ww,gc] at hr;obtain⟨a,b⟩:=aQX hx (λr ln d' k' g1 g2 hi=>by
    split at hi
    ·cases hi
    ·rename_i m he;exact IQ t (by simp) (e:=0) _ he) (QW t) 0 0 (λ_=>true) [] ⟨[],[],true⟩ g (nX t) (by rw[tw,aE ht]) (Xt _) (⟨rfl,λs hs=>by cases hs⟩:GInv (fF t) ⟨[],[],true⟩) (λh=>by cases h) trivial hr
   rw[aE ht,a8] at b;exact⟨ht,a,b,pQd⟩
structure Ed where
 fr:Int
 to_:Int
 tx:List Nat
 o:BF
structure EdV where
 fr:Int
 to_:Int
 tx:List Nat
 x:DV
def EdV.ed (e:EdV):Ed:=⟨e.fr,e.to_,e.tx,oD e.x⟩
def Kj (f:List Nat)(a b:Nat):List Nat:=(f.drop a).take (b-a)
def YM (f:List Nat)(c:Nat)(st:List Nat×Nat)(e:Ed):List Nat×Nat:=
 if e.o (bits c)=true then(st.1++Kj f st.2 e.fr.toNat++e.tx,e.to_.toNat)else st
def W6 (f:List Nat)(stop:Nat)(a:Nat)(es:List Ed)(c:Nat):List Nat:=
 (es.foldl (YM f c) ([],a)).1++Kj f (es.foldl (YM f c) ([],a)).2 stop
def lW (a:Nat)(s:List Nat)(e:Ed):Bool:=decide ((a:Int)<=e.fr/\e.to_<=a+s.length)
def Wh (S:List Nat)(o:BF):Bool:=S.any (λc=>o (bits c))
def ff (es:List Ed)(S:List Nat)(a:Nat)(s:List Nat):List Ed:=es.filter (λe=>lW a s e&&Wh S e.o)
def j8 (S:List Nat)(e b:Ed):Bool:= !(decide (b.fr<e.to_)&&Wh S (λv=>e.o v&&b.o v))
def cV (S:List Nat):List Ed->Bool
 | []=>true
 | e::es=>es.all (j8 S e)&&cV S es
def ee (nm:List (List Nat))(f:List Nat)(es:List Ed)(S:List Nat)(a:Nat)(s:List Nat):Option (List (List Nat)):=
 if ff es S a s=[] then some [s]
 else if cV S (ff es S a s)=false then none
 else if S.all (λc=>Vj (W6 f (a+s.length+1) a (ff es S a s) c))=false then none
 else some (X0 nm (W6 f (a+s.length+1) a (ff es S a s)) nm.length 0 S)
def oJ (g:Gs)(a:Nat):BF:=((g.sg.find? (λs=>decide (a<s.at_+(s.t-s.f)))).map (·.o)).getD (λ_=>false)
def bZ (nm:List (List Nat))(d:BF)(g:Gs)(f:List Nat)(es:List Ed):List (List Nat)->Nat->Option (List (List Nat))
 | [],_=>some []
 | s::ls,a=>match (if Zk s= .txt then ee nm f es (QF nm.length (ZD d (oJ g a))) a s else some [s])with
  | none=>none
  | some l=>match bZ nm d g f es ls (a+s.length+1)with
   | none=>none
   | some m=>some (l++m)
def gH (e:Ed)(q:Nat×List Nat):Bool:=decide ((q.1:Int)<=e.fr/\e.to_<=q.1+q.2.length/\e.fr<=e.to_/\Zk q.2= .txt)
def IS (n:Nat)(f:List Nat)(e:Ed):Bool:=decide (QF n e.o≠ [])&&(JL 0 (QW f)).any (gH e)
def j9 (n:Nat)(f:List Nat):Int->List Ed->Bool
 | _,[]=>true
 | p,e::es=>IS n f e&&decide (p<=e.fr)&&j9 n f e.fr es
def De (
      nm:List (List Nat)) (o:BF) (f:List Nat) (es:List Ed):Except Int (List Nat):=
 match KH nm (fF f) [102] with
  | .error p=>.error p.e
  | .ok g=>if j9 nm.length f 0 es=false then .error 291
   else match bZ nm o g f es (QW f) 0 with
    | none=>.error 291
    | some l=>if 1048576<(Qk l).length then .error 2
     else match KH nm (fF (Qk l)) [102] with
      | .error p=>if p.e=2 then .error 2 else .ok (Qk l)
      | .ok _=>.ok (Qk l)
noncomputable def oK (nm:List (List Nat))(x:DV)(f:List Nat)(es:List EdV):Except Int (List Nat):=
 if ZQ nm=false∨Kv nm.length x.nd x.r=false then .error 1
 else if es.all (λe=>Kv nm.length e.x.nd e.x.r)=true then De nm (oD x) f (es.map EdV.ed)
 else match KH nm (fF f) [102] with
  | .error p=>.error p.e
  | .ok _=>.error 291
theorem lQe {g:Gs}{a:Nat}{s:List Nat}{k:BF}(h:(a,s,k)∈j7 g):∃x∈g.sg,x.o=k/\(a,s)∈JL x.at_ (QW (KI g.tx x)):=by
 obtain⟨x,hx,hm⟩:=cB.1 h;obtain⟨q,hq,e⟩:=ZG.1 hm;simp only[Prod.mk.injEq] at e;obtain⟨e1,e2,e3⟩:=e;refine⟨x,hx,e3,?_⟩;rw[<-e1,<-e2];exact hq
theorem oL:∀{ls:List (List Nat)}{p a:Nat}{s:List Nat},(a,s)∈JL p ls->p<=a/\a+s.length+1<=p+(Qk ls).length
 | [],p,a,s,h=>by cases h
 | t::ls,p,a,s,h=>by
  rw[V6];simp only[Qq,Q6];rcases Q3.1 h with h | h
  ·cases h;omega
  ·have:=oL h;omega
theorem ChA.later {x y:Sg}{p:Nat}:∀{l:List Sg}{i j:Nat},ChA l p->l[i]? =some x->l[j]? =some y->i<j->x.at_+(x.t-x.f)<=y.at_
 | [],i,j,_,h,_,_=>by simp at h
 | z::l,i,j+1,⟨h1,h2,h3⟩,hi,hj,Xe=>by
  have gX:l[j]? =some y:=by simpa using hj
  cases i with
  | zero=>
   have:z=x:=by simpa using hi
   subst this;exact h1 y (Xk gX)
  | succ i=>exact ChA.later h3 (by simpa using hi) gX (by omega)
 | z::l,i,0,_,_,_,Xe=>by omega
structure SegAt (g:Gs) (a:Nat) (k:BF) (i:Nat) (x:Sg):Prop where
 get:g.sg[i]? =some x
 lo:x.at_<=a
 hi:a<x.at_+(x.t-x.f)
 o:x.o=k
 first:∀j y,g.sg[j]? =some y->j<i->y.at_+(y.t-y.f)<=a
 last:∀j y,g.sg[j]? =some y->i<j->a<y.at_
theorem aQY {fs:List (List Nat×List Nat)}{g:Gs}{p a:Nat}{s:List Nat}{k:BF}(hi:GInv fs g)(hc:ChA g.sg p)(h:(a,s,k)∈j7 g):∃i x,SegAt g a k i x/\a+s.length+1<=x.at_+(x.t-x.f):=by
 obtain⟨x,hx,hk,hm⟩:=lQe h;obtain⟨i,ju⟩:=ip.1 hx;have hp:=aQW (hi.ok x hx);have ho:=oL hm;rw[aE hp.1,hp.2] at ho;refine⟨i,x,⟨ju,ho.1,by omega,hk,λj y hj Xe=>?_,λj y hj Xe=>?_⟩,ho.2⟩
 ·have:=hc.later hj ju Xe;omega
 ·have:=hc.later ju hj Xe;omega
theorem aQZ {α:Type}{p:α->Bool}:∀{l:List α}{i:Nat}{x:α},l[i]? =some x->p x=true->(∀j y,l[j]? =some y->j<i->p y=false)->l.find? p=some x
 | [],i,x,h,_,_=>by simp at h
 | y::l,0,x,h,hp,_=>by
  have:y=x:=by simpa using h
  subst this;rw[dQM hp]
 | y::l,i+1,x,h,hp,hj=>by
  rw[Gf (by rw[hj 0 y rfl (by omega)];decide)];exact aQZ (by simpa using h) hp (λj z hz Xe=>hj (j+1) z (by simpa using hz) (by omega))
theorem SegAt.cnd {g:Gs}{a:Nat}{k:BF}{i:Nat}{x:Sg}(h:SegAt g a k i x):oJ g a=k:=by
 unfold oJ;rw[aQZ (p:=λs:Sg=>decide (a<s.at_+(s.t-s.f))) h.get (X2 h.hi) (λj y hj Xe=>Zn (by have:=h.first j y hj Xe;omega))];exact h.o
theorem aQ0:∀{ls:List (List Nat)}{p a:Nat}{s:List Nat},(a,s)∈JL p ls->∃i,ls[i]? =some s/\a=p+(Qk (ls.take i)).length
 | [],p,a,s,h=>by cases h
 | t::ls,p,a,s,h=>by
  rcases Q3.1 h with h | h
  ·cases h;exact⟨0,rfl,by simp[Qk]⟩
  ·obtain⟨i,h1,h2⟩:=aQ0 h;refine⟨i+1,by simpa using h1,?_⟩;rw[nC,V6];simp only[Qq,Q6];omega
theorem aQ1:∀{ls:List (List Nat)}{p a b:Nat}{s t:List Nat}{x:Nat},(a,s)∈JL p ls->(b,t)∈JL p ls->a<=x->x<=a+s.length->b<=x->x<=b+t.length->a=b/\s=t
 | [],p,a,b,s,t,x,h,_,_,_,_,_=>by cases h
 | u::ls,p,a,b,s,t,x,h,h',h1,h2,h3,h4=>by
  rcases Q3.1 h with h | h
  ·cases h;rcases Q3.1 h' with h' | h'
   ·cases h';exact⟨rfl,rfl⟩
   ·have:=oL h';omega
  ·rcases Q3.1 h' with h' | h'
   ·cases h';have:=oL h;omega
   ·exact aQ1 h h' h1 h2 h3 h4
theorem IT:∀{ls:List (List Nat)}{p x:Nat},p<=x->x<p+(Qk ls).length->∃a s,(a,s)∈JL p ls/\a<=x/\x<=a+s.length
 | [],p,x,h1,h2=>by simp[Qk] at h2;omega
 | t::ls,p,x,h1,h2=>by
  rw[V6] at h2;simp only[Qq,Q6] at h2;by_cases h:x<=p+t.length
  ·exact⟨p,t,P5,h1,h⟩
  ·obtain⟨a,s,hm,h3,h4⟩:=IT (ls:=ls) (p:=p+t.length+1) (x:=x) (by omega) (by omega);exact⟨a,s,dF _ hm,h3,h4⟩
theorem aQ2 {ls:List (List Nat)}{a:Nat}{s:List Nat}{e:Ed}(hm:(a,s)∈JL 0 ls)(h1:(a:Int)<=e.fr)(h2:e.fr<=a+s.length)(h3:e.fr<=e.to_):
  (JL 0 ls).any (gH e)=decide (e.to_<=a+s.length/\Zk s= .txt):=by
 by_cases h:e.to_<=a+s.length/\Zk s= .txt
 ·rw[X2 h];exact wB.2 ⟨(a,s),hm,X2 ⟨h1,h.1,h3,h.2⟩⟩
 ·rw[Zn h];refine eN.2 (λha=>?_);obtain⟨⟨b,t⟩,hb,hp⟩:=wB.1 ha;have hp:=YC hp;obtain⟨p1,p2,p3,p4⟩:=hp;simp only at p1 p2 p3 p4;obtain⟨x,hx⟩:=Gp (a:=e.fr) (by omega);obtain⟨q1,q2⟩:=aQ1 (x:=x) hm hb (by omega) (by omega) (by omega) (by omega);subst q1;subst q2;exact h ⟨p2,p4⟩
theorem uT {nm:List (List Nat)}{f g:Nat->List Nat}:∀(k v:Nat)(l:List Nat),l≠ []->(∀c∈l,f c=g c)->X0 nm f k v l=X0 nm g k v l
 | 0,v,l,hl,h=>by rw[X0,X0,h _ (uJ hl)]
 | k+1,v,l,hl,h=>by
  rw[rj hl,rj hl];split
  ·exact uT k (v+1) l hl h
  ·rename_i h0;have n1:l.filter (λc=> !c.testBit v)≠ []:=λe=>h0 (.inl e)
   have n2:l.filter (λc=>c.testBit v)≠ []:=λe=>h0 (.inr e)
   rw[uT k (v+1) _ n1 (λc hc=>h c (Jc.1 hc).1),uT k (v+1) _ n2 (λc hc=>h c (Jc.1 hc).1)]
structure AV where
 o:BF
 d:List Nat
 a:Nat
def Yn (n:Nat)(f:List Nat)(e:Ed)(v:AV):List AV:=
 if QF n (ZD v.o e.o)=[] then(if QF n v.o=[] then [] else [v])
 else⟨ZD v.o e.o,v.d++Kj f v.a e.fr.toNat++e.tx,e.to_.toNat⟩::(if QF n (JI v.o (ZD v.o e.o))=[] then [] else [⟨JI v.o (ZD v.o e.o),v.d,v.a⟩])
structure VI (n:Nat) (f:List Nat) (S:List Nat) (a:Nat) (es:List Ed) (vs:List AV):Prop where
 cov:∀c∈S,∃v∈vs,v.o (bits c)=true
 ne:∀v∈vs,QF n v.o≠ []
 st:∀v∈vs,∀c∈QF n v.o,c∈S/\es.foldl (YM f c) ([],a)=(v.d,v.a)
theorem VI.start {n:Nat}{f:List Nat}{o:BF}{a:Nat}(h:QF n o≠ []):VI n f (QF n o) a [] [⟨o,[],a⟩]:=
 ⟨λc hc=>⟨_,QL.2 rfl,(Z0.1 hc).2⟩,λv hv=>by rw[QL.1 hv];exact h,λv hv c hc=>by rw[QL.1 hv] at hc ⊢;exact⟨hc,rfl⟩⟩
theorem VI.step {n:Nat}{f:List Nat}{S:List Nat}{a:Nat}{es:List Ed}{vs:List AV}(h:VI n f S a es vs)(hS:∀c∈S,c<2^n)(e:Ed):VI n f S a (es++ [e]) (vs.flatMap (Yn n f e)):=by
 have pQe:∀c,(es++ [e]).foldl (YM f c) ([],a)=YM f c (es.foldl (YM f c) ([],a)) e:=λc=>by rw[P4]<;>rfl
 refine⟨λc hc=>?_,λv hv=>?_,λv hv c hc=>?_⟩
 ·obtain⟨v,hv,pY⟩:=h.cov c hc;have O0:=hS c hc;have hm:c∈QF n v.o:=Z0.2 ⟨O0,pY⟩;by_cases hb:QF n (ZD v.o e.o)=[]
  ·refine⟨v,cB.2 ⟨v,hv,?_⟩,pY⟩;unfold Yn;rw[Qe hb,if_neg (λe0=>by rw[e0] at hm;cases hm)];exact QL.2 rfl
  ·cases wm:e.o (bits c)with
   | true=>
    refine⟨⟨ZD v.o e.o,v.d++Kj f v.a e.fr.toNat++e.tx,e.to_.toNat⟩,cB.2 ⟨v,hv,?_⟩,?_⟩
    ·unfold Yn;rw[if_neg hb];exact P5
    ·show(v.o (bits c)&&e.o (bits c))=true;rw[pY,wm]<;>rfl
   | false=>
    have kI:(JI v.o (ZD v.o e.o)) (bits c)=true:=by
     show(v.o (bits c) && !(v.o (bits c)&&e.o (bits c)))=true;rw[pY,wm]<;>rfl
    refine⟨⟨JI v.o (ZD v.o e.o),v.d,v.a⟩,cB.2 ⟨v,hv,?_⟩,kI⟩;unfold Yn;rw[if_neg hb,if_neg (λe0=>by
     have:c∈QF n (JI v.o (ZD v.o e.o)):=Z0.2 ⟨O0,kI⟩;rw[e0] at this;cases this)]
    simp
 ·obtain⟨v0,fA,hv⟩:=cB.1 hv;unfold Yn at hv;split at hv
  ·split at hv
   ·cases hv
   ·rename_i h1;rw[QL.1 hv];exact h1
  ·rename_i h1;rcases Q3.1 hv with rfl | hv
   ·exact h1
   ·split at hv
    ·cases hv
    ·rename_i h2;rw[QL.1 hv];exact h2
 ·obtain⟨v0,fA,hv⟩:=cB.1 hv;rw[pQe];unfold Yn at hv;split at hv
  ·rename_i h1;split at hv
   ·cases hv
   ·rw[QL.1 hv] at hc ⊢;obtain⟨q1,q2⟩:=h.st v0 fA c hc;refine⟨q1,?_⟩;rw[q2];unfold YM;rw[if_neg];intro wm;have:c∈QF n (ZD v0.o e.o):=Z0.2 ⟨(Z0.1 hc).1,by show(v0.o (bits c)&&e.o (bits c))=true;rw[show v0.o (bits c)=true from (Z0.1 hc).2,wm];rfl⟩;rw[h1] at this;cases this
  ·rcases Q3.1 hv with rfl | hv
   ·obtain⟨c1,c2⟩:=Z0.1 hc;have c2:(v0.o (bits c)&&e.o (bits c))=true:=c2;rw[Z4] at c2;obtain⟨q1,q2⟩:=h.st v0 fA c (Z0.2 ⟨c1,c2.1⟩);refine⟨q1,?_⟩;rw[q2];unfold YM;rw[Qe c2.2]
   ·split at hv
    ·cases hv
    ·rw[QL.1 hv] at hc ⊢;obtain⟨c1,c2⟩:=Z0.1 hc;have c2:(v0.o (bits c) && !(v0.o (bits c)&&e.o (bits c)))=true:=c2;have c3:v0.o (bits c)=true/\e.o (bits c)=false:=by
      cases h1:v0.o (bits c)<;>cases h2:e.o (bits c)<;>rw[h1,h2] at c2<;>simp_all
     obtain⟨q1,q2⟩:=h.st v0 fA c (Z0.2 ⟨c1,c3.1⟩);refine⟨q1,?_⟩;rw[q2];unfold YM;rw[if_neg (by rw[c3.2];decide)]
theorem aQ3 (f:List Nat)(c:Nat):∀(es:List Ed)(st:List Nat×Nat),(es.foldl (YM f c) st).2=st.2∨∃e∈es,e.o (bits c)=true/\(es.foldl (YM f c) st).2=e.to_.toNat
 | [],st=>.inl rfl
 | e::es,st=>by
  rw[wt];rcases aQ3 f c es (YM f c st e)with h | ⟨b,hb,h1,h2⟩
  ·by_cases he:e.o (bits c)=true
   ·refine .inr ⟨e,by simp,he,?_⟩;rw[h];unfold YM;rw[Qe he]
   ·refine .inl ?_;rw[h];unfold YM;rw[if_neg he]
  ·exact .inr ⟨b,by simp[hb],h1,h2⟩
theorem aQ4 {S:List Nat}:∀{es:List Ed}{i j:Nat}{e b:Ed},cV S es=true->es[i]? =some e->es[j]? =some b->i<j->j8 S e b=true
 | [],i,j,e,b,_,h,_,_=>by simp at h
 | x::es,i,j+1,e,b,ha,hi,hj,Xe=>by
  rw[cV,Z4,J0] at ha;have gX:es[j]? =some b:=by simpa using hj
  cases i with
  | zero=>
   have:x=e:=by simpa using hi
   subst this;exact ha.1 b (Xk gX)
  | succ i=>exact aQ4 ha.2 (by simpa using hi) gX (by omega)
 | x::es,i,0,e,b,_,_,_,Xe=>by omega
theorem lQf {f:List Nat}{S:List Nat}{es:List Ed}(ha:cV S es=true){a i c:Nat}{e:Ed}(hi:es[i]? =some e)(hc:c∈S)(wm:e.o (bits c)=true)(h0:(a:Int)<=e.fr)(hp:∀b∈es,0<=b.to_):
  (((es.take i).foldl (YM f c) ([],a)).2:Int)<=e.fr:=by
 rcases aQ3 f c (es.take i) ([],a)with h | ⟨b,hb,h1,h2⟩
 ·rw[h];exact h0
 ·rw[h2];obtain⟨j,hj⟩:=ip.1 hb;have Ve:j<i:=by
   apply Classical.byContradiction;intro hh;rw[F7] at hj;rw[if_neg hh] at hj;cases hj
  rw[qe Ve] at hj;have:=aQ4 ha hj hi Ve;unfold j8 at this;have hm:Wh S (λv=>b.o v&&e.o v)=true:=wB.2 ⟨c,hc,by show(b.o (bits c)&&e.o (bits c))=true;rw[h1,wm];rfl⟩;rw[hm,Bn,Bool.not_eq_true',decide_eq_false_iff_not] at this;have:=hp b (Xk hj);omega
def Wj (ps:List Pr)(t:List Nat):Nat:=(ps.takeWhile (λp=>decide (p.t≠t))).length
def cW (ps:List Pr)(o:BF)(t:List Nat):List Pr:=match ps[Wj ps t]? with
 | some p=>ps.set (Wj ps t) ⟨λe=>p.o e||o e,p.t⟩
 | none=>ps++ [⟨o,t⟩]
theorem lQg (ps:List Pr)(t:List Nat):Wj ps t<=ps.length:=(PU _).length_le
theorem Df (t:List Nat):∀ps:List Pr,(∀p,ps[Wj ps t]? =some p->p.t=t)/\∀j p,ps[j]? =some p->j<Wj ps t->p.t≠t
 | []=>⟨λp h=>by simp at h,λj p h=>by simp at h⟩
 | q::ps=>by
  obtain⟨h1,h2⟩:=Df t ps;by_cases hq:q.t=t
  ·have e:Wj (q::ps) t=0:=by unfold Wj;rw[List.takeWhile_cons_of_neg (by simpa using hq)]<;>rfl
   rw[e];exact⟨λp h=>by
              have:q=p:=by simpa using h
              rw[<-this];exact hq,λj p _ hj=>by omega⟩
  ·have e:Wj (q::ps) t=Wj ps t+1:=by unfold Wj;rw[List.takeWhile_cons_of_pos (by simpa using hq)]<;>rfl
   rw[e];refine⟨λp h=>h1 p (by simpa using h),λj p h hj=>?_⟩;cases j with
   | zero=>
        have:q=p:=by simpa using h
        rw[<-this];exact hq
   | succ j=>exact h2 j p (by simpa using h) (by omega)
structure QI (n:Nat) (S:List Nat) (ver:Nat->List Nat) (vs:List AV) (ps:List Pr):Prop where
 cov:∀v∈vs,∀c∈QF n v.o,∃p∈ps,p.o (bits c)=true
 tx:∀(i j:Nat) (p q:Pr),ps[i]? =some p->ps[j]? =some q->p.t=q.t->i=j
 val:∀p∈ps,∀c∈QF n p.o,c∈S/\p.t=ver c
theorem QI.nil {n:Nat}{S:List Nat}{ver:Nat->List Nat}:QI n S ver [] []:=⟨(λv hv=>by cases hv),(λi j p q h=>by simp at h),(λp hp=>by cases hp)⟩
theorem QI.ins {n:Nat}{S:List Nat}{ver:Nat->List Nat}{vs:List AV}{ps:List Pr}(h:QI n S ver vs ps){v:AV}{t:List Nat}(hv:∀c∈QF n v.o,c∈S/\ver c=t):QI n S ver (vs++ [v]) (cW ps v.o t):=by
 obtain⟨s1,s2⟩:=Df t ps;unfold cW;cases hg:ps[Wj ps t]? with
 | none=>
  have ZL:=List.getElem?_eq_none_iff.1 hg;simp only;refine⟨λu hu c hc=>?_,λi j p q hi hj he=>?_,λp hp c hc=>?_⟩
  ·rcases Xv.1 hu with hu | hu
   ·obtain⟨p,hp,Yd⟩:=h.cov u hu c hc;exact⟨p,by simp[hp],Yd⟩
   ·rw[QL.1 hu] at hc;exact⟨⟨v.o,t⟩,by simp,(Z0.1 hc).2⟩
  ·have key:∀i (p:Pr),(ps++ [⟨v.o,t⟩])[i]? =some p->(ps[i]? =some p/\i<ps.length)∨(i=ps.length/\p.t=t):=λi p hi=>by
    by_cases Xe:i<ps.length
    ·rw[eK Xe] at hi;exact .inl ⟨hi,Xe⟩
    ·rw[WV (by omega)] at hi;have:=(ZM.1 hi).1;simp at this;have e:i=ps.length:=by omega
     subst e;simp at hi;exact .inr ⟨rfl,by rw[<-hi]⟩
   rcases key i p hi with⟨h1,l1⟩ | ⟨h1,t1⟩<;>rcases key j q hj with⟨h2,l2⟩ | ⟨h2,t2⟩
   ·exact h.tx i j p q h1 h2 he
   ·exact Xd (he.trans t2) (s2 i p h1 (by omega))
   ·exact Xd (he.symm.trans t1) (s2 j q h2 (by omega))
   ·omega
  ·rcases Xv.1 hp with hp | hp
   ·exact h.val p hp c hc
   ·rw[QL.1 hp] at hc ⊢;obtain⟨a,b⟩:=hv c hc;exact⟨a,b.symm⟩
 | some p0=>
  have ht:=s1 p0 hg;have Xe:=(ZM.1 hg).1;simp only;generalize Wj ps t=i0 at*;have key:∀i (p:Pr),(ps.set i0 ⟨λe=>p0.o e||v.o e,p0.t⟩)[i]? =some p->(i≠i0/\ps[i]? =some p)∨(i=i0/\p=⟨λe=>p0.o e||v.o e,p0.t⟩):=λi p hi=>by
   by_cases wn:i0=i
   ·subst wn;rw[jG Xe] at hi;exact .inr ⟨rfl,(Option.some.inj hi).symm⟩
   ·rw[gf wn] at hi;exact .inl ⟨λe=>wn e.symm,hi⟩
  refine⟨λu hu c hc=>?_,λi j p q hi hj he=>?_,λp hp c hc=>?_⟩
  ·rcases Xv.1 hu with hu | hu
   ·obtain⟨p,hp,Yd⟩:=h.cov u hu c hc;obtain⟨i,hi⟩:=ip.1 hp;by_cases wn:i0=i
    ·subst wn;rw[hg] at hi;cases hi;exact⟨_,Xk (jG Xe),by simp only;rw[Yd];rfl⟩
    ·exact⟨p,Xk (i:=i) (by rw[gf wn];exact hi),Yd⟩
   ·rw[QL.1 hu] at hc;refine⟨_,Xk (jG Xe),?_⟩;simp only;rw[show v.o (bits c)=true from (Z0.1 hc).2,Bool.or_true]
  ·rcases key i p hi with⟨n1,h1⟩ | ⟨h1,e1⟩<;>rcases key j q hj with⟨n2,h2⟩ | ⟨h2,e2⟩
   ·exact h.tx i j p q h1 h2 he
   ·rw[h2];exact h.tx i i0 p p0 h1 hg (by rw[he,e2])
   ·rw[h1];exact h.tx i0 j p0 q hg h2 (by rw[<-he,e1])
   ·omega
  ·obtain⟨i,hi⟩:=ip.1 hp;rcases key i p hi with⟨_,h1⟩ | ⟨_,e1⟩
   ·exact h.val p (Xk h1) c hc
   ·subst e1;obtain⟨c1,c2⟩:=Z0.1 hc;have c2:(p0.o (bits c)||v.o (bits c))=true:=c2;rw[Bool.or_eq_true] at c2;rcases c2 with c2 | c2
    ·exact h.val p0 (Xk hg) c (Z0.2 ⟨c1,c2⟩)
    ·obtain⟨a,b⟩:=hv c (Z0.2 ⟨c1,c2⟩);exact⟨a,by rw[b];exact ht⟩
theorem QI.pa {n:Nat}{f:List Nat}{S:List Nat}{a:Nat}{es:List Ed}{ver:Nat->List Nat}{vs:List AV}{ps:List Pr}(h:QI n S ver vs ps)(hv:VI n f S a es vs)(hS:∀c∈S,c<2^n):PaOk S ps/\∀c∈S,fP ps c=ver c:=by
 have hp:PaOk S ps:=by
  refine⟨λc hc=>?_,λc hc i j p q hi hj h1 h2=>?_⟩
  ·obtain⟨v,nj,pY⟩:=hv.cov c hc;exact h.cov v nj c (Z0.2 ⟨hS c hc,pY⟩)
  ·refine h.tx i j p q hi hj ?_;rw[(h.val p (Xk hi) c (Z0.2 ⟨hS c hc,h1⟩)).2,(h.val q (Xk hj) c (Z0.2 ⟨hS c hc,h2⟩)).2]
 refine⟨hp,λc hc=>?_⟩;obtain⟨p,dq,Yd⟩:=hp.cov c hc;rw[hp.get hc dq Yd,(h.val p dq c (Z0.2 ⟨hS c hc,Yd⟩)).2]
def ry (n:Nat):List Nat->List Pr->Bool
 | R,[]=>decide (R=[])
 | R,p::ps=>(decide (QF n p.o≠ [])&&(QF n p.o).all (λc=>decide (c∈R))&&Vj p.t)&&ry n (iO n R p.o) ps
def fg (nm:List (List Nat))(o:BF)(ps:List Pr):Except Int (List Nat):=
 if ry nm.length (QF nm.length o) ps=false then .error 290
 else if ps=[] then .ok []
 else if 1048576<(Qk (X0 nm (fP ps) nm.length 0 (QF nm.length o))).length then .error 2
 else .ok (Qk (X0 nm (fP ps) nm.length 0 (QF nm.length o)))
theorem aQ5 {n:Nat}:∀(ps:List (DV×List Nat))(R:List Nat),(∀p∈ps,Kv n p.1.nd p.1.r=true)->aK n R ps=ry n R (Zv ps)
 | [],R,_=>rfl
 | p::ps,R,h=>by
  have ih:=aQ5 ps (iO n R (oD p.1)) (λq hq=>h q (by simp[hq]));show(_&&aK n (iO n R (oD p.1)) ps)=_;rw[ih,h p (by simp),bg]<;>rfl
theorem IU {nm:List (List Nat)}{x:DV}{ps:List (DV×List Nat)}(hn:ZQ nm=true)(hx:Kv nm.length x.nd x.r=true)(h:∀p∈ps,Kv nm.length p.1.nd p.1.r=true):lS nm x ps=fg nm (oD x) (Zv ps):=by
 unfold lS fg;rw[if_neg (by rw[hn,hx];simp),aQ5 ps _ h];by_cases h0:ps=[]
 ·subst h0;rfl
 ·have h1:Zv ps≠ []:=λe=>h0 (by simpa [Zv] using e)
  rw[if_neg h0,if_neg h1]
def PrM (n:Nat):List Pr->List Pt->Prop
 | [],[]=>True
 | q::qs,p::ps=>(q.t=Qk p.2/\∀c,c<2^n->q.o (bits c)=decide (c∈p.1))/\PrM n qs ps
 | _,_=>False
theorem aQ6 {n:Nat}:∀{qs:List Pr}{ps:List Pt}{R:List Nat},PrM n qs ps->(∀c∈R,c<2^n)->(∀p∈ps,p.1≠ []/\Vj (Qk p.2)=true/\∀c∈p.1,c∈R)->(∀c∈R,∃p∈ps,c∈p.1)->
  (∀(i j:Nat) (p q:Pt) (c:Nat),ps[i]? =some p->ps[j]? =some q->c∈p.1->c∈q.1->i=j)->ry n R qs=true
 | [],[],R,_,_,_,hc,_=>by
  cases R with
  | nil=>rfl
  | cons c R=>obtain⟨p,hp,_⟩:=hc c (by simp);cases hp
 | q::qs,p::ps,R,⟨⟨h1,h2⟩,hm⟩,hR,hp,hc,hd=>by
  obtain⟨p1,p2,p3⟩:=hp p (by simp);have Vp:∀c,c∈QF n q.o↔c∈p.1:=λc=>by
   rw[Z0];constructor
   ·rintro⟨a,b⟩;have:=h2 c a;rw[show q.o (bits c)=true from b] at this;exact YC this.symm
   ·intro a;have Yr:=hR c (p3 c a);exact⟨Yr,by show q.o (bits c)=true;rw[h2 c Yr,X2 a]⟩
  have ih:=aQ6 (R:=iO n R q.o) hm (λc dt=>hR c (Jc.1 dt).1) (λu hu=>by
   obtain⟨u1,u2,u3⟩:=hp u (by simp[hu]);refine⟨u1,u2,λc np=>Jc.2 ⟨u3 c np,?_⟩⟩;have O8:=u3 c np;obtain⟨j,hj⟩:=ip.1 hu;have ON:c∉p.1:=λAO=>by
    have:=hd 0 (j+1) p u c rfl (by simpa using hj) AO np;omega
   rw[h2 c (hR c O8),Zn ON];rfl) (λc dt=>by
   obtain⟨a,b⟩:=Jc.1 dt;obtain⟨u,hu,np⟩:=hc c a;rcases Q3.1 hu with rfl | hu
   ·rw[h2 c (hR c a),X2 np] at b;cases b
   ·exact⟨u,hu,np⟩) (λi j u v c hi hj hu hv=>by
   have:=hd (i+1) (j+1) u v c (by simpa using hi) (by simpa using hj) hu hv;omega)
  rw[ry,ih,Bn,Z4,Z4];refine⟨⟨X2 (λe=>?_),J0.2 (λc dt=>X2 (p3 c ((Vp c).1 dt)))⟩,by rw[h1];exact p2⟩;obtain⟨c,AO⟩:=tE _ p1;have:=(Vp c).2 AO;rw[e] at this;cases this
theorem aQ7 {n:Nat}{f:Nat->List (List Nat)}{S:List Nat}(hS:∀c∈S,c<2^n):∀{qs:List Pr}{ps:List Pt},PrM n qs ps->(∀p∈ps,∀c∈p.1,f c=p.2)->∀c∈S,(∃p∈ps,c∈p.1)->fP qs c=Qk (f c)
 | [],[],_,_,c,_,⟨p,hp,_⟩=>by cases hp
 | q::qs,p::ps,⟨⟨h1,h2⟩,hm⟩,ht,c,hc,gR=>by
  unfold fP;cases hq:q.o (bits c)with
  | true=>
   rw[dQM (by exact hq)];have:=h2 c (hS c hc);rw[hq] at this;have AO:=YC this.symm;show q.t=_;rw[h1,ht p (by simp) c AO]
  | false=>
   rw[Gf (by rw[hq];decide)];refine aQ7 hS hm (λu hu=>ht u (by simp[hu])) c hc ?_;obtain⟨u,hu,np⟩:=gR;rcases Q3.1 hu with rfl | hu
   ·have:=h2 c (hS c hc);rw[hq,X2 np] at this;cases this
   ·exact⟨u,hu,np⟩
theorem lQh {nm:List (List Nat)}{o:BF}{f:Nat->List (List Nat)}{qs:List Pr}{ps:List Pt}(hm:PrM nm.length qs ps)(hp:PtOk f (QF nm.length o) ps)(Jf:∀c,Vj (Qk (f c))=true)(QO:QF nm.length o≠ [])
  (Q0:(Qk (X0 nm (λc=>Qk (f c)) nm.length 0 (QF nm.length o))).length<=1048576):
  fg nm o qs= .ok (Qk (X0 nm (λc=>Qk (f c)) nm.length 0 (QF nm.length o))):=by
 have hS:∀c∈QF nm.length o,c<2^nm.length:=λc hc=>(Z0.1 hc).1
 have ni:ry nm.length (QF nm.length o) qs=true:=aQ6 hm hS (λp dq=>⟨hp.ne p dq,by
  obtain⟨c,hc⟩:=tE _ (hp.ne p dq);rw[<-(hp.tx p dq c hc).2];exact Jf c,λc hc=>(hp.tx p dq c hc).1⟩) hp.cov hp.dj
 have hq:qs≠ []:=λe=>by
  subst e;have:=ni;rw[ry] at this;exact QO (YC this)
 have hw:=uT (nm:=nm) (f:=fP qs) (g:=λc=>Qk (f c)) nm.length 0 (QF nm.length o) QO (λc hc=>aQ7 hS hm (λp dq c hc=>(hp.tx p dq c hc).2) c hc (hp.cov c hc));unfold fg;rw[if_neg (by rw[ni];decide),if_neg hq,hw,if_neg (by omega)]
def kc (k:Int):List PanicEntry:=[{v:=.iface 34 (.int .i64 k),recovered:=false}]
theorem Y2 (k:Int)(hk:k≠0)(w:World):FnP Tryz.prog 44 [.int .i64 k] w (λ_ _=>False) (λch w'=>ch=kc k/\w=w'):=by
 refine bi (c:={RI with cuts:=[]}) Qa Tryz.func44 rfl rfl rfl ?_;refine tM hk ?_;exact qH rfl rfl ⟨rfl,rfl⟩
theorem aQ8 (A:Option Addr)(n c:Nat)(ls:List (List Nat))(w:World)(h:Sn w A n c (J7 ls))(Q0:(Qk ls).length<=1000000000000000000):
  FnP Tryz.prog 50 [.slice A n c] w (λu w'=>(Qk ls).length<=1048576/\u= .string (Qf (Qk ls))/\Ext w w') (λch w'=>1048576<(Qk ls).length/\ch=kc 2/\w=w'):=by
 by_cases ZL:(Qk ls).length<=1048576
 ·exact(kQJ A n c ls w h ZL).toP.mono (λv w' hh=>⟨ZL,hh.1,hh.2⟩) (λ_ _ hh=>hh)
 have hl:=j6 h.1;have dy:=xB ls;refine bi (c:={RJ with cuts:=[]}) Qa Tryz.func50 rfl rfl rfl ?_;refine loop Qa [8,3] (λi:Nat=>[.int .i64 i,.int .i64 (Qk (ls.take i)).length]) (λi w'=>w=w'/\i<=n/\(Qk (ls.take i)).length<=1048576) (λi _=>n-i) 0 rfl ⟨rfl,Xt _,by simp[Qk]⟩ ?_;rintro i _ ⟨rfl,hi,FU⟩;refine Qz (λc1=>?_) (λc1=>?_)
 ·have Q5:i<n:=by omega
  obtain⟨s,hs⟩:∃s,ls[i]? =some s:=⟨_,XB (by omega)⟩
  have VC:ls.take (i+1)=ls.take i++ [s]:=by rw[V3,hs]<;>rfl
  have hu:=aQC (ls.take i) s;rw[<-VC] at hu;have bQ6:(Qk (ls.take (i+1))).length<=(Qk ls).length:=by
   have e5:Qk ls=Qk (ls.take (i+1))++Qk (ls.drop (i+1)):=by
    have e6:∀a b:List (List Nat),Qk (a++b)=Qk a++Qk b:=λa b=>by simp[Qk]
    rw[<-e6,dE]
   rw[e5,Qq];omega
  refine Vr h.1 Q5 (λad u hA gZ Xy=>?_);rw[iP hs] at gZ;cases gZ;refine load Xy ?_;have X7:=Xi (s++ [10]);rw[Qq,gi] at X7;refine Qj (((Qk (ls.take (i+1))).length:Nat):Int) (by rw[hu];omega) (by omega) ?_;refine Qz (λd1=>?_) (λd1=>?_)
  ·refine XP (Y2 2 (by decide) w) (λ_ _ hf=>hf.elim) ?_;rintro ch _ ⟨rfl,rfl⟩;exact⟨by omega,rfl,rfl⟩
  ·refine Qj ((i+1:Nat):Int) (by show((i:Nat):Int)+1=_;omega) (by omega) ?_;exact⟨i+1,rfl,⟨rfl,Q5,by omega⟩,by show n-(i+1)<n-i;omega⟩
 ·have:i=n:=by omega
  subst this;rw[Jv (by omega)] at FU;exact Xd FU ZL
theorem lQi (nm:List (List Nat)):uA nm [] 1=if ZQ nm=true then(WC,0)else([],1):=by
 have h1:XH [] 1=0:=(bT 0 true).chk (by decide);have h2:aD [] 1=(Za (.c true) 0,0):=by
  rw[TB h1];have e:cf [] 1= .c true:=rfl;rw[e,if_neg (by decide)]
 unfold uA;rw[h2];by_cases h:ZQ nm=true
 ·rw[Qe h,Qe h,Qe rfl,SC h (Tt (show VarsIn 64 (.c true) from trivial) (by decide)) (λx hx ho=>by
   rw[QL.1 hx] at ho;exact Xd ho (by decide)),Hy]
  rfl
 ·rw[if_neg h,if_neg h]
abbrev IV (nm:List (List Nat))(x:DV):Prop:=ZQ nm=true/\Kv nm.length x.nd x.r=true
theorem lQj {l:List Nat}{N:Nat}(hl:l=Nt.J9 N)(hN:N<=4096):Nt.uS l=N/\Nt.lV l=true:=by
 have eI:N<4294967296^1024:=(show ∀k,0<k->N<4294967296^k from λk p=>Ye (show N<4294967296^1 by omega) (WW (by decide) p)) 1024 (by decide);have Q0:(Nt.J9 N).length<=2:=(Nt.IH N 2).2 (by omega);obtain⟨e1,e2⟩:=Nt.aQR (l:=l) (by rw[hl];exact Nt.uR eI) (by rw[hl];exact Q0);exact⟨by rw[e1,hl,Nt.rv],e2⟩
theorem aQ9 (NA:Option Addr)(nn nc:Nat)(nm:List (List Nat))(x:DV)(cQI:nm.length<=12)(Yc:KG nm)(w:World)(hN:Sl w 1 NA nn nc (X9 nm))(hx:SB w x.A x.n x.c x.nd):
  FnP Tryz.prog 42 [.slice NA nn nc,Xl x.A x.n x.c x.r] w (λ_ w'=>IV nm x/\Ext w w') (λch w'=>¬IV nm x/\ch=kc 1/\Ext w w'):=by
 have Q0:nm.length=nn:=by have:=hN.len;rw[bn] at this;omega
 refine bi (c:={c42 with cuts:=[]}) Qa Tryz.func42 rfl rfl rfl ?_;refine new (λw1 Qd Q9 Qh=>?_);refine call (cQ true w1) ?_;rintro _ w2 ⟨rfl,Qg⟩;have QR:=Qd.trans Qg;refine call (hQK nm NA none nn nc 0 0 [] 1 w2 (hN.ext QR) Yc (SlS.nil _) (by
  have h1:XH [] 1=0:=(bT 0 true).chk (by decide);have h2:aD [] 1=(Za (.c true) 0,0):=by
   rw[TB h1];have e:cf [] 1= .c true:=rfl;rw[e,if_neg (by decide)]
  rw[h2];show(ZU nm 0 (gv (Za (.c true) 0))).length<=_;rw[Hy];show WC.length<=_;decide)) ?_
 rintro _ w3 ⟨rfl,Qi⟩;have QY:=QR.trans Qi;rw[lQi nm];by_cases XY:ZQ nm=true
 ·rw[Qe XY];refine YU rfl ?_;refine Qt ((Qh.ext Qg).ext Qi) rfl ?_;rw[<-Q0];refine call (Iy x.A x.n x.c nm.length x.nd x.r w3 (hx.ext QY)) ?_;rintro _ w4 ⟨rfl,Qs⟩;have Xr:=QY.trans Qs;cases YB:Kv nm.length x.nd x.r with
  | false=>
   refine Xc rfl ?_;refine XP (Y2 1 (by decide) w4) (λ_ _ hf=>hf.elim) ?_;rintro ch _ ⟨rfl,rfl⟩;exact⟨λhh=>(by have h2:=hh.2;rw[YB] at h2;cases h2),rfl,Xr⟩
  | true=>
   refine Q7 rfl ?_;refine Qt (((Qh.ext Qg).ext Qi).ext Qs) rfl ?_;refine call (lQb x nm.length cQI w4 (hx.ext Xr) YB) ?_;rintro _ w5 ⟨_,rfl,⟨A,m,c,N,rfl,hS,AN⟩,Qx⟩;have Nn:N<=4096:=X4 AN (X4 (WW (by decide) cQI) (by decide));obtain⟨e1,e2⟩:=lQj rfl Nn;refine call (Iz w5) ?_;rintro _ _ rfl;refine call (Nt.kQ5 A m c (Nt.J9 N) w5 hS (Nt.Db N)) ?_;rintro _ _ ⟨rfl,rfl⟩;rw[e1,e2];refine Q7 rfl ?_;refine XF (by omega) ?_;exact⟨⟨XY,YB⟩,Xr.trans Qx⟩
 ·rw[if_neg XY];refine tM (by decide) ?_;refine XP (Y2 1 (by decide) w3) (λ_ _ hf=>hf.elim) ?_;rintro ch _ ⟨rfl,rfl⟩;exact⟨λhh=>XY hh.1,rfl,QY⟩
theorem bQa {c:Cx}{o:Oper}{S:Env}{w:World}{K:Env->World->Prop}{Q:Zj}{x:Operand}{tx t:Nat}{k:IntKind}{r:TyRow}(hg:c.g.Ok)(ho:o.op= .typeAssert x tx t true)(hr:QU c.g.tys t=some r)(hd:r.d= .int k)(hx:S.ev x=some .nilIface)
  (kk:Xh c S o.dst (.v (.tuple #[r.z,.bool false])) (λS=>K S w)):Zc c o S w K Q:=by
 obtain⟨Q4,i,hi,_,_,hz⟩:=hg.row hr;rw[hd] at Q4;refine JG (w':=w) (v:=.tuple #[r.z,.bool false]) (λa hf=>?_) kk;have e1:=hf.ev hx;simp only[execOp,ho,e1];simp[Instr.typeAssert,ZX Q4,zeroValue,typeInfo,hi,hz]
def Dg (f e:Nat)(k:Int)(w w':World):Prop:=Blk w' f 9 [.string ⟨#[]⟩]/\Blk w' e 34 [.int .i64 k]/\Mod (λi=>i=f∨i=e) w w'
theorem rz (f e:Nat)(k:Int)(w:World)(v1 v2:Value)(QO:f≠e)(hf:Blk w f 9 [v1])(he:Blk w e 34 [v2]):
  CallsD Tryz.prog 60 #[.pointer (some ⟨f,0,none⟩),.pointer (some ⟨e,0,none⟩)] (.panicking (kc k)) w
   (λen u' w'=>∃v,en= .returned v/\settle u'= .returning/\Dg f e k w w'):=by
 refine callsD_of_wpS Tryz.func60 rfl λc₀ cs hu=>?_
 have Ke:=gn (N:=Tryz.f60.ntmps) [.pointer (some ⟨f,0,none⟩),.pointer (some ⟨e,0,none⟩)] (ij rfl) [(0,.v (.pointer (some ⟨f,0,none⟩))),(1,.v (.pointer (some ⟨e,0,none⟩)))] (by
  intro k x hk
  match k,hk with
  | 0,hk=>cases hk;rfl
  | 1,hk=>cases hk;rfl
  | k+2,hk=>exact nomatch (show(none:Option Ent)=some x from hk))
 have Kb:=Ke.put (d:=5) (by decide) (.v (.iface 34 (.int .i64 k)));refine wpS_seq (wpS_region ?_);show wpOpsS _ _ _ [0,1,2,3,4,5,6] _ _ _;refine uG (o:=_) (cs':={c₀ with mode:=.panicking [{v:=.iface 34 (.int .i64 k),recovered:=true}]}::cs) (v:=.iface 34 (.int .i64 k)) (d:=5) rfl rfl rfl rfl (.inl (by simp[recoverD,hu,kc])) ?_;generalize bL:Act.put _ (some 5) _=act;have jd:Fits bQ.N [(5,.v (.iface 34 (.int .i64 k))),(0,.v (.pointer (some ⟨f,0,none⟩))),(1,.v (.pointer (some ⟨e,0,none⟩)))] act:=by rw[<-bL];exact Kb
 clear bL Kb Ke;generalize ZB: #[_,_,_,_,_,_,_]=za;have h1:=(QD (λ(x:Array Oper)=>x[1]?) ZB).symm;have h2:=(QD (λ(x:Array Oper)=>x[2]?) ZB).symm;have h3:=(QD (λ(x:Array Oper)=>x[3]?) ZB).symm;have h4:=(QD (λ(x:Array Oper)=>x[4]?) ZB).symm;have h5:=(QD (λ(x:Array Oper)=>x[5]?) ZB).symm;have h6:=(QD (λ(x:Array Oper)=>x[6]?) ZB).symm;clear ZB;refine JJ (c:=bQ) Qa rfl h1 rfl jd (K:=λS' w'=>S'=[(6,Ent.v (.tuple #[.int .i64 k,.bool true])),(5,.v (.iface 34 (.int .i64 k))),(0,.v (.pointer (some ⟨f,0,none⟩))),(1,.v (.pointer (some ⟨e,0,none⟩)))]/\w=w') (G7 Qa rfl rfl rfl rfl ⟨rfl,rfl⟩) ?_;rintro _ a1 _ Zh ⟨rfl,rfl⟩;refine JJ (c:=bQ) Qa rfl h2 rfl Zh (K:=λS' w'=>S'=_/\w=w') ⟨rfl,rfl⟩ ?_;rintro _ a2 _ ZV ⟨rfl,rfl⟩;refine JJ (c:=bQ) Qa rfl h3 rfl ZV (K:=λS' w'=>S'=_/\w=w') ⟨rfl,rfl⟩ ?_;rintro _ a3 _ je ⟨rfl,rfl⟩;refine JJ (c:=bQ) Qa rfl h4 rfl je (K:=λS' w'=>S'=_/\w=w') ⟨rfl,rfl⟩ ?_;rintro _ a4 _ jf ⟨rfl,rfl⟩;refine JJ (c:=bQ) Qa rfl h5 rfl jf (K:=λS' w'=>S'=_/\w=w') ⟨rfl,rfl⟩ ?_;rintro _ a5 _ Kb ⟨rfl,rfl⟩;refine JJ (c:=bQ) Qa rfl h6 rfl Kb (K:=λS' w'=>S'=_/\w=w') ⟨rfl,rfl⟩ ?_;rintro _ a6 _ ci ⟨rfl,rfl⟩;unfold wpOpsS;refine nP (c:=bQ) Qa rfl ci ?_;refine Xc rfl ?_;refine KS hf (by simp) (λw1 Zw Qh=>?_);refine KS (he.mod Zw (λh=>QO h.symm)) (by simp) (λw2 XR Qv=>?_);exact⟨_,rfl,rfl,Qh.mod XR QO,Qv,(Zw.mono (λi hi=>.inl (.inl hi))).trans XR (λi hi=>.inl (.inr hi))⟩
theorem bQb (f e:Nat)(w:World):
  CallsD Tryz.prog 60 #[.pointer (some ⟨f,0,none⟩),.pointer (some ⟨e,0,none⟩)] .returning w
   (λen u' w'=>∃v,en= .returned v/\settle u'= .returning/\w=w'):=by
 refine callsD_of_wpS Tryz.func60 rfl λc₀ cs hu=>?_
 have Ke:=gn (N:=Tryz.f60.ntmps) [.pointer (some ⟨f,0,none⟩),.pointer (some ⟨e,0,none⟩)] (ij rfl) [(0,.v (.pointer (some ⟨f,0,none⟩))),(1,.v (.pointer (some ⟨e,0,none⟩)))] (by
  intro k x hk
  match k,hk with
  | 0,hk=>cases hk;rfl
  | 1,hk=>cases hk;rfl
  | k+2,hk=>exact nomatch (show(none:Option Ent)=some x from hk))
 have Kb:=Ke.put (d:=5) (by decide) (.v .nilIface);refine wpS_seq (wpS_region ?_);show wpOpsS _ _ _ [0,1,2,3,4,5,6] _ _ _;refine uG (o:=_) (cs':={c₀ with mode:=.returning}::cs) (v:=.nilIface) (d:=5) rfl rfl rfl rfl (.inr ⟨by simp[recoverD,hu],rfl,by rw[<-hu]⟩) ?_;generalize bL:Act.put _ (some 5) _=act;have jd:Fits bQ.N [(5,.v .nilIface),(0,.v (.pointer (some ⟨f,0,none⟩))),(1,.v (.pointer (some ⟨e,0,none⟩)))] act:=by rw[<-bL];exact Kb
 clear bL Kb Ke;generalize ZB: #[_,_,_,_,_,_,_]=za;have h1:=(QD (λ(x:Array Oper)=>x[1]?) ZB).symm;have h2:=(QD (λ(x:Array Oper)=>x[2]?) ZB).symm;have h3:=(QD (λ(x:Array Oper)=>x[3]?) ZB).symm;have h4:=(QD (λ(x:Array Oper)=>x[4]?) ZB).symm;have h5:=(QD (λ(x:Array Oper)=>x[5]?) ZB).symm;have h6:=(QD (λ(x:Array Oper)=>x[6]?) ZB).symm;clear ZB;refine JJ (c:=bQ) Qa rfl h1 rfl jd (K:=λS' w'=>S'=_/\w=w') (bQa Qa rfl rfl rfl rfl ⟨rfl,rfl⟩) ?_;rintro _ a1 _ Zh ⟨rfl,rfl⟩;refine JJ (c:=bQ) Qa rfl h2 rfl Zh (K:=λS' w'=>S'=_/\w=w') ⟨rfl,rfl⟩ ?_;rintro _ a2 _ ZV ⟨rfl,rfl⟩;refine JJ (c:=bQ) Qa rfl h3 rfl ZV (K:=λS' w'=>S'=_/\w=w') ⟨rfl,rfl⟩ ?_;rintro _ a3 _ je ⟨rfl,rfl⟩;refine JJ (c:=bQ) Qa rfl h4 rfl je (K:=λS' w'=>S'=_/\w=w') ⟨rfl,rfl⟩ ?_;rintro _ a4 _ jf ⟨rfl,rfl⟩;refine JJ (c:=bQ) Qa rfl h5 rfl jf (K:=λS' w'=>S'=_/\w=w') ⟨rfl,rfl⟩ ?_;rintro _ a5 _ Kb ⟨rfl,rfl⟩;refine JJ (c:=bQ) Qa rfl h6 rfl Kb (K:=λS' w'=>S'=_/\w=w') ⟨rfl,rfl⟩ ?_;rintro _ a6 _ ci ⟨rfl,rfl⟩;unfold wpOpsS;refine nP (c:=bQ) Qa rfl ci ?_;refine Q7 rfl ?_;exact⟨_,rfl,rfl,rfl⟩
theorem uU (f e:Nat)(k:Int)(w:World)(v1 v2:Value)(QO:f≠e)(hf:Blk w f 9 [v1])(he:Blk w e 34 [v2]):
  CallsD Tryz.prog 41 #[.pointer (some ⟨f,0,none⟩),.pointer (some ⟨e,0,none⟩)] (.panicking (kc k)) w
   (λen u' w'=>∃v,en= .returned v/\settle u'= .returning/\Dg f e k w w'):=by
 refine callsD_of_wpS Tryz.func41 rfl λc₀ cs hu=>?_
 have Ke:=gn (N:=Tryz.f41.ntmps) [.pointer (some ⟨f,0,none⟩),.pointer (some ⟨e,0,none⟩)] (ij rfl) [(0,.v (.pointer (some ⟨f,0,none⟩))),(1,.v (.pointer (some ⟨e,0,none⟩)))] (by
  intro k x hk
  match k,hk with
  | 0,hk=>cases hk;rfl
  | 1,hk=>cases hk;rfl
  | k+2,hk=>exact nomatch (show(none:Option Ent)=some x from hk))
 have Kb:=Ke.put (d:=5) (by decide) (.v (.iface 34 (.int .i64 k)));refine wpS_seq (wpS_region ?_);show wpOpsS _ _ _ [0,1,2,3,4,5,6] _ _ _;refine uG (o:=_) (cs':={c₀ with mode:=.panicking [{v:=.iface 34 (.int .i64 k),recovered:=true}]}::cs) (v:=.iface 34 (.int .i64 k)) (d:=5) rfl rfl rfl rfl (.inl (by simp[recoverD,hu,kc])) ?_;generalize bL:Act.put _ (some 5) _=act;have jd:Fits bP.N [(5,.v (.iface 34 (.int .i64 k))),(0,.v (.pointer (some ⟨f,0,none⟩))),(1,.v (.pointer (some ⟨e,0,none⟩)))] act:=by rw[<-bL];exact Kb
 clear bL Kb Ke;generalize ZB: #[_,_,_,_,_,_,_]=za;have h1:=(QD (λ(x:Array Oper)=>x[1]?) ZB).symm;have h2:=(QD (λ(x:Array Oper)=>x[2]?) ZB).symm;have h3:=(QD (λ(x:Array Oper)=>x[3]?) ZB).symm;have h4:=(QD (λ(x:Array Oper)=>x[4]?) ZB).symm;have h5:=(QD (λ(x:Array Oper)=>x[5]?) ZB).symm;have h6:=(QD (λ(x:Array Oper)=>x[6]?) ZB).symm;clear ZB;refine JJ (c:=bP) Qa rfl h1 rfl jd (K:=λS' w'=>S'=[(6,Ent.v (.tuple #[.int .i64 k,.bool true])),(5,.v (.iface 34 (.int .i64 k))),(0,.v (.pointer (some ⟨f,0,none⟩))),(1,.v (.pointer (some ⟨e,0,none⟩)))]/\w=w') (G7 Qa rfl rfl rfl rfl ⟨rfl,rfl⟩) ?_;rintro _ a1 _ Zh ⟨rfl,rfl⟩;refine JJ (c:=bP) Qa rfl h2 rfl Zh (K:=λS' w'=>S'=_/\w=w') ⟨rfl,rfl⟩ ?_;rintro _ a2 _ ZV ⟨rfl,rfl⟩;refine JJ (c:=bP) Qa rfl h3 rfl ZV (K:=λS' w'=>S'=_/\w=w') ⟨rfl,rfl⟩ ?_;rintro _ a3 _ je ⟨rfl,rfl⟩;refine JJ (c:=bP) Qa rfl h4 rfl je (K:=λS' w'=>S'=_/\w=w') ⟨rfl,rfl⟩ ?_;rintro _ a4 _ jf ⟨rfl,rfl⟩;refine JJ (c:=bP) Qa rfl h5 rfl jf (K:=λS' w'=>S'=_/\w=w') ⟨rfl,rfl⟩ ?_;rintro _ a5 _ Kb ⟨rfl,rfl⟩;refine JJ (c:=bP) Qa rfl h6 rfl Kb (K:=λS' w'=>S'=_/\w=w') ⟨rfl,rfl⟩ ?_;rintro _ a6 _ ci ⟨rfl,rfl⟩;unfold wpOpsS;refine nP (c:=bP) Qa rfl ci ?_;refine Xc rfl ?_;refine KS hf (by simp) (λw1 Zw Qh=>?_);refine KS (he.mod Zw (λh=>QO h.symm)) (by simp) (λw2 XR Qv=>?_);exact⟨_,rfl,rfl,Qh.mod XR QO,Qv,(Zw.mono (λi hi=>.inl (.inl hi))).trans XR (λi hi=>.inl (.inr hi))⟩
theorem bQc (f e:Nat)(w:World):
  CallsD Tryz.prog 41 #[.pointer (some ⟨f,0,none⟩),.pointer (some ⟨e,0,none⟩)] .returning w
   (λen u' w'=>∃v,en= .returned v/\settle u'= .returning/\w=w'):=by
 refine callsD_of_wpS Tryz.func41 rfl λc₀ cs hu=>?_
 have Ke:=gn (N:=Tryz.f41.ntmps) [.pointer (some ⟨f,0,none⟩),.pointer (some ⟨e,0,none⟩)] (ij rfl) [(0,.v (.pointer (some ⟨f,0,none⟩))),(1,.v (.pointer (some ⟨e,0,none⟩)))] (by
  intro k x hk
  match k,hk with
  | 0,hk=>cases hk;rfl
  | 1,hk=>cases hk;rfl
  | k+2,hk=>exact nomatch (show(none:Option Ent)=some x from hk))
 have Kb:=Ke.put (d:=5) (by decide) (.v .nilIface);refine wpS_seq (wpS_region ?_);show wpOpsS _ _ _ [0,1,2,3,4,5,6] _ _ _;refine uG (o:=_) (cs':={c₀ with mode:=.returning}::cs) (v:=.nilIface) (d:=5) rfl rfl rfl rfl (.inr ⟨by simp[recoverD,hu],rfl,by rw[<-hu]⟩) ?_;generalize bL:Act.put _ (some 5) _=act;have jd:Fits bP.N [(5,.v .nilIface),(0,.v (.pointer (some ⟨f,0,none⟩))),(1,.v (.pointer (some ⟨e,0,none⟩)))] act:=by rw[<-bL];exact Kb
 clear bL Kb Ke;generalize ZB: #[_,_,_,_,_,_,_]=za;have h1:=(QD (λ(x:Array Oper)=>x[1]?) ZB).symm;have h2:=(QD (λ(x:Array Oper)=>x[2]?) ZB).symm;have h3:=(QD (λ(x:Array Oper)=>x[3]?) ZB).symm;have h4:=(QD (λ(x:Array Oper)=>x[4]?) ZB).symm;have h5:=(QD (λ(x:Array Oper)=>x[5]?) ZB).symm;have h6:=(QD (λ(x:Array Oper)=>x[6]?) ZB).symm;clear ZB;refine JJ (c:=bP) Qa rfl h1 rfl jd (K:=λS' w'=>S'=_/\w=w') (bQa Qa rfl rfl rfl rfl ⟨rfl,rfl⟩) ?_;rintro _ a1 _ Zh ⟨rfl,rfl⟩;refine JJ (c:=bP) Qa rfl h2 rfl Zh (K:=λS' w'=>S'=_/\w=w') ⟨rfl,rfl⟩ ?_;rintro _ a2 _ ZV ⟨rfl,rfl⟩;refine JJ (c:=bP) Qa rfl h3 rfl ZV (K:=λS' w'=>S'=_/\w=w') ⟨rfl,rfl⟩ ?_;rintro _ a3 _ je ⟨rfl,rfl⟩;refine JJ (c:=bP) Qa rfl h4 rfl je (K:=λS' w'=>S'=_/\w=w') ⟨rfl,rfl⟩ ?_;rintro _ a4 _ jf ⟨rfl,rfl⟩;refine JJ (c:=bP) Qa rfl h5 rfl jf (K:=λS' w'=>S'=_/\w=w') ⟨rfl,rfl⟩ ?_;rintro _ a5 _ Kb ⟨rfl,rfl⟩;refine JJ (c:=bP) Qa rfl h6 rfl Kb (K:=λS' w'=>S'=_/\w=w') ⟨rfl,rfl⟩ ?_;rintro _ a6 _ ci ⟨rfl,rfl⟩;unfold wpOpsS;refine nP (c:=bP) Qa rfl ci ?_;refine Q7 rfl ?_;exact⟨_,rfl,rfl,rfl⟩
def lQk:List (List Nat):=[[120],[43],[121],[42],[40],[41],[105,102],[101,108,115,101],[59],[94],[122],[37,99]]
theorem bQd (k:Nat)(w:World)(hk:k<=255):Fn Tryz.prog 190 [.int .u8 k] w (λv w'=>v= .string (Qf (Y0 k))/\Ext w w'):=by
 refine QH (c:={fQB with cuts:=[]}) Qa Tryz.func190 rfl rfl rfl ?_;have XU:k % 12<12:=eM _ (by decide);refine Xw Qa (lQk.map (λs=>[Value.string (Qf s)])) rfl rfl rfl rfl rfl ⟨rfl,rfl,rfl,rfl,rfl,rfl,rfl,rfl,rfl,rfl,rfl,rfl,rfl,rfl,rfl,rfl,rfl,rfl,rfl,rfl,rfl,rfl,rfl,rfl,⟨⟩⟩ rfl (λcs h=>by simp only[ZG] at h;obtain⟨s,_,rfl⟩:=h;rfl) rfl (by decide) (by decide) ?_;intro w1 Qd Q9 Qh;refine Qj ((k:Nat):Int) rfl (by omega) ?_;refine normIf (m:=((k % 12:Nat):Int)) (by decide) (iv k 12) ?_;refine index (j:=k % 12) XU ?_;refine Qp Qh (v:=.string (Qf (Y0 k))) (by
  unfold Y0;generalize k % 12=r at XU;rcases(show r=0∨r=1∨r=2∨r=3∨r=4∨r=5∨r=6∨r=7∨r=8∨r=9∨r=10∨r=11 by omega)with rfl | rfl | rfl | rfl | rfl | rfl | rfl | rfl | rfl | rfl | rfl | rfl<;>rfl) ?_
 exact⟨rfl,Qd⟩
theorem uV (x:Lx)(w:World)(hx:LxOk w x):Fn Tryz.prog 131 [.agg x.cells.toArray] w (λv w'=>v= .string (Qf (KD x.k x.ws++ [10]))/\Ext w w'):=by
 have hn:x.ws.length=x.n:=by have:=hx.sl.len;rw[tP] at this;omega
 have bI:x.n<=9223372036854775807:=by have:=hx.sl.le;have:=hx.sl.cap;simp only[maxLen] at this;omega
 have hk:=hx.k8;refine QH (c:={eQZ with cuts:=[]}) Qa Tryz.func131 rfl rfl rfl ?_;refine new (λw1 Qd Q9 Qh=>?_);refine Qy Qh rfl ?_;refine normIf (m:=((x.k/8:Nat):Int)) (by decide) (by
  show IntKind.u8.wrap ((x.k/8:Nat):Int)=_;rw[tN];omega) ?_
 refine Qj ((x.k/8:Nat):Int) rfl (by omega) ?_;refine normIf (m:=((x.k/8 % 4:Nat):Int)) (by decide) (iv _ 4) ?_;have h4:x.k/8 % 4<4:=eM _ (by decide);refine XM (v':=.string (Qf (List.replicate (x.k/8 % 4) 32))) (by
  generalize x.k/8 % 4=r at h4;rcases(show r=0∨r=1∨r=2∨r=3 by omega)with rfl | rfl | rfl | rfl<;>decide) (by
  generalize x.k/8 % 4=r at h4;rcases(show r=0∨r=1∨r=2∨r=3 by omega)with rfl | rfl | rfl | rfl<;>rfl) ?_
 refine loop Qa [4,3] (λs:Nat×List Nat=>[.int .i64 s.1,.string (Qf s.2)]) (λs w'=>Ext w1 w'/\s.1<=x.n/\s.1<=6/\s.2.length<=3+s.1*5/\s.2++aJ (decide (0<s.1)) ((x.ws.take 6).drop s.1)=KD x.k x.ws) (λs _=>6-s.1) (0,List.replicate (x.k/8 % 4) 32) rfl ⟨Ext.refl _,Xt _,Xt _,by simp;omega,rfl⟩ ?_;rintro⟨i,out⟩ w2 ⟨Qg,hi,hi6,FW,QE⟩;simp only at hi hi6 FW QE;have Qv:=Qh.ext Qg;have so:=Xi out;have pW:=hx.sl.ext (Qd.trans Qg);have fine:out=KD x.k x.ws->out.length<=40->(Qf out).size+(Qf [10]).size<=maxLen:=λ_ h=>by rw[Xi,Xi];show _+1<=maxLen;unfold maxLen;omega
 have stop:(x.ws.take 6).drop i=[]->out=KD x.k x.ws:=λh=>by rw[h,aJ,JZ] at QE;exact QE
 refine Qp Qv rfl ?_;refine Qz (λc1=>?_) (λc1=>?_)
 ·refine Qz (λc2=>?_) (λc2=>?_)
  ·have Q5:i<x.n:=by omega
   have hg:x.ws[i]? =some (x.ws[i]'(by omega)):=XB _;have hb:=hx.w8 _ (Xk hg);generalize x.ws[i]'(by omega)=b at*;have bK:(x.ws.take 6).drop i=b::(x.ws.take 6).drop (i+1):=Ia (by rw[qe (by omega)];exact hg);rw[bK,aJ] at QE;obtain⟨_,_,_,hwl⟩:=aQa b;refine Qz (λc3=>?_) (λc3=>?_)
   ·rw[Qe (by simp;omega),<-ZR] at QE;have Ka:(out++ [32]).length<=4+i*5:=by simp;omega
    refine XM (v':=.string (Qf (out++ [32]))) (by rw[so];show _+1<=maxLen;unfold maxLen;omega) (QD Value.string (ZY out [32])) ?_;generalize out++ [32]=o2 at*;refine Qp Qv rfl ?_;refine Vr pW Q5 (λad u hA hu Xy=>?_);rw[qA hg] at hu;cases hu;refine load Xy ?_;refine call (bQd b w2 hb) ?_;rintro _ w3 ⟨rfl,Qi⟩;have Np:=Xi (o2);have Nq:=Xi (Y0 b);refine XM (v':=.string (Qf (o2++Y0 b))) (by rw[Np,Nq];unfold maxLen;omega) (QD Value.string (ZY _ _)) ?_;have Qu:=Qv.ext Qi;have Nr:=pW.ext Qi;refine Qp Qu rfl ?_;refine Vr Nr Q5 (λad u hA hu Xy=>?_);rw[qA hg] at hu;cases hu;refine load Xy ?_;refine normIf (m:=((b % 12:Nat):Int)) (by decide) (iv b 12) ?_;refine Zd (λc4=>?_) (λc4=>?_)
    ·rw[Qe (by omega),JZ] at QE;have Ns:=Xi (o2++Y0 b);refine XM (v':=.string (Qf (o2++Y0 b++ [10]))) (by rw[Ns,Qq];show _+1<=maxLen;unfold maxLen;omega) (QD Value.string (ZY _ [10])) ?_;exact⟨by rw[<-QE],Qd.trans (Qg.trans Qi)⟩
    ·rw[if_neg (by omega),<-ZR] at QE;refine Qj ((i+1:Nat):Int) (by show((i:Nat):Int)+1=_;omega) (by omega) ?_;exact⟨(i+1,o2++Y0 b),rfl,⟨Qg.trans Qi,by show i+1<=x.n;omega,by show i+1<=6;omega,by show(o2++Y0 b).length<=3+(i+1)*5;rw[Qq];omega,by show _++aJ (decide (0<i+1)) _=_;rw[show decide (0<i+1)=true by simp];exact QE⟩,by show 6-(i+1)<6-i;omega⟩
   ·rw[if_neg (by simp;omega),aZ] at QE;refine Qp Qv rfl ?_;refine Vr pW Q5 (λad u hA hu Xy=>?_);rw[qA hg] at hu;cases hu;refine load Xy ?_;refine call (bQd b w2 hb) ?_;rintro _ w3 ⟨rfl,Qi⟩;have Np:=Xi (out);have Nq:=Xi (Y0 b);refine XM (v':=.string (Qf (out++Y0 b))) (by rw[Np,Nq];unfold maxLen;omega) (QD Value.string (ZY _ _)) ?_;have Qu:=Qv.ext Qi;have Nr:=pW.ext Qi;refine Qp Qu rfl ?_;refine Vr Nr Q5 (λad u hA hu Xy=>?_);rw[qA hg] at hu;cases hu;refine load Xy ?_;refine normIf (m:=((b % 12:Nat):Int)) (by decide) (iv b 12) ?_;refine Zd (λc4=>?_) (λc4=>?_)
    ·rw[Qe (by omega),JZ] at QE;have Ns:=Xi (out++Y0 b);refine XM (v':=.string (Qf (out++Y0 b++ [10]))) (by rw[Ns,Qq];show _+1<=maxLen;unfold maxLen;omega) (QD Value.string (ZY _ [10])) ?_;exact⟨by rw[<-QE],Qd.trans (Qg.trans Qi)⟩
    ·rw[if_neg (by omega),<-ZR] at QE;refine Qj ((i+1:Nat):Int) (by show((i:Nat):Int)+1=_;omega) (by omega) ?_;exact⟨(i+1,out++Y0 b),rfl,⟨Qg.trans Qi,by show i+1<=x.n;omega,by show i+1<=6;omega,by show(out++Y0 b).length<=3+(i+1)*5;rw[Qq];omega,by show _++aJ (decide (0<i+1)) _=_;rw[show decide (0<i+1)=true by simp];exact QE⟩,by show 6-(i+1)<6-i;omega⟩
  ·have e:=stop (qg (by rw[K5];omega));refine XM (v':=.string (Qf (out++ [10]))) (fine e (by omega)) (QD Value.string (ZY out [10])) ?_;exact⟨by rw[e],Qd.trans Qg⟩
 ·have e:=stop (qg (by rw[K5];omega));refine XM (v':=.string (Qf (out++ [10]))) (fine e (by omega)) (QD Value.string (ZY out [10])) ?_;exact⟨by rw[e],Qd.trans Qg⟩
end
section
theorem IW (x:Lx):x.cells.length=3:=rfl
section
variable {k0:Nat} {ic:Bool} {x:Lx} {op:List Bool}
theorem uW (h4:x.k % 8=4->3<=op.length)(h5:x.k % 8=5->op.head? ≠some false)(h6:x.k % 8=6->op=[])(h7:x.k % 8=7->ic=false):Ym k0 ic x op=(.tx (KD x.k x.ws),op):=by
 unfold Ym;rw[if_neg (λh=>by have:=h4 h.1;omega),if_neg (λh=>h5 h.1 h.2.1),if_neg (λh=>h5 h.1 h.2),if_neg (λh=>h.2 (h6 h.1)),if_neg (λh=>by rw[h7 h.1] at h;exact Xd h.2 (by decide))]
theorem lQl (h4:x.k % 8=4)(h:op.length<3):Ym k0 ic x op=(.ifd (YK (X5.take k0) x.i) (uK k0 x.i),false::op):=by
 unfold Ym;rw[Qe ⟨h4,h⟩]
theorem lQm {Xz:List Bool}(h5:x.k % 8=5)(h:x.i % 2=0):Ym k0 ic x (false::Xz)=(.elif (YK (X5.take k0) (x.i/2)) (uK k0 (x.i/2)),false::Xz):=by
 unfold Ym;rw[if_neg (by omega),Qe ⟨h5,rfl,h⟩]
theorem lQn {Xz:List Bool}(h5:x.k % 8=5)(h:x.i % 2≠0):Ym k0 ic x (false::Xz)=(.els,true::Xz):=by
 unfold Ym;rw[if_neg (by omega),if_neg (λhh=>h hh.2.2),Qe ⟨h5,rfl⟩]<;>rfl
theorem lQo {b:Bool}{Xz:List Bool}(h6:x.k % 8=6):Ym k0 ic x (b::Xz)=(.en,Xz):=by
 unfold Ym;rw[if_neg (by omega),if_neg (by omega),if_neg (by omega),Qe ⟨h6,by simp⟩]<;>rfl
theorem lQp (h7:x.k % 8=7)(h:ic=true):Ym k0 ic x op=(.inc,op):=by
 unfold Ym;rw[if_neg (by omega),if_neg (by omega),if_neg (by omega),if_neg (by omega),Qe ⟨h7,h⟩]
end
theorem lQq {w:World}{base e n c:Nat}{A:Option Addr}{cs:List Value}(h:Own w base e 1 A n c cs)(hn:0<n):∃a,A=some a:=by
 obtain⟨g,sp,hA,_⟩:=h.blk hn;exact⟨_,hA⟩
theorem IX {w:World}{base e n c j:Nat}{a:Addr}{cs:List Value}{u:Value}(h:Own w base e 1 (some a) n c cs)(hj:cs[j]? =some u):w.cell? (a.add j)=some u:=by
 have hl:=h.sl.len;have Xe:=(ZM.1 hj).1;obtain⟨ad,e,hc⟩:=h.sl.at_ (by omega);cases e;exact hc j u hj
theorem IY (b:Bool){op:List Bool}{Xz:List Bool}(h:op=b::Xz):op.reverse[op.length-1]? =some b:=by
 subst h;rw[tq,WV (by simp)];simp
structure LnS where
 i:Nat
 out:List Nat
 op:List Bool
 A:Option Addr
 c:Nat
structure LnI (w0:World) (base:Nat) (k0:Nat) (ic:Bool) (T:List Lx) (tot:List Nat) (s:LnS) (w:World):Prop where
 e:Ext w0 w
 ow:Own w base 4 1 s.A s.op.length s.c (Wd s.op.reverse)
 ol:s.op.length<=3
 il:s.i<=T.length
 rs:s.out++Qk ((Y1 k0 ic (T.drop s.i) s.op).map Jl)=tot
 ll:s.out.length<=s.i*40
theorem LnI.step {w0 w w':World}{base k0:Nat}{ic:Bool}{T:List Lx}{tot:List Nat}{s:LnS}(h:LnI w0 base k0 ic T tot s w)(hk:k0<=4){y:Lx}(hx:y.i<=255)(hy:T[s.i]? =some y){M:Mn}{Xz:List Bool}(e:Ym k0 ic y s.op=(M,Xz)){A':Option Addr}{c':Nat}(hE:Ext w w')(ho:Own w' base 4 1 A' Xz.length c' (Wd Xz.reverse)):
  LnI w0 base k0 ic T tot ⟨s.i+1,s.out++(Jl M++ [10]),Xz,A',c'⟩ w':=by
 have hb:=Ip (ic:=ic) (op:=s.op) hk hx;have hl:=Io (k0:=k0) (ic:=ic) (x:=y) h.ol;rw[e] at hb hl;simp only at hb hl;have QE:=h.rs;rw[Ia hy,Y1,e,Kr,V6] at QE;refine⟨h.e.trans hE,ho,hl,(ZM.1 hy).1,?_,?_⟩
 ·rw[<-QE];simp
 ·have:=h.ll;simp only[Qq,gi];omega
theorem LnI.step2 {w0 w w':World}{base k0:Nat}{ic:Bool}{T:List Lx}{tot:List Nat}{s:LnS}(h:LnI w0 base k0 ic T tot s w)(hk:k0<=4){y:Lx}(hx:y.i<=255)(hy:T[s.i]? =some y){M:Mn}{Xz:List Bool}(e:Ym k0 ic y s.op=(M,Xz)){A':Option Addr}{c':Nat}{o':List Nat}(Kp:o'=s.out++(Jl M++ [10]))(hE:Ext w0 w')(ho:Own w' base 4 1 A' Xz.length c' (Wd Xz.reverse)):
  LnI w0 base k0 ic T tot ⟨s.i+1,o',Xz,A',c'⟩ w':=by
 have hb:=Ip (ic:=ic) (op:=s.op) hk hx;have hl:=Io (k0:=k0) (ic:=ic) (x:=y) h.ol;rw[e] at hb hl;simp only at hb hl;have QE:=h.rs;rw[Ia hy,Y1,e,Kr,V6] at QE;subst Kp;refine⟨hE,ho,hl,(ZM.1 hy).1,?_,?_⟩
 ·rw[<-QE];simp
 ·have:=h.ll;simp only[Qq,gi];omega
theorem bQe {op:List Bool}{j:Nat}(h:j<op.length):Qk ((op.drop j).map (λ_=>X6))=X6++10::Qk ((op.drop (j+1)).map (λ_=>X6)):=by
 rw[av h,Kr,V6]
theorem bQf (k0:Nat)(hk:k0<=4)(NA:Option Addr)(nc:Nat)(A:Option Addr)(n c:Nat)(L:List Lx)(most:Nat)(name:List Nat)(w:World)(hN:Sl w 1 NA k0 nc (X9 (X5.take k0)))(hL:SlS Lx.cells 3 w A n c L)(XY:∀x∈L,LxOk w x)(hm:most<=100)(pQf:name=[]∨name=[110]):
  Fn Tryz.prog 85 [.slice NA k0 nc,.slice A n c,.int .i64 most,.string (Qf name)] w (λv w'=>v= .string (Qf (Qk ((Y1 k0 (decide (name≠ [])) (L.take most) []).map Jl)))/\Ext w w'):=by
 have Q0:=hL.2;have bI:n<=9223372036854775807:=by have:=hL.1.le;have:=hL.1.cap;simp only[maxLen] at this;omega
 have cQJ:∀s∈X5.take k0,s.length<=100:=λs hs=>by
  have XU:X5.all (λs=>decide (s.length<=100))=true:=by decide
  exact YC (J0.1 XU s (bf hs))
 refine QH (c:={c85 with cuts:=[]}) Qa Tryz.func85 rfl rfl rfl ?_;refine eQq Qa rfl rfl rfl rfl rfl rfl ?_;intro w1 Qd Q9 Qh;generalize hic:decide (name≠ [])=ic;generalize dQx:Qk ((Y1 k0 ic (L.take most) []).map Jl)=tot;have hTl:(L.take most).length=min most L.length:=K5;have qQa:(L.take most).length<=100:=by omega
 generalize hT:L.take most=T at*;refine loop Qa [11,10,9] (λs:LnS=>[.int .i64 s.i,.slice s.A s.op.length s.c,.string (Qf s.out)]) (λs w'=>LnI w w.heap.size k0 ic T tot s w') (λs _=>T.length-s.i) ⟨0,[],[],some ⟨w.heap.size,0,none⟩,0⟩ rfl ⟨Qd,Own.empty Qh (QC _),Xt _,Xt _,dQx,QC _⟩ ?_;rintro⟨i,out,op,A',c'⟩ w2 hI;have FW:=hI.ol;have Pp:=hI.il;have dy:=hI.ll;simp only at FW Pp dy;have QR:=hI.e;have so:=Xi out;refine Qz (λc1=>?_) (λc1=>?_)
 ·simp only at c1;refine Qz (λc2=>?_) (λc2=>?_)
  ·simp only at c2;have Q5:i<n:=by omega
   have hiT:i<T.length:=by omega
   refine Zz IW (hL.ext QR) rfl Q5 (λp y FX dA=>?_);have FX:L[i]? =some y:=FX;have hy:T[i]? =some y:=by rw[<-hT,qe (by omega)];exact FX
   have pZ:=(XY y (Xk FX)).ext QR;have WU:=pZ.i8;have hk8:=pZ.k8;refine JN (vs:=y.cells) rfl dA ?_;refine new (λw4 Qs KW QX=>?_);refine Qw QX rfl (sc rfl) (λw5 Js _ QB=>?_);have Ko:Ext w2 w5:=XV Qs QX Js;have JQ:=hI.e.trans Ko;have Kf:=hI.ow.ext Ko;simp only at Kf;refine Qy QB rfl ?_;refine normIf (m:=((y.k % 8:Nat):Int)) (by decide) (iv y.k 8) ?_;have h8:y.k % 8<8:=eM _ (by decide);refine Zd (λk4=>?_) (λk4=>?_)
   ·refine Qz (λn3=>?_) (λn3=>?_)
    ·simp only at n3;have e5:=US (X5.take k0) NA k0 nc y.i;refine XM (v':=.string (Qf (out++ [35,105,102,32]))) (by rw[so];show _+4<=maxLen;unfold maxLen;omega) (QD Value.string (ZY out [35,105,102,32])) ?_;refine Qp QB rfl ?_;refine call (e5 w5 (hN.ext JQ) cQJ WU) ?_;rintro _ w6 ⟨rfl,QN⟩;have Ja:=(uL hk WU).2.2;refine XM (v':=.string (Qf (out++ [35,105,102,32]++YK (X5.take k0) y.i))) (by rw[Xi,Xi,Qq];show _+4+_<=maxLen;unfold maxLen;omega) (QD Value.string (ZY _ _)) ?_;refine XM (v':=.string (Qf (out++ [35,105,102,32]++YK (X5.take k0) y.i++ [10]))) (by rw[Xi,Qq,Qq];show _+4+_+1<=maxLen;unfold maxLen;omega) (QD Value.string (ZY _ [10])) ?_;refine Xw Qa [[Value.bool false]] rfl rfl rfl rfl rfl ⟨rfl,rfl,⟨⟩⟩ rfl (λcs hh=>by simp only[QL] at hh;subst hh;rfl) rfl (by decide) (by decide) ?_;intro w7 Xf WJ Q8;have iS:Sl w7 1 (some ⟨w6.heap.size,0,none⟩) 1 1 [Value.bool false]:=Sl.own (sz:=1) (n:=1) Q8 (QC _) (by decide) (by simp);have JX:=QN.trans Xf;refine JH (n:=op.length) Qa rfl rfl rfl rfl rfl (by decide) rfl rfl ⟨_,rfl⟩ rfl rfl (Kf.ext JX) iS (by simp[JF]) (by unfold maxLen;omega) (by show(op.length+1)*1<=_;omega) (by have:=JQ.size;have:=JX.size;omega) ?_;intro A2 c2 w8 Jr nQS qQb;refine Qj ((i+1:Nat):Int) (by show((i:Nat):Int)+1=_;omega) (by(try simp only);omega) ?_;exact⟨⟨i+1,out++ [35,105,102,32]++YK (X5.take k0) y.i++ [10],false::op,A2,c2⟩,by simp only[Q6];rfl,hI.step2 hk WU hy (lQl (by first | omega | (simp only;omega)) (by first | omega | (simp only;omega))) (by simp[Jl,ZC]) (Jr.ext (JQ.trans JX) (λi hi=>by have:=(Kf.ext JX).rows i hi;omega)) (by rw[tq];simpa [Wd] using nQS),by show T.length-(i+1)<T.length-i;omega⟩
    ·simp only at n3;refine XG (by first | omega | (simp only;omega)) ?_;refine XG (by first | omega | (simp only;omega)) ?_;refine XG (by first | omega | (simp only;omega)) ?_;refine XG (by first | omega | (simp only;omega)) ?_;refine Qt QB rfl ?_;refine call (uV y w5 (pZ.ext Ko)) ?_;rintro _ w6 ⟨rfl,QN⟩;have s2:=Xi (KD y.k y.ws++ [10]);have s3:=(oC y.k y.ws).2.2.2;refine XM (v':=.string (Qf (out++(KD y.k y.ws++ [10])))) (by rw[so,s2,Qq];show _+(_+1)<=maxLen;unfold maxLen;omega) (QD Value.string (ZY _ _)) ?_;refine Qj ((i+1:Nat):Int) (by show((i:Nat):Int)+1=_;omega) (by(try simp only);omega) ?_;exact⟨⟨i+1,out++(KD y.k y.ws++ [10]),op,A',c'⟩,rfl,hI.step hk WU hy (uW (λ_=>by first | omega | (simp only;omega)) (λh=>by first | omega | (simp only;omega)) (λh=>by first | omega | (simp only;omega)) (λh=>by first | omega | (simp only;omega))) (Ko.trans QN) (Kf.ext QN),by show T.length-(i+1)<T.length-i;omega⟩
   refine Zd (λk5=>?_) (λk5=>?_)
   ·have k5':y.k % 8=5:=by omega
    refine Qz (λn0=>?_) (λn0=>?_)
    ·simp only at n0;have n0:0<op.length:=by omega
     obtain⟨f,Xz,rfl⟩:∃f Xz,op=f::Xz:=by
      cases op with
      | nil=>exact Xd n0 (by decide)
      | cons f Xz=>exact⟨f,Xz,rfl⟩
     refine Qj (((f::Xz).length-1:Nat):Int) (by(try simp only);omega) (by(try simp only);omega) ?_;obtain⟨oa,Kq⟩:=lQq Kf (show 0<(f::Xz).length by omega);rw[Kq];refine index (j:=(f::Xz).length-1) (by(try simp only);omega) ?_;refine load (IX (by rw[<-Kq];exact Kf) (xf (IY f rfl))) ?_;cases f with
     | false=>
      refine Xc rfl ?_;refine Qp QB rfl ?_;refine normIf (m:=((y.i % 2:Nat):Int)) (by decide) (iv y.i 2) ?_;refine Zd (λi2=>?_) (λi2=>?_)
      ·refine XM (v':=.string (Qf (out++ [35,101,108,105,102,32]))) (by rw[so];show _+6<=maxLen;unfold maxLen;omega) (QD Value.string (ZY out [35,101,108,105,102,32])) ?_;refine Qp QB rfl ?_;refine normIf (m:=((y.i/2:Nat):Int)) (by decide) (by
        show IntKind.u8.wrap ((y.i/2:Nat):Int)=_;rw[tN];omega) ?_
       have cQK:y.i/2<=255:=by omega
       refine call (US (X5.take k0) NA k0 nc (y.i/2) w5 (hN.ext JQ) cQJ cQK) ?_;rintro _ w6 ⟨rfl,QN⟩;have Ja:=(uL hk cQK).2.2;refine XM (v':=.string (Qf (out++ [35,101,108,105,102,32]++YK (X5.take k0) (y.i/2)))) (by rw[Xi,Xi,Qq];show _+6+_<=maxLen;unfold maxLen;omega) (QD Value.string (ZY _ _)) ?_;refine XM (v':=.string (Qf (out++ [35,101,108,105,102,32]++YK (X5.take k0) (y.i/2)++ [10]))) (by rw[Xi,Qq,Qq];show _+6+_+1<=maxLen;unfold maxLen;omega) (QD Value.string (ZY _ [10])) ?_;rw[<-Kq];refine Qj ((i+1:Nat):Int) (by show((i:Nat):Int)+1=_;omega) (by(try simp only);omega) ?_;exact⟨⟨i+1,out++ [35,101,108,105,102,32]++YK (X5.take k0) (y.i/2)++ [10],false::Xz,A',c'⟩,rfl,hI.step2 hk WU hy (lQm k5' (by first | omega | (simp only;omega))) (by simp[Jl,pElif]) (JQ.trans QN) (Kf.ext QN),by show T.length-(i+1)<T.length-i;omega⟩
      ·refine J2 (by first | omega | (simp only;omega)) ?_;refine Zq (by(try simp only);omega) ?_;refine Qj (((false::Xz).length-1:Nat):Int) (by(try simp only);omega) (by(try simp only);omega) ?_;refine index (j:=(false::Xz).length-1) (by(try simp only);omega) ?_;refine load (IX (by rw[<-Kq];exact Kf) (xf (IY false rfl))) ?_;refine Xc rfl ?_;refine XM (v':=.string (Qf (out++ [35,101,108,115,101,10]))) (by rw[so];show _+6<=maxLen;unfold maxLen;omega) (QD Value.string (ZY out [35,101,108,115,101,10])) ?_;refine Qj (((false::Xz).length-1:Nat):Int) (by(try simp only);omega) (by(try simp only);omega) ?_;refine index (j:=(false::Xz).length-1) (by(try simp only);omega) ?_;rw[Kq] at Kf;refine eQn Kf (by(try simp only);omega) (λw6 Wm cQL=>?_);have Vy:=qQY Wm;have nQT:Own w6 w.heap.size 4 1 (some oa) (true::Xz).length c' (Wd (true::Xz).reverse):=by
        have e:(Wd (false::Xz).reverse).set ((false::Xz).length-1) (Value.bool true)=Wd (true::Xz).reverse:=by
         rw[<-Sv];congr 1;rw[tq,tq,Bk _ _ (by simp)];simp
        rw[e] at cQL;exact cQL
       refine Qj ((i+1:Nat):Int) (by show((i:Nat):Int)+1=_;omega) (by(try simp only);omega) ?_;exact⟨⟨i+1,out++ [35,101,108,115,101,10],true::Xz,some oa,c'⟩,rfl,hI.step2 hk WU hy (lQn k5' (by first | omega | (simp only;omega))) (by simp[Jl,Ku]) (Vy.ext JQ (λi hi=>by have:=Kf.rows i hi;omega)) (nQT),by show T.length-(i+1)<T.length-i;omega⟩
     | true=>
      refine Q7 rfl ?_;refine J2 (by first | omega | (simp only;omega)) ?_;refine Zq (by(try simp only);omega) ?_;refine Qj (((true::Xz).length-1:Nat):Int) (by(try simp only);omega) (by(try simp only);omega) ?_;refine index (j:=(true::Xz).length-1) (by(try simp only);omega) ?_;refine load (IX (by rw[<-Kq];exact Kf) (xf (IY true rfl))) ?_;refine Q7 rfl ?_;refine XG (by first | omega | (simp only;omega)) ?_;refine XG (by first | omega | (simp only;omega)) ?_;rw[<-Kq];refine Qt QB rfl ?_;refine call (uV y w5 (pZ.ext Ko)) ?_;rintro _ w6 ⟨rfl,QN⟩;have s2:=Xi (KD y.k y.ws++ [10]);have s3:=(oC y.k y.ws).2.2.2;refine XM (v':=.string (Qf (out++(KD y.k y.ws++ [10])))) (by rw[so,s2,Qq];show _+(_+1)<=maxLen;unfold maxLen;omega) (QD Value.string (ZY _ _)) ?_;refine Qj ((i+1:Nat):Int) (by show((i:Nat):Int)+1=_;omega) (by(try simp only);omega) ?_;exact⟨⟨i+1,out++(KD y.k y.ws++ [10]),true::Xz,A',c'⟩,rfl,hI.step hk WU hy (uW (λh=>by first | omega | (simp only;omega)) (λ_ h=>by cases h) (λh=>by first | omega | (simp only;omega)) (λh=>by first | omega | (simp only;omega))) (Ko.trans QN) (Kf.ext QN),by show T.length-(i+1)<T.length-i;omega⟩
    ·simp only at n0;have Zp:op=[]:=Wx (by first | omega | (simp only;omega));subst Zp;refine J2 (by first | omega | (simp only;omega)) ?_;refine XF (by simp) ?_;refine XG (by first | omega | (simp only;omega)) ?_;refine XG (by first | omega | (simp only;omega)) ?_;refine Qt QB rfl ?_;refine call (uV y w5 (pZ.ext Ko)) ?_;rintro _ w6 ⟨rfl,QN⟩;have s2:=Xi (KD y.k y.ws++ [10]);have s3:=(oC y.k y.ws).2.2.2;refine XM (v':=.string (Qf (out++(KD y.k y.ws++ [10])))) (by rw[so,s2,Qq];show _+(_+1)<=maxLen;unfold maxLen;omega) (QD Value.string (ZY _ _)) ?_;refine Qj ((i+1:Nat):Int) (by show((i:Nat):Int)+1=_;omega) (by(try simp only);omega) ?_;exact⟨⟨i+1,out++(KD y.k y.ws++ [10]),[],A',c'⟩,rfl,hI.step hk WU hy (uW (λh=>by first | omega | (simp only;omega)) (λ_ h=>by cases h) (λh=>by first | omega | (simp only;omega)) (λh=>by first | omega | (simp only;omega))) (Ko.trans QN) (Kf.ext QN),by show T.length-(i+1)<T.length-i;omega⟩
   refine XG (by first | omega | (simp only;omega)) ?_;refine Zd (λk6=>?_) (λk6=>?_)
   ·refine Qz (λn0=>?_) (λn0=>?_)
    ·simp only at n0;obtain⟨f,Xz,rfl⟩:∃f Xz,op=f::Xz:=by
      cases op with
      | nil=>exact Xd n0 (by decide)
      | cons f Xz=>exact⟨f,Xz,rfl⟩
     refine XM (v':=.string (Qf (out++ [35,101,110,100,10]))) (by rw[so];show _+5<=maxLen;unfold maxLen;omega) (QD Value.string (ZY out [35,101,110,100,10])) ?_;refine Qj ((Xz.length:Nat):Int) (by simp only[Q6];omega) (by simp only[Q6] at FW;omega) ?_;have ZL:=Kf.sl.le;simp only[Q6] at ZL;refine jO (h:=Xz.length) Qa rfl rfl rfl rfl rfl rfl (by first | omega | (simp only;omega)) ?_;have cQM:=Kf.take (k:=Xz.length) (by simp);have e2:(Wd (f::Xz).reverse).take (Xz.length*1)=Wd Xz.reverse:=by
      rw[ga,tq];unfold Wd;rw[be,Gg (by simp),Jv (by simp)]
     rw[e2] at cQM;refine Qj ((i+1:Nat):Int) (by show((i:Nat):Int)+1=_;omega) (by(try simp only);omega) ?_;exact⟨⟨i+1,out++ [35,101,110,100,10],Xz,A',c'⟩,rfl,hI.step2 hk WU hy (lQo (by first | omega | (simp only;omega))) (by simp[Jl,X6]) (JQ) (cQM),by show T.length-(i+1)<T.length-i;omega⟩
    ·simp only at n0;have Zp:op=[]:=Wx (by first | omega | (simp only;omega));subst Zp;refine XG (by first | omega | (simp only;omega)) ?_;refine Qt QB rfl ?_;refine call (uV y w5 (pZ.ext Ko)) ?_;rintro _ w6 ⟨rfl,QN⟩;have s2:=Xi (KD y.k y.ws++ [10]);have s3:=(oC y.k y.ws).2.2.2;refine XM (v':=.string (Qf (out++(KD y.k y.ws++ [10])))) (by rw[so,s2,Qq];show _+(_+1)<=maxLen;unfold maxLen;omega) (QD Value.string (ZY _ _)) ?_;refine Qj ((i+1:Nat):Int) (by show((i:Nat):Int)+1=_;omega) (by(try simp only);omega) ?_;exact⟨⟨i+1,out++(KD y.k y.ws++ [10]),[],A',c'⟩,rfl,hI.step hk WU hy (uW (λh=>by first | omega | (simp only;omega)) (λh=>by first | omega | (simp only;omega)) (λ_=>rfl) (λh=>by first | omega | (simp only;omega))) (Ko.trans QN) (Kf.ext QN),by show T.length-(i+1)<T.length-i;omega⟩
   refine Zd (λk7=>?_) (λk7=>?_)
   ·rcases pQf with rfl | rfl
    ·have pQg:ic=false:=by rw[<-hic]<;>rfl
     refine Q7 (by decide) ?_;refine Qt QB rfl ?_;refine call (uV y w5 (pZ.ext Ko)) ?_;rintro _ w6 ⟨rfl,QN⟩;have s2:=Xi (KD y.k y.ws++ [10]);have s3:=(oC y.k y.ws).2.2.2;refine XM (v':=.string (Qf (out++(KD y.k y.ws++ [10])))) (by rw[so,s2,Qq];show _+(_+1)<=maxLen;unfold maxLen;omega) (QD Value.string (ZY _ _)) ?_;refine Qj ((i+1:Nat):Int) (by show((i:Nat):Int)+1=_;omega) (by(try simp only);omega) ?_;exact⟨⟨i+1,out++(KD y.k y.ws++ [10]),op,A',c'⟩,rfl,hI.step hk WU hy (uW (λh=>by first | omega | (simp only;omega)) (λh=>by first | omega | (simp only;omega)) (λh=>by first | omega | (simp only;omega)) (λ_=>pQg)) (Ko.trans QN) (Kf.ext QN),by show T.length-(i+1)<T.length-i;omega⟩
    ·have pQh:ic=true:=by rw[<-hic]<;>rfl
     refine Xc (by decide) ?_;refine XM (v':=.string (Qf (out++ [35,105,110,99,108,117,100,101,32,34]))) (by rw[so];show _+10<=maxLen;unfold maxLen;omega) (QD Value.string (ZY out [35,105,110,99,108,117,100,101,32,34])) ?_;refine XM (v':=.string (Qf (out++ [35,105,110,99,108,117,100,101,32,34]++ [110]))) (by rw[Xi,Qq];show _+10+1<=maxLen;unfold maxLen;omega) (QD Value.string (ZY _ [110])) ?_;refine XM (v':=.string (Qf (out++ [35,105,110,99,108,117,100,101,32,34]++ [110]++ [34,10]))) (by rw[Xi,Qq,Qq];show _+10+1+2<=maxLen;unfold maxLen;omega) (QD Value.string (ZY _ [34,10])) ?_;refine Qj ((i+1:Nat):Int) (by show((i:Nat):Int)+1=_;omega) (by(try simp only);omega) ?_;exact⟨⟨i+1,out++ [35,105,110,99,108,117,100,101,32,34]++ [110]++ [34,10],op,A',c'⟩,rfl,hI.step2 hk WU hy (lQp (by first | omega | (simp only;omega)) pQh) (by simp[Jl,pInc,xV]) (JQ) (Kf),by show T.length-(i+1)<T.length-i;omega⟩
   ·refine Qt QB rfl ?_;refine call (uV y w5 (pZ.ext Ko)) ?_;rintro _ w6 ⟨rfl,QN⟩;have s2:=Xi (KD y.k y.ws++ [10]);have s3:=(oC y.k y.ws).2.2.2;refine XM (v':=.string (Qf (out++(KD y.k y.ws++ [10])))) (by rw[so,s2,Qq];show _+(_+1)<=maxLen;unfold maxLen;omega) (QD Value.string (ZY _ _)) ?_;refine Qj ((i+1:Nat):Int) (by show((i:Nat):Int)+1=_;omega) (by(try simp only);omega) ?_;exact⟨⟨i+1,out++(KD y.k y.ws++ [10]),op,A',c'⟩,rfl,hI.step hk WU hy (uW (λh=>by first | omega | (simp only;omega)) (λh=>by first | omega | (simp only;omega)) (λh=>by first | omega | (simp only;omega)) (λh=>by first | omega | (simp only;omega))) (Ko.trans QN) (Kf.ext QN),by show T.length-(i+1)<T.length-i;omega⟩
  ·try simp only at c1
   try simp only at c2
   have hiT:i=T.length:=by omega
   have QE:=hI.rs;simp only at QE;rw[hiT,Gl,Y1,ny] at QE;have QE:out++Qk ((op.drop 0).map (λ_=>X6))=tot:=QE;refine loop Qa [15,9] (λs:Nat×List Nat=>[.int .i64 s.1,.string (Qf s.2)]) (λs w'=>w2=w'/\s.1<=op.length/\s.2.length<=4000+s.1*5/\s.2++Qk ((op.drop s.1).map (λ_=>X6))=tot) (λs _=>op.length-s.1) (0,out) rfl ⟨rfl,Xt _,by show out.length<=_;omega,QE⟩ ?_;rintro⟨j,o2⟩ _ ⟨rfl,hj,Nv,Zt⟩;simp only at hj Nv Zt;refine Qz (λd1=>?_) (λd1=>?_)
   ·simp only at d1;have aj:j<op.length:=by omega
    rw[bQe aj] at Zt;refine XM (v':=.string (Qf (o2++ [35,101,110,100,10]))) (by rw[Xi];show o2.length+5<=maxLen;unfold maxLen;omega) (QD Value.string (ZY o2 [35,101,110,100,10])) ?_;refine Qj ((j+1:Nat):Int) (by show((j:Nat):Int)+1=_;omega) (by(try simp only);omega) ?_;exact⟨(j+1,o2++ [35,101,110,100,10]),rfl,⟨rfl,aj,by show(o2++ [35,101,110,100,10]).length<=_;rw[Qq];show _+5<=4000+(j+1)*5;omega,by show(o2++ [35,101,110,100,10])++_=_;rw[<-Zt];simp[X6]⟩,by show op.length-(j+1)<op.length-j;omega⟩
   ·simp only at d1;have aj:j=op.length:=by omega
    rw[aj,Gl] at Zt;have Zt:o2++ []=tot:=Zt;rw[JZ] at Zt;exact⟨by rw[Zt],QR⟩
 ·try simp only at c1
  try simp only at c2
  have hiT:i=T.length:=by omega
  have QE:=hI.rs;simp only at QE;rw[hiT,Gl,Y1,ny] at QE;have QE:out++Qk ((op.drop 0).map (λ_=>X6))=tot:=QE;refine loop Qa [15,9] (λs:Nat×List Nat=>[.int .i64 s.1,.string (Qf s.2)]) (λs w'=>w2=w'/\s.1<=op.length/\s.2.length<=4000+s.1*5/\s.2++Qk ((op.drop s.1).map (λ_=>X6))=tot) (λs _=>op.length-s.1) (0,out) rfl ⟨rfl,Xt _,by show out.length<=_;omega,QE⟩ ?_;rintro⟨j,o2⟩ _ ⟨rfl,hj,Nv,Zt⟩;simp only at hj Nv Zt;refine Qz (λd1=>?_) (λd1=>?_)
  ·simp only at d1;have aj:j<op.length:=by omega
   rw[bQe aj] at Zt;refine XM (v':=.string (Qf (o2++ [35,101,110,100,10]))) (by rw[Xi];show o2.length+5<=maxLen;unfold maxLen;omega) (QD Value.string (ZY o2 [35,101,110,100,10])) ?_;refine Qj ((j+1:Nat):Int) (by show((j:Nat):Int)+1=_;omega) (by(try simp only);omega) ?_;exact⟨(j+1,o2++ [35,101,110,100,10]),rfl,⟨rfl,aj,by show(o2++ [35,101,110,100,10]).length<=_;rw[Qq];show _+5<=4000+(j+1)*5;omega,by show(o2++ [35,101,110,100,10])++_=_;rw[<-Zt];simp[X6]⟩,by show op.length-(j+1)<op.length-j;omega⟩
  ·simp only at d1;have aj:j=op.length:=by omega
   rw[aj,Gl] at Zt;have Zt:o2++ []=tot:=Zt;rw[JZ] at Zt;exact⟨by rw[Zt],QR⟩
theorem lQr (k0:Nat)(hk:k0<=4)(NA:Option Addr)(nc:Nat)(A B:Option Addr)(n c m d:Nat)(main bJ:List Lx)(w:World)(hN:Sl w 1 NA k0 nc (X9 (X5.take k0)))(hL:SlS Lx.cells 3 w A n c main)(XY:∀x∈main,LxOk w x)(hL':SlS Lx.cells 3 w B m d bJ)(pQi:∀x∈bJ,LxOk w x):
  Fn Tryz.prog 40 [.slice NA k0 nc,.slice A n c,.slice B m d] w (λv w'=>∃F,v= .slice F 2 2/\Ext w w'/\SlS aG 2 w' F 2 2 (Ir k0 main bJ)):=by
 refine QH (c:={c40 with cuts:=[]}) Qa Tryz.func40 rfl rfl rfl ?_;refine call (bQf k0 hk NA nc A n c main 12 [110] w hN hL XY (by decide) (.inr rfl)) ?_;rintro _ w1 ⟨rfl,Qd⟩;refine call (bQf k0 hk NA nc B m d bJ 5 [] w1 (hN.ext Qd) (hL'.ext Qd) (λx hx=>(pQi x hx).ext Qd) (by decide) (.inl rfl)) ?_;rintro _ w2 ⟨rfl,Qg⟩;refine Xw Qa ((Ir k0 main bJ).map aG) rfl rfl rfl rfl rfl ⟨rfl,rfl,rfl,rfl,⟨⟩⟩ rfl (λcs h=>by simp only[ZG] at h;obtain⟨s,_,rfl⟩:=h;rfl) rfl (by decide) (by decide) ?_;intro w3 Qi JD Qu;exact⟨_,rfl,(Qd.trans Qg).trans Qi,Sl.own (sz:=2) (n:=2) Qu (QC _) (by decide) (by simp[Ir,aG]),rfl⟩
end
section
structure QP where
 r:Nat
 NA:Option Addr
 nn:Nat
 nc:Nat
 nm:List (List Nat)
 FA:Option Addr
 nf:Nat
 cf:Nat
 fs:List (List Nat×List Nat)
structure QM where
 OA:Option Addr
 oc:Nat
 DA:Option Addr
 dc:Nat
 L:List DV
 T:Nat->Prop
structure QV where
 d:Nat
 rd:List Nat
 g:Gs
 b:Pl
abbrev qdC (p:QP)(m:QM)(v:QV):List Value:=[.slice p.NA p.nn p.nc,.slice p.FA p.nf p.cf,.int .i64 v.d,.slice m.DA v.rd.length m.dc,.string (Qf v.g.tx),.slice m.OA v.g.sg.length m.oc,.bool v.g.fr,.int .i64 v.b.e,.int .i64 v.b.f,.int .i64 v.b.l]
def QS (p:QP)(m:QM):Nat->Prop:=λk=>k=p.r∨Ql m.OA k∨Ql m.DA k
def TQ (p:QP)(m:QM):Nat->Prop:=λk=>QS p m k∨m.T k
structure Qr (w0 w:World) (base:Nat) (p:QP) (m:QM) (v:QV):Prop where
 e0:Ext w0 w
 lor:w0.heap.size<=p.r
 rb:p.r<base
 top:base<=w.heap.size
 blk:Blk w p.r 201 (qdC p m v)
 rdo:Own w base 3 1 m.DA v.rd.length m.dc (ixV v.rd.reverse)
 out:Own w base 48 6 m.OA v.g.sg.length m.oc (cR v.g.sg m.L)
 len:m.L.length=v.g.sg.length
 dgs:∀(j:Nat) (s:Sg) (x:DV),v.g.sg[j]? =some s->m.L[j]? =some x->DgO w (TQ p m) p.nm.length x s.o
 tl:v.g.tx.length<=1048576
 sl:v.g.sg.length<=65536
 b8:∀x∈v.g.tx,x<256
 nf:v.g.fr=false->v.g.sg≠ []∨v.rd=[]
 tt:∀i,m.T i->i<w.heap.size
 dl:v.d<=65
 rl:v.rd.length<=65+65
section
variable {w0 w w':World} {base:Nat} {p:QP} {m:QM} {v:QV}
theorem Qr.ext (h:Qr w0 w base p m v)(k:Ext w w'):Qr w0 w' base p m v:=
 ⟨h.e0.trans k,h.lor,h.rb,X4 h.top k.size,h.blk.ext k,h.rdo.ext k,h.out.ext k,h.len,λj s x h1 h2=>(h.dgs j s x h1 h2).ext k,h.tl,h.sl,h.b8,h.nf,λi hi=>Ye (h.tt i hi) k.size,h.dl,h.rl⟩
end
theorem IZ {w:World}{g t:Nat}{cs:List Value}{j i:Nat}{v:Value}{K:Value->Prop}(h:Blk w g t cs)(hv:cs[j+i]? =some v)(k:K v):iq w (((⟨g,0,none⟩:Addr).add j).add i) K:=by
 rw[add_add];exact Qp h hv k
section
variable {w0:World} {base:Nat} {p:QP} {m:QM} {v:QV}
end
end
end Go.Proofs.YtjabbbcdgmlojaaGreatDoor
