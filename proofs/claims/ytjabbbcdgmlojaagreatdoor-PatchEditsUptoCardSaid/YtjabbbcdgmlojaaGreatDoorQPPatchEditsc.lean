/-
  What PPatchEdits rests on, part 3 (wip/shake.py).
  Conditions: none.
-/
import Derived.Test.YtjabbbcdgmlojaaGreatDoorQPPatchEditsb
set_option linter.all false
set_option linter.deprecated false
set_option maxHeartbeats 12800000
namespace Go.Proofs.YtjabbbcdgmlojaaGreatDoor
open Go Go.RowKit
section
section
theorem Hx {w1 w2 w:World}{g:Nat}{r:(List Br×Int)×Int}{A:Option Addr}{n c:Nat}(hE:Ext w w1)(hM:Mod (·=g) w1 w2)(hg:w.heap.size<=g)(hs:SB w1 A n c r.1.1)(hr:∀i,Qk A i->g<i):
  Ext w w2/\SB w2 A n c r.1.1/\∀i,Qk A i->w.heap.size<=i:=
 ⟨hM.ext hE (λi hi=>by omega),⟨hs.1.modS hM (λ_ i hi e=>by have:=hr i hi;omega),hs.2⟩,λi hi=>by have:=hr i hi;omega⟩
end
section
theorem hQF {names:List (List Nat)}(h:names.all (λs=>s.all (λx=>decide (x<256))&&decide (s.length<=100))=true):KO names:=λs hs=>by
 have:=Ka.1 h s hs;rw[Z9,VX] at this;exact⟨λx hx=>by have:=Ka.1 this.1 x hx;simpa using this,by omega⟩
theorem hQG {k:Int}(h0:0<=k)(h1:k<=63):Rd0 [⟨k,0,1⟩]:=λj b hb=>by
 obtain⟨rfl,rfl⟩:=lY hb;refine⟨h0,h1,j0 0,?_,(by decide:(0:Int)<=1),?_,(by decide:(0:Int)≠1),by simp,?_,?_⟩
 ·simp only;omega
 ·simp only;omega
 ·rw[iV (by simp only;omega)];simp only;omega
 ·rw[iV (by simp only;omega)];simp only;omega
theorem Ct {k:Int}(h0:0<=k)(h1:k<=63):VD [⟨k,0,1⟩] 2:=⟨hQG h0 h1,by decide,by simp,rfl⟩
end
section
end
def Zm:List (List Nat):=[[65],[66],[67],[68],[108,111,110,103,95,110,97,109,101],[95],[120,49],[84,82,85,69],[116],[102],[116,114,117],[102,97,108,115,101,101]]
theorem hQH (k:Nat)(w:World)(hk:k<=12):
  Fn Tryz.prog 51 [.int .i64 k] w (λv w'=>∃A c,v= .slice A k c/\Ext w w'/\Sl w' 1 A k c (XH (Zm.take k))):=by
 refine QJ (c:={c51 with cuts:=[]}) Qa Tryz.func51 rfl rfl rfl ?_;refine Xg Qa (Zm.map (λs=>[.string (Qd s)])) rfl rfl rfl rfl rfl ⟨rfl,rfl,rfl,rfl,rfl,rfl,rfl,rfl,rfl,rfl,rfl,rfl,rfl,rfl,rfl,rfl,rfl,rfl,rfl,rfl,rfl,rfl,rfl,rfl,⟨⟩⟩ rfl (λcs h=>by simp only[Zk] at h;obtain⟨s,_,rfl⟩:=h;rfl) rfl (by decide) (by decide) ?_;intro w1 Qe Q6 Qh;refine kh Qa rfl rfl rfl rfl rfl rfl hk ?_;have hS:Sl w1 1 (some ⟨w.heap.size,0,none⟩) 12 12 (XH Zm):=Sl.own' (n:=12) Qh rfl (by decide);have:=hS.take (m:=k) hk;rw[Wm] at this;exact⟨_,12,rfl,Qe,by rw[show XH (Zm.take k)=(XH Zm).take k by simp[XH]];exact this⟩
theorem hQI (k:Nat)(hk:k<=12):KO (Zm.take k)/\Z1 (Zm.take k)=true/\(Zm.take k).length=k:=by
 have hb:KO Zm:=hQF (by decide);have hb':KO (Zm.take k):=λs hs=>hb s (Wn hs)
 have hl:(Zm.take k).length=k:=by rw[Kx];show min k 12=k;omega
 refine⟨hb',(Tm hb').2 ⟨?_,List.Nodup.sublist (List.take_sublist k Zm) (by decide),by omega⟩,hl⟩;have:Zm.all aW=true:=by decide
 exact Ka.2 (λs hs=>Ka.1 this s (Wn hs))
def W6 (v:Nat)(pos:Bool):Fm:=if pos then .v v else .not (.v v)
def YP (nd:List Br):Nat->Int->Fm
 | 0,_=>.c false
 | m+1,n=>if n<2 then .c (decide (n=1))else match nd[(n-2).toNat]? with
  | none=>.c false
  | some b=>if b.h<2/\b.l<2 then W6 b.v.toNat (decide (b.h=1))
   else if b.l=0 then .and (W6 b.v.toNat true) (YP nd m b.h)
   else if b.h=0 then .and (W6 b.v.toNat false) (YP nd m b.l)
   else if b.h=1 then .or (W6 b.v.toNat true) (YP nd m b.l)
   else if b.l=1 then .or (W6 b.v.toNat false) (YP nd m b.h)
   else .or (.and (W6 b.v.toNat true) (YP nd m b.h)) (.and (W6 b.v.toNat false) (YP nd m b.l))
def cf (nd:List Br)(n:Int):Fm:=YP nd (n.toNat+1) n
theorem Tt {nd:List Br}{m:Nat}{n:Int}(h:n<2):YP nd (m+1) n= .c (decide (n=1)):=by rw[YP,Qf h]
theorem Tu {nd:List Br}{m:Nat}{n:Int}{b:Br}(h:¬n<2)(hb:nd[(n-2).toNat]? =some b):YP nd (m+1) n=if b.h<2/\b.l<2 then W6 b.v.toNat (decide (b.h=1))
   else if b.l=0 then .and (W6 b.v.toNat true) (YP nd m b.h)
   else if b.h=0 then .and (W6 b.v.toNat false) (YP nd m b.l)
   else if b.h=1 then .or (W6 b.v.toNat true) (YP nd m b.l)
   else if b.l=1 then .or (W6 b.v.toNat false) (YP nd m b.h)
   else .or (.and (W6 b.v.toNat true) (YP nd m b.h)) (.and (W6 b.v.toNat false) (YP nd m b.l)):=by rw[YP,if_neg h,hb]
def evF:Fm->(Nat->Bool)->Bool
 | .c b,_=>b
 | .v n,e=>e n
 | .not a,e=> !evF a e
 | .and a b,e=>evF a e&&evF b e
 | .or a b,e=>evF a e||evF b e
theorem rG (v:Nat)(pos:Bool)(e:Nat->Bool):evF (W6 v pos) e=(e v==pos):=by
 cases pos<;>cases h:e v<;>simp[W6,evF,h]
theorem Tv {nd:List Br}(h:Rd0 nd)(e:Nat->Bool):∀(m:Nat)(n:Int),0<=n->n<m->n<nd.length+2->evF (YP nd m n) e=ev nd n e
 | 0,n,h0,hm,_=>by omega
 | m+1,n,h0,hm,hn=>by
  by_cases h2:n<2
  ·rw[Tt h2,JX h2]<;>rfl
  obtain⟨b,hb⟩:=W5 h2 hn;obtain⟨b1,b2,b3,b4,b5,b6,b7,b8,b9,bz⟩:=h _ _ hb;have ihl:=Tv h e m b.l b3 (by omega) (by omega);have ihh:=Tv h e m b.h b5 (by omega) (by omega);rw[Tu h2 hb,cO h.wf h2 hb];split
  ·rename_i hc;rw[rG,JX hc.1,JX hc.2];have:b.l=1↔¬b.h=1:=by omega
   by_cases hh:b.h=1
   ·rw[Zx hh,Zr (λhl=>(this.1 hl) hh)];cases e b.v.toNat<;>rfl
   ·rw[Zr hh,Zx (this.2 hh)];cases e b.v.toNat<;>rfl
  ·split
   ·rename_i hl;simp only[evF];rw[rG,ihh,JX (n:=b.l) (by omega),hl];cases e b.v.toNat<;>simp
   ·split
    ·rename_i hh;simp only[evF];rw[rG,ihl,JX (n:=b.h) (by omega),hh];cases e b.v.toNat<;>simp
    ·split
     ·rename_i hh;simp only[evF];rw[rG,ihl,JX (n:=b.h) (by omega),hh];cases e b.v.toNat<;>simp
     ·split
      ·rename_i hl;simp only[evF];rw[rG,ihh,JX (n:=b.l) (by omega),hl];cases e b.v.toNat<;>simp
      ·simp only[evF];rw[rG,rG,ihh,ihl];cases e b.v.toNat<;>simp
theorem rH (x:Fz){f:List Fz}(h:f.length<=513):(Jl x f).2.length=min 513 (f.length+1):=by
 unfold Jl;split
 ·simp;omega
 ·simp only;omega
theorem x9 (x:Fz){f:List Fz}(h:f.length+1<=513):Jl x f=(f.length,f++ [x]):=by unfold Jl;rw[Qf (by omega)]
structure BldOk (bld:List Fz->Nat×List Fz) (t:Fm):Prop where
 len:∀f,f.length<=513->(bld f).2.length=min 513 (f.length+QK t)
 eq:∀f,f.length+QK t<=513->bld f=(f.length+QK t-1,f++Zd t f.length)
def ya (v:Int)(pos:Bool)(f:List Fz):Nat×List Fz:=let p:=Jl ⟨2,v,0,0⟩ f;if pos then p else Jl ⟨3,0,(p.1:Nat),0⟩ p.2
theorem hQJ {v:Int}(hv:0<=v)(pos:Bool):BldOk (ya v pos) (W6 v.toNat pos):=by
 have e:(⟨2,v,0,0⟩:Fz)=⟨2,(v.toNat:Nat),0,0⟩:=by rw[Bo hv]
 cases pos with
 | true=>exact⟨λf hf=>by show(Jl _ f).2.length=_;rw[rH _ hf];rfl,λf hf=>by show Jl _ f=_;rw[x9 _ hf,e];rfl⟩
 | false=>
  refine⟨λf hf=>?_,λf hf=>?_⟩
  ·show(Jl _ (Jl _ f).2).2.length=min 513 (f.length+2);rw[rH _ (by rw[rH _ hf];omega),rH _ hf];omega
  ·have Q1:f.length+2<=513:=hf;show Jl _ (Jl _ f).2=_;rw[x9 _ (f:=f) (by omega)];simp only;rw[x9 _ (by simp;omega),e];simp[W6,QK,Zd]
theorem Hy {b1 b2:List Fz->Nat×List Fz}{t1 t2:Fm}(h1:BldOk b1 t1)(h2:BldOk b2 t2)(op:Int)(mk:Fm->Fm->Fm)(hs:∀a b,QK (mk a b)=QK a+QK b+1)
  (hp:∀a b k,Zd (mk a b) k=Zd a k++Zd b (k+QK a)++ [⟨op,0,((k+QK a-1:Nat):Int),((k+QK a+QK b-1:Nat):Int)⟩]):
  BldOk (λf=>let a:=b1 f;let c:=b2 a.2;Jl ⟨op,0,(a.1:Nat),(c.1:Nat)⟩ c.2) (mk t1 t2):=by
 refine⟨λf hf=>?_,λf hf=>?_⟩
 ·have e1:=h1.len f hf;have e2:=h2.len (b1 f).2 (by omega);simp only;rw[rH _ (by omega),e2,e1,hs];omega
 ·rw[hs] at hf;have p1:=YO t1;have p2:=YO t2;simp only;rw[h1.eq f (by omega)];simp only;have l1:(f++Zd t1 f.length).length=f.length+QK t1:=by rw[Qq,Kd]
  rw[h2.eq _ (by rw[l1];omega)];simp only;have l2:(f++Zd t1 f.length++Zd t2 (f++Zd t1 f.length).length).length=f.length+QK t1+QK t2:=by rw[Qq,l1,Kd]
  rw[x9 _ (by rw[l2];omega),l2,hs,hp,l1];simp;omega
theorem Tw (bld:Int->List Fz->Nat×List Fz)(op v:Int)(pos:Bool)(num:Int)(f:List Fz):KG bld op v pos num f=if op=4/\num=1 then ya v pos f else let a:=ya v pos f;let c:=bld num a.2;Jl ⟨op,0,(a.1:Nat),(c.1:Nat)⟩ c.2:=rfl
theorem Hz {nd:List Br}(h:Rd0 nd):∀(m:Nat)(n:Int),0<=n->n<m->n<nd.length+2->BldOk (ZC nd m n) (YP nd m n)
 | 0,n,h0,hm,_=>by omega
 | m+1,n,h0,hm,hn=>by
  by_cases h2:n<2
  ·have e:(⟨min n 1,0,0,0⟩:Fz)=⟨if decide (n=1)then 1 else 0,0,0,0⟩:=by
    rcases(by omega:n=0∨n=1)with rfl | rfl<;>rfl
   rw[Tt h2];refine⟨λf hf=>?_,λf hf=>?_⟩
   ·rw[ZC,Qf (.inl h2),rH _ hf]<;>rfl
   ·rw[ZC,Qf (.inl h2),x9 _ hf,e]<;>rfl
  obtain⟨b,hb⟩:=W5 h2 hn;obtain⟨b1,b2,b3,b4,b5,b6,b7,b8,b9,bz⟩:=h _ _ hb;have ihl:=Hz h m b.l b3 (by omega) (by omega);have ihh:=Hz h m b.h b5 (by omega) (by omega);have lit:=λp=>hQJ (v:=b.v) b1 p
  have sd:∀(op:Int) (pos:Bool) (num:Int) (t:Fm),¬(op=4/\num=1)->BldOk (ZC nd m num) t->(op=4->BldOk (KG (ZC nd m) op b.v pos num) (.and (W6 b.v.toNat pos) t))/\(op=5->BldOk (KG (ZC nd m) op b.v pos num) (.or (W6 b.v.toNat pos) t)):=λop pos num t Xi ht=>by
   have e:KG (ZC nd m) op b.v pos num=λf=>let a:=ya b.v pos f;let c:=ZC nd m num a.2;Jl ⟨op,0,(a.1:Nat),(c.1:Nat)⟩ c.2:=by
    funext f;rw[Tw,if_neg Xi]
   rw[e];refine⟨λh4=>?_,λh5=>?_⟩
   ·subst h4;exact Hy (lit pos) ht 4 .and (λ_ _=>rfl) (λ_ _ _=>rfl)
   ·subst h5;exact Hy (lit pos) ht 5 .or (λ_ _=>rfl) (λ_ _ _=>rfl)
  have short:∀(pos:Bool),KG (ZC nd m) 4 b.v pos 1=ya b.v pos:=λpos=>by funext f;rw[Tw,Qf ⟨rfl,rfl⟩]
  have main:∃B,BldOk B (YP nd (m+1) n)/\∀f,¬512<f.length->ZC nd (m+1) n f=B f:=by
   rw[Tu h2 hb];have unf:∀f,¬512<f.length->ZC nd (m+1) n f=if b.l=0 then KG (ZC nd m) 4 b.v true b.h f else
     if b.h=0 then KG (ZC nd m) 4 b.v false b.l f else
     if b.h=1 then KG (ZC nd m) 5 b.v true b.l f else
     if b.l=1 then KG (ZC nd m) 5 b.v false b.h f else
      let hi:=KG (ZC nd m) 4 b.v true b.h f
      let lo:=KG (ZC nd m) 4 b.v false b.l hi.2
      Jl ⟨5,0,(hi.1:Nat),(lo.1:Nat)⟩ lo.2:=λf hf=>by
    rw[ZC,if_neg (λhh=>hh.elim h2 hf),hb]
   split
   ·rename_i hc;by_cases hl:b.l=0
    ·have hh:b.h=1:=by omega
     rw[Zx hh];exact⟨_,lit true,λf hf=>by rw[unf f hf,Qf hl,hh,short]⟩
    ·have hh:b.h=0:=by omega
     have XL:b.l=1:=by omega
     rw[Zr (by omega)];exact⟨_,lit false,λf hf=>by rw[unf f hf,if_neg hl,Qf hh,XL,short]⟩
   ·rename_i hc;split
    ·rename_i hl;exact⟨_,(sd 4 true b.h _ (by omega) ihh).1 rfl,λf hf=>by rw[unf f hf,Qf hl]⟩
    ·rename_i hl;split
     ·rename_i hh;exact⟨_,(sd 4 false b.l _ (by omega) ihl).1 rfl,λf hf=>by rw[unf f hf,if_neg hl,Qf hh]⟩
     ·rename_i hh;split
      ·rename_i DN;exact⟨_,(sd 5 true b.l _ (by omega) ihl).2 rfl,λf hf=>by rw[unf f hf,if_neg hl,if_neg hh,Qf DN]⟩
      ·rename_i DN;split
       ·rename_i XL;exact⟨_,(sd 5 false b.h _ (by omega) ihh).2 rfl,λf hf=>by rw[unf f hf,if_neg hl,if_neg hh,if_neg DN,Qf XL]⟩
       ·rename_i XL;exact⟨_,Hy ((sd 4 true b.h _ (by omega) ihh).1 rfl) ((sd 4 false b.l _ (by omega) ihl).1 rfl) 5 .or (λ_ _=>rfl) (λ_ _ _=>rfl),λf hf=>by rw[unf f hf,if_neg hl,if_neg hh,if_neg DN,if_neg XL]⟩
  obtain⟨B,hB,gy⟩:=main;refine⟨λf hf=>?_,λf hf=>?_⟩
  ·by_cases h5:512<f.length
   ·rw[ZC,Qf (.inr h5),rH _ hf];have:=YO (YP nd (m+1) n);omega
   ·rw[gy f h5,hB.len f hf]
  ·have:=YO (YP nd (m+1) n);rw[gy f (by omega),hB.eq f hf]
theorem Tx {nd:List Br}{root:Int}(hv:XC nd root=0):a8 nd root=if 512<QK (cf nd root)then([],2)else(Zd (cf nd root) 0,0):=by
 obtain⟨_,vd⟩:=fL.1 hv;have B:=Hz vd.rd0 (root.toNat+1) root vd.2.1 (by have:=vd.2.1;omega) vd.2.2.1;have e1:=B.len [] (by simp);unfold a8;rw[Qf hv];simp only[Jp,WQ] at e1;have:YP nd (root.toNat+1) root=cf nd root:=rfl;rw[this] at e1;by_cases h:512<QK (cf nd root)
 ·rw[Qf h,Qf (by rw[e1];omega)]
 ·rw[if_neg h,if_neg (by rw[e1];omega)];have e2:=B.eq [] (by simp only[Jp];rw[this];omega);rw[e2,this]<;>rfl
def VIn (k:Nat)(nd:List Br):Prop:=∀b∈nd,b.v<k
theorem VIn.nil (k:Nat):VIn k []:=λb hb=>by simp at hb
theorem VIn.lvl {k:Nat}{nd:List Br}(h:VIn k nd){n:Int}(h2:¬n<2)(hn:n<nd.length+2):Ql nd n<k:=by
 obtain⟨b,hb⟩:=W5 h2 hn;rw[eV h2 hb];exact h b (Xl hb)
theorem Rd0.lvl0 {nd:List Br}(h:Rd0 nd){n:Int}(hn:n<nd.length+2):0<=Ql nd n:=by
 by_cases h2:n<2
 ·rw[iV h2];omega
 ·obtain⟨z,hz⟩:=W5 h2 hn;rw[eV h2 hz];exact(h _ _ hz).1
theorem hQK {a b c:Nat}(ha:a<c)(hb:b<c):2^a+2^b<=2^c:=by
 obtain⟨d,rfl⟩:∃d,c=d+1:=⟨c-1,by omega⟩
 have h1:2^a<=2^d:=aT (by decide) (by omega);have h2:2^b<=2^d:=aT (by decide) (by omega);rw[nQ];omega
theorem hQL (a:Nat):1<=2^a:=Nat.one_le_two_pow
theorem HB {nd:List Br}(h:Rd0 nd){k:Nat}(hk:VIn k nd):∀(m:Nat)(n:Int)(st:List Br×List Nat),0<=n->n<m->n<nd.length+2->(Zl nd m n st).2.1.length+1<=st.1.length+2^((k:Int)-Ql nd n).toNat
 | 0,n,st,h0,hm,_=>by omega
 | m+1,n,st,h0,hm,hn=>by
  have p:=hQL ((k:Int)-Ql nd n).toNat;by_cases h2:n<2
  ·rw[lM h2];simp only;omega
  by_cases h3:0<st.2[(n-2).toNat]?.getD 0
  ·rw[lN h2 h3];simp only;omega
  obtain⟨b,hb⟩:=W5 h2 hn;obtain⟨b1,b2,b3,b4,b5,b6,b7,b8,b9,bz⟩:=h _ _ hb;have iC:=hk b (Xl hb);have hlv:=eV h2 hb;rw[oz h2 h3 hb];have i1:=HB h hk m b.l st b3 (by omega) (by omega);generalize (Zl nd m b.l st)=p1 at*;have i2:=HB h hk m b.h p1.2 b5 (by omega) (by omega);generalize (Zl nd m b.h p1.2)=p2 at*;have:=hQK (a:=((k:Int)-Ql nd b.l).toNat) (b:=((k:Int)-Ql nd b.h).toNat) (c:=((k:Int)-Ql nd n).toNat) (by omega) (by omega);simp only[Qq,Q2,Jp];omega
theorem HC {nd:List Br}{k:Nat}(hk:VIn k nd):∀(m:Nat)(n:Int)(st:List Br×List Nat),VIn k st.1->VIn k (Zl nd m n st).2.1
 | 0,n,st,h=>h
 | m+1,n,st,h=>by
  by_cases h2:n<2
  ·rw[lM h2];exact h
  by_cases h3:0<st.2[(n-2).toNat]?.getD 0
  ·rw[lN h2 h3];exact h
  cases hb:nd[(n-2).toNat]? with
  | none=>rw[Zl,if_neg h2,if_neg h3,hb];exact h
  | some b=>
   rw[oz h2 h3 hb];have i1:=HC hk m b.l st h;generalize (Zl nd m b.l st)=p1 at*;have i2:=HC hk m b.h p1.2 i1;generalize (Zl nd m b.h p1.2)=p2 at*;intro x hx;simp only[XP,QO] at hx;rcases hx with hx | rfl
   ·exact i2 x hx
   ·exact hk b (Xl hb)
theorem hQM {nd:List Br}{k:Nat}(hk:VIn k nd)(r:Int):VIn k (cN nd r).1:=HC hk _ _ _ (VIn.nil k)
theorem VD.len {nd:List Br}{r:Int}(h:VD nd r){k:Nat}(hk:VIn k nd):nd.length+1<=2^k:=by
 have i:=HB h.rd0 hk (r.toNat+1) r ([],List.replicate nd.length 0) h.2.1 (by have:=h.2.1;omega) h.2.2.1;have e:(Zl nd (r.toNat+1) r ([],List.replicate nd.length 0)).2.1=nd:=QC Prod.fst h.2.2.2;rw[e] at i;have:=h.rd0.lvl0 h.2.2.1;have p:2^((k:Int)-Ql nd r).toNat<=2^k:=aT (by decide) (by omega);simp only[Jp] at i;omega
theorem hQN {k:Nat}{l:List Br}(h:VIn k l){b:Br}(hb:b.v<k):VIn k (Jf b l).1:=by
 unfold Jf;split
 ·exact h
 ·split
  ·exact h
  ·intro x hx;simp only[XP,QO] at hx;rcases hx with hx | rfl
   ·exact h x hx
   ·exact hb
theorem HD {a b:List Br}(ha:V0 a)(hb:V0 b){k:Nat}(ka:VIn k a)(kb:VIn k b)(op:Int):∀(m:Nat)(x y:Int)(st:List Br×List Tr3),0<=x->0<=y->x<a.length+2->y<b.length+2->VIn k st.1->VIn k (Xw a b op m x y st).2.1
 | 0,_,_,st,_,_,_,_,h=>h
 | m+1,x,y,st,x0,y0,hx,hy,h=>by
  by_cases Xr:x<2/\y<2
  ·rw[lR Xr];exact h
  cases k3:st.2.find? (λt=>decide (t.1=x/\t.2.1=y))with
  | some t=>rw[lS Xr k3];exact h
  | none=>
   have Fw:min (Ql a x) (Ql b y)<k:=by
    by_cases c:x<2
    ·have:=kb.lvl (n:=y) (λc2=>Xr ⟨c,c2⟩) hy;rw[Jk];split<;>omega
    ·have:=ka.lvl (n:=x) c hx;rw[Jk];split<;>omega
   have ZP:min (Ql a x) (Ql b y)<64:=by
    by_cases c:x<2
    ·have:=aZ hb (n:=y) (λc2=>Xr ⟨c,c2⟩) (by omega);rw[Jk];split<;>omega
    ·have:=aZ ha (n:=x) c (by omega);rw[Jk];split<;>omega
   rw[lT Xr k3 _ rfl];generalize min (Ql a x) (Ql b y)=v at*;obtain⟨s1,s2,s3,s4,s5⟩:=W4 ha (n:=x) x0 ZP;obtain⟨t1,t2,t3,t4,t5⟩:=W4 hb (n:=y) y0 ZP;have i1:=HD ha hb ka kb op m (Qm a x v).1 (Qm b y v).1 st s1 t1 (by omega) (by omega) h;generalize (Xw a b op m (Qm a x v).1 (Qm b y v).1 st)=r0 at*;have i2:=HD ha hb ka kb op m (Qm a x v).2 (Qm b y v).2 r0.2 s3 t3 (by omega) (by omega) i1;exact hQN i2 Fw
structure Set1 (k:Nat) (nd:List Br) (r:Int) (o:(Nat->Bool)->Bool):Prop where
 vd:VD nd r
 vin:VIn k nd
 mean:∀e,ev nd r e=o e
theorem Set1.len {k:Nat}{nd:List Br}{r:Int}{o:(Nat->Bool)->Bool}(h:Set1 k nd r o)(hk:k<=12):nd.length<=4095:=by
 have:=h.vd.len h.vin;have p:2^k<=2^12:=aT (by decide) hk;omega
theorem Set1.chk {k:Nat}{nd:List Br}{r:Int}{o:(Nat->Bool)->Bool}(h:Set1 k nd r o)(hk:k<=12):XC nd r=0:=G9 (by have:=h.len hk;omega) h.vd
theorem Set1.unique {k k':Nat}{nd Za:List Br}{r r':Int}{o o':(Nat->Bool)->Bool}(h:Set1 k nd r o)(h':Set1 k' Za r' o')(e:∀x,o x=o' x):(nd,r)=(Za,r'):=
 h.vd.eqv h'.vd (λx=>by rw[h.mean,h'.mean,e])
theorem Set1.congr {k:Nat}{nd:List Br}{r:Int}{o o':(Nat->Bool)->Bool}(h:Set1 k nd r o)(e:∀x,o x=o' x):Set1 k nd r o':=⟨h.vd,h.vin,λx=>(h.mean x).trans (e x)⟩
theorem fN {k:Nat}{a b:List Br}{ra rb:Int}{o o':(Nat->Bool)->Bool}(h:Set1 k a ra o)(h':Set1 k b rb o')(op:Int):Set1 k (Ye a ra b rb op).1 (Ye a ra b rb op).2 (λe=>KP op (o e) (o' e)):=by
 obtain⟨v,m⟩:=hQe h.vd h'.vd op;refine⟨v,hQM (HD h.vd.dok h'.vd.dok h.vin h'.vin op _ _ _ _ h.vd.2.1 h'.vd.2.1 h.vd.2.2.1 h'.vd.2.2.1 (VIn.nil k)) _,λe=>?_⟩;rw[m e,h.mean,h'.mean]
theorem iW {k:Nat}(hk:k<=12){a b:List Br}{ra rb:Int}{o o':(Nat->Bool)->Bool}(h:Set1 k a ra o)(h':Set1 k b rb o')(op:Int):fM a ra b rb op=(Ye a ra b rb op,0):=by
 have l:=(fN h h' op).len hk;unfold fM;rw[if_neg (λhh=>hh (h.chk hk)),if_neg (λhh=>hh (h'.chk hk))];unfold ku;rw[if_neg (by omega)]
theorem bV (k:Nat)(b:Bool):Set1 k [] (if b then 1 else 0) (λ_=>b):=by
 refine⟨⟨λj x hx=>by simp at hx,by cases b<;>decide,by cases b<;>decide,by cases b<;>rfl⟩,VIn.nil k,λe=>?_⟩;rw[JX (by cases b<;>decide)];cases b<;>rfl
def fO (nm:List (List Nat))(s:List Nat):Except Int Fm:=if Z1 nm then
  if(X4 s).2 then match uN (Jq nm) (s.length+1) (X4 s).1 with
   | none=>.error 31
   | some (t,u,ts)=>if ts≠ [] then .error 31 else if u then .error 3 else if 512<QK t then .error 2 else .ok t
  else .error 31
 else .error 1
theorem hQO (nm:List (List Nat))(s:List Nat):eP nm s=match fO nm s with
  | .ok t=>(Zd t 0,0)
  | .error e=>([],e):=by
 rw[S4];unfold Cq fO;cases Z1 nm with
 | false=>rfl
 | true=>
  cases (X4 s).2 with
  | false=>rfl
  | true=>
   simp only[if_true];cases uN (Jq nm) (s.length+1) (X4 s).1 with
   | none=>rfl
   | some q=>
    obtain⟨t,u,ts⟩:=q;simp only;by_cases h1:ts≠ []
    ·rw[Qf h1,Qf h1]
    ·rw[if_neg h1,if_neg h1];by_cases h2:u=true
     ·rw[Qf h2,Qf h2]
     ·rw[if_neg h2,if_neg h2];by_cases h3:512<QK t
      ·rw[Qf h3,Qf h3]
      ·rw[if_neg h3,if_neg h3]
def Cu (N:Nat)(opd:List (List Nat)->Option (Fm×Bool×List (List Nat))):Prop:=∀ts t Jx,opd ts=some (t,false,Jx)->VarsIn N t
theorem Ty {N:Nat}{op:List Nat}{mk:Fm->Fm->Fm}{opd:List (List Nat)->Option (Fm×Bool×List (List Nat))}(hm:∀a b,VarsIn N a->VarsIn N b->VarsIn N (mk a b))(h:Cu N opd):
  ∀(m:Nat) (a:Fm) (u:Bool) (ts:List (List Nat)) (t:Fm) (Jx:List (List Nat)),(u=false->VarsIn N a)->YN op mk opd m a u ts=some (t,false,Jx)->VarsIn N t
 | 0,a,u,ts,t,Jx,_,hh=>by cases hh
 | m+1,a,u,ts,t,Jx,ha,hh=>by
  unfold YN at hh;split at hh
  ·cases ho:opd ts.tail with
   | none=>rw[ho] at hh;cases hh
   | some q=>
    obtain⟨b,v,sk⟩:=q;rw[ho] at hh;refine Ty hm h m _ _ _ t Jx (λhuv=>?_) hh;cases u<;>cases v<;>simp at huv
    exact hm _ _ (ha rfl) (h _ _ _ ho)
  ·cases hh;exact ha rfl
theorem Cv {N:Nat}{op:List Nat}{mk:Fm->Fm->Fm}{opd:List (List Nat)->Option (Fm×Bool×List (List Nat))}(hm:∀a b,VarsIn N a->VarsIn N b->VarsIn N (mk a b))(h:Cu N opd):Cu N (Y5 op mk opd):=λts t Jx hh=>by
 unfold Y5 at hh;cases ho:opd ts with
 | none=>rw[ho] at hh;cases hh
 | some q=>
  obtain⟨a,u,sk⟩:=q;rw[ho] at hh;exact Ty hm h _ _ _ _ t Jx (λhu=>by subst hu;exact h _ _ _ ho) hh
theorem Tz {N:Nat}{ix:List Nat->Option Nat}(hx:∀l n,ix l=some n->n<N):∀n,Cu N (K4 ix n)
 | 0=>λts t Jx h=>by cases h
 | n+1=>λts t Jx h=>by
  have ih:=Tz hx n;cases ts with
  | nil=>cases h
  | cons w ts=>
   unfold K4 at h;split at h
   ·cases ho:K4 ix n ts with
    | none=>rw[ho] at h;cases h
    | some q=>
     obtain⟨a,u,sk⟩:=q;rw[ho] at h;cases h;exact show VarsIn N a from ih _ _ _ ho
   split at h
   ·cases ho:Y5 [124,124] Fm.or (Y5 [38,38] Fm.and (K4 ix n)) ts with
    | none=>rw[ho] at h;cases h
    | some q=>
     obtain⟨a,u,sk⟩:=q;rw[ho] at h;simp only at h;split at h
     ·cases h;exact Cv (mk:=Fm.or) (λ_ _ h h'=>⟨h,h'⟩) (Cv (mk:=Fm.and) (λ_ _ h h'=>⟨h,h'⟩) ih) _ _ _ ho
     ·cases h
   split at h
   ·simp only[Option.some.injEq,Prod.mk.injEq] at h;obtain⟨rfl,h2,_⟩:=h;unfold lW at h2 ⊢;split
    ·trivial
    ·split
     ·trivial
     ·rename_i h3 h4;rw[if_neg h3,if_neg h4] at h2;simp only at h2;cases hi:ix w with
      | none=>rw[hi] at h2;cases h2
      | some k=>exact hx _ _ hi
   ·cases h
theorem TB (l:List Nat)(N:Nat):∀(names:List (List Nat))(i:Nat)(QW:Option Nat),(∀n,QW=some n->n<N)->i+names.length<=N->∀n,eO l names i QW=some n->n<N
 | [],i,QW,ha,_,n,h=>ha n h
 | s::names,i,QW,ha,hl,n,h=>by
  unfold eO at h;refine TB l N names (i+1) _ (λm hm=>?_) (by simp at hl;omega) n h;split at hm
  ·cases hm;simp at hl;omega
  ·exact ha m hm
theorem lZ {names:List (List Nat)}{l:List Nat}{n:Nat}(h:Jq names l=some n):n<names.length:=TB l _ names 0 none (λ_ h=>by cases h) (by omega) n h
theorem hQP {nm:List (List Nat)}{s:List Nat}{t:Fm}(h:fO nm s= .ok t):Z1 nm=true/\VarsIn nm.length t/\QK t<=512:=by
 unfold fO at h;split at h
 ·rename_i hn;split at h
  ·split at h
   ·cases h
   ·rename_i t' u ts hw;split at h
    ·cases h
    split at h
    ·cases h
    split at h
    ·cases h
    ·rename_i hu hs;cases h;have hu:u=false:=by simpa using hu
     subst hu;exact⟨hn,Cv (mk:=Fm.or) (λ_ _ h h'=>⟨h,h'⟩) (Cv (mk:=Fm.and) (λ_ _ h h'=>⟨h,h'⟩) (Tz (λl n h=>lZ h) _)) _ _ _ hw,by omega⟩
  ·cases h
 ·cases h
theorem hQQ {nm:List (List Nat)}{s:List Nat}{e:Int}(h:fO nm s= .error e):e=1∨e=2∨e=3∨e=31:=by
 unfold fO at h
 repeat' split at h
 all_goals first | cases h | skip
 all_goals simp
abbrev BF:=(Nat->Bool)->Bool
def V3 (nm:List (List Nat))(s:List Nat):Except Int BF:=match fO nm s with
 | .ok t=>.ok (evF t)
 | .error e=>.error (if e=2 then 2 else 71)
inductive Dir where
 | txt
 | ifd (s:List Nat)
 | elif (s:List Nat)
 | els
 | en
 | inc (s:List Nat)
def ZJ:List Nat:=[35,105,102,32]
def pElif:List Nat:=[35,101,108,105,102,32]
def pInc:List Nat:=[35,105,110,99,108,117,100,101,32]
def Kz:List Nat:=[35,101,108,115,101]
def Zb:List Nat:=[35,101,110,100]
def XS (s:List Nat):Dir:=if ZJ.isPrefixOf s then .ifd (s.drop 4)else if pInc.isPrefixOf s then .inc (s.drop 9)else if pElif.isPrefixOf s then .elif (s.drop 6)else if s=Kz then .els else if s=Zb then .en else .txt
def QF:List Nat->List (List Nat)
 | []=>[]
 | b::l=>if b=10 then []::QF l else match QF l with
  | []=>[[b]]
  | s::ls=>(b::s)::ls
def Qp (ls:List (List Nat)):List Nat:=ls.flatMap (λs=>s++ [10])
theorem V4 (s:List Nat)(ls:List (List Nat)):Qp (s::ls)=s++10::Qp ls:=by simp[Qp]
theorem rI (ls:List (List Nat)):ls.length<=(Qp ls).length:=by
 induction ls with
 | nil=>exact QB _
 | cons s ls ih=>rw[V4];simp only[Q2,Qq];omega
def l6 (ls:List (List Nat)):Prop:=∀s∈ls,10∉s
theorem hQS (s l:List Nat)(h:10∉s):QF (s++10::l)=s::QF l:=by
 induction s with
 | nil=>simp[QF]
 | cons b s ih=>
  simp only[QY,not_or] at h;rw[Jo,QF,if_neg (λe=>h.1 e.symm),ih h.2]
theorem HE {ls:List (List Nat)}(h:l6 ls):QF (Qp ls)=ls:=by
 induction ls with
 | nil=>rfl
 | cons s ls ih=>rw[V4,hQS _ _ (h s (by simp)),ih (λt ht=>h t (by simp[ht]))]
def cP (l:List Nat):Prop:=l=[]∨l.getLast? =some 10
theorem iX:∀(l:List Nat),l6 (QF l)
 | []=>λs hs=>by simp[QF] at hs
 | b::l=>by
  have ih:=iX l;intro s hs;unfold QF at hs;split at hs
  ·simp only[QY] at hs;rcases hs with rfl | hs
   ·simp
   ·exact ih s hs
  ·rename_i hb;cases hl:QF l with
   | nil=>
    rw[hl] at hs;simp only[QO] at hs;subst hs;simpa using λe=>hb e.symm
   | cons t ls=>
    rw[hl] at hs ih;simp only[QY] at hs;rcases hs with rfl | hs
    ·have:=ih t (by simp);simp only[QY,not_or];exact⟨λe=>hb e.symm,this⟩
    ·exact ih s (by simp[hs])
theorem Yg:∀{l:List Nat},cP l->Qp (QF l)=l
 | [],_=>rfl
 | b::l,h=>by
  have hl:cP l:=by
   cases l with
   | nil=>exact .inl rfl
   | cons c l=>right;rcases h with h | h;cases h;simpa using h
  have ih:=Yg hl;unfold QF;split
  ·rename_i hb;subst hb;rw[V4,ih]<;>rfl
  ·rename_i hb;cases KL:QF l with
   | nil=>
    rw[KL] at ih;have:l=[]:=ih.symm;subst this;rcases h with h | h
    ·cases h
    ·simp at h;exact Xc h hb
   | cons t ls=>
    rw[KL] at ih;simp only[V4] at ih ⊢;rw[Jo,ih]
theorem HF (ls:List (List Nat)):cP (Qp ls):=by
 induction ls with
 | nil=>exact .inl rfl
 | cons s ls ih=>
  right
  rw[V4];rcases ih with h | h
  ·rw[h];simp
  ·rw[List.getLast?_append,List.getLast?_cons,h];simp
structure Sg where
 f:Nat
 t:Nat
 fl:Nat
 at_:Nat
 o:BF
structure Gs where
 tx:List Nat
 sg:List Sg
 fr:Bool
structure Se where
 ou:BF
 re:BF
 ot:Bool
 ln:Nat
structure Pl where
 e:Int
 f:Int
 l:Int
def oG (n:Nat):List Sg->List Sg
 | []=>[]
 | [x]=>[{x with t:=n}]
 | x::y::l=>x::oG n (y::l)
theorem iY (n:Nat)(l:List Sg)(x:Sg):oG n (l++ [x])=l++ [{x with t:=n}]:=by
 induction l with
 | nil=>rfl
 | cons y l ih=>
  cases l with
  | nil=>rfl
  | cons z l=>rw[Jo,Jo] at*;rw[oG,ih]<;>rfl
def Vt (s:List Nat)(fl at_:Nat)(k:BF)(g:Gs):Option Gs:=
 if 1048576<g.tx.length+s.length∨(g.fr=true/\g.sg.length=65536)then none
 else some ⟨g.tx++s,oG (g.tx.length+s.length) (if g.fr then g.sg++ [⟨g.tx.length,0,fl,at_,k⟩] else g.sg),false⟩
def dK (ix:List Nat->Option Nat)(rd:List Nat)(s:List Nat):Except Int Nat:=
 if s.length<2∨s.head? ≠some 34∨s.getLast? ≠some 34∨s.count 34≠2 then .error 71
 else match ix ((s.drop 1).take (s.length-2))with
  | none=>.error 73
  | some n=>if n∈rd then .error 73 else .ok n
abbrev XY (a b:BF):BF:=λe=>a e&&b e
abbrev J2 (a b:BF):BF:=λe=>a e && !b e
def Jb (nm:List (List Nat))(fl d0:Nat)(inc:List Nat->Nat->Nat->BF->Gs->Except Pl Gs):List (List Nat)->Nat->Nat->BF->List Se->Gs->Except Pl Gs
 | [],_,_,_,op,g=>match op with
  | []=>.ok {g with fr:=true}
  | x::_=>.error ⟨72,fl,x.ln⟩
 | s::ls,ln,at_,k,op,g=>match XS s with
  | .ifd r=>match V3 nm r with
   | .error e=>.error ⟨e,fl,ln+1⟩
   | .ok d=>if d0+op.length=64 then .error ⟨2,fl,ln+1⟩else Jb nm fl d0 inc ls (ln+1) (at_+s.length+1) (XY k d) (⟨k,J2 k d,false,ln+1⟩::op) {g with fr:=true}
  | .inc r=>match inc r (ln+1) (d0+op.length) k g with
   | .error p=>.error p
   | .ok g'=>Jb nm fl d0 inc ls (ln+1) (at_+s.length+1) k op {g' with fr:=true}
  | .elif r=>match op with
   | []=>.error ⟨72,fl,ln+1⟩
   | x::Xs=>if x.ot then .error ⟨71,fl,ln+1⟩else match V3 nm r with
    | .error e=>.error ⟨e,fl,ln+1⟩
    | .ok d=>Jb nm fl d0 inc ls (ln+1) (at_+s.length+1) (XY x.re d) ({x with re:=J2 x.re d}::Xs) {g with fr:=true}
  | .els=>match op with
   | []=>.error ⟨72,fl,ln+1⟩
   | x::Xs=>if x.ot then .error ⟨71,fl,ln+1⟩else Jb nm fl d0 inc ls (ln+1) (at_+s.length+1) x.re ({x with ot:=true}::Xs) {g with fr:=true}
  | .en=>match op with
   | []=>.error ⟨72,fl,ln+1⟩
   | x::Xs=>Jb nm fl d0 inc ls (ln+1) (at_+s.length+1) x.ou Xs {g with fr:=true}
  | .txt=>match Vt (s++ [10]) fl at_ k g with
   | none=>.error ⟨2,fl,ln+1⟩
   | some g'=>Jb nm fl d0 inc ls (ln+1) (at_+s.length+1) k op g'
def aq (nm:List (List Nat))(fs:List (List Nat×List Nat)):Nat->List Nat->Nat->Nat->BF->Gs->Except Pl Gs
 | 0,_,_,_,_,_=>.error ⟨0,0,0⟩
 | f+1,rd,d,n,k,g=>Jb nm n d (λr ln d k g=>match dK (Jq (fs.map (·.1))) (n::rd) r with
   | .error e=>.error ⟨e,n,ln⟩
   | .ok m=>if d=64 then .error ⟨2,n,ln⟩else aq nm fs f (n::rd) (d+1) m k g) (QF ((fs[n]?.map (·.2)).getD [])) 0 0 k [] {g with fr:=true}
def oH (s:List Nat):Bool:=decide (s≠ [])&&s.all (λb=>decide (32<=b)&&b !=34&&b !=127)
def bW (l:List Nat):Bool:=decide (l=[])||l.getLast? ==some 10
def dL:List (List Nat×List Nat)->List (List Nat)->Nat->Option Pl
 | [],_,_=>none
 | x::l,seen,i=>if¬(oH x.1=true/\x.1∉seen/\bW x.2=true)then some ⟨70,i,0⟩else if 1048576<x.2.length then some ⟨2,i,0⟩else dL l (seen++ [x.1]) (i+1)
def Y6 (fs:List (List Nat×List Nat)):Option Pl:=if 256<fs.length then some ⟨2, -1,0⟩else dL fs [] 0
def Vh (nm:List (List Nat))(fs:List (List Nat×List Nat))(root:List Nat):Except Pl Gs:=
 if Z1 nm=false then .error ⟨30, -1,0⟩else match Y6 fs with
  | some p=>.error p
  | none=>match Jq (fs.map (·.1)) root with
   | none=>.error ⟨73, -1,0⟩
   | some n=>aq nm fs 65 [] 0 n (λ_=>true) ⟨[],[],false⟩
theorem kx (A:Option Addr)(n c:Nat)(r m v:Int)(nd:List Br)(w:World)(h:SB w A n c nd)(hm:m<n+2)(gb:v<64):
  Fn Tryz.prog 167 [Xm A n c r,.int .i64 m,.int .i64 v] w (λu w'=>u= .tuple #[.int .i64 (Qm nd m v).1,.int .i64 (Qm nd m v).2]/\Ext w w'):=by
 have QZ:=h.2;have cw:n<=9223372036854775807:=by have:=h.1.le;have:=h.1.cap;simp only[maxLen] at this;omega
 refine QJ (c:={fQo with cuts:=[]}) Qa Tryz.func167 rfl rfl rfl ?_;refine new (λw1 Qe Q6 Qh=>?_);refine Qt Qh rfl ?_;refine call (eQ A n c r m nd w1 (h.ext Qe) hm) ?_;rintro u w2 ⟨rfl,Qg⟩;have QT:=Qe.trans Qg;have Qy:=Qh.ext Qg;refine WW (λc1=>?_) (λc1=>?_)
 ·exact⟨by unfold Qm;rw[Qf c1],QT⟩
 ·have wG:¬m<2:=λh2=>by
   unfold Ql at c1;rw[Qf h2] at c1;omega
  have hx:=Xu (show(m-2).toNat<nd.length by omega);generalize nd[(m-2).toNat]=b at hx;have e:Qm nd m v=(b.l,b.h):=by unfold Qm;rw[if_neg (by omega),hx]
  rw[e];refine XR Qa (Ext w2) 16 [(true,0),(true,1),(true,2),(true,3),(true,4),(true,5),(true,6),(true,7),(true,8),(true,9),(true,10),(true,11),(true,12),(true,13),(true,14),(true,15)] (by kernel_rfl) (Ext.drew w2) ?_;refine QN (v:=.slice A n c) (λw' Qb=>by rw[(Qy.ext Qb).cell];rfl) ?_;refine Qj (((m-2).toNat:Nat):Int) (by omega) (by omega) ?_;refine Zt W3 (h.ext QT) rfl (by omega) (λp z hz hc=>?_);have qf:z=b:=Option.some.inj (hz.symm.trans hx);subst qf;refine QN (v:=.int .i64 z.l) (λw' Qb=>Qb.cell (hc 1 _ rfl)) ?_;refine QN (v:=.slice A n c) (λw' Qb=>by rw[(Qy.ext Qb).cell];rfl) ?_;refine Qj (((m-2).toNat:Nat):Int) (by omega) (by omega) ?_;refine Zt W3 (h.ext QT) rfl (by omega) (λp' z' aH ZZ=>?_);have OF:z'=z:=Option.some.inj (aH.symm.trans hx);subst OF;refine QN (v:=.int .i64 z'.h) (λw' Qb=>Qb.cell (ZZ 2 _ rfl)) ?_;exact⟨rfl,QT.trans (Ext.drew w2)⟩
def yb (nd:List Br)(b:Br):Option Value:=(K2 b nd).map λi=>.int .i64 ((i+2:Nat):Int)
structure Bd (w:World) (base pb km:Nat) (NA:Option Addr) (nc:Nat) (nd:List Br):Prop where
 blk:Blk w pb 177 [.slice NA nd.length nc,.map (some km)]
 own:Own w base 105 3 NA nd.length nc (lP nd)
 known:∃m,MapQ dI w km m/\∀b,XG b m=yb nd b
 lt:pb<base/\km<base/\pb≠km
 top:base<=w.heap.size
theorem Bd.ext {w w':World}{base pb km:Nat}{NA:Option Addr}{nc:Nat}{nd:List Br}(h:Bd w base pb km NA nc nd)(k:Ext w w'):Bd w' base pb km NA nc nd:=
 ⟨h.blk.ext k,h.own.ext k,let ⟨m,h1,h2⟩:=h.known;⟨m,h1.ext k,h2⟩,h.lt,X3 h.top k.size⟩
def BS (pb km:Nat)(NA:Option Addr):Nat->Prop:=λk=>k=pb∨k=km∨Qk NA k
theorem BS.moved {w:World}{pb km:Nat}{A A':Option Addr}(h:Moved w A A'):∀k,BS pb km A' k->BS pb km A k∨w.heap.size<=k:=by
 rintro k (rfl | rfl | hk)
 ·exact .inl (.inl rfl)
 ·exact .inl (.inr (.inl rfl))
 ·rcases h.rows k hk with h | h
  ·exact .inl (.inr (.inr h))
  ·exact .inr h
def hQT (w:World)(base pb km:Nat)(NA:Option Addr)(nd:List Br)(w':World):Prop:=∃NA' nc',Bd w' base pb km NA' nc' nd/\Mod (BS pb km NA) w w'/\Moved w NA NA'
theorem TC (b x:Br):∀l:List Br,K2 x l=none->K2 b (l++ [x])=if b=x then some l.length else K2 b l
 | [],_=>by
  show(if x=b then some 0 else(none:Option Nat).map (·+1))=_;by_cases h:x=b
  ·rw[Qf h,Qf h.symm]<;>rfl
  ·rw[if_neg h,if_neg (λe=>h e.symm)]<;>rfl
 | y::l,hx=>by
  have hy:y≠x:=λe=>by rw[K2,Qf e] at hx;cases hx
  have hl:K2 x l=none:=by
   rw[K2,if_neg hy] at hx;cases hh:K2 x l with
   | none=>rfl
   | some k=>rw[hh] at hx;cases hx
  have ih:=TC b x l hl;show(if y=b then some 0 else(K2 b (l++ [x])).map (·+1))=if b=x then some (l.length+1)else if y=b then some 0 else(K2 b l).map (·+1)
  rw[ih];by_cases h1:b=x
  ·rw[Qf h1,Qf h1,if_neg (λe=>hy (e.trans h1))]<;>rfl
  ·rw[if_neg h1,if_neg h1]
theorem hQU {b:Br}{nd:List Br}{i:Nat}(h:b.l≠b.h)(k:K2 b nd=some i):Jf b nd=(nd,((i+2:Nat):Int)):=by unfold Jf;rw[if_neg h,k]
theorem hQV {b:Br}{nd:List Br}(h:b.l≠b.h)(k:K2 b nd=none):Jf b nd=(nd++ [b],((nd.length+2:Nat):Int)):=by unfold Jf;rw[if_neg h,k]
theorem TD (base pb km:Nat)(NA:Option Addr)(nc:Nat)(nd:List Br)(b:Br)(w:World)(h:Bd w base pb km NA nc nd)(hl:nd.length+1<=1000000000000):
  Fn Tryz.prog 189 [.pointer (some ⟨pb,0,none⟩),.int .i64 b.v,.int .i64 b.l,.int .i64 b.h] w (λu w'=>u= .int .i64 (Jf b nd).2/\hQT w base pb km NA (Jf b nd).1 w'):=by
 obtain⟨p1,p2,p3⟩:=h.lt;have nz:=h.top;have Yo:=h.own.rows;refine QJ (c:={fQv with cuts:=[]}) Qa Tryz.func189 rfl rfl rfl ?_;refine X8 (λc1=>?_) (λc1=>?_)
 ·have e:Jf b nd=(nd,b.l):=by unfold Jf;rw[Qf c1]
  rw[e];exact⟨rfl,NA,nc,h,Mod.refl _ _,Moved.refl _ _⟩
 refine new (λw1 Qe Q6 Qh=>?_);refine Qv Qh rfl (sc rfl) (λw2 de Ze Qy=>?_);have Qg:Ext w w2:=XT Qe Qh de
 replace Qy:Blk w2 w.heap.size 105 b.cells:=Qy;have h2:=h.ext Qg;obtain⟨m,hm,YY⟩:=h2.known;refine XR Qa (Ext w2) 11 [(true,0),(true,1),(true,2),(true,3),(true,4),(false,5),(true,6),(true,7),(true,8),(true,9),(true,10)] (by kernel_rfl) (Ext.drew w2) ?_;refine QN (v:=.map (some km)) (λw' Qb=>by rw[(h2.blk.ext Qb).cell];rfl) ?_;refine Xv (vs:=b.cells) rfl (λw' Qb j v hj=>by rw[(Qy.ext Qb).cell];exact hj) ?_;refine GV (kv:=dI) (a:=b) Qa rfl rfl rfl rfl Ch rfl rfl (hm.ext (Ext.drew w2)) ?_;refine⟨Ext.drew w2,?_⟩;have QT:=Qg.trans (Ext.drew w2);have Qu:=Qy.ext (Ext.drew w2);have h3:=h2.ext (Ext.drew w2);have XI:=hm.ext (Ext.drew w2);have Jr:w2.heap.size<=w2.drew.heap.size:=(Ext.drew w2).size;generalize w2.drew=w3 at*;cases hf:K2 b nd with
 | some i=>
  have ha:XG b m=some (.int .i64 ((i+2:Nat):Int)):=by rw[YY,yb,hf]<;>rfl
  have dV:=hQU c1 hf;refine kg (Xd (by rw[ha];rfl) ?_);rw[dV];exact⟨by rw[ha];rfl,NA,nc,h3,Mod.of_ext _ QT,Moved.refl _ _⟩
 | none=>
  have ha:XG b m=none:=by rw[YY,yb,hf]<;>rfl
  have dV:=hQV c1 hf;refine kg (Q9 (by rw[ha];rfl) ?_);rw[dV];have n3:w1.heap.size=w.heap.size+1:=Q6;have Fx:¬Qk NA pb:=λhr=>by have:=(Yo _ hr).1;omega
  have Fy:¬Qk NA w.heap.size:=λhr=>by have:=(Yo _ hr).2;omega
  refine XR Qa (Mod (Qk NA) w3) 8 [(true,0),(true,1),(true,2),(true,3),(true,4),(true,5),(false,6),(false,7)] (by kernel_rfl) (Mod.of_ext _ (Ext.drew w3)) ?_;refine QN (v:=.slice NA nd.length nc) (λw' Qb=>by rw[(h3.blk.mod Qb Fx).cell];rfl) ?_;refine Xv (vs:=b.cells) rfl (λw' Qb j v hj=>by rw[(Qu.mod Qb Fy).cell];exact hj) ?_;refine Xg Qa [b.cells] rfl rfl rfl rfl rfl ⟨rfl,rfl,⟨⟩⟩ rfl (λcs h=>by simp only[QO] at h;subst h;rfl) rfl (by decide) (by decide) ?_;intro w4 Qs KR QR;have Vl:=(Ext.drew w3).trans Qs;have h4:=h3.ext Vl;refine⟨Mod.of_ext _ Vl,?_⟩;have hs4:Sl w4 3 (some ⟨w3.drew.heap.size,0,none⟩) 1 1 b.cells:=Sl.own (sz:=3) (n:=1) QR (QB _) (by decide) (by simp[Br.cells]);refine Je (n:=nd.length) Qa rfl rfl rfl rfl rfl (by decide) rfl rfl ⟨_,rfl⟩ rfl rfl h4.own hs4 (by intro u hu;simp[Br.cells] at hu;rcases hu with rfl | rfl | rfl<;>rfl) (by unfold maxLen;omega) (by show _*24<=_;omega) h4.top ?_;intro A' c' w5 XZ cQa mQY;have vS:Mod (Qk NA) w3 w5:=(Mod.of_ext (Qk NA) Vl).trans XZ (λi hi=>.inl hi);refine⟨vS,?_⟩;have KI:=vS.size;have pQw:=Vl.size;have mQZ:=QT.size;refine XV (h3.blk.mod vS Fx) (by simp) (λw6 VQ Q7=>?_);have bu:=VQ.size;have ar:∀i,Qk A' i->base<=i:=λi hi=>(cQa.rows i hi).1
  have sm:Blk w6 pb 177 [.slice A' (nd.length+1) c',.map (some km)]:=Q7;refine Qz sm rfl ?_;refine Qj ((nd.length+2:Nat):Int) (by show((nd.length+1:Nat):Int)+1=_;omega) (by omega) ?_;have hx6:=(Qu.mod vS Fy).mod VQ (by show¬w.heap.size=pb;omega);have hq6:MapQ dI w6 km m:=(XI.mod vS (λhr=>by have:=(Yo _ hr).1;omega)).mod VQ (by show¬km=pb;omega);refine XR Qa (Ext w6) 6 [(true,0),(true,1),(true,2),(true,3),(true,4),(true,5)] (by kernel_rfl) (Ext.drew w6) ?_;refine QN (v:=.map (some km)) (λw' Qb=>by rw[(sm.ext Qb).cell];rfl) ?_;refine Xv (vs:=b.cells) rfl (λw' Qb j v hj=>by rw[(hx6.ext Qb).cell];exact hj) ?_;refine uw (kv:=dI) (a:=b) Qa rfl rfl rfl rfl Ch rfl rfl rfl (hq6.ext (Ext.drew w6)) (λw8 JD YU ze=>?_);have L5:Mod (·=km) w6 w8:=(Mod.of_ext (·=km) (Ext.drew w6)).trans JD (λi hi=>.inl hi);have Ji:Mod (BS pb km NA) w w3:=Mod.of_ext _ QT;have Jt:Mod (BS pb km NA) w w5:=Ji.trans vS (λi hi=>.inl (.inr (.inr hi)));have Vv:Mod (BS pb km NA) w w6:=Jt.trans VQ (λi hi=>.inl (.inl hi));have ZL:Mod (BS pb km NA) w w8:=Vv.trans L5 (λi hi=>.inl (.inr (.inl hi)));have el:(nd++ [b]).length=nd.length+1:=by simp
  refine⟨rfl,A',c',⟨?_,?_,⟨_,ze,λx=>?_⟩,h.lt,X3 nz ZL.size⟩,ZL,mQY.back (by omega)⟩
  ·rw[el];exact sm.mod L5 (by show¬pb=km;omega)
  ·rw[el,Cg];exact(cQa.mod VQ (λi hi e=>by have:=ar i hi;have e':i=pb:=e;omega)).mod L5 (λi hi e=>by have:=ar i hi;have e':i=km:=e;omega)
  ·rw[bR,YY,yb,yb,TC x b nd hf];by_cases JG:x=b
   ·rw[Qf JG,Qf JG]<;>rfl
   ·rw[if_neg JG,if_neg JG]
theorem Cw (F:Option Addr)(m cf:Nat)(L:List DV)(w:World)(h:SlS DV.cells 2 w F m cf L)(hL:∀x∈L,SB w x.A x.n x.c x.nd):
  Fn Tryz.prog 111 [.slice F m cf] w (λv w'=>v= .int .i64 (dJ L)/\Ext w w'):=by
 have QZ:=h.2;have cw:m<=9223372036854775807:=by have:=h.1.le;have:=h.1.cap;simp only[maxLen] at this;omega
 refine QJ (c:={eQL with cuts:=[]}) Qa Tryz.func111 rfl rfl rfl ?_;refine loop Qa [8] (λs:Nat=>[.int .i64 s]) (λs w'=>Ext w w'/\s<=m/\∀(j:Nat) (y:DV),j<s->L[j]? =some y->XC y.nd y.r=0) (λs _=>m-s) 0 rfl ⟨Ext.refl w,Xo _,λj y hj=>Xc hj (by omega)⟩ ?_;rintro s w1 ⟨Qe,hs,hall⟩;refine Qw (λh2=>?_) (λh2=>?_)
 ·refine Zt eT (h.ext Qe) rfl (by omega) (λp x hx hc=>?_);refine Jz (vs:=x.cells) rfl hc ?_;refine new (λw2 Qg Ze Qy=>?_);refine Qv Qy rfl (sc rfl) (λw3 Jc Jr Qu=>?_);have Qi:Ext w w3:=Qe.trans (XT Qg Qy Jc);refine Qt Qu rfl ?_;refine call (uG x.A x.n x.c x.nd x.r w3 ((hL x (Xl hx)).ext Qi)) ?_;rintro v w4 ⟨rfl,Qs⟩;refine WW (λc1=>?_) (λc1=>?_)
  ·exact⟨by rw[gQ8 hall hx c1],Qi.trans Qs⟩
  ·refine Qj ((s+1:Nat):Int) (by omega) (by omega) ?_;refine⟨s+1,rfl,⟨Qi.trans Qs,by omega,λj y hj hy=>?_⟩,by show m-(s+1)<m-s;omega⟩;by_cases We:j<s
   ·exact hall j y We hy
   ·have:j=s:=by omega
    subst this;rw[Option.some.inj (hy.symm.trans hx)];exact c1
 ·exact⟨by rw[gQ9 (λj y hj hy=>hall j y (by omega) hy)],Qe⟩
theorem TE (A:Option Addr)(n c:Nat)(a:List Br)(ra:Int)(w0 w:World)(h:SB w A n c a)(hr:∀i,Qk A i->w0.heap.size<=i)(hE:Ext w0 w):
  Fn Tryz.prog 127 [Xm A n c ra] w (rz w0 (ku (a,ra))):=by
 have Vc:=h.2;refine QJ (c:={eQS with cuts:=[]}) Qa Tryz.func127 rfl rfl rfl ?_;refine new (λw1 Qe Q6 Qh=>?_);refine new (λw2 Qg Ze Qy=>?_);have QT:=Qe.trans Qg;refine Qz (Qh.ext Qg) rfl ?_;refine Qw (λc1=>?_) (λc1=>?_)
 ·have e:ku (a,ra)=(([],0),2):=by unfold ku;rw[Qf (show 4096<(a,ra).1.length by simp only;omega)]
  rw[e];refine Qv Qy rfl (sc rfl) (λw3 Jc _ Qu=>?_);have Ji:Mod (·=w1.heap.size) w2 w3:=qQL Jc rfl;refine Qt Qu rfl ?_;exact⟨none,0,0,rfl,hE.trans (Ji.ext QT (λi hi=>by have:=Qe.size;omega)),SlS.nil _,λi ⟨_,e,_⟩=>by cases e⟩
 ·have e:ku (a,ra)=((a,ra),0):=by unfold ku;rw[if_neg (show¬4096<(a,ra).1.length by simp only;omega)]
  rw[e];refine Qt (Qh.ext Qg) rfl ?_;refine Qv Qy rfl (sc rfl) (λw3 Jc _ Qu=>?_);have Ji:Mod (·=w1.heap.size) w2 w3:=qQL Jc rfl;refine Qt Qu rfl ?_;refine⟨A,n,c,rfl,hE.trans (Ji.ext QT (λi hi=>by have:=Qe.size;omega)),⟨(h.ext QT).1.modS Ji (λh0 i hi e=>by obtain⟨ad,rfl,rfl⟩:=hi;have:=SB.lt h ad rfl h0;omega),Vc⟩,hr⟩
theorem HG (k:Int)(w:World)(h0:0<=k)(h1:k<=63):Fn Tryz.prog 34 [.int .i64 k] w (rz w (([⟨k,0,1⟩],2),0)):=by
 refine QJ (c:={c34 with cuts:=[]}) Qa Tryz.func34 rfl rfl rfl ?_;refine new (λw1 Qe Q6 Qh=>?_);refine XJ (by omega) ?_;refine XJ (by omega) ?_;refine Xg Qa [(⟨k,0,1⟩:Br).cells] rfl rfl rfl rfl rfl ⟨rfl,rfl,⟨⟩⟩ rfl (λcs h=>by simp only[QO] at h;subst h;rfl) rfl (by decide) (by decide) ?_;intro w2 Qg Ze Qy;refine Qv (Qh.ext Qg) rfl (sc rfl) (λw3 Jc _ Qu=>?_);have Ji:Mod (·=w.heap.size) w2 w3:=qQL Jc rfl;refine Qt Qu rfl ?_;refine⟨some ⟨w1.heap.size,0,none⟩,1,1,rfl,Ji.ext (Qe.trans Qg) (λi hi=>by omega),⟨Sl.own (sz:=3) (n:=1) (Qy.mod Ji (by omega)) (QB _) (by decide) (by simp[Br.cells]),rfl⟩,λi ⟨ad,e,hi⟩=>by cases e;simp only at hi;omega⟩
theorem dM (b:Bool)(w:World):Fn Tryz.prog 37 [.bool b] w (λv w'=>v=Xm none 0 0 (if b then 1 else 0)/\Ext w w'):=by
 refine QJ (c:={c37 with cuts:=[]}) Qa Tryz.func37 rfl rfl rfl ?_;refine new (λw1 Qe Q6 Qh=>?_);cases b with
 | true=>
  refine Xd rfl ?_;refine Qv Qh rfl (sc rfl) (λw3 Jc _ Qu=>?_);refine Qt Qu rfl ?_;exact⟨rfl,XT Qe Qh Jc⟩
 | false=>
  refine Q9 rfl ?_;refine Qv Qh rfl (sc rfl) (λw3 Jc _ Qu=>?_);refine Qt Qu rfl ?_;exact⟨rfl,XT Qe Qh Jc⟩
def yd (F:Nat)(op:Int):Prop:=(F=84/\op=0)∨(F=155/\op=1)∨(F=83/\op=3)
theorem HH {F:Nat}{op:Int}(h:yd F op)(x y:Bool)(w:World):Fn Tryz.prog F [.bool x,.bool y] w (λv w'=>v= .bool (KP op x y)/\w=w'):=by
 rcases h with⟨rfl,rfl⟩ | ⟨rfl,rfl⟩ | ⟨rfl,rfl⟩
 ·refine QJ (c:={c84 with cuts:=[]}) Qa Tryz.func84 rfl rfl rfl ?_;cases x with
  | true=>
   refine Xd rfl ?_;exact⟨rfl,rfl⟩
  | false=>
   refine Q9 rfl ?_;exact⟨rfl,rfl⟩
 ·refine QJ (c:={fQf with cuts:=[]}) Qa Tryz.func155 rfl rfl rfl ?_;cases x with
  | true=>
   refine Xd rfl ?_;exact⟨rfl,rfl⟩
  | false=>
   refine Q9 rfl ?_;exact⟨rfl,rfl⟩
 ·refine QJ (c:={c83 with cuts:=[]}) Qa Tryz.func83 rfl rfl rfl ?_;exact⟨rfl,rfl⟩
theorem hQW {F:Nat}{op:Int}(h:yd F op)(ob:Nat)(x y z:Bool)(w:World)(hB:Blk w ob 139 [.func (.func F) #[] #[]]):
  Fn Tryz.prog 129 [.bool x,.bool y,.bool z,.pointer (some ⟨ob,0,none⟩)] w (λv w'=>v= .bool (KP op x y)/\w=w'):=by
 rcases h with⟨rfl,rfl⟩ | ⟨rfl,rfl⟩ | ⟨rfl,rfl⟩
 ·refine QJ (c:={GO with cuts:=[]}) Qa Tryz.func129 rfl rfl rfl ?_;refine Qz hB rfl ?_;refine call (HH (op:=0) (.inl ⟨rfl,rfl⟩) x y w) ?_;rintro _ _ ⟨rfl,rfl⟩;exact⟨rfl,rfl⟩
 ·refine QJ (c:={GO with cuts:=[]}) Qa Tryz.func129 rfl rfl rfl ?_;refine Qz hB rfl ?_;refine call (HH (op:=1) (.inr (.inl ⟨rfl,rfl⟩)) x y w) ?_;rintro _ _ ⟨rfl,rfl⟩;exact⟨rfl,rfl⟩
 ·refine QJ (c:={GO with cuts:=[]}) Qa Tryz.func129 rfl rfl rfl ?_;refine Qz hB rfl ?_;refine call (HH (op:=3) (.inr (.inr ⟨rfl,rfl⟩)) x y w) ?_;rintro _ _ ⟨rfl,rfl⟩;exact⟨rfl,rfl⟩
theorem qQS {α:Type} [DecidableEq α]{P:Program}{ke:Nat}{kv:α->Value}{len elem:Nat}(hu:P.underlying ke=some (.array len elem))
  (heq:∀(a b:α) (w:World),(Op.equal ke (kv a) (kv b)).run P w= .ok (decide (a=b)) w) (hc:∀b a w,(Instr.checkKey b 10000 ke (kv a)).run P w= .ok () w) (hb:∀a,Instr.sameBits 10000 (kv a) (kv a)=true):KeyQ P ke kv:=by
 refine⟨λa m bs w hl=>?_,hc,hb⟩;have key:=GU (P:=P) (ke:=ke) (kv:=kv) a w (λb=>heq a b w) m bs 0 hl;obtain⟨r,h1,h2,h3,h4⟩:=key;refine⟨r,?_,h2,λj v hj v'=>by simpa using (h3 j v hj).2 v',h4⟩;unfold Instr.findKey;simp only[Sem.run_bind,Ja hu,Result.andThen_ok];cases m with
 | nil=>
  simp only[X2,List.zip_nil_left,Bn,Instr.findNow,Sem.run_pure];simp[X2,Instr.findAsking] at h1;rw[h1]
 | cons p m=>
  cases bs with
  | nil=>simp at hl
  | cons s bs=>
   have e:X2 kv (p::m) (s::bs)={key:=kv p.1,val:=p.2,born:=s}::X2 kv m bs:=rfl;rw[e] at h1 ⊢;have hn:Instr.findNow (.array len elem) (kv a) ({key:=kv p.1,val:=p.2,born:=s}::X2 kv m bs) 0=none:=by
    simp[Instr.findNow,Instr.sameNow]
   rw[hn];exact h1
abbrev I3:=Int×Int×Int
abbrev eX (t:I3):List Value:=[.int .i64 t.1,.int .i64 t.2.1,.int .i64 t.2.2]
abbrev cQ:I3->Value:=λt=>.agg #[.int .i64 t.1,.int .i64 t.2.1,.int .i64 t.2.2]
theorem Cy:Tryz.prog.cellsOf 3=1:=by kernel_rfl
theorem ye (a b:Int)(n:Nat)(w:World):(Op.equalIn (n+1) 3 (.int .i64 a) (.int .i64 b)).run Tryz.prog w= .ok (a==b) w:=by
 simp[Op.equalIn,Ja Tryz.underlying3]
theorem hQX (a b:I3)(n:Nat)(w:World):(Op.equalIn (n+2) 242 (cQ a) (cQ b)).run Tryz.prog w= .ok (decide (a=b)) w:=by
 obtain⟨i,hi⟩:=PQ.1 (show(Tryz.prog.info? 3).isSome=true by kernel_rfl);obtain⟨a0,a1,a2⟩:=a;obtain⟨b0,b1,b2⟩:=b;have e:=run_equalIn_array (w:=w) (n+1) #[.int .i64 a0,.int .i64 a1,.int .i64 a2] #[.int .i64 b0,.int .i64 b1,.int .i64 b2] Tryz.underlying242 hi;rw[Cy,show List.range 3=[0,1,2] from rfl] at e;refine e.trans ?_;have p0:∀x y z:Int,(part 3 #[Value.int .i64 x,.int .i64 y,.int .i64 z] (0*1)).run Tryz.prog w= .ok (.int .i64 x) w:=λx y z=>dC k3 rfl w
 have p1:∀x y z:Int,(part 3 #[Value.int .i64 x,.int .i64 y,.int .i64 z] (1*1)).run Tryz.prog w= .ok (.int .i64 y) w:=λx y z=>dC k3 rfl w
 have p2:∀x y z:Int,(part 3 #[Value.int .i64 x,.int .i64 y,.int .i64 z] (2*1)).run Tryz.prog w= .ok (.int .i64 z) w:=λx y z=>dC k3 rfl w
 have dd:decide ((a0,a1,a2)=(b0,b1,b2))=(a0==b0&&(a1==b1&&a2==b2)):=by
  by_cases h0:a0=b0<;>by_cases h1:a1=b1<;>by_cases h2:a2=b2<;>simp[h0,h1,h2]
 rw[dd];simp only[Op.eqItems,Sem.run_bind,p0,Result.andThen_ok,ye];cases h0:a0==b0 with
 | false=>simp
 | true=>
  simp only[Bool.not_true,PH,if_false,Sem.run_bind,p1,Result.andThen_ok,ye,dB];cases h1:a1==b1 with
  | false=>simp
  | true=>
   simp only[Bool.not_true,PH,if_false,Sem.run_bind,p2,Result.andThen_ok,ye,dB];cases h2:a2==b2<;>simp
theorem hQY (b:Bool)(a:I3)(n:Nat)(w:World):(Instr.checkKey b (n+2) 242 (cQ a)).run Tryz.prog w= .ok () w:=by
 obtain⟨i,hi⟩:=PQ.1 (show(Tryz.prog.info? 3).isSome=true by kernel_rfl);have p0:∀x y z:Int,(part 3 #[Value.int .i64 x,.int .i64 y,.int .i64 z] 0).run Tryz.prog w= .ok (.int .i64 x) w:=λx y z=>dC k3 rfl w
 have p1:∀x y z:Int,(part 3 #[Value.int .i64 x,.int .i64 y,.int .i64 z] 1).run Tryz.prog w= .ok (.int .i64 y) w:=λx y z=>dC k3 rfl w
 have p2:∀x y z:Int,(part 3 #[Value.int .i64 x,.int .i64 y,.int .i64 z] 2).run Tryz.prog w= .ok (.int .i64 z) w:=λx y z=>dC k3 rfl w
 have hz:(sizeOf 3).run Tryz.prog w= .ok 1 w:=by rw[<-Cy];exact Go.run_sizeOf w hi
 simp[Instr.checkKey,Ja Tryz.underlying242,Ja Tryz.underlying3,hz,p0,p1,p2,Std.Legacy.Range.forIn_eq_forIn_range',Std.Legacy.Range.size,List.range'_succ]
theorem Cz:KeyQ Tryz.prog 242 cQ:=
 qQS Tryz.underlying242 (λa b w=>hQX a b 9998 w) (λb a w=>hQY b a 9998 w) (λa=>by simp[Instr.sameBits])
structure CP where
 ox:Nat
 ob:Nat
 mx:Nat
 lx:Nat
 ax:Nat
 bx:Nat
 pb:Nat
 km:Nat
 mm:Nat
 F:Nat
 D:AD
def CP.caps (p:CP):List Value:=[VP.ptr p.ox,VP.ptr p.mx,VP.ptr p.lx,VP.ptr p.ax,VP.ptr p.bx]
def CP.clo (p:CP):Value:=.func (.func 188) #[] #[VP.ptr p.ox,VP.ptr p.mx,VP.ptr p.lx,VP.ptr p.ax,VP.ptr p.bx]
def CP.lC (p:CP):List Value:=[.slice p.D.A p.D.n p.D.c,.int .i64 p.D.ra,.slice p.D.B p.D.m p.D.d,.int .i64 p.D.rb,.slice none 0 0,.int .i64 0]
structure CK (w:World) (base:Nat) (p:CP):Prop where
 hF:yd p.F p.D.op
 oxb:Blk w p.ox 205 [.func (.func 129) #[] #[VP.ptr p.ob]]
 obb:Blk w p.ob 139 [.func (.func p.F) #[] #[]]
 mxb:Blk w p.mx 272 [.map (some p.mm)]
 lxb:Blk w p.lx 204 p.lC
 axb:Blk w p.ax 273 [p.clo]
 bxb:Blk w p.bx 174 [VP.ptr p.pb]
 as_:SB w p.D.A p.D.n p.D.c p.D.a
 bs:SB w p.D.B p.D.m p.D.d p.D.b
 off:∀k,k=p.ox∨k=p.ob∨k=p.mx∨k=p.lx∨k=p.ax∨k=p.bx->k<base/\k≠p.pb/\k≠p.km/\k≠p.mm
 rowA:∀ad,p.D.A=some ad->0<p.D.n->ad.block<base/\ad.block≠p.pb/\ad.block≠p.km/\ad.block≠p.mm
 rowB:∀ad,p.D.B=some ad->0<p.D.m->ad.block<base/\ad.block≠p.pb/\ad.block≠p.km/\ad.block≠p.mm
def CS (p:CP)(NA:Option Addr):Nat->Prop:=λk=>k=p.mm∨BS p.pb p.km NA k
theorem CS.moved {w:World}{p:CP}{A A':Option Addr}(h:Moved w A A'):∀k,CS p A' k->CS p A k∨w.heap.size<=k:=by
 rintro k (rfl | hk)
 ·exact .inl (.inl rfl)
 ·rcases BS.moved h k hk with h | h
  ·exact .inl (.inr h)
  ·exact .inr h
theorem CS.trans {w w1 w2:World}{p:CP}{A A1:Option Addr}(hm:Mod (CS p A) w w1)(hv:Moved w A A1)(h:Mod (CS p A1) w1 w2):Mod (CS p A) w w2:=hm.trans h (CS.moved hv)
theorem CS.no {p:CP}{base:Nat}{NA:Option Addr}(hr:∀i,Qk NA i->base<=i){k:Nat}(h:k<base/\k≠p.pb/\k≠p.km/\k≠p.mm):¬CS p NA k:=λe=>by
 obtain⟨h1,h2,h3,h4⟩:=h;rcases e with e | e | e | e
 ·exact h4 e
 ·exact h2 e
 ·exact h3 e
 ·have:=hr k e;omega
theorem CK.mod {w w':World}{base:Nat}{p:CP}{NA:Option Addr}(h:CK w base p)(hr:∀i,Qk NA i->base<=i)(hm:Mod (CS p NA) w w'):CK w' base p:=by
 have k:=λk hk=>CS.no (p:=p) hr (h.off k hk)
 refine⟨h.hF,h.oxb.mod hm (k _ (by simp)),h.obb.mod hm (k _ (by simp)),h.mxb.mod hm (k _ (by simp)),h.lxb.mod hm (k _ (by simp)),h.axb.mod hm (k _ (by simp)),h.bxb.mod hm (k _ (by simp)),⟨h.as_.1.modS hm ?_,h.as_.2⟩,⟨h.bs.1.modS hm ?_,h.bs.2⟩,h.off,h.rowA,h.rowB⟩
 ·rintro h0 i ⟨ad,e,rfl⟩;exact CS.no hr (h.rowA ad e h0)
 ·rintro h0 i ⟨ad,e,rfl⟩;exact CS.no hr (h.rowB ad e h0)
theorem CK.ext {w w':World}{base:Nat}{p:CP}(h:CK w base p)(k:Ext w w'):CK w' base p:=
 h.mod (NA:=none) (λi hi=>by obtain⟨_,e,_⟩:=hi;cases e) (Mod.of_ext _ k)
def ky (l:List Tr3)(x y:Int):Option Value:=(l.find? (λt=>decide (t.1=x/\t.2.1=y))).map λt=>.int .i64 t.2.2
structure CSt (w:World) (base:Nat) (p:CP) (NA:Option Addr) (nc:Nat) (st:List Br×List Tr3):Prop where
 bd:Bd w base p.pb p.km NA nc st.1
 memo:∃m,MapQ cQ w p.mm m/\∀x y:Int,XG ((x,y,0):I3) m=ky st.2 x y
 lt:p.mm<base/\p.mm≠p.pb/\p.mm≠p.km
theorem CSt.ext {w w':World}{base:Nat}{p:CP}{NA:Option Addr}{nc:Nat}{st:List Br×List Tr3}(h:CSt w base p NA nc st)(k:Ext w w'):CSt w' base p NA nc st:=
 ⟨h.bd.ext k,let ⟨m,h1,h2⟩:=h.memo;⟨m,h1.ext k,h2⟩,h.lt⟩
def CTo (w:World)(base:Nat)(p:CP)(NA:Option Addr)(st:List Br×List Tr3)(w':World):Prop:=∃NA' nc',CSt w' base p NA' nc' st/\Mod (CS p NA) w w'/\Moved w NA NA'
theorem TF {op x y:Int}(x0:0<=x)(x1:x<2)(y0:0<=y)(y1:y<2):eS op x y=if KP op (decide (x=1)) (decide (y=1))then 1 else 0:=by
 have h1:=SU (op:=op) x0 x1 y0 y1;have h2:=Hg (op:=op) x0 x1 y0 y1;rw[<-h1];by_cases h:eS op x y=1
 ·rw[Zx h];exact h
 ·rw[Zr h];show eS op x y=0;omega
theorem uX {a b:List Br}(ha:V0 a)(hb:V0 b)(op:Int):∀(f:Nat)(x y:Int)(st:List Br×List Tr3),0<=x->0<=y->x<a.length+2->y<b.length+2->
  ∀t∈(Xw a b op f x y st).2.2,t∈st.2∨t.1+t.2.1<=x+y
 | 0,x,y,st,_,_,_,_=>λt ht=>.inl ht
 | f+1,x,y,st,x0,y0,hx,hy=>by
  by_cases Xr:x<2/\y<2
  ·rw[lR Xr];exactλt ht=>.inl ht
  cases k:st.2.find? (λt=>decide (t.1=x/\t.2.1=y))with
  | some t=>rw[lS Xr k];exactλt ht=>.inl ht
  | none=>
   have ZP:min (Ql a x) (Ql b y)<64:=by
    by_cases c:x<2
    ·have:=aZ hb (n:=y) (λc2=>Xr ⟨c,c2⟩) (by omega);rw[Jk];split<;>omega
    ·have:=aZ ha (n:=x) c (by omega);rw[Jk];split<;>omega
   rw[lT Xr k _ rfl];generalize min (Ql a x) (Ql b y)=v at*;obtain⟨s1,s2,s3,s4,s5⟩:=W4 ha (n:=x) x0 ZP;obtain⟨t1,t2,t3,t4,t5⟩:=W4 hb (n:=y) y0 ZP;have j1:=uX ha hb op f _ _ st s1 t1 (by omega) (by omega);generalize (Xw a b op f (Qm a x v).1 (Qm b y v).1 st)=r0 at*;have j2:=uX ha hb op f _ _ r0.2 s3 t3 (by omega) (by omega);generalize (Xw a b op f (Qm a x v).2 (Qm b y v).2 r0.2)=r1 at*;intro t ht;simp only[XP,QO] at ht;rcases ht with ht | rfl
   ·rcases j2 t ht with h1 | h1
    ·rcases j1 t h1 with h2 | h2
     ·exact .inl h2
     ·exact .inr (by omega)
    ·exact .inr (by omega)
   ·exact .inr (by simp only;omega)
theorem TG (base:Nat)(p:CP)(ha:V0 p.D.a)(hb:V0 p.D.b)(dw:p.D.n<=1000000000000/\p.D.m<=1000000000000):∀(m:Nat)(x y:Int)(st:List Br×List Tr3)(NA:Option Addr)(nc:Nat)(w:World),
  CK w base p->CSt w base p NA nc st->0<=x->0<=y->x+y<m->x<p.D.n+2->y<p.D.m+2->(Xw p.D.a p.D.b p.D.op m x y st).2.1.length<=100000000000->
  Fn Tryz.prog 188 (cQ (x,y,0)::p.caps) w (λv w'=>v= .int .i64 (Xw p.D.a p.D.b p.D.op m x y st).1/\CTo w base p NA (Xw p.D.a p.D.b p.D.op m x y st).2 w')
 | 0,x,y,st,NA,nc,w,_,_,x0,y0,hm,_,_,_=>by omega
 | m+1,x,y,st,NA,nc,w,hK,hS,x0,y0,hm,hx,hy,XL=>by
  have ih:=TG base p ha hb dw m;have Vc:p.D.a.length=p.D.n:=hK.as_.2;have ew:p.D.b.length=p.D.m:=hK.bs.2;have nz:=hS.bd.top;have OJ:∀i,Qk NA i->base<=i:=λi hi=>(hS.bd.own.rows i hi).1
  refine QJ (c:={RQ with cuts:=[1]}) Qa Tryz.func188 rfl rfl rfl ?_;refine new (λw1 Qe Q6 Qh=>?_)
  replace Qh:Blk w1 w.heap.size 242 (eX (x,y,0)):=Qh;have Ks:=hK.ext Qe;have Vm:=hS.ext Qe;have oB:w.heap.size<w1.heap.size:=by omega
  refine gR [] Qa [] (λ_:Unit=>[]) (λ_ w'=>w1=w'/\¬(x<2/\y<2)) ?_ ?_
  ·refine index (j:=0) (by decide) ?_;refine Qo Qh rfl ?_;refine Qw (λc1=>?_) (λc1=>?_)
   ·refine index (j:=1) (by decide) ?_;refine Qo Qh rfl ?_;refine Qw (λc2=>?_) (λc2=>?_)
    ·refine index (j:=2) (by decide) ?_;refine Qo Qh rfl ?_;refine Zy (show(0:Int)<2 by decide) ?_;refine Qz Ks.oxb rfl ?_;refine index (j:=0) (by decide) ?_;refine Qo Qh rfl ?_;refine index (j:=1) (by decide) ?_;refine Qo Qh rfl ?_;refine index (j:=2) (by decide) ?_;refine Qo Qh rfl ?_;rw[lR ⟨c1,c2⟩,TF x0 c1 y0 c2];refine call (hQW hK.hF p.ob (decide (x=1)) (decide (y=1)) (decide ((0:Int)=1)) w1 Ks.obb) ?_;rintro v _ ⟨rfl,rfl⟩;cases KP p.D.op (decide (x=1)) (decide (y=1))with
     | true=>
      refine Xd rfl ?_;exact⟨rfl,NA,nc,Vm,Mod.of_ext _ Qe,Moved.refl _ _⟩
     | false=>
      refine Q9 rfl ?_;exact⟨rfl,NA,nc,Vm,Mod.of_ext _ Qe,Moved.refl _ _⟩
    ·exact⟨(),rfl,rfl,λhh=>c2 hh.2⟩
   ·exact⟨(),rfl,rfl,λhh=>c1 hh.1⟩
  rintro⟨⟩ _ ⟨rfl,Xr⟩;obtain⟨mq,fx,YY⟩:=Vm.memo;refine Qz Ks.mxb rfl ?_;refine Qt Qh rfl ?_;refine GV (kv:=cQ) (a:=((x,y,0):I3)) Qa rfl rfl rfl rfl Cz rfl rfl fx ?_;cases k:st.2.find? (λt=>decide (t.1=x/\t.2.1=y))with
  | some t=>
   have aN:XG ((x,y,0):I3) mq=some (.int .i64 t.2.2):=by rw[YY,ky,k]<;>rfl
   refine Xd (by rw[aN];rfl) ?_;rw[lS Xr k];exact⟨by rw[aN];rfl,NA,nc,Vm,Mod.of_ext _ Qe,Moved.refl _ _⟩
  | none=>
  have aN:XG ((x,y,0):I3) mq=none:=by rw[YY,ky,k]<;>rfl
  refine Q9 (by rw[aN];rfl) ?_;have ZP:min (Ql p.D.a x) (Ql p.D.b y)<64:=by
   by_cases c:x<2
   ·have:=aZ hb (n:=y) (λc2=>Xr ⟨c,c2⟩) (by omega);rw[Jk];split<;>omega
   ·have:=aZ ha (n:=x) c (by omega);rw[Jk];split<;>omega
  have OK:SB w1 none 0 0 []:=SlS.nil _;have qL:∀w',Ext w1 w'->∀(j:Nat) (v:Value),p.lC[j]? =some v->w'.cell? ((⟨p.lx,0,none⟩:Addr).add j)=some v:=λw' Qb j v hj=>by rw[(Ks.lxb.ext Qb).cell];exact hj
  have qN:∀w',Ext w1 w'->∀(j:Nat) (v:Value),(eX (x,y,0))[j]? =some v->w'.cell? ((⟨w.heap.size,0,none⟩:Addr).add j)=some v:=λw' Qb j v hj=>by rw[(Qh.ext Qb).cell];exact hj
  refine XR Qa (Ext w1) 17 [(true,0),(true,1),(true,2),(true,3),(true,5),(true,6),(true,7),(true,8),(true,10),(true,11),(true,12),(true,13),(false,4),(false,9),(false,14),(true,15),(true,16)] (by kernel_rfl) (Ext.drew w1) ?_;refine Kc (j:=0) (by decide) ?_;refine Xv (vs:=[.slice p.D.A p.D.n p.D.c,.int .i64 p.D.ra]) rfl (λw' Qb j v hj=>by
   rw[add_add,(Ks.lxb.ext Qb).cell]
   match j,hj with
   | 0,hj=>exact hj
   | 1,hj=>exact hj) ?_
  refine index (j:=0) (by decide) ?_;refine QN (v:=.int .i64 x) (λw' Qb=>qN w' Qb 0 _ rfl) ?_;refine Kc (j:=1) (by decide) ?_;refine Xv (vs:=[.slice p.D.B p.D.m p.D.d,.int .i64 p.D.rb]) rfl (λw' Qb j v hj=>by
   rw[add_add,(Ks.lxb.ext Qb).cell]
   match j,hj with
   | 0,hj=>exact hj
   | 1,hj=>exact hj) ?_
  refine index (j:=1) (by decide) ?_;refine QN (v:=.int .i64 y) (λw' Qb=>qN w' Qb 1 _ rfl) ?_;refine Kc (j:=2) (by decide) ?_;refine Xv (vs:=[.slice none 0 0,.int .i64 0]) rfl (λw' Qb j v hj=>by
   rw[add_add,(Ks.lxb.ext Qb).cell]
   match j,hj with
   | 0,hj=>exact hj
   | 1,hj=>exact hj) ?_
  refine index (j:=2) (by decide) ?_;refine QN (v:=.int .i64 0) (λw' Qb=>qN w' Qb 2 _ rfl) ?_;refine call (eQ p.D.A p.D.n p.D.c p.D.ra x p.D.a _ (Ks.as_.ext (Ext.drew w1)) (by omega)) ?_;rintro u w2 ⟨rfl,Qg⟩;have XB:=(Ext.drew w1).trans Qg;refine⟨XB,?_⟩;refine call (eQ p.D.B p.D.m p.D.d p.D.rb y p.D.b _ (Ks.bs.ext XB) (by omega)) ?_;rintro u w3 ⟨rfl,Qi⟩;have XF:=XB.trans Qi;refine⟨XF,?_⟩;refine call (eQ none 0 0 0 0 [] _ (OK.ext XF) (by simp)) ?_;rintro u w4 ⟨rfl,Qs⟩;have JW:=XF.trans Qs;refine⟨JW,?_⟩;have zf:Ql [] 0=64:=rfl;rw[zf];have OL: -9223372036854775808<=min (Ql p.D.a x) (Ql p.D.b y):=by
   have pos:∀{d:List Br},V0 d->∀{n:Int},n<d.length+2->0<=Ql d n:=λ{d} hd {n} hn=>by
    by_cases h2:n<2
    ·rw[iV h2];omega
    ·obtain⟨z,hz⟩:=W5 h2 hn;rw[eV h2 hz];exact(hd.2 _ _ hz).1
   have p1:=pos ha (n:=x) (by omega);have p2:=pos hb (n:=y) (by omega);rw[Jk];split<;>omega
  have L6:(if(64:Int)<(if Ql p.D.b y<Ql p.D.a x then Ql p.D.b y else Ql p.D.a x)then 64 else(if Ql p.D.b y<Ql p.D.a x then Ql p.D.b y else Ql p.D.a x))=min (Ql p.D.a x) (Ql p.D.b y):=by
   rw[Jk] at ZP ⊢;split at ZP<;>split<;>split<;>omega
  refine norm (m:=min (Ql p.D.a x) (Ql p.D.b y)) L6 ?_;rw[lT Xr k _ rfl] at XL ⊢;generalize Ay:min (Ql p.D.a x) (Ql p.D.b y)=v at*;have QR:=Qh.ext JW;have Yl:=Ks.ext JW;have aD:=Vm.ext JW;have Xp:=Qe.trans JW;have DO:=JW.size;refine new (λw5 Qx KI pz=>?_);refine new (λw6 QQ bu L7=>?_);have XM:=Qx.trans QQ;have L8:=pz.ext QQ;have Q7:=QR.ext XM;have dh:=Yl.ext XM;have bA:=aD.ext XM;have XX:=Xp.trans XM;obtain⟨s1,s2,s3,s4,s5⟩:=W4 ha (n:=x) x0 ZP;obtain⟨t1,t2,t3,t4,t5⟩:=W4 hb (n:=y) y0 ZP;refine loop Qa [64] (λs:Nat=>[.int .i64 s]) (λs w'=>Mod (λi=>i=w4.heap.size∨i=w5.heap.size) w6 w'/\s<=3/\Blk w' w4.heap.size 242 (eX (if 0<s then(Qm p.D.a x v).1 else 0,if 1<s then(Qm p.D.b y v).1 else 0,0))/\Blk w' w5.heap.size 242 (eX (if 0<s then(Qm p.D.a x v).2 else 0,if 1<s then(Qm p.D.b y v).2 else 0,0))) (λs _=>3-s) 0 rfl ⟨Mod.refl _ _,Xo _,L8,L7⟩ ?_;rintro s w7 ⟨Xe,sh,gh,dW⟩;have hbz:base<=w4.heap.size:=by have:=Qe.size;omega
  have cQb:w5.heap.size=w4.heap.size+1:=KI;have Az:w.heap.size<w4.heap.size:=by omega
  have AA:∀k,k<w4.heap.size->¬(k=w4.heap.size∨k=w5.heap.size):=λk hk e=>by omega
  have hlx:=hK.off p.lx (by simp);have Xh:Ext w w7:=Xe.ext XX (λi hi=>by omega);have pA:Ext w1 w7:=Xe.ext (JW.trans XM) (λi hi=>by omega);have K9:Ext w4 w7:=Xe.ext XM (λi hi=>by omega);have Q3:=QR.ext K9;have aE:=Yl.ext K9;have V8:=aD.ext K9;have W8:=Xe.size;have nLX:=AA p.lx (by omega);have nB:=AA w.heap.size Az;have h0:Qm [] 0 v=(0,0):=by unfold Qm;rw[Qf (show Ql [] 0≠v by rw[zf];omega)]
  by_cases hs:s<3
  ·rcases(show s=0∨s=1∨s=2 by omega)with rfl | rfl | rfl
   ·refine Zy (show((0:Nat):Int)<3 by decide) ?_;refine XR Qa (Mod (λi=>i=w4.heap.size∨i=w5.heap.size) w7) 17 [(true,0),(true,1),(true,2),(true,3),(true,4),(true,5),(true,6),(true,7),(true,8),(false,9),(true,10),(true,11),(true,12),(true,13),(false,14),(true,15),(false,16)] (by kernel_rfl) (Mod.of_ext _ (Ext.drew w7)) ?_;refine Kc (j:=0) (by decide) ?_;refine Xv (vs:=[.slice p.D.A p.D.n p.D.c,.int .i64 p.D.ra]) rfl (λw' Qb j v hj=>by
     rw[add_add,(aE.lxb.mod Qb nLX).cell]
     match j,hj with
     | 0,hj=>exact hj
     | 1,hj=>exact hj) ?_
    refine index (j:=0) (by decide) ?_;refine QN (v:=.int .i64 x) (λw' Qb=>by rw[(Q3.mod Qb nB).cell];rfl) ?_;refine call (kx p.D.A p.D.n p.D.c p.D.ra x v p.D.a _ (aE.as_.ext (Ext.drew w7)) (by omega) ZP) ?_;rintro u w8 ⟨rfl,Xn⟩;have Ju:=(Ext.drew w7).trans Xn;refine⟨Mod.of_ext _ Ju,?_⟩;refine index (j:=0) (by decide) ?_;refine XV (gh.ext Ju) (by simp) (λw9 Zg ju=>?_);have Vy:Mod (λi=>i=w4.heap.size∨i=w5.heap.size) w7 w9:=(Mod.of_ext _ Ju).trans Zg (λi hi=>.inl (.inl hi));refine⟨Vy,?_⟩;have gc:=Vy.size;refine index (j:=0) (by decide) ?_;refine XV (((dW.ext Ju).mod Zg (by show¬w5.heap.size=w4.heap.size;omega))) (by simp) (λQE ZA gi=>?_);have aF:Mod (λi=>i=w4.heap.size∨i=w5.heap.size) w7 QE:=Vy.trans ZA (λi hi=>.inl (.inr hi));refine⟨aF,?_⟩;have gj:=ju.mod ZA (by show¬w4.heap.size=w5.heap.size;omega);refine Qj ((1:Nat):Int) (by decide) (by decide) ?_;exact⟨1,rfl,⟨Xe.trans aF (λi hi=>.inl hi),by decide,gj,gi⟩,by show 3-1<3-0;decide⟩
   ·refine Zy (show((1:Nat):Int)<3 by decide) ?_;refine XR Qa (Mod (λi=>i=w4.heap.size∨i=w5.heap.size) w7) 17 [(true,0),(true,1),(true,2),(true,3),(true,4),(true,5),(true,6),(true,7),(true,8),(false,9),(true,10),(true,11),(true,12),(true,13),(false,14),(true,15),(false,16)] (by kernel_rfl) (Mod.of_ext _ (Ext.drew w7)) ?_;refine Kc (j:=1) (by decide) ?_;refine Xv (vs:=[.slice p.D.B p.D.m p.D.d,.int .i64 p.D.rb]) rfl (λw' Qb j v hj=>by
     rw[add_add,(aE.lxb.mod Qb nLX).cell]
     match j,hj with
     | 0,hj=>exact hj
     | 1,hj=>exact hj) ?_
    refine index (j:=1) (by decide) ?_;refine QN (v:=.int .i64 y) (λw' Qb=>by rw[(Q3.mod Qb nB).cell];rfl) ?_;refine call (kx p.D.B p.D.m p.D.d p.D.rb y v p.D.b _ (aE.bs.ext (Ext.drew w7)) (by omega) ZP) ?_;rintro u w8 ⟨rfl,Xn⟩;have Ju:=(Ext.drew w7).trans Xn;refine⟨Mod.of_ext _ Ju,?_⟩;refine index (j:=1) (by decide) ?_;refine XV (gh.ext Ju) (by simp) (λw9 Zg ju=>?_);have Vy:Mod (λi=>i=w4.heap.size∨i=w5.heap.size) w7 w9:=(Mod.of_ext _ Ju).trans Zg (λi hi=>.inl (.inl hi));refine⟨Vy,?_⟩;have gc:=Vy.size;refine index (j:=1) (by decide) ?_;refine XV (((dW.ext Ju).mod Zg (by show¬w5.heap.size=w4.heap.size;omega))) (by simp) (λQE ZA gi=>?_);have aF:Mod (λi=>i=w4.heap.size∨i=w5.heap.size) w7 QE:=Vy.trans ZA (λi hi=>.inl (.inr hi));refine⟨aF,?_⟩;have gj:=ju.mod ZA (by show¬w4.heap.size=w5.heap.size;omega);refine Qj ((2:Nat):Int) (by decide) (by decide) ?_;exact⟨2,rfl,⟨Xe.trans aF (λi hi=>.inl hi),by decide,gj,gi⟩,by show 3-2<3-1;decide⟩
   ·refine Zy (show((2:Nat):Int)<3 by decide) ?_;refine XR Qa (Mod (λi=>i=w4.heap.size∨i=w5.heap.size) w7) 17 [(true,0),(true,1),(true,2),(true,3),(true,4),(true,5),(true,6),(true,7),(true,8),(false,9),(true,10),(true,11),(true,12),(true,13),(false,14),(true,15),(false,16)] (by kernel_rfl) (Mod.of_ext _ (Ext.drew w7)) ?_;refine Kc (j:=2) (by decide) ?_;refine Xv (vs:=[.slice none 0 0,.int .i64 0]) rfl (λw' Qb j v hj=>by
     rw[add_add,(aE.lxb.mod Qb nLX).cell]
     match j,hj with
     | 0,hj=>exact hj
     | 1,hj=>exact hj) ?_
    refine index (j:=2) (by decide) ?_;refine QN (v:=.int .i64 0) (λw' Qb=>by rw[(Q3.mod Qb nB).cell];rfl) ?_;refine call (kx none 0 0 0 0 v [] _ (SlS.nil _) (by decide) ZP) ?_;rintro u w8 ⟨rfl,Xn⟩;have Ju:=(Ext.drew w7).trans Xn;refine⟨Mod.of_ext _ Ju,?_⟩;refine index (j:=2) (by decide) ?_;refine XV (gh.ext Ju) (by simp) (λw9 Zg ju=>?_);have Vy:Mod (λi=>i=w4.heap.size∨i=w5.heap.size) w7 w9:=(Mod.of_ext _ Ju).trans Zg (λi hi=>.inl (.inl hi));refine⟨Vy,?_⟩;have gc:=Vy.size;refine index (j:=2) (by decide) ?_;refine XV (((dW.ext Ju).mod Zg (by show¬w5.heap.size=w4.heap.size;omega))) (by simp) (λQE ZA gi=>?_);have aF:Mod (λi=>i=w4.heap.size∨i=w5.heap.size) w7 QE:=Vy.trans ZA (λi hi=>.inl (.inr hi));refine⟨aF,?_⟩;have gj:=ju.mod ZA (by show¬w4.heap.size=w5.heap.size;omega);refine Qj ((3:Nat):Int) (by decide) (by decide) ?_;rw[h0] at gj gi;exact⟨3,rfl,⟨Xe.trans aF (λi hi=>.inl hi),by decide,gj,gi⟩,by show 3-3<3-2;decide⟩
  ·have:s=3:=by omega
   subst this;refine XJ (show¬((3:Nat):Int)<3 by decide) ?_
   replace gh:Blk w7 w4.heap.size 242 (eX ((Qm p.D.a x v).1,(Qm p.D.b y v).1,0)):=gh
   replace dW:Blk w7 w5.heap.size 242 (eX ((Qm p.D.a x v).2,(Qm p.D.b y v).2,0)):=dW;have dx:Ql p.D.a x=v∨Ql p.D.b y=v:=by rw[<-Ay,Jk];split<;>simp
   have dec:(Qm p.D.a x v).1+(Qm p.D.b y v).1<x+y/\(Qm p.D.a x v).2+(Qm p.D.b y v).2<x+y:=by
    rcases dx with e | e
    ·have:=s5 e;omega
    ·have:=t5 e;omega
   have L9:=uX ha hb p.D.op m (Qm p.D.a x v).1 (Qm p.D.b y v).1 st s1 t1 (by omega) (by omega);have Ma:=uX ha hb p.D.op m (Qm p.D.a x v).2 (Qm p.D.b y v).2 (Xw p.D.a p.D.b p.D.op m (Qm p.D.a x v).1 (Qm p.D.b y v).1 st).2 s3 t3 (by omega) (by omega);have mo2:=oA p.D.a p.D.b p.D.op m (Qm p.D.a x v).2 (Qm p.D.b y v).2 (Xw p.D.a p.D.b p.D.op m (Qm p.D.a x v).1 (Qm p.D.b y v).1 st).2;have c1:=ih (Qm p.D.a x v).1 (Qm p.D.b y v).1 st NA nc w7 aE V8 s1 t1 (by omega) (by omega) (by omega);have c2:=λN1 n1 w' h1 h2=>ih (Qm p.D.a x v).2 (Qm p.D.b y v).2 (Xw p.D.a p.D.b p.D.op m (Qm p.D.a x v).1 (Qm p.D.b y v).1 st).2 N1 n1 w' h1 h2 s3 t3 (by omega) (by omega) (by omega)
   generalize (Xw p.D.a p.D.b p.D.op m (Qm p.D.a x v).1 (Qm p.D.b y v).1 st)=r0 at*;generalize (Xw p.D.a p.D.b p.D.op m (Qm p.D.a x v).2 (Qm p.D.b y v).2 r0.2)=r1 at*;have ul:=xO ⟨v,r0.1,r1.1⟩ r1.2.1;have ul2:(Jf ⟨v,r0.1,r1.1⟩ r1.2.1).1.length<=r1.2.1.length+1:=by
    unfold Jf;split
    ·exact xf _
    ·split
     ·exact xf _
     ·simp
   simp only at XL;refine Qz aE.axb rfl ?_;refine Qt gh rfl ?_;refine call (c1 (by omega)) ?_;rintro _ QL ⟨rfl,N1,n1,sj,Jj,zg⟩;have Mb:=dW.lt;have kR:=hS.bd.own.rows;obtain⟨l1,l2,l3⟩:=hS.lt;obtain⟨b1,b2,b3⟩:=hS.bd.lt;have new:∀k,w.heap.size<=k->¬CS p NA k:=λk hk e=>by
    rcases e with e | e | e | e
    ·omega
    ·omega
    ·omega
    ·have:=(kR k e).2;omega
   have gk:=aE.mod OJ Jj;have Mc:=dW.mod Jj (new _ (by omega));have Z6:=Q3.mod Jj (new _ (QB _));have cY:∀i,Qk N1 i->base<=i:=λi hi=>(sj.bd.own.rows i hi).1
   have zh:∀k,w.heap.size<=k->k<w7.heap.size->¬CS p N1 k:=λk hk h7 e=>by
    rcases CS.moved zg k e with e | e
    ·exact new k hk e
    ·omega
   have sn:=Jj.size;have OM:=Q3.lt;refine XR Qa (Mod (CS p N1) QL) 8 [(true,0),(true,1),(true,2),(true,3),(true,4),(false,5),(false,6),(true,7)] (by kernel_rfl) (Mod.of_ext _ (Ext.drew QL)) ?_;have nof:=λk hk=>CS.no (p:=p) cY (gk.off k hk)
   refine QN (v:=VP.ptr p.pb) (λw' Qb=>by rw[(gk.bxb.mod Qb (nof _ (by simp))).cell0];rfl) ?_;refine QN (v:=p.clo) (λw' Qb=>by rw[(gk.axb.mod Qb (nof _ (by simp))).cell0];rfl) ?_;refine Xv (vs:=eX ((Qm p.D.a x v).2,(Qm p.D.b y v).2,0)) rfl (λw' Qb j v hj=>by rw[(Mc.mod Qb (zh _ (by omega) Mb)).cell];exact hj) ?_;refine call (c2 N1 n1 _ (gk.ext (Ext.drew QL)) (sj.ext (Ext.drew QL)) (by omega)) ?_;rintro _ Xb ⟨rfl,N2,n2,co,V7,vQ⟩;have mR:Mod (CS p N1) QL Xb:=(Mod.of_ext _ (Ext.drew QL)).trans V7 (λi hi=>.inl hi);have zi:Moved QL N1 N2:=vQ.back (Ext.drew QL).size;refine⟨mR,?_⟩;have WA:∀i,Qk N2 i->base<=i:=λi hi=>(co.bd.own.rows i hi).1
   refine call (TD base p.pb p.km N2 n2 r1.2.1 ⟨v,r0.1,r1.1⟩ Xb co.bd (by omega)) ?_;rintro _ X9 ⟨rfl,N3,n3,dX,KA,Md⟩;have Me:Mod (CS p N2) Xb X9:=KA.mono (λi hi=>.inl (.inr hi));have mS:Mod (CS p N1) QL X9:=CS.trans mR zi Me;refine⟨mS,?_⟩;have mQ0:=gk.mod cY mR;have Mf:=gk.mod cY mS;have Vw:=Z6.mod mS (zh _ (QB _) OM);obtain⟨Mg,yO,Mh⟩:=co.memo;have Mi:MapQ cQ X9 p.mm Mg:=yO.mod KA (λe=>by
    rcases e with e | e | e
    ·exact l2 e
    ·exact l3 e
    ·have:=WA _ e;omega)
   refine Qz Mf.mxb rfl ?_;refine Qt Vw rfl ?_;refine uw (kv:=cQ) (a:=((x,y,0):I3)) Qa rfl rfl rfl rfl Cz rfl rfl rfl Mi (λZu Vk mQ1 Mj=>?_);have ZW:∀k,k≠p.mm->¬(k=p.mm):=λk h=>h
   obtain⟨d1,d2,d3⟩:=dX.lt;have Mk:∀i,Qk N3 i->base<=i:=λi hi=>(dX.own.rows i hi).1
   obtain⟨kq,ON,OO⟩:=dX.known;have Ml:Bd Zu base p.pb p.km N3 n3 (Jf ⟨v,r0.1,r1.1⟩ r1.2.1).1:=⟨dX.blk.mod Vk (λe=>l2 e.symm),dX.own.mod Vk (λi hi e=>by have:=Mk i hi;have e':i=p.mm:=e;omega),⟨kq,ON.mod Vk (λe=>l3 e.symm),OO⟩,dX.lt,X3 dX.top Vk.size⟩
   have Mm:Mod (CS p NA) w w7:=Mod.of_ext _ Xh;have mQ2:Moved w NA NA:=Moved.refl _ _;have zj:Mod (CS p NA) w QL:=Mm.trans Jj (λi hi=>.inl hi);have zk:Moved w NA N1:=zg.back Xh.size;have Mo:Mod (CS p NA) w X9:=CS.trans zj zk mS;have pB:Mod (CS p NA) w Zu:=Mo.trans Vk (λi hi=>.inl (.inl hi));have Mp:Moved w NA N3:=zk.trans (zi.trans Md mR.size) zj.size;refine⟨rfl,N3,n3,⟨Ml,⟨_,Mj,λx' y'=>?_⟩,hS.lt⟩,pB,Mp⟩;have Xi:r1.2.2.find? (λt=>decide (t.1=x/\t.2.1=y))=none:=by
    rw[xd];intro t ht hh;simp only[VX] at hh;rcases Ma t ht with h1 | h1
    ·rcases L9 t h1 with h2 | h2
     ·have:=xd.1 k t h2;simp only[VX] at this;exact this hh
     ·omega
    ·omega
   rw[bR,Mh,ky,ky,List.find?_append];by_cases YH:(x',y')=(x,y)
   ·cases YH;rw[Qf rfl,Xi];simp
   ·rw[if_neg (λe=>YH (by cases e;rfl))];have: [(x,y,(Jf ⟨v,r0.1,r1.1⟩ r1.2.1).2)].find? (λt:Tr3=>decide (t.1=x'/\t.2.1=y'))=none:=by
     rw[PN]
     ·rfl
     ·simp only[VX];exactλe=>YH (by rw[e.1,e.2])
    rw[this];simp
theorem TH (w:World):Fn Tryz.prog 187 [] w (λv w'=>v=VP.ptr (w.heap.size+1)/\Ext w w'/\w'.heap.size=w.heap.size+2/\Blk w' (w.heap.size+1) 177 [.slice none 0 0,.map (some w.heap.size)]/\MapQ dI w' w.heap.size []):=by
 refine QJ (c:={fQu with cuts:=[]}) Qa Tryz.func187 rfl rfl rfl ?_;refine uv Qa dI rfl ?_;intro w1 Qe Q6 ZE;refine new (λw2 Qg Ze Qy=>?_);rw[Q6] at Qy;exact⟨by rw[Q6];rfl,Qe.trans Qg,by omega,Qy,ZE.ext Qg⟩
theorem hQZ (A:Option Addr)(n c:Nat)(a:List Br)(ra:Int)(B:Option Addr)(m d:Nat)(b:List Br)(rb op:Int)(F ob:Nat)(w:World)(hF:yd F op)(h:SB w A n c a)(h':SB w B m d b)(FB:Blk w ob 139 [.func (.func F) #[] #[]])(ha:V0 a)(hb:V0 b)(r0:0<=ra)(r1:ra<n+2)(s0:0<=rb)(s1:rb<m+2)(hn:n<=1000000000000)(hm:m<=1000000000000)
  (XL:(lU a ra b rb op).2.1.length<=100000000000):
  Fn Tryz.prog 128 [.agg #[.slice A n c,.int .i64 ra,.slice B m d,.int .i64 rb,.slice none 0 0,.int .i64 0],.func (.func 129) #[] #[VP.ptr ob]] w (xM w (Ye a ra b rb op)):=by
 have Vc:=h.2;have ew:=h'.2;have qQs:=FB.lt;refine QJ (c:={RN with cuts:=[]}) Qa Tryz.func128 rfl rfl rfl ?_;refine new (λw1 Qe Q6 Qh=>?_);refine new (λw2 Qg Ze Qy=>?_);refine new (λw3 Qi Jr Qu=>?_);refine call (TH w3) ?_;rintro _ w4 ⟨rfl,Qs,KR,QR,Mq⟩;refine new (λw5 Qx KI QD=>?_);refine XV (j:=0) QD (by decide) (λw6 Vv Q7=>?_);have XM:Ext w4 w6:=Vv.ext Qx (λi hi=>by omega);refine uv Qa cQ rfl ?_;intro w7 Xh W8 Mr;refine new (λw8 Xn YU Xz=>?_);refine XV (j:=0) Xz (by decide) (λw9 Zg JI=>?_);have Vn:Ext w7 w9:=Zg.ext Xn (λi hi=>by omega);refine new (λQE X1 y9 J6=>?_);refine XV (j:=0) J6 (by decide) (λQL Jj Z6=>?_);have z6:=Vv.size;have z9:=Zg.size;have DJ:=Jj.size;have ip:Ext w9 QL:=Jj.ext X1 (λi hi=>by omega);have mT:Ext w6 QL:=(Xh.trans Vn).trans ip;have dY:Ext w4 QL:=XM.trans mT;have Vl:=Qs;have mU:Ext w3 QL:=Qs.trans dY;have WE:Ext w QL:=((Qe.trans Qg).trans Qi).trans mU
 let D:AD:=⟨A,n,c,a,ra,B,m,d,b,rb,op⟩
 let p:CP:=⟨w1.heap.size,ob,w7.heap.size,w.heap.size,w9.heap.size,w4.heap.size,w3.heap.size+1,w3.heap.size,w6.heap.size,F,D⟩
 have zl:=Z6.lt;have hK:CK QL QL.heap.size p:=by
  refine⟨hF,Qy.ext (Qi.trans mU),FB.ext WE,JI.ext ip,Qh.ext ((Qg.trans Qi).trans mU),Z6,Q7.ext mT,h.ext WE,h'.ext WE,λk hk=>?_,λad e h0=>?_,λad e h0=>?_⟩
  ·simp only[p] at hk ⊢;rcases hk with rfl | rfl | rfl | rfl | rfl | rfl<;>omega
  ·have:=SB.lt h ad e h0;simp only[p];omega
  ·have:=SB.lt h' ad e h0;simp only[p];omega
 have hS:CSt QL QL.heap.size p none 0 ([],[]):=by
  refine⟨⟨QR.ext dY,Own.nil _ _ _ _,⟨[],Mq.ext dY,λ_=>rfl⟩,?_,QB _⟩,⟨[],Mr.ext (Vn.trans ip),λ_ _=>rfl⟩,?_⟩
  ·simp only[p];omega
  ·simp only[p];omega
 have Xi:∀i,Qk none i->QL.heap.size<=i:=λi hi=>by obtain⟨_,e,_⟩:=hi;cases e
 have nof:=λk hk=>CS.no (p:=p) Xi (hK.off k hk)
 refine XR Qa (Mod (CS p none) QL) 14 [(true,0),(true,1),(true,2),(true,3),(true,4),(true,5),(true,6),(true,7),(true,8),(true,9),(true,10),(true,11),(false,12),(false,13)] (by kernel_rfl) (Mod.of_ext _ (Ext.drew QL)) ?_;refine QN (v:=VP.ptr p.pb) (λw' Qb=>by rw[(hK.bxb.mod Qb (nof _ (by simp))).cell0];rfl) ?_;refine QN (v:=p.clo) (λw' Qb=>by rw[(hK.axb.mod Qb (nof _ (by simp))).cell0];rfl) ?_;refine Kc (j:=0) (by decide) ?_;refine QN (v:=.int .i64 ra) (λw' Qb=>by rw[add_add,(hK.lxb.mod Qb (nof _ (by simp))).cell];rfl) ?_;refine Kc (j:=1) (by decide) ?_;refine QN (v:=.int .i64 rb) (λw' Qb=>by rw[add_add,(hK.lxb.mod Qb (nof _ (by simp))).cell];rfl) ?_;refine Kc (j:=2) (by decide) ?_;refine QN (v:=.int .i64 0) (λw' Qb=>by rw[add_add,(hK.lxb.mod Qb (nof _ (by simp))).cell];rfl) ?_;have inv:=xQ ha hb op (ra.toNat+rb.toNat+1) ra rb ([],[]) ⟨λj x hx=>by simp at hx,λt ht=>by simp at ht⟩ r0 s0 (by omega) (by omega);refine call (TG QL.heap.size p ha hb ⟨hn,hm⟩ (ra.toNat+rb.toNat+1) ra rb ([],[]) none 0 _ (hK.ext (Ext.drew QL)) (hS.ext (Ext.drew QL)) r0 s0 (by omega) r1 s1 XL) ?_;rintro _ Xb ⟨rfl,NA,nc,co,Ms,vQ⟩;have V7:Mod (CS p none) QL Xb:=(Mod.of_ext _ (Ext.drew QL)).trans Ms (λi hi=>.inl hi);refine⟨V7,?_⟩;have mQ3:(Xw a b op (ra.toNat+rb.toNat+1) ra rb ([],[])).2.1.length<=100000000000:=XL;have zm:SB Xb NA _ nc _:=⟨co.bd.own.sl,rfl⟩
 refine call (Hd p.pb (.map (some p.km)) NA _ nc _ _ Xb co.bd.blk zm inv.1.1 (by show(Xw a b op (ra.toNat+rb.toNat+1) ra rb ([],[])).2.1.length<=_;omega) inv.2.1 inv.2.2 (SB.lt zm)) ?_;rintro _ X9 ⟨OA,k,oc,rfl,XF,zo,jt⟩;have KA:Mod (CS p none) QL X9:=V7.trans (Mod.of_ext (CS p none) XF) (λi hi=>.inl hi);refine⟨KA,?_⟩;have nres:¬CS p none w2.heap.size:=CS.no (p:=p) Xi (by simp only[p];omega);have Vw:=(Qu.ext mU).mod KA nres;refine Qv Vw rfl (sc rfl) (λZu ga _ JV=>?_);have Vk:Mod (·=w2.heap.size) X9 Zu:=qQL ga rfl;refine Qt JV rfl ?_;have sr:Ext w X9:=KA.ext WE (λi hi=>by
  rcases hi with e | e | e | ⟨_,e,_⟩
  ·simp only[p] at e;omega
  ·simp only[p] at e;omega
  ·simp only[p] at e;omega
  ·cases e)
 have z12:=V7.size;have nr:∀i,Qk OA i->¬i=w2.heap.size:=λi hi e=>by have:=jt i hi;omega
 refine⟨OA,k,oc,rfl,Vk.ext sr (λi hi=>by omega),⟨zo.1.modS Vk (λ_ i hi=>nr i hi),zo.2⟩,λi hi=>by have:=jt i hi;have:=WE.size;omega⟩
theorem HI (A:Option Addr)(n c:Nat)(a:List Br)(ra:Int)(B:Option Addr)(m d:Nat)(b:List Br)(rb op:Int)(F:Nat)(w:World)(hF:yd F op)(h:SB w A n c a)(h':SB w B m d b):
  Fn Tryz.prog 82 [Xm A n c ra,Xm B m d rb,.func (.func F) #[] #[]] w (rz w (fM a ra b rb op)):=by
 have Vc:=h.2;have ew:=h'.2;refine QJ (c:={c82 with cuts:=[]}) Qa Tryz.func82 rfl rfl rfl ?_;refine new (λw1 Qe Q6 Qh=>?_);refine new (λw2 Qg Ze Qy=>?_);refine new (λw3 Qi Jr Qu=>?_);refine new (λw4 Qs KR QR=>?_);have Jh:=Qi.trans Qs;have Xp:=(Qe.trans Qg).trans Jh;have JV:=(Qh.ext Qg).ext Jh;have mV:=Qy.ext Jh;have kN:=Qu.ext Qs;refine Qt JV rfl ?_;refine Qt mV rfl ?_;refine Xg Qa [(⟨A,n,c,a,ra⟩:DV).cells,(⟨B,m,d,b,rb⟩:DV).cells] rfl rfl rfl rfl rfl ⟨rfl,rfl,rfl,rfl,⟨⟩⟩ rfl (λcs h=>by simp only[QY,JM,JR] at h;rcases h with rfl | rfl<;>rfl) rfl (by decide) (by decide) ?_;intro w5 Qx KI QD;have JK:=Xp.trans Qx;have hL:SlS DV.cells 2 w5 (some ⟨w4.heap.size,0,none⟩) 2 2 [⟨A,n,c,a,ra⟩,⟨B,m,d,b,rb⟩]:=⟨Sl.own (sz:=2) (n:=2) QD (QB _) (by decide) (by simp[DV.cells]),rfl⟩
 refine call (Cw _ 2 2 _ w5 hL (λx hx=>by
  simp only[QY,JM,JR] at hx;rcases hx with rfl | rfl
  ·exact h.ext JK
  ·exact h'.ext JK)) ?_
 rintro v w6 ⟨rfl,QQ⟩;have XM:=Qx.trans QQ;have XX:=Xp.trans XM;have mQ4:=QR.ext XM;have pQx:=XM.size;have ef:dJ [(⟨A,n,c,a,ra⟩:DV),⟨B,m,d,b,rb⟩]=if XC a ra≠0 then XC a ra else if XC b rb≠0 then XC b rb else 0:=rfl
 refine WW (λc1=>?_) (λc1=>?_)
 ·have e:fM a ra b rb op=(([],0),dJ [(⟨A,n,c,a,ra⟩:DV),⟨B,m,d,b,rb⟩]):=by
   rw[ef] at c1 ⊢;unfold fM;split
   ·rfl
   ·rename_i hh;rw[if_neg hh] at c1;split
    ·rfl
    ·rename_i zd;rw[if_neg zd] at c1;exact Xc rfl c1
  rw[e];refine Qv mQ4 rfl (sc rfl) (λw7 Zv _ Q3=>?_);have Xe:Mod (·=w3.heap.size) w6 w7:=qQL Zv rfl;refine Qt Q3 rfl ?_;exact⟨none,0,0,rfl,Xe.ext XX (λi hi=>by omega),SlS.nil _,λi ⟨_,e,_⟩=>by cases e⟩
 ·rw[ef] at c1;have ca:XC a ra=0:=by
   by_cases hh:XC a ra=0
   ·exact hh
   ·rw[Qf hh] at c1;exact c1
  have cb:XC b rb=0:=by
   rw[if_neg (λhh=>hh ca)] at c1;by_cases hh:XC b rb=0
   ·exact hh
   ·rw[Qf hh] at c1;exact c1
  obtain⟨sa,va⟩:=fL.1 ca;obtain⟨sb,vb⟩:=fL.1 cb;have e:fM a ra b rb op=ku (Ye a ra b rb op):=by unfold fM;rw[if_neg (λhh=>hh ca),if_neg (λhh=>hh cb)]
  rw[e];have hb2:=Ho va vb op;have qg:(a.length+2)*(b.length+2)<=4098*4098:=Nat.mul_le_mul (by omega) (by omega);refine Qt (JV.ext XM) rfl ?_;refine Qt (mV.ext XM) rfl ?_;have FB:Blk w6 w2.heap.size 139 [.func (.func F) #[] #[]]:=kN.ext XM;refine call (hQZ A n c a ra B m d b rb op F w2.heap.size w6 hF (h.ext XX) (h'.ext XX) FB va.dok vb.dok va.2.1 (by have:=va.2.2.1;omega) vb.2.1 (by have:=vb.2.2.1;omega) (by omega) (by omega) (by omega)) ?_;rintro v w7 ⟨OA,k,oc,rfl,Xh,Mt,V6⟩;have K9:=XM.trans Xh;have Vx:=Xp.trans K9;have z67:=XX.size;refine call (TE OA k oc _ _ w4 w7 Mt (λi hi=>by have:=V6 i hi;omega) K9) ?_;rintro v w8 ⟨PA,q,pc,rfl,Xn,zp,pC⟩;refine Qv (QR.ext Xn) rfl (sc rfl) (λw9 dZ _ JI=>?_);have Zg:Mod (·=w3.heap.size) w8 w9:=qQL dZ rfl;refine Qt JI rfl ?_;refine⟨PA,q,pc,rfl,Zg.ext (Xp.trans Xn) (λi hi=>by omega),⟨zp.1.modS Zg (λ_ i hi e=>by have:=pC i hi;omega),zp.2⟩,λi hi=>by have:=pC i hi;omega⟩
theorem yf (A:Option Addr)(n c:Nat)(a:List Br)(ra:Int)(B:Option Addr)(m d:Nat)(b:List Br)(rb:Int)(w:World)(h:SB w A n c a)(h':SB w B m d b):
  Fn Tryz.prog 36 [Xm A n c ra,Xm B m d rb] w (rz w (fM a ra b rb 0)):=by
 refine QJ (c:={c36 with cuts:=[]}) Qa Tryz.func36 rfl rfl rfl ?_;refine new (λw1 Qe Q6 Qh=>?_);refine new (λw2 Qg Ze Qy=>?_);refine new (λw3 Qi Jr Qu=>?_);have QU:=(Qe.trans Qg).trans Qi;refine Qt ((Qh.ext Qg).ext Qi) rfl ?_;refine Qt (Qy.ext Qi) rfl ?_;refine call (HI A n c a ra B m d b rb 0 84 w3 (.inl ⟨rfl,rfl⟩) (h.ext QU) (h'.ext QU)) ?_;rintro v w4 ⟨PA,q,pc,rfl,Qs,fX,df⟩;refine Qv (Qu.ext Qs) rfl (sc rfl) (λw5 JE _ QD=>?_);have Jt:Mod (·=w2.heap.size) w4 w5:=qQL JE rfl;refine Qt QD rfl ?_;obtain⟨g1,g2,g3⟩:=Hx (r:=fM a ra b rb 0) (QU.trans Qs) Jt (by omega) fX (λi hi=>by have:=df i hi;omega);exact⟨PA,q,pc,rfl,g1,g2,g3⟩
theorem TI (A:Option Addr)(n c:Nat)(a:List Br)(ra:Int)(B:Option Addr)(m d:Nat)(b:List Br)(rb:Int)(w:World)(h:SB w A n c a)(h':SB w B m d b):
  Fn Tryz.prog 101 [Xm A n c ra,Xm B m d rb] w (rz w (fM a ra b rb 1)):=by
 refine QJ (c:={eQC with cuts:=[]}) Qa Tryz.func101 rfl rfl rfl ?_;refine new (λw1 Qe Q6 Qh=>?_);refine new (λw2 Qg Ze Qy=>?_);refine new (λw3 Qi Jr Qu=>?_);have QU:=(Qe.trans Qg).trans Qi;refine Qt ((Qh.ext Qg).ext Qi) rfl ?_;refine Qt (Qy.ext Qi) rfl ?_;refine call (HI A n c a ra B m d b rb 1 155 w3 (.inr (.inl ⟨rfl,rfl⟩)) (h.ext QU) (h'.ext QU)) ?_;rintro v w4 ⟨PA,q,pc,rfl,Qs,fX,df⟩;refine Qv (Qu.ext Qs) rfl (sc rfl) (λw5 JE _ QD=>?_);have Jt:Mod (·=w2.heap.size) w4 w5:=qQL JE rfl;refine Qt QD rfl ?_;obtain⟨g1,g2,g3⟩:=Hx (r:=fM a ra b rb 1) (QU.trans Qs) Jt (by omega) fX (λi hi=>by have:=df i hi;omega);exact⟨PA,q,pc,rfl,g1,g2,g3⟩
theorem HJ (A:Option Addr)(n c:Nat)(a:List Br)(ra:Int)(w:World)(h:SB w A n c a):
  Fn Tryz.prog 35 [Xm A n c ra] w (rz w (fM a ra [] 0 3)):=by
 refine QJ (c:={c35 with cuts:=[]}) Qa Tryz.func35 rfl rfl rfl ?_;refine new (λw1 Qe Q6 Qh=>?_);refine new (λw2 Qg Ze Qy=>?_);have QT:=Qe.trans Qg;refine Qt (Qh.ext Qg) rfl ?_;refine call (HI A n c a ra none 0 0 [] 0 3 83 w2 (.inr (.inr ⟨rfl,rfl⟩)) (h.ext QT) (SlS.nil _)) ?_;rintro v w4 ⟨PA,q,pc,rfl,Qs,fX,df⟩;refine Qv (Qy.ext Qs) rfl (sc rfl) (λw5 JE _ QD=>?_);have Jt:Mod (·=w1.heap.size) w4 w5:=qQL JE rfl;refine Qt QD rfl ?_;obtain⟨g1,g2,g3⟩:=Hx (r:=fM a ra [] 0 3) (QT.trans Qs) Jt (by omega) fX (λi hi=>by have:=df i hi;omega);exact⟨PA,q,pc,rfl,g1,g2,g3⟩
end
section
section
variable {α:Type} {f:α->List Value} {sz:Nat}
theorem TJ (hf:∀x,(f x).length=sz):∀(l:List α)(j:Nat),(l.flatMap f).take (j*sz)=(l.take j).flatMap f
 | [],j=>by simp
 | x::l,0=>by simp
 | x::l,j+1=>by
  rw[Vf,fy,Vf,<-TJ hf l j,qF];rw[ZS (by rw[hf,gH];omega),hf,show(j+1)*sz-sz=j*sz by rw[gH];omega]
theorem TK (hf:∀x,(f x).length=sz):∀(l:List α)(j:Nat),(l.flatMap f).drop (j*sz)=(l.drop j).flatMap f
 | [],j=>by simp
 | x::l,0=>by simp
 | x::l,j+1=>by
  rw[Vf,PO,<-TK hf l j,List.drop_append];rw[tU (by rw[hf,gH];omega),hf,show(j+1)*sz-sz=j*sz by rw[gH];omega];rfl
theorem HK (hf:∀x,(f x).length=sz)(l:List α){j:Nat}(x:α)(hj:j<l.length):Vs (j*sz) (f x) (l.flatMap f)=(l.set j x).flatMap f:=by
 have ZF:(j+1)*sz<=l.length*sz:=WN _ hj;rw[gH] at ZF;rw[kn _ _ _ (by rw[hf,eN hf];exact ZF),hf,TJ hf,<-gH,TK hf,List.set_eq_take_append_cons_drop,Qf hj];simp
theorem hQ1 (hf:∀x,(f x).length=sz)(h0:0<sz){z:α}{zc:Array Value}(hz:zc.toList=f z)(n:Nat):(madeCells zc (n*sz)).toList=(List.replicate n z).flatMap f:=by
 have Fr:zc.size=sz:=by rw[<-Array.length_toList,hz,hf]
 apply Bl;intro i;by_cases hi:i<n*sz
 ·have hd:i/sz<n:=Nat.div_lt_of_lt_mul (by rw[xe];exact hi);have hr:i % sz<sz:=bP _ h0;have FC:i/sz*sz+i % sz=i:=by rw[xe];exact Nat.div_add_mod i sz
  have g1:(List.replicate n z)[i/sz]? =some z:=by rw[List.getElem?_replicate,Qf hd]
  have g2:=Xu (l:=f z) (i:=i % sz) (by rw[hf];exact hr);have g3:=kr hf _ _ _ _ _ g1 g2;rw[FC] at g3;rw[g3];have e:zc[i % zc.size]! =(f z)[i % sz]'(by rw[hf];exact hr):=by
   have h1:zc[i % sz]? =some ((f z)[i % sz]'(by rw[hf];exact hr)):=by rw[<-Array.getElem?_toList,hz];exact g2
   rw[Fr,Array.getElem!_eq_getD,Array.getD_eq_getD_getElem?,h1]<;>rfl
  simp[madeCells,hi,e]
 ·rw[qG (by simp[madeCells];omega),qG (by rw[eN hf];simp;omega)]
theorem hQ2 (hf:∀x,(f x).length=sz)(h0:0<sz)(z:α){c:Cx}(hg:c.g.Ok){o:Oper}{S:Env}{w:World}{K:Env->World->Prop}{Q:Zs}{t e:Nat}{x y:Operand}{n:Nat}{r re:TyRow}(ho:o.op= .makeSlice t x y)(hr:Q0 c.g.tys t=some r)(hd:r.d= .slice e)(Zc:Q0 c.g.tys e=some re)(hz:re.z.cells.toList=f z)
  (hs:re.sz=sz) (hx:S.ev x=some (.int .i64 n)) (hy:S.ev y=some (.int .i64 n)) (hb:re.by_*n<=281474976710656) (hn:n<=maxLen)
  (k:∀w1,Ext w w1->w1.heap.size=w.heap.size+1->Blk w1 w.heap.size e ((List.replicate n z).flatMap f)->Xf c S o.dst (.v (.slice (some ⟨w.heap.size,0,none⟩) n n)) (λS=>K S w1)):Zh c o S w K Q:=by
 obtain⟨_,i,hi,XQ,du,dv⟩:=hg.row Zc;have Q5:=(hg.row hr).1;rw[hd] at Q5;have cY:=run_make (P:=c.g.P) w t e i re.z Q5 hi dv .i64 .i64 n n (by omega) (by omega) (by rw[du];omega) (by unfold maxLen at hn;omega);have hm:=hQ1 hf h0 hz n;rw[XQ,hs] at cY;simp only[iO] at cY;refine JT (w':=w.alloc (.cells (madeCells re.z.cells (n*sz)) e)) (v:=.slice (some ⟨w.heap.size,0,none⟩) n n) (λa hf=>?_) (k _ (Ext.alloc w _) (by simp) ?_)
 ·have e1:=hf.ev hx;have e2:=hf.ev hy;simp only[execOp,ho,e1,e2];simp at cY ⊢;rw[cY]<;>rfl
 ·rw[<-hm];simpa using Blk.new w e (madeCells re.z.cells (n*sz)).toList
end
end
section
structure DgI (w0:World) (g:Nat) (f:List Fz) (k n s:Nat) (L:List DV) (w:World):Prop where
 m:Mod (·=g) w0 w
 blk:Blk w g 32 (L.flatMap DV.cells)
 len:L.length=n
 got:∀j,j<s->∃x t,L[j]? =some x/\RepF f t j/\SB w x.A x.n x.c x.nd/\Set1 k x.nd x.r (evF t)/\∀i,Qk x.A i->g<i
theorem SB.mod {S:Nat->Prop}{w w':World}{A:Option Addr}{n c:Nat}{nd:List Br}(h:SB w A n c nd)(hm:Mod S w w')(hr:∀i,Qk A i->¬S i):SB w' A n c nd:=⟨h.1.modS hm (λ_ i hi=>hr i hi),h.2⟩
theorem DgI.mod {w0 w w':World}{g:Nat}{f:List Fz}{k n s:Nat}{L:List DV}(h:DgI w0 g f k n s L w)(k1:Ext w w'):DgI w0 g f k n s L w':=
 ⟨h.m.trans (Mod.of_ext (·=g) k1) (λ_ hi=>.inl hi),h.blk.ext k1,h.len,λj hj=>by
  obtain⟨x,t,h1,h2,h3,h4,h5⟩:=h.got j hj;exact⟨x,t,h1,h2,h3.ext k1,h4,h5⟩⟩
theorem DgI.put {w0 w w':World}{g:Nat}{f:List Fz}{k n s:Nat}{L:List DV}(h:DgI w0 g f k n s L w)(hs:s<n){x:DV}{t:Fm}(ht:RepF f t s)(hx:SB w x.A x.n x.c x.nd)(hS:Set1 k x.nd x.r (evF t))(hr:∀i,Qk x.A i->g<i)(hm:Mod (·=g) w w')
  (hb:Blk w' g 32 (Vs (s*2) x.cells (L.flatMap DV.cells))):DgI w0 g f k n (s+1) (L.set s x) w':=by
 have hl:=h.len;refine⟨h.m.trans hm (λ_ hi=>.inl hi),by rw[<-HK eT L x (by omega)];exact hb,by rw[gG];exact hl,λj hj=>?_⟩;by_cases We:j=s
 ·subst We;exact⟨x,t,by rw[jZ (by omega)],ht,hx.mod hm (λi hi e=>by have:=hr i hi;omega),hS,hr⟩
 ·obtain⟨y,u,h1,h2,h3,h4,h5⟩:=h.got j (by omega);exact⟨y,u,by rw[gK (λe=>We e.symm)];exact h1,h2,h3.mod hm (λi hi e=>by have:=h5 i hi;omega),h4,h5⟩
def DgC (g s:Nat)(L:List DV)(w w':World):Prop:=Mod (·=g) w w'/\∀(j:Nat)(x:DV),j≠s->L[j]? =some x->∀(i:Nat)(v:Value),x.cells[i]? =some v->w'.cell? ((⟨g,0,none⟩:Addr).add (j*2+i))=some v
theorem DgC.of_ext {g s:Nat}{L:List DV}{w w':World}(hb:Blk w g 32 (L.flatMap DV.cells))(h:Ext w w'):DgC g s L w w':=
 ⟨Mod.of_ext _ h,λj x _ hx i v hi=>by rw[(hb.ext h).cell];exact kr eT _ _ _ _ _ hx hi⟩
theorem DgC.put {g s:Nat}{L:List DV}{w w1 w':World}{x:DV}(hs:s<L.length)(h:Ext w w1)(hm:Mod (·=g) w1 w')(hb:Blk w' g 32 (Vs (s*2) x.cells (L.flatMap DV.cells))):DgC g s L w w':=
 ⟨(
  Mod.of_ext (·=g) h).trans hm (λ_ hi=>.inl hi),λj y hj hy i v hi=>by
  rw[hb.cell,HK eT L x hs];exact kr eT _ _ _ _ _ (by rw[gK (λe=>hj e.symm)];exact hy) hi⟩
theorem FV.rep {f:List Fz}(h:FV f){i:Nat}(hi:i<f.length):∃t,RepF f t i:=Sv h.2.2.1 i hi
theorem hQ3 (F:Option Addr)(n cF:Nat)(f:List Fz)(k:Nat)(hk:k<=12)(w:World)(h:SF w F n cF f)(hv:FV f)(Fw:oy k f):
  Fn Tryz.prog 203 [.slice F n cF] w (λv w'=>∃A m c nd r,v= .tuple #[Xm A m c r,.int .i64 0]/\Ext w w'/\SB w' A m c nd/\Set1 k nd r (evF (gW f))/\∀i,Qk A i->w.heap.size<i):=by
 have hn:=h.2;have hvl:=hv.1;have gf:=hv.2.1;refine QJ (c:={fQI with cuts:=[]}) Qa Tryz.func203 rfl rfl rfl ?_;refine new (λw1 Qe Q6 Qh=>?_);refine call (Su F n cF f w1 (h.ext Qe)) ?_;rintro _ w2 ⟨rfl,Qg⟩;refine WX (Cb hv) ?_;have QT:=Qe.trans Qg;refine hQ2 eT (by decide) (⟨none,0,0,[],0⟩:DV) Qa rfl rfl rfl rfl rfl rfl rfl rfl (by show 32*n<=_;omega) (by unfold maxLen;omega) (λw3 Qi Jr Qu=>?_);have QU:=QT.trans Qi;have mQZ:=QT.size;have Ze:w1.heap.size<=w2.heap.size:=Qg.size;refine loop Qa [17] (λs:Nat×List DV=>[.int .i64 s.1]) (λs w'=>DgI w3 w2.heap.size f k n s.1 s.2 w'/\s.1<=n) (λs _=>n-s.1) (0,List.replicate n ⟨none,0,0,[],0⟩) rfl ⟨⟨Mod.refl _ _,Qu,by simp,λj hj=>Xc hj (by simp)⟩,Xo _⟩ ?_;rintro⟨s,L⟩ w4 ⟨hI,hs⟩;simp only at hI hs;have Qs:Ext w w4:=hI.m.ext QU (λi hi=>by omega);have hL:=hI.len;refine Qw (λh1=>?_) (λh1=>?_)
 ·have bK:s<n:=by simp only at h1;omega
  refine Zt B0 (h.ext Qs) rfl bK (λp x hx hc=>?_);refine Jz (vs:=x.cells) rfl hc ?_;refine new (λw5 Qx KI QD=>?_);refine Qv QD rfl (sc rfl) (λw6 WB bu Q7=>?_);have XM:Ext w4 w6:=XT Qx QD WB;have J7:=hI.mod XM;obtain⟨t,ht⟩:=hv.rep (i:=s) (by omega);have KR:=hI.m.size;have cQc:=XM.size;have c0:Set1 k [] 0 (λ_=>false):=bV k false;have hrc:∀i,Qk (none:Option Addr) i->w2.heap.size<i:=λi hi=>by obtain⟨_,e,_⟩:=hi;cases e
  cases t with
  | c b=>
   cases b with
   | false=>
    have YH:x=⟨0,0,0,0⟩:=Option.some.inj (hx.symm.trans ht);subst YH;refine Qz Q7 rfl ?_;refine J0 rfl ?_;refine Qz Q7 rfl ?_;refine call (dM false w6) ?_;rintro _ w7 ⟨rfl,Xh⟩;have cq:=J7.mod Xh;refine Kc (j:=s) bK ?_;refine ko (j:=s*2) (vs:=(⟨none,0,0,[],0⟩:DV).cells) cq.blk (by rw[eN eT,hL];show s*2+2<=n*2;omega) (sc rfl) (λw8 YV YU Xz=>?_);have ZL:Mod (·=w2.heap.size) w7 w8:=qQL YV rfl;have jv:=cq.put bK (x:=⟨none,0,0,[],0⟩) ht (SlS.nil _) (bV k false) hrc ZL Xz;refine WX rfl ?_;refine Qj ((s+1:Nat):Int) (by show((s:Nat):Int)+1=_;omega) (by omega) ?_;exact⟨(s+1,L.set s ⟨none,0,0,[],0⟩),rfl,⟨jv,by show s+1<=n;omega⟩,by show n-(s+1)<n-s;omega⟩
   | true=>
    have YH:x=⟨1,0,0,0⟩:=Option.some.inj (hx.symm.trans ht);subst YH;refine Qz Q7 rfl ?_;refine XK (show¬(1:Int)=0 by decide) ?_;refine J0 rfl ?_;refine Qz Q7 rfl ?_;refine call (dM true w6) ?_;rintro _ w7 ⟨rfl,Xh⟩;have cq:=J7.mod Xh;refine Kc (j:=s) bK ?_;refine ko (j:=s*2) (vs:=(⟨none,0,0,[],1⟩:DV).cells) cq.blk (by rw[eN eT,hL];show s*2+2<=n*2;omega) (sc rfl) (λw8 YV YU Xz=>?_);have ZL:Mod (·=w2.heap.size) w7 w8:=qQL YV rfl;have jv:=cq.put bK (x:=⟨none,0,0,[],1⟩) ht (SlS.nil _) (bV k true) hrc ZL Xz;refine WX rfl ?_;refine Qj ((s+1:Nat):Int) (by show((s:Nat):Int)+1=_;omega) (by omega) ?_;exact⟨(s+1,L.set s ⟨none,0,0,[],1⟩),rfl,⟨jv,by show s+1<=n;omega⟩,by show n-(s+1)<n-s;omega⟩
  | v q=>
   have YH:x=⟨2,(q:Nat),0,0⟩:=Option.some.inj (hx.symm.trans ht);subst YH;have hq:(q:Int)<k:=Fw _ (Xl hx) rfl;refine Qz Q7 rfl ?_;refine XK (show¬(2:Int)=0 by decide) ?_;refine XK (show¬(2:Int)=1 by decide) ?_;refine J0 rfl ?_;refine Qo Q7 rfl ?_;refine call (HG (q:Nat) w6 (by omega) (by omega)) ?_;rintro _ w7 ⟨PA,pn,pc,rfl,Xh,mW,V6⟩;have cq:=J7.mod Xh;have tz:Set1 k [⟨(q:Nat),0,1⟩] 2 (evF (.v q)):=⟨Ct (by omega) (by omega),λb hb=>by simp only[QO] at hb;subst hb;exact hq,λe=>by
    rw[cO (Ct (k:=((q:Nat):Int)) (by omega) (by omega)).wf (by decide) (b:=⟨(q:Nat),0,1⟩) rfl,JX (by simp),JX (by simp)];cases h:e q<;>simp[evF,h]⟩
   refine Kc (j:=s) bK ?_;refine ko (j:=s*2) (vs:=(⟨PA,pn,pc,[⟨(q:Nat),0,1⟩],2⟩:DV).cells) cq.blk (by rw[eN eT,hL];show s*2+2<=n*2;omega) (sc rfl) (λw8 YV YU Xz=>?_);have ZL:Mod (·=w2.heap.size) w7 w8:=qQL YV rfl;have jv:=cq.put bK (x:=⟨PA,pn,pc,[⟨(q:Nat),0,1⟩],2⟩) ht mW tz (λi hi=>by have:=V6 i hi;omega) ZL Xz;refine WX rfl ?_;refine Qj ((s+1:Nat):Int) (by show((s:Nat):Int)+1=_;omega) (by omega) ?_;exact⟨(s+1,L.set s ⟨PA,pn,pc,[⟨(q:Nat),0,1⟩],2⟩),rfl,⟨jv,by show s+1<=n;omega⟩,by show n-(s+1)<n-s;omega⟩
  | not a=>
   obtain⟨j,hj,qh,WJ⟩:=ht;have YH:x=⟨3,0,(j:Nat),0⟩:=Option.some.inj (hx.symm.trans qh);subst YH;obtain⟨y,u,hy,hu,tC,lg,AB⟩:=J7.got j hj;obtain rfl:u=a:=qQP hu WJ;have kY:=iW hk lg c0 3;have XN:=fN lg c0 3;have KB:j<n:=by omega
   refine Qz Q7 rfl ?_;refine XK (show¬(3:Int)=0 by decide) ?_;refine XK (show¬(3:Int)=1 by decide) ?_;refine XK (show¬(3:Int)=2 by decide) ?_;refine J0 rfl ?_;refine Qo Q7 rfl ?_;refine Kc (j:=j) KB ?_;refine eM (j:=j*2) (vs:=y.cells) J7.blk rfl (λi v hi=>kr eT _ _ _ _ _ hy hi) ?_;refine call (HJ y.A y.n y.c y.nd y.r w6 tC) ?_;rw[kY];rintro _ w7 ⟨PA,pn,pc,rfl,Xh,mW,V6⟩;have cq:=J7.mod Xh;have ht:RepF f (.not u) s:=⟨j,hj,qh,WJ⟩
   generalize Ye y.nd y.r [] 0 3=D at*;obtain⟨D1,D2⟩:=D;have tz:Set1 k D1 D2 (evF (.not u)):=XN.congr (λe=>by simp[KP,evF]);refine Kc (j:=s) bK ?_;refine ko (j:=s*2) (vs:=(⟨PA,pn,pc,D1,D2⟩:DV).cells) cq.blk (by rw[eN eT,hL];show s*2+2<=n*2;omega) (sc rfl) (λw8 YV YU Xz=>?_);have ZL:Mod (·=w2.heap.size) w7 w8:=qQL YV rfl;have jv:=cq.put bK (x:=⟨PA,pn,pc,D1,D2⟩) ht mW tz (λi hi=>by have:=V6 i hi;omega) ZL Xz;refine WX rfl ?_;refine Qj ((s+1:Nat):Int) (by show((s:Nat):Int)+1=_;omega) (by omega) ?_;exact⟨(s+1,L.set s ⟨PA,pn,pc,D1,D2⟩),rfl,⟨jv,by show s+1<=n;omega⟩,by show n-(s+1)<n-s;omega⟩
  | and a b=>
   obtain⟨j,l,hj,hl,qh,WJ,gB⟩:=ht;have YH:x=⟨4,0,(j:Nat),(l:Nat)⟩:=Option.some.inj (hx.symm.trans qh);subst YH;obtain⟨y,u,hy,hu,tC,lg,AB⟩:=J7.got j hj;obtain rfl:u=a:=qQP hu WJ;obtain⟨z,u',hz,iE,qi,AC,hzr⟩:=J7.got l hl;obtain rfl:u'=b:=qQP iE gB;have kY:=iW hk lg AC 0;have XN:=fN lg AC 0;have KB:j<n:=by omega
   have iF:l<n:=by omega
   refine Qz Q7 rfl ?_;refine XK (show¬(4:Int)=0 by decide) ?_;refine XK (show¬(4:Int)=1 by decide) ?_;refine XK (show¬(4:Int)=2 by decide) ?_;refine XK (show¬(4:Int)=3 by decide) ?_;refine J0 rfl ?_;refine XR Qa (DgC w2.heap.size s L w6) 19 [(true,0),(true,1),(true,2),(true,3),(true,4),(true,5),(true,6),(true,7),(true,8),(true,9),(true,10),(true,11),(false,12),(true,13),(true,14),(true,15),(true,16),(false,17),(true,18)] (by kernel_rfl) (DgC.of_ext J7.blk (Ext.drew w6)) ?_;have AE:¬w4.heap.size=w2.heap.size:=by omega
   refine QN (v:=.int .i64 (j:Nat)) (λw' Qb=>by rw[(Q7.mod Qb.1 AE).cell];rfl) ?_;refine Kc (j:=j) KB ?_;refine Xv (vs:=y.cells) rfl (λw' Qb i v hi=>by rw[add_add];exact Qb.2 j y (by omega) hy i v hi) ?_;refine QN (v:=.int .i64 (l:Nat)) (λw' Qb=>by rw[(Q7.mod Qb.1 AE).cell];rfl) ?_;refine Kc (j:=l) iF ?_;refine Xv (vs:=z.cells) rfl (λw' Qb i v hi=>by rw[add_add];exact Qb.2 l z (by omega) hz i v hi) ?_;refine call (yf y.A y.n y.c y.nd y.r z.A z.n z.c z.nd z.r _ (tC.ext (Ext.drew w6)) (qi.ext (Ext.drew w6))) ?_;rw[kY];rintro _ w7 ⟨PA,pn,pc,rfl,Mu,mW,V6⟩;have Xh:=(Ext.drew w6).trans Mu;have oQK:=(Ext.drew w6).size;refine⟨DgC.of_ext J7.blk Xh,?_⟩;have cq:=J7.mod Xh;have ht:RepF f (.and u u') s:=⟨j,l,hj,hl,qh,WJ,gB⟩
   generalize Ye y.nd y.r z.nd z.r 0=D at*;obtain⟨D1,D2⟩:=D;have tz:Set1 k D1 D2 (evF (.and u u')):=XN.congr (λe=>by simp[KP,evF]);refine Kc (j:=s) bK ?_;refine ko (j:=s*2) (vs:=(⟨PA,pn,pc,D1,D2⟩:DV).cells) cq.blk (by rw[eN eT,hL];show s*2+2<=n*2;omega) (sc rfl) (λw8 YV YU Xz=>?_);have ZL:Mod (·=w2.heap.size) w7 w8:=qQL YV rfl;have jv:=cq.put bK (x:=⟨PA,pn,pc,D1,D2⟩) ht mW tz (λi hi=>by have:=V6 i hi;omega) ZL Xz;refine⟨DgC.put (by omega) Xh ZL Xz,?_⟩;refine WX rfl ?_;refine Qj ((s+1:Nat):Int) (by show((s:Nat):Int)+1=_;omega) (by omega) ?_;exact⟨(s+1,L.set s ⟨PA,pn,pc,D1,D2⟩),rfl,⟨jv,by show s+1<=n;omega⟩,by show n-(s+1)<n-s;omega⟩
  | or a b=>
   obtain⟨j,l,hj,hl,qh,WJ,gB⟩:=ht;have YH:x=⟨5,0,(j:Nat),(l:Nat)⟩:=Option.some.inj (hx.symm.trans qh);subst YH;obtain⟨y,u,hy,hu,tC,lg,AB⟩:=J7.got j hj;obtain rfl:u=a:=qQP hu WJ;obtain⟨z,u',hz,iE,qi,AC,hzr⟩:=J7.got l hl;obtain rfl:u'=b:=qQP iE gB;have kY:=iW hk lg AC 1;have XN:=fN lg AC 1;have KB:j<n:=by omega
   have iF:l<n:=by omega
   refine Qz Q7 rfl ?_;refine XK (show¬(5:Int)=0 by decide) ?_;refine XK (show¬(5:Int)=1 by decide) ?_;refine XK (show¬(5:Int)=2 by decide) ?_;refine XK (show¬(5:Int)=3 by decide) ?_;refine XK (show¬(5:Int)=4 by decide) ?_;refine J0 rfl ?_;refine XR Qa (DgC w2.heap.size s L w6) 19 [(true,0),(true,1),(true,2),(true,3),(true,4),(true,5),(true,6),(true,7),(true,8),(true,9),(true,10),(true,11),(false,12),(true,13),(true,14),(true,15),(true,16),(false,17),(true,18)] (by kernel_rfl) (DgC.of_ext J7.blk (Ext.drew w6)) ?_;have AE:¬w4.heap.size=w2.heap.size:=by omega
   refine QN (v:=.int .i64 (j:Nat)) (λw' Qb=>by rw[(Q7.mod Qb.1 AE).cell];rfl) ?_;refine Kc (j:=j) KB ?_;refine Xv (vs:=y.cells) rfl (λw' Qb i v hi=>by rw[add_add];exact Qb.2 j y (by omega) hy i v hi) ?_;refine QN (v:=.int .i64 (l:Nat)) (λw' Qb=>by rw[(Q7.mod Qb.1 AE).cell];rfl) ?_;refine Kc (j:=l) iF ?_;refine Xv (vs:=z.cells) rfl (λw' Qb i v hi=>by rw[add_add];exact Qb.2 l z (by omega) hz i v hi) ?_;refine call (TI y.A y.n y.c y.nd y.r z.A z.n z.c z.nd z.r _ (tC.ext (Ext.drew w6)) (qi.ext (Ext.drew w6))) ?_;rw[kY];rintro _ w7 ⟨PA,pn,pc,rfl,Mu,mW,V6⟩;have Xh:=(Ext.drew w6).trans Mu;have oQK:=(Ext.drew w6).size;refine⟨DgC.of_ext J7.blk Xh,?_⟩;have cq:=J7.mod Xh;have ht:RepF f (.or u u') s:=⟨j,l,hj,hl,qh,WJ,gB⟩
   generalize Ye y.nd y.r z.nd z.r 1=D at*;obtain⟨D1,D2⟩:=D;have tz:Set1 k D1 D2 (evF (.or u u')):=XN.congr (λe=>by simp[KP,evF]);refine Kc (j:=s) bK ?_;refine ko (j:=s*2) (vs:=(⟨PA,pn,pc,D1,D2⟩:DV).cells) cq.blk (by rw[eN eT,hL];show s*2+2<=n*2;omega) (sc rfl) (λw8 YV YU Xz=>?_);have ZL:Mod (·=w2.heap.size) w7 w8:=qQL YV rfl;have jv:=cq.put bK (x:=⟨PA,pn,pc,D1,D2⟩) ht mW tz (λi hi=>by have:=V6 i hi;omega) ZL Xz;refine⟨DgC.put (by omega) Xh ZL Xz,?_⟩;refine WX rfl ?_;refine Qj ((s+1:Nat):Int) (by show((s:Nat):Int)+1=_;omega) (by omega) ?_;exact⟨(s+1,L.set s ⟨PA,pn,pc,D1,D2⟩),rfl,⟨jv,by show s+1<=n;omega⟩,by show n-(s+1)<n-s;omega⟩
 ·have bK:s=n:=by simp only at h1;omega
  subst bK;obtain⟨y,u,hy,hu,tC,lg,AB⟩:=hI.got (s-1) (by omega);have FD:=G8 (f:=f) (t:=u) (by rw[hn];exact hu);refine Qj ((s-1:Nat):Int) (by omega) (by omega) ?_;refine Kc (j:=s-1) (by omega) ?_;refine eM (j:=(s-1)*2) (vs:=y.cells) hI.blk rfl (λi v hi=>kr eT _ _ _ _ _ hy hi) ?_;have QR:=((Qh.ext Qg).ext Qi).mod hI.m (by show¬w.heap.size=w2.heap.size;omega);refine Qv QR rfl (sc rfl) (λw5 JE KI QD=>?_);have Jt:Mod (·=w.heap.size) w4 w5:=qQL JE rfl;refine Qt QD rfl ?_;exact⟨y.A,y.n,y.c,y.nd,y.r,rfl,Jt.ext Qs (λi hi=>by omega),tC.mod Jt (λi hi e=>by have:=AB i hi;omega),by rw[FD];exact lg,λi hi=>by have:=AB i hi;omega⟩
end
section
section
abbrev Ke (g o:Nat):Addr:=(⟨g,0,none⟩:Addr).add o
def yg (t m o:Nat):Prop:=liesAt Tryz.prog Tryz.prog.depth t (m/Tryz.prog.cellsOf t) o 109 1=true
theorem HL (g o:Nat):(Ke g o).off=o/\(Ke g o).block=g:=by unfold Ke;rw[rh];exact⟨rfl,rfl⟩
theorem HM {w:World}{g t o j:Nat}{cs:List Value}(h:Blk w g t cs):w.cell? ((Ke g o).add j)=cs[o+j]? :=by unfold Ke;rw[add_add,h.cell]
theorem yh {w:World}{g t o j:Nat}{cs:List Value}{v:Value}{K:Value->Prop}(h:Blk w g t cs)(hv:cs[o+j]? =some v)(k:K v):iP w ((Ke g o).add j) K:=load (by rw[HM h];exact hv) k
theorem TL {w:World}{g t o j:Nat}{cs:List Value}{v:Value}{K:World->Prop}(h:Blk w g t cs)(hj:o+j<cs.length)(k:∀w1,Mod (·=g) w w1->Blk w1 g t (cs.set (o+j) v)->K w1):fG w ((Ke g o).add j) v K:=by
 unfold Ke;rw[add_add];exact XV h hj k
theorem hQ5 (g t o:Nat)(pa:Value)(cs:List Value)(w:World)(hl:yg t cs.length o)(ho:o<cs.length)(hp:pa= .pointer none∨pa= .pointer (some (Ke g o)))(hB:Blk w g t cs)(hc:cs[o]? =some pa):
  Fn Tryz.prog 106 [.pointer (some (Ke g o))] w (λ_ w'=>Mod (·=g) w w'/\Blk w' g t (cs.set o (.pointer (some (Ke g o))))):=by
 obtain⟨j,hj,o9⟩:=RX;refine QJ (c:=RJ) Qa Tryz.func106 rfl rfl rfl ?_;have er:w.shape? (Ke g o).block=some (t,cs.length):=by rw[(HL g o).2];exact hB.shape
 have ucs:=Tryz.underlying107;have uus:=Tryz.underlying240;rcases hp with rfl | rfl
 ·refine yh hB (by simpa using hc) ?_;refine Xd rfl ?_;refine JT (w':=w) (v:=.pointer (some (Ke g o))) (λa hf=>?_) ?_
  ·have e1:=hf.ev (show Env.ev _ (.tmp 8)=some (.pointer (some (Ke g o))) from rfl);have:=Lib.run_to_unsafe (P:=Tryz.prog) (src:=107) (dst:=240) w (Ke g o) ucs uus hj o9 er (by rw[(HL g o).1];exact ho);simp only[execOp,e1];simp[cM,this]
  refine JT (w':=w) (v:=.pointer (some (Ke g o))) (λa hf=>?_) ?_
  ·have e1:=hf.ev (show Env.ev _ (.tmp 9)=some (.pointer (some (Ke g o))) from rfl);have:=run_callFunc_extern (P:=Tryz.prog) (e:=Extern.AbiNoEscape.same) Tryz.func159 (by kernel_rfl) (by kernel_rfl) (by kernel_rfl) (by kernel_rfl) #[.pointer (some (Ke g o))] w;rw[Lib.run_noEscape] at this;simp only[execOp,resolve,invoke];simp[Deferred.ofValue,Act.eval] at e1 ⊢;simp[e1,cM,this]
  refine JT (w':=w) (v:=.pointer (some (Ke g o))) (λa hf=>?_) ?_
  ·have e1:=hf.ev (show Env.ev _ (.tmp 10)=some (.pointer (some (Ke g o))) from rfl);have:=Lib.run_from_unsafe (P:=Tryz.prog) (src:=240) (dst:=107) (u:=109) w (Ke g o) uus ucs hj er (by rw[(HL g o).1];exact hl);simp only[execOp,e1];simp[cM,this]
  refine TL hB (by simpa using ho) (λw1 hm Qh=>?_);exact⟨hm,by simpa using Qh⟩
 ·refine yh hB (by simpa using hc) ?_;refine Q9 rfl ?_;refine yh hB (by simpa using hc) ?_;refine JT (w':=w) (v:=.bool false) (λa hf=>?_) ?_
  ·have e1:=hf.ev (show Env.ev _ (.tmp 17)=some (.pointer (some (Ke g o))) from rfl);have e2:=hf.ev (show Env.ev _ (.tmp 18)=some (.pointer (some (Ke g o))) from rfl);have:=Lib.run_neq_ptr_same (P:=Tryz.prog) (tp:=107) w (Ke g o) ucs hj;simp only[execOp,e1,e2,eqGuard];simp[cM,this]
  refine Q9 rfl ?_;refine⟨Mod.refl _ _,?_⟩;have e:cs.set o (.pointer (some (Ke g o)))=cs:=by
   apply Bl;intro i;by_cases hi:i=o
   ·subst hi;rw[jZ ho,hc]
   ·rw[gK (λe=>hi e.symm)]
  rw[e];exact hB
theorem hQ6 (base g t o:Nat)(pa:Value)(cs:List Value)(A:Option Addr)(c:Nat)(out:List Nat)(s:ByteArray)(w:World)(hl:yg t cs.length o)(ho:o+1<cs.length)(hp:pa= .pointer none∨pa= .pointer (some (Ke g o)))(hB:Blk w g t cs)
  (hc:cs[o]? =some pa) (WD:cs[o+1]? =some (.slice A out.length c)) (Km:Own w base 5 1 A out.length c (VH out)) (fV:g<base) (top:base<=w.heap.size) (hs:out.length+s.size<=140737488355328):
  Fn Tryz.prog 56 [.pointer (some (Ke g o)),.string s] w (λ_ w'=>∃A' c',Blk w' g t ((cs.set o (.pointer (some (Ke g o)))).set (o+1) (.slice A' (out.length+s.size) c'))/\Own w' base 5 1 A' (out.length+s.size) c' (VH (out++Wq s))/\Mod (BldS g A) w w'/\Moved w A A'):=by
 refine QJ (c:=RG) Qa Tryz.func56 rfl rfl rfl ?_;refine call (hQ5 g t o pa cs w hl (by omega) hp hB hc) ?_;rintro v w1 ⟨ZE,Qh⟩;have Yo:=Km.rows;have hn:¬Qk A g:=λh=>by have:=(Yo g h).1;omega
 have r5:=Km.mod ZE (λk hk e=>hn (e▸hk));refine yh Qh (v:=.slice A out.length c) (show(cs.set o (.pointer (some (Ke g o))))[o+1]? =_ by rw[gK (by omega)];exact WD) ?_;refine RU Qa rfl rfl rfl rfl rfl rfl rfl rfl rfl rfl rfl r5 hs (by have:=ZE.size;omega) ?_;intro A' c' w2 XW fd pf;refine TL (Qh.mod XW hn) (by simpa using ho) (λw3 XI Qu=>?_);have r6:=fd.rows;refine⟨A',c',Qu,?_,?_,pf.back ZE.size⟩
 ·rw[BW,<-RW];exact fd.mod XI (λk hk e=>by have:=(r6 k hk).1;omega)
 ·exact((ZE.mono (S':=BldS g A) (λi hi=>.inl (.inl hi))).trans XW (λi hi=>.inl (.inr hi))).trans XI (λi hi=>.inl (.inl hi))
theorem hQ7 (g t o:Nat)(cs:List Value)(A:Option Addr)(c n:Nat)(w:World)(hB:Blk w g t cs)(WD:cs[o+1]? =some (.slice A n c)):
  Fn Tryz.prog 205 [.pointer (some (Ke g o))] w (λv w'=>v= .int .i64 n/\w=w'):=by
 refine QJ (c:=fQJ) Qa Tryz.func205 rfl rfl rfl ?_;refine yh hB WD ?_;exact⟨rfl,rfl⟩
theorem iQa (base g t o:Nat)(cs:List Value)(A:Option Addr)(c:Nat)(out:List Nat)(w:World)(hB:Blk w g t cs)(WD:cs[o+1]? =some (.slice A out.length c))(Km:Own w base 5 1 A out.length c (VH out))(h8:∀x∈out,x<256)(hs:out.length<=140737488355328):
  Fn Tryz.prog 57 [.pointer (some (Ke g o))] w (λv w'=>v= .string (Qd out)/\Mod (Qk A) w w'):=by
 refine QJ (c:=RH) Qa Tryz.func57 rfl rfl rfl ?_;have QZ:(VH out).length=out.length:=uo out;refine XR Qa (Ext w) 10 [(true,0),(true,1),(true,2),(true,3),(true,5),(true,6),(true,7),(true,8),(true,9),(false,4)] (by kernel_rfl) (Ext.drew w) ?_;refine QN (v:=.slice A out.length c) (λw' Qb=>by rw[HM (hB.ext Qb)];exact WD) ?_;refine QN (v:=.slice A out.length c) (λw' Qb=>by rw[HM (hB.ext Qb)];exact WD) ?_;have Lw:out.length=0->Value.string ByteArray.empty=Value.string (Qd out):=λh0=>by
  have:out=[]:=WO h0;subst this;rfl
 by_cases h0:out.length=0
 ·have key:∃p w1,(Builtin.unsafeSliceData_ #[62] 179 #[.slice A out.length c]).run Tryz.prog w.drew= .ok (.pointer p) w1/\Ext w w1:=by
   rcases Km.row.2 with⟨hv,_⟩ | ⟨g',cap,ZR,hv,hb',Yc,_⟩
   ·simp only[Value.slice.injEq] at hv;obtain⟨rfl,_,rfl⟩:=hv;exact⟨none,w.drew,Lib.run_unsafeSliceData_nil _ _ _ _ _,Ext.drew w⟩
   ·simp only[Value.slice.injEq] at hv;obtain⟨rfl,_,rfl⟩:=hv;by_cases yP:c=0
    ·subst yP;have er:w.drew.shape? g'=some (5,ZR.size):=by
      unfold World.shape?;rw[show w.drew.heap[g']? =_ from Yc]
     exact⟨_,_,Lib.run_unsafeSliceData_zero (P:=Tryz.prog) w.drew _ _ 5 Tryz.underlying179 ⟨g',0,none⟩ _ _ er,(Ext.drew w).trans (Ext.alloc _ _)⟩
    ·exact⟨_,w.drew,Lib.run_unsafeSliceData_row (P:=Tryz.prog) w.drew _ _ ⟨g',0,none⟩ _ _ yP,Ext.drew w⟩
  obtain⟨p,w1,Jm,Qe⟩:=key;refine JT (w':=w1) (v:=.pointer p) (λa hf=>?_) ⟨Qe,?_⟩
  ·have e1:=hf.ev (show Env.ev _ (.tmp 6)=some (.slice A out.length c) from rfl);simp only[execOp,resolve,invoke,builtin];simp[cM,e1,Jm]
  refine JT (w':=w1) (v:=.string ByteArray.empty) (λa hf=>?_) ?_
  ·have e1:=hf.ev (show Env.ev _ (.tmp 7)=some (.pointer p) from rfl);have e2:=hf.ev (show Env.ev _ (.tmp 12)=some (.int .i64 out.length) from rfl);have:=Lib.run_unsafeString_none (P:=Tryz.prog) w1 179 3 9 p;rw[h0] at e2;simp only[execOp,resolve,invoke,builtin];simp[cM,e1,e2];rw[this]<;>rfl
  exact⟨Lw h0,Mod.of_ext _ Qe⟩
 ·obtain⟨g',sp,rfl,hb',Vb,ep⟩:=Km.blk (by omega);have ZF:=Km.sl.le;refine JT (w':=w.drew) (v:=.pointer (some ⟨g',0,none⟩)) (λa hf=>?_) ⟨Ext.drew w,?_⟩
  ·have e1:=hf.ev (show Env.ev _ (.tmp 6)=some (.slice (some ⟨g',0,none⟩) out.length c) from rfl);have:=Lib.run_unsafeSliceData_row (P:=Tryz.prog) w.drew #[62] 179 ⟨g',0,none⟩ out.length c (by omega);simp only[execOp,resolve,invoke,builtin];simp[cM,e1,this]
  refine JT (w':=w.drew.freeze ⟨g',0,none⟩ out.length) (v:=.string (Qd out)) (λa hf=>?_) ?_
  ·have e1:=hf.ev (show Env.ev _ (.tmp 7)=some (.pointer (some ⟨g',0,none⟩)) from rfl);have e2:=hf.ev (show Env.ev _ (.tmp 12)=some (.int .i64 out.length) from rfl);have er:w.drew.shape? g'=some (5,(VH out++sp).length):=(Vb.ext (Ext.drew w)).shape;have Ki:(out.map UInt8.ofNat).length=out.length:=by simp
   have:=Lib.run_unsafeString_row (P:=Tryz.prog) w.drew 179 3 9 5 Tryz.underlying179 (by kernel_rfl) g' _ er (out.map UInt8.ofNat) (by intro e;apply h0;rw[<-Ki,e];rfl) (by simp[uo]) (by rw[Ki];omega) (λj x hj=>by
    rw[(Vb.ext (Ext.drew w)).cell];simp only[aR,F7] at hj;obtain⟨y,hy,rfl⟩:=hj;have aJ:j<out.length:=(Jd.1 hy).1;rw[gI (by rw[QZ];exact aJ),rj hy];have:=h8 y (Xl hy);simp[jY this])
   rw[Ki] at this;simp only[execOp,resolve,invoke,builtin];simp[cM,e1,e2];rw[this]<;>rfl
  exact⟨rfl,(Mod.of_ext (Qk _) (Ext.drew w)).trans (RY w.drew g' out.length (S:=Qk (some ⟨g',0,none⟩)) ⟨_,rfl,rfl⟩) (λi hi=>.inl hi)⟩
end
section
def be {α:Type} [DecidableEq α](a:α):List (α×Value)->List (α×Value)
 | []=>[]
 | (b,v)::l=>if a=b then l else(b,v)::be a l
theorem TM {α:Type} [DecidableEq α](a:α):∀l:List (α×Value),(be a l).Sublist l
 | []=>List.Sublist.refl _
 | (b,v)::l=>by
  unfold be;split
  ·exact List.sublist_cons_self _ _
  ·exact(TM a l).cons_cons _
theorem TN {α:Type} [DecidableEq α]{a:α}:∀{l:List (α×Value)},a∉l.map (·.1)->XG a l=none
 | [],_=>rfl
 | (b,v)::l,h=>by
  simp only[Kw,QY,not_or] at h;unfold XG;rw[if_neg h.1];exact TN h.2
theorem TO {α:Type} [DecidableEq α](a b:α):∀l:List (α×Value),(l.map (·.1)).Nodup->XG b (be a l)=if b=a then none else XG b l
 | [],_=>by simp[be,XG]
 | (d,u)::l,hn=>by
  simp only[Kw,Bt] at hn;unfold be;split
  ·rename_i h;subst h;by_cases hb:b=a
   ·subst hb;rw[Qf rfl];exact TN hn.1
   ·rw[if_neg hb];show _=if b=a then _ else XG b l;rw[if_neg hb]
  ·rename_i h;have ih:=TO a b l hn.2;simp only[XG];by_cases hb:b=d
   ·rw[Qf hb,Qf hb,if_neg (λe=>h (by rw[<-e];exact hb))]
   ·rw[if_neg hb,if_neg hb,ih]
theorem TP {α:Type} [DecidableEq α](a:α)(v:Value):∀l:List (α×Value),(l.map (·.1)).Nodup->((Zo a v l).map (·.1)).Nodup/\∀x,x∈(Zo a v l).map (·.1)->x=a∨x∈l.map (·.1)
 | [],_=>by simp[Zo]
 | (b,u)::l,h=>by
  simp only[Kw,Bt] at h;unfold Zo;split
  ·rename_i Vz;exact⟨by simpa using h,λx hx=>.inr (by simpa using hx)⟩
  ·rename_i Vz;obtain⟨h1,h2⟩:=TP a v l h.2;refine⟨?_,λx hx=>?_⟩
   ·rw[Kw,Bt];exact⟨λhm=>by rcases h2 b hm with e | e;exact Vz e.symm;exact h.1 e,h1⟩
   ·rw[Kw,QY] at hx;rcases hx with rfl | hx
    ·exact .inr (by simp)
    ·rcases h2 x hx with e | e
     ·exact .inl e
     ·exact .inr (by rw[Kw,QY];exact .inr e)
theorem TR {α:Type} [DecidableEq α]{d:TypeDesc}{kv:α->Value}(hk:KeyV d kv)(a:α):∀(m:List (α×Value))(bs:List Nat)(i:Nat),bs.length=m.length->
  ∃r,Instr.findNow d (kv a) (X2 kv m bs) i=some r/\(∀j v,r=some (j,v)->i<=j/\j-i<m.length/\(X2 kv m bs).eraseIdx (j-i)=X2 kv (be a m) (bs.eraseIdx (j-i))/\(be a m).length+1=m.length)/\(r=none->be a m=m)
 | [],bs,i,h=>⟨none,rfl,(λj v h=>nomatch h),λ_=>rfl⟩
 | (b,u)::m,[],i,h=>by simp at h
 | (b,u)::m,s::bs,i,h=>by
  have e:X2 kv ((b,u)::m) (s::bs)={key:=kv b,val:=u,born:=s}::X2 kv m bs:=rfl;rw[e];unfold Instr.findNow;simp only[hk.same];by_cases Vz:a=b
  ·subst Vz;simp only[decide_true];refine⟨some (i,u),rfl,λj v hj=>?_,λh=>by cases h⟩;cases hj;refine⟨QB _,by simp,?_,?_⟩
   ·rw[Bk];simp[be]
   ·simp[be]
  ·simp only[Vz,decide_false];obtain⟨r,h1,h3,h4⟩:=TR hk a m bs (i+1) (by simpa using h);refine⟨r,h1,λj v hj=>?_,λhn=>by simp[be,Vz,h4 hn]⟩;obtain⟨h5,h6,h7,h8⟩:=h3 j v hj;refine⟨by omega,by simp;omega,?_,by simp[be,Vz];omega⟩;rw[show j-i=(j-(i+1))+1 by omega];simp only[List.eraseIdx_cons_succ,h7,be,Vz,if_false];rfl
theorem iQb {α:Type} [DecidableEq α]{kv:α->Value}{c:Cx}{o:Oper}{S:Env}{w:World}{K:Env->World->Prop}{Q:Zs}{t t2 ke e:Nat}{r rk:TyRow}{x y:Operand}{q:Nat}{m:List (α×Value)}{a:α}(hg:c.g.Ok)
  (ho:o.op= .call ⟨.builtin .delete, #[x,y], #[t,t2]⟩) (jL:o.dst=none) (hr:Q0 c.g.tys t=some r) (hd:r.d= .map ke e) (cv:Q0 c.g.tys ke=some rk) (hk:KeyV rk.d kv)
  (hx:S.ev x=some (.map (some q))) (hy:S.ev y=some (kv a)) (hm:MapAt kv w q m)
  (k:∀w1,Mod (·=q) w w1->w1.heap.size=w.heap.size->MapAt kv w1 q (be a m)->K S w1):Zh c o S w K Q:=by
 have Q5:=(hg.row hr).1;rw[hd] at Q5;have iB:=(hg.row cv).1;obtain⟨bs,ck,hl,hb⟩:=hm.ex;have Xa:q<w.heap.size:=(gF.1 hb).1;obtain⟨res,h1,h3,h4⟩:=TR hk a m bs 0 hl;have fu:(getObj q).run c.g.P w= .ok (.map (X2 kv m bs).toArray ck) w:=by simp[getObj,Sem.run,hb]
 have gw:∀ob,(setObj q ob).run c.g.P w= .ok () {w with heap:=w.heap.setIfInBounds q ob}:=λob=>by simp[setObj,Sem.run,hb]
 have main:∃aI,aI.length=(be a m).length/\(Builtin.delete_ #[t,t2] o.type #[.map (some q),kv a]).run c.g.P w= .ok (.tuple #[]) {w with heap:=w.heap.setIfInBounds q (.map (X2 kv (be a m) aI).toArray ck)}:=by
  cases res with
  | none=>
   refine⟨bs,by rw[h4 rfl];exact hl,?_⟩;rw[h4 rfl];simp only[Builtin.delete_];simp[Ja Q5,fu,xD iB hk.plain,Instr.findKey,Ja iB,h1,gw]
  | some p=>
   obtain⟨j,u⟩:=p;obtain⟨_,h6,h7,h8⟩:=h3 j u rfl;simp only[Nat.sub_zero] at h6 h7;refine⟨bs.eraseIdx j,by rw[List.length_eraseIdx_of_lt (by omega)];omega,?_⟩;simp only[Builtin.delete_];simp[Ja Q5,fu,xD iB hk.plain,Instr.findKey,Ja iB,h1,gw];rw[h7]
 obtain⟨aI,ep,Jm⟩:=main;unfold Zh;intro b hf;have e1:=hf.ev hx;have e2:=hf.ev hy;refine cJ (v:=.tuple #[]) (w':={w with heap:=w.heap.setIfInBounds q (.map (X2 kv (be a m) aI).toArray ck)}) ?_ ⟨S,by rw[jL];simpa [Act.put] using hf,k _ ⟨rfl,rfl,rfl,by simp,λi _ hi=>?_⟩ (by simp) ⟨aI,ck,ep,by simp[Xa]⟩⟩
 ·simp only[execOp,ho,resolve,invoke,builtin];simp[e1,e2,Jm]
 ·simp only[F6];rw[if_neg (λe=>hi e.symm)]
theorem Own.kind {w:World}{base e sz n c i:Nat}{A:Option Addr}{cs:List Value}(h:Own w base e sz A n c cs)(hi:Qk A i):∃ZR,w.heap[i]? =some (.cells ZR e (0,0)):=by
 obtain⟨ad,rfl,rfl⟩:=hi;rcases h.row.2 with⟨hv,_⟩ | ⟨g,cap,ZR,hv,_,hg,_⟩
 ·cases hv
 ·cases hv;exact⟨ZR,hg⟩
theorem Own.apart {w:World}{b b' e e' sz sz' n n' c c' i:Nat}{A B:Option Addr}{cs cs':List Value}(h:Own w b e sz A n c cs)(h':Own w b' e' sz' B n' c' cs')(QX:e≠e')(hi:Qk A i):¬Qk B i:=λhj=>by
 obtain⟨c1,h1⟩:=h.kind hi;obtain⟨c2,h2⟩:=h'.kind hj;rw[h1] at h2;simp only[Option.some.injEq,Obj.cells.injEq] at h2;exact QX h2.2.1
theorem Blk.apart {w:World}{b e sz n c g t:Nat}{A:Option Addr}{cs cs':List Value}(h:Blk w g t cs)(h':Own w b e sz A n c cs')(QX:t≠e):¬Qk A g:=λhj=>by
 obtain⟨c2,h2⟩:=h'.kind hj;rw[show w.heap[g]? =_ from h] at h2;simp only[Option.some.injEq,Obj.cells.injEq] at h2;exact QX h2.2.1
theorem MapAt.apart {α:Type}{kv:α->Value}{w:World}{b e sz n c q:Nat}{A:Option Addr}{cs':List Value}{m:List (α×Value)}(h:MapAt kv w q m)(h':Own w b e sz A n c cs'):¬Qk A q:=λhj=>by
 obtain⟨c2,h2⟩:=h'.kind hj;obtain⟨bs,ck,_,h1⟩:=h.ex;rw[h1] at h2;cases h2
structure DgO (w:World) (S:Nat->Prop) (k:Nat) (x:DV) (o:BF):Prop where
 sb:SB w x.A x.n x.c x.nd
 st:Set1 k x.nd x.r o
 off:∀ad,x.A=some ad->0<x.n->¬S ad.block
theorem SB.modo {S:Nat->Prop}{w w':World}{A:Option Addr}{n c:Nat}{nd:List Br}(h:SB w A n c nd)(hm:Mod S w w')(hr:∀ad,A=some ad->0<n->¬S ad.block):SB w' A n c nd:=
 ⟨h.1.modS hm (λh0 i hi=>by obtain⟨ad,e,rfl⟩:=hi;exact hr ad e h0),h.2⟩
theorem DgO.step {w w':World}{S S':Nat->Prop}{k:Nat}{x:DV}{o:BF}(h:DgO w S k x o)(hm:Mod S w w')(hs:∀i,S' i->S i∨w.heap.size<=i):DgO w' S' k x o:=
 ⟨h.sb.modo hm h.off,h.st,λad e h0 hS=>by
  rcases hs _ hS with h1 | h1
  ·exact h.off ad e h0 h1
  ·have:=SB.lt h.sb ad e h0;omega⟩
theorem DgO.keep {w w':World}{S T:Nat->Prop}{k:Nat}{x:DV}{o:BF}(h:DgO w S k x o)(hm:Mod T w w')(ht:∀i,T i->S i∨w.heap.size<=i):DgO w' S k x o:=
 ⟨h.sb.modo (hm.mono ht) h.off,h.st,h.off⟩
theorem DgO.ext {w w':World}{S:Nat->Prop}{k:Nat}{x:DV}{o:BF}(h:DgO w S k x o)(hE:Ext w w'):DgO w' S k x o:=⟨h.sb.ext hE,h.st,h.off⟩
theorem DgO.new {w w':World}{S:Nat->Prop}{k:Nat}{A:Option Addr}{n c:Nat}{nd:List Br}{r:Int}{o:BF}(hb:SB w' A n c nd)(hs:Set1 k nd r o)(hr:∀i,Qk A i->w.heap.size<=i)(hS:∀i,S i->i<w.heap.size):DgO w' S k ⟨A,n,c,nd,r⟩ o:=
 ⟨hb,hs,λad e _ h=>by have:=hr ad.block ⟨ad,e,rfl⟩;have:=hS _ h;omega⟩
end
section
def iZ (c:Nat)(l:List Nat):Int:=if c∈l then((l.takeWhile (λb=>b !=c)).length:Nat)else -1
theorem TT {b c:Nat}(hb:b<256)(hc:c<256):(UInt8.ofNat b==UInt8.ofNat c)=(b==c):=by
 rw[qE];simp only[beq_iff_eq];constructor
 ·intro h;have:=QC UInt8.toNat h;simpa [jY hb,jY hc] using this
 ·intro h;rw[h]
theorem CC {c:Nat}(hc:c<256):∀{l:List Nat},(∀x∈l,x<256)->Lib.indexByte (l.map UInt8.ofNat) (UInt8.ofNat c)=iZ c l
 | [],_=>rfl
 | b::l,h=>by
  have ih:=CC hc (l:=l) (λx hx=>h x (by simp[hx]));have hb:b<256:=h b (by simp);rw[Kw,Lib.indexByte,TT hb hc,ih];unfold iZ;by_cases AF:b=c
  ·subst AF;simp
  ·have h1:(b==c)=false:=by simpa using AF
   rw[h1];by_cases hm:c∈l
   ·have h3:¬c=b:=λe=>AF e.symm
    simp[hm,AF,h3]
   ·have h3:¬c=b:=λe=>AF e.symm
    simp[hm,h3]
theorem yi (l:List Nat):(Qd l).data.toList=l.map UInt8.ofNat:=by simp[Qd]
theorem yj {P:Program}{f:FuncId}{l:List Value}{w:World}{v:Value}(h:Calls P f l.toArray w λe w'=>e= .returned v/\w'=w):Fn P f l w (λu w'=>u=v/\w=w'):=by
 unfold Fn;exact h.mono λe w' he=>by obtain⟨rfl,rfl⟩:=he;exact⟨rfl,rfl⟩
theorem HN (l:List Nat)(c:Nat)(w:World)(hl:∀x∈l,x<256)(hc:c<256):
  Fn Tryz.prog 94 [.string (Qd l),.int .u8 c] w (λv w'=>v= .int .i64 (iZ c l)/\w=w'):=by
 have h:=Tryz.strings_IndexByte (Qd l) (c:Int) w;have e:((c:Int).toNat.toUInt8)=UInt8.ofNat c:=rfl;rw[yi,e,CC hc hl] at h;exact yj h
theorem TU (l:List Nat)(c:Nat)(w:World)(hl:∀x∈l,x<256)(hc:c<256):
  Fn Tryz.prog 204 [.string (Qd l),.string (Qd [c])] w (λv w'=>v= .int .i64 (l.count c)/\w=w'):=by
 have h:=Tryz.strings_Count_one (Qd l) (UInt8.ofNat c) w;have e:Lib.countByte (Qd l).data.toList (UInt8.ofNat c)=l.count c:=by
  rw[yi];unfold Lib.countByte;clear h;induction l with
  | nil=>rfl
  | cons b l ih=>
   rw[Kw,Bp,Bp,ih (λx hx=>hl x (by simp[hx])),TT (hl b (by simp)) hc]
 rw[e] at h;exact yj h
def J3 (l:List Nat):List Nat:=l.takeWhile (λb=>b !=32)
def VL (l:List Nat):List Nat:=l.drop ((J3 l).length+1)
theorem iQc (l:List Nat):l.take (J3 l).length=J3 l:=(List.prefix_iff_eq_take.1 (List.takeWhile_prefix _)).symm
theorem TV {l:List Nat}:(J3 l).length<l.length↔32∈l:=by
 unfold J3;induction l with
 | nil=>simp
 | cons b l ih=>
  by_cases hb:b=32
  ·subst hb;simp
  ·have:(b !=32)=true:=by simpa using hb
   rw[an,Qf this];simp only[Q2,Nat.add_lt_add_iff_right,ih,QY];constructor
   ·exactλh=>.inr h
   ·rintro(h | h)
    ·exact Xc h.symm hb
    ·exact h
theorem iQd {l:List Nat}(h:32∈l):l=J3 l++32::VL l:=by
 unfold VL J3;induction l with
 | nil=>simp at h
 | cons b l ih=>
  by_cases hb:b=32
  ·subst hb;simp
  ·have h1:(b !=32)=true:=by simpa using hb
   rw[an,Qf h1];simp only[Q2,PO,Jo];congr 1;refine ih ?_;simp only[QY] at h;rcases h with h | h
   ·exact Xc h.symm hb
   ·exact h
theorem HO {l:List Nat}(h:32∉l):J3 l=l:=by
 unfold J3;induction l with
 | nil=>rfl
 | cons b l ih=>
  simp only[QY,not_or] at h;have h1:(b !=32)=true:=by simpa using λe=>h.1 e.symm
  rw[an,Qf h1,ih h.2]
theorem iQe {l:List Nat}(h:32∈l):((l.takeWhile (λb=>b !=32)).length:Nat)<l.length:=TV.2 h
theorem iQf (l:List Nat)(w:World)(hl:∀x∈l,x<256)(QZ:l.length<=1000000000000):
  Fn Tryz.prog 201 [.string (Qd l),.string (Qd [32])] w (λv w'=>(v=if 32∈l then .tuple #[.string (Qd (J3 l)),.string (Qd (VL l)),.bool true] else .tuple #[.string (Qd l),.string (Qd []),.bool false])/\Ext w w'):=by
 refine QJ (c:=fQG) Qa Tryz.func201 rfl rfl rfl ?_;have h:=Tryz.stringslite_Index_one (Qd l) (UInt8.ofNat 32) w;rw[yi,CC (by decide) hl] at h;refine call (yj h) ?_;rintro _ _ ⟨rfl,rfl⟩;unfold iZ;by_cases hm:32∈l
 ·rw[Qf hm,Qf hm];have Xa:=iQe hm;refine Zy (by show(0:Int)<=_;omega) ?_;refine xy Qa (by kernel_rfl) ?_;refine Xy (v':=.string (Qd (J3 l))) ⟨j0 _,by omega,by rw[Q8];omega⟩ ?_ ?_
  ·rw[KN];exact QC (λx=>Value.string (Qd x)) (iQc l)
  refine Qj (((J3 l).length+1:Nat):Int) (by rw[Q8];show((_:Nat):Int)+1=_;unfold J3;omega) (by unfold J3;omega) ?_;refine Xy (v':=.string (Qd (VL l))) ⟨by omega,by rw[Q8];unfold J3;omega,by rw[Q8];omega⟩ ?_ ?_
  ·rw[KN];unfold VL;rw[Q8];show Value.string (Qd ((l.take l.length).drop _))=_;rw[ZS (QB _)]<;>rfl
  exactλw' hE=>⟨rfl,hE⟩
 ·rw[if_neg hm,if_neg hm];refine XJ (by decide) ?_;exact⟨rfl,Ext.refl _⟩
theorem iQg (l:List Nat)(w:World)(hl:∀x∈l,x<256)(QZ:l.length<=1000000000000):
  Fn Tryz.prog 143 [.string (Qd l),.string (Qd [32])] w (λv w'=>(v=if 32∈l then .tuple #[.string (Qd (J3 l)),.string (Qd (VL l)),.bool true] else .tuple #[.string (Qd l),.string (Qd []),.bool false])/\Ext w w'):=by
 refine QJ (c:=eQ5) Qa Tryz.func143 rfl rfl rfl ?_;refine call (iQf l w hl QZ) ?_;rintro v w1 ⟨rfl,Qe⟩;by_cases hm:32∈l
 ·rw[Qf hm];exact⟨rfl,Qe⟩
 ·rw[if_neg hm];exact⟨rfl,Qe⟩
theorem l9 {kw s:List Nat}(hk:32∉kw):(kw++ [32]).isPrefixOf s=true↔J3 s=kw/\32∈s:=by
 rw[dQH];constructor
 ·rintro⟨r,rfl⟩;refine⟨?_,by simp⟩;unfold J3;rw[ZG,List.takeWhile_append_of_pos (λx hx=>by simpa using λe=>hk (by rw[<-e];exact hx))];simp
 ·rintro⟨h1,h2⟩;have:=iQd h2;rw[h1] at this;exact⟨VL s,by rw[ZG];exact this.symm⟩
theorem HP {kw s:List Nat}(h:J3 s=kw):s.drop (kw.length+1)=VL s:=by unfold VL;rw[h]
def oI:List Nat:=[35,105,102]
def uY:List Nat:=[35,101,108,105,102]
def rJ:List Nat:=[35,105,110,99,108,117,100,101]
theorem iQh {s:List Nat}(h:J3 s=oI)(hm:32∈s):XS s= .ifd (VL s):=by
 unfold XS;rw[Qf (show ZJ.isPrefixOf s=true from (l9 (kw:=oI) (by decide)).2 ⟨h,hm⟩),<-HP h]<;>rfl
theorem iQi {s:List Nat}(h:J3 s=rJ)(hm:32∈s):XS s= .inc (VL s):=by
 unfold XS;rw[if_neg (λhp=>by have:=((l9 (kw:=oI) (by decide)).1 hp).1;rw[h] at this;cases this),Qf (show pInc.isPrefixOf s=true from (l9 (kw:=rJ) (by decide)).2 ⟨h,hm⟩),<-HP h];rfl
theorem iQj {s:List Nat}(h:J3 s=uY)(hm:32∈s):XS s= .elif (VL s):=by
 unfold XS;rw[if_neg (λhp=>by have:=((l9 (kw:=oI) (by decide)).1 hp).1;rw[h] at this;cases this),if_neg (λhp=>by have:=((l9 (kw:=rJ) (by decide)).1 hp).1;rw[h] at this;cases this),
  Qf (show pElif.isPrefixOf s=true from (l9 (kw:=uY) (by decide)).2 ⟨h,hm⟩),<-HP h];rfl
theorem iQk {s:List Nat}(h1:¬(J3 s=oI/\32∈s))(h2:¬(J3 s=rJ/\32∈s))(h3:¬(J3 s=uY/\32∈s)):XS s=if s=Kz then .els else if s=Zb then .en else .txt:=by
 unfold XS;rw[if_neg (λ(hp:ZJ.isPrefixOf s=true)=>h1 ((l9 (kw:=oI) (by decide)).1 hp)),if_neg (λ(hp:pInc.isPrefixOf s=true)=>h2 ((l9 (kw:=rJ) (by decide)).1 hp)),if_neg (λ(hp:pElif.isPrefixOf s=true)=>h3 ((l9 (kw:=uY) (by decide)).1 hp))]
theorem TW:XS Kz= .els:=rfl
theorem TX:XS Zb= .en:=rfl
end
section
section
variable {P:Program} {ops:Array Oper} {md:Region.Mode} {C:World->Prop} {Q:Exit->Act->World->Prop}
def PanW (N:Slots)(Xj:List PanicEntry->World->Prop)(Q:Exit->Act->World->Prop):Exit->Act->World->Prop
 | .panic ch,a,w=>a.tmps.size=N.n/\a.defers=N.ds/\Xj ch w
 | e,a,w=>Q e a w
theorem PanW.put {N:Slots}{Xj:List PanicEntry->World->Prop}{Q:Exit->Act->World->Prop}{ch:List PanicEntry}{a:Act}{d:Option Tmp}{v:Value}{w:World}(h:PanW N Xj Q (.panic ch) (a.put d v) w):PanW N Xj Q (.panic ch) a w:=by
 obtain⟨h1,h2,h3⟩:=h;cases d with
 | none=>exact⟨h1,h2,h3⟩
 | some d=>exact⟨by simpa [Act.put] using h1,by simpa [Act.put] using h2,h3⟩
theorem PanW.imp {c:Cx}{Xj:List PanicEntry->World->Prop}{Q:Zs}(hp:∀ch S w,Xj ch w->Q (.panic ch) S w):∀(e:Exit)(a:Act)(w:World),PanW c.N Xj (Up c Q) e a w->Up c Q e a w:=λe a w h=>by
 cases e<;>first | exact h | (obtain⟨h1,h2,h3⟩:=h;exact⟨[],⟨h1,h2,λk x hk=>by simp[Env.ent] at hk⟩,hp _ _ _ h3⟩)
theorem iQl {N:Slots}{Xj:List PanicEntry->World->Prop}{n i:Nat}{oi:Oper}{v:Value}{L:Array Bool->Act->World->Prop}(hi:ops[i]? =some oi)(jK:∀(j:Nat)(o:Oper) cs b,ops[j]? =some o->o.op≠ .select cs b)
  (hs:ki md ops n) (Q4:i<n) (Ak:∀listed a w,L listed a w->∀j∈Region.ready md ops listed,n<=j):
  ∀(f:Nat) (listed:Array Bool) (a:Act) (w:World),HeadInv md ops n listed->
   (∀j oj,ops[j]? =some oj->j≠i->listed.getD j true=false->(∀e∈oj.after,Region.binds md e=true->e.on≠i)->oi.apart ops oj=true)->
   i∈Region.ready md ops listed->YieldsIf P ops C oi v a->C w->
   Yr P md ops (PanW N Xj Q) C n L f (listed.setIfInBounds i true) (a.put oi.dst v) w->Yr P md ops (PanW N Xj Q) C n L (f+1) listed a w:=by
 intro f;induction f with
 | zero=>
  intro listed a w inv _ hr hy hC H;have J9:=(mem_ready.1 hr).1;refine⟨λh=>(by rw[h] at hr;cases hr),λj hj=>?_⟩;have KB:=ur hs inv Q4 J9 j hj;refine⟨KB,?_⟩;by_cases Vr:j=i
  ·subst Vr;exact hy.wpOp hi hC ⟨hC,H⟩
  ·have:=Ak _ _ _ H j (ready_mono hj Vr);omega
 | succ f ih=>
  intro listed a w inv pZ hr hy hC H;have J9:=(mem_ready.1 hr).1;refine⟨λh=>(by rw[h] at hr;cases hr),λj hj=>?_⟩;have KB:=ur hs inv Q4 J9 j hj;refine⟨KB,?_⟩;by_cases Vr:j=i
  ·subst Vr;exact hy.wpOp hi hC ⟨hC,H⟩
  ·have h1:=(H.2 j (ready_mono hj Vr)).2;obtain⟨p7,oj,gv,hall⟩:=mem_ready.1 hj;have ny:∀e∈oj.after,Region.binds md e=true->e.on≠i:=λe he hb heq=>by
    have h1:=hall e he hb;rw[heq,getD_both J9] at h1;cases h1
   have h2:=wpOp_putIf gv (pZ j oj gv Vr p7 ny) (λcs b=>jK i oi cs b hi) (λcs b=>jK j oj cs b gv) (λ_ _ _ h=>PanW.put h) hy h1;have Am:∀k ok,ops[k]? =some ok->k≠i->(listed.setIfInBounds j true).getD k true=false->
     (∀e∈ok.after,Region.binds md e=true->e.on≠i)->oi.apart ops ok=true:=λk ok hk An J9 Xi=>by
    refine pZ k ok hk An ?_ Xi;by_cases p8:j=k
    ·subst p8;exact p7
    ·rw[getD_set_ne true p8] at J9;exact J9
   refine wpOp_mono (λa' w' h3=>⟨h3.2.1,ih (listed.setIfInBounds j true) a' w' (inv.set hj KB) Am (ready_mono hr (Ne.symm Vr)) h3.1 h3.2.1 ?_⟩) h2;rw[dQG _ _ Vr];exact h3.2.2
end
section
variable {c:Cx} {S:Env} {a:Act}
def me (c:Cx)(Xj:List PanicEntry->World->Prop)(all:List Oper)(C:World->Prop):List (Bool×Nat)->Env->World->(Env->World->Prop)->Prop
 | [],S,w,K=>K S w
 | (true,k)::l,S,w,K=>match Vg all k with
  | some o=>gS all o S (λS=>ro c o S C (λS=>me c Xj all C l S w K)) (λS=>Xf c S o.dst (.v undef) (λS=>me c Xj all C l S w K))
  | none=>False
 | (false,k)::l,S,w,K=>match Vg all k with
  | some o=>gS all o S (λS=>eH c o S w (λS w=>C w/\me c Xj all C l S w K) (λe _ w=>match e with
   | .panic ch=>Xj ch w
   | _=>False)) (λS=>Xf c S o.dst (.v undef) (λS=>me c Xj all C l S w K))
  | none=>False
theorem CD (hg:c.g.Ok){md:Region.Mode}{ops:List Oper}{C:World->Prop}{Q:Exit->Act->World->Prop}{n:Nat}(hs:Region.noSelect ops.toArray=true)(hk:ki md ops.toArray n){K:Env->World->Prop}{Xj:List PanicEntry->World->Prop}:
  ∀(l:List (Bool×Nat)) (listed:Array Bool) (S:Env) (a:Act) (w:World),HeadInv md ops.toArray n listed->eL md ops.toArray n l listed=true->me c Xj ops C l S w K->Fits c.N S a->C w->
  Yr c.g.P md ops.toArray (PanW c.N Xj Q) C n (λJw a' w'=>Region.seqB md ops.toArray (ops.toArray.size-n) n Jw=true/\∃S',Fits c.N S' a'/\K S' w') l.length listed a w
 | [],listed,S,a,w,inv,hB,h,hf,hC=>⟨hB,S,hf,h⟩
 | (true,k)::l,listed,S,a,w,inv,hB,h,hf,hC=>by
  simp only[eL,Z9] at hB;obtain⟨⟨⟨Xk,hr⟩,iw⟩,Vb⟩:=hB;have Xk:k<n:=by rw[iM] at Xk;exact Xk
  have Q5:k∈Region.ready md ops.toArray listed:=by simpa using hr
  obtain⟨_,o,ho,_⟩:=mem_ready.1 Q5;have hn:Vg ops k=some o:=by rw[gP];simpa using ho
  simp only[me,hn] at h;have key:∃v,YieldsIf c.g.P ops.toArray C o v a/\∃S',Fits c.N S' (a.put o.dst v)/\me c Xj ops C l S' w K:=by
   rcases kj h hf with⟨hw,S1,Zp,h1⟩ | ⟨hw,S1,Zp,h1⟩
   ·obtain⟨v,h2,h3⟩:=xB hg h1 Zp;exact⟨v,.inl ⟨hw,h2⟩,h3⟩
   ·exact⟨undef,.inr ⟨hw,rfl⟩,ZH (e:=.v undef) h1 Zp⟩
  obtain⟨v,hy,S',Q1,h'⟩:=key;exact iQl ho (Region.noSelect_spec hs) hk Xk (λJw a' w' hL=>seqB_ready hL.1) l.length listed a w inv (Region.free_spec ho iw) Q5 hy hC
   (CD hg hs hk l _ S' _ w (inv.set Q5 Xk) Vb h' Q1 hC)
 | (false,k)::l,listed,S,a,w,inv,hB,h,hf,hC=>by
  simp only[eL,Z9,VX] at hB;obtain⟨⟨Xk,hr⟩,Vb⟩:=hB;have Xk:k<n:=by rw[iM] at Xk;exact Xk
  have Q5:k∈Region.ready md ops.toArray listed:=by rw[hr];simp
  obtain⟨_,o,ho,_⟩:=mem_ready.1 Q5;have hn:Vg ops k=some o:=by rw[gP];simpa using ho
  simp only[me,hn] at h;have fq:=inv.set Q5 Xk;refine⟨λh0=>(by rw[hr] at h0;cases h0),λi hi=>?_⟩;rw[hr] at hi;have Ao:i=k:=by simpa using hi
  subst Ao;refine⟨Xk,?_⟩;unfold wpOp;simp only[ho];rcases kj h hf with⟨hw,S1,Zp,h1⟩ | ⟨hw,S1,Zp,h1⟩
  ·rw[Qf hw];refine .inl ?_;have h2:=qZ hg h1 Zp;have h3:=Oper.wp_mono (K':=λa' w'=>C w'/\Yr c.g.P md ops.toArray (PanW c.N Xj Q) C n (λJw a' w'=>Region.seqB md ops.toArray (ops.toArray.size-n) n Jw=true/\∃S',Fits c.N S' a'/\K S' w') l.length (listed.setIfInBounds i true) a' w')
    (λa' w' ⟨S',Q1,ZZ,YX⟩=>⟨ZZ,CD hg hs hk l _ S' a' w' fq Vb YX Q1 ZZ⟩) h2
   unfold Oper.wp at h3 ⊢;generalize (execOp a.eval o).run c.g.P w=r at*;cases r with
   | ok nx w'=>
    cases nx<;>simp only[Oper.upon] at h3 ⊢ <;> try exact h3
    exact h3.mono λe Vq he=>by
     cases e with
     | returned v=>exact he
     | panicked ch=>obtain⟨_,hfz,he⟩:=he;exact⟨hfz.size,hfz.defers,he⟩
     | outgrown=>obtain⟨_,_,_,_,he⟩:=he;exact he.elim
   | halt x w'=>cases x<;>simp only[Oper.upon] at h3 ⊢ <;> first | exact h3 | (obtain⟨_,hfz,h3⟩:=h3;exact⟨hfz.size,hfz.defers,h3⟩) | (obtain⟨_,_,h3⟩:=h3;exact h3.elim)
  ·rw[if_neg (by rw[hw];decide)];obtain⟨S',Q1,h'⟩:=ZH (e:=.v undef) h1 Zp;exact⟨hC,CD hg hs hk l _ S' _ w fq Vb h' Q1 hC⟩
theorem iQm (hg:c.g.Ok){id:Nat}{ops:List Oper}{w:World}{Q:Zs}(Xj:List PanicEntry->World->Prop)(OP:∀ch S w,Xj ch w->Q (.panic ch) S w)(C:World->Prop)(n:Nat)(plan:List (Bool×Nat))
  (hB:(Region.noSelect ops.toArray&&Nat.beq plan.length n&&rm .any ops.toArray n&&eL .any ops.toArray n plan (Array.replicate ops.toArray.size false))=true) (hC:C w.drew)
  (h:me {c with named:=1000000} Xj ops C plan S w.drew (λS w=>YJ c ops (ops.drop n) S w (λS w=>Q .normal S w) (λe _ w=>match e with
   | .panic ch=>Xj ch w
   | _=>False))):WV c id ops S w Q:=by
 unfold WV;intro a hf;simp only[Z9] at hB;obtain⟨⟨⟨hs,hl⟩,bJ⟩,JF⟩:=hB;have hl:=VW hl;have hk:=xA bJ;have Fo:n<=ops.length:=by
  rcases hk with hk | hk
  ·rw[hk];simp
  ·have:=hk.1;simp at this;omega
 refine Code.wp_mono (PanW.imp OP) (wp_region_any hg.mixed ?_);have mJ:HeadInv .any ops.toArray n (Array.replicate ops.toArray.size false):=
  ⟨by simp,λj oj _ hl=>(by rw[getD_replicate_false] at hl;cases hl),λt _ ht=>getD_in (by simpa using ht) (getD_replicate_false _ _)⟩
 have H:=CD (c:={c with named:=1000000}) hg (Q:=Up c Q) hs hk plan _ S a _ mJ JF h hf hC;have Yb:(ops.drop n).length=ops.toArray.size-n:=by simp
 have H2:=uq (Q:=PanW c.N Xj (Up c Q)) (g:=ops.toArray.size-n) (λJw a' w' hL=>by
  obtain⟨hq,S',Q1,YX⟩:=hL;have h2:=j8 (c:=c) hg ops _ _ _ _ YX Q1;have:=wpAny_of_seq (P:=c.g.P) (md:=.any) (ops:=ops.toArray) (Q':=PanW c.N Xj (Up c Q)) (ops.drop n) n Jw a' w' (λj=>by simp) (by rw[Yb];exact hq) (lG (λe a w hq=>by
   cases e with
   | normal=>exact hq
   | panic ch=>obtain⟨_,hfz,h⟩:=hq;exact⟨hfz.size,hfz.defers,h⟩
   | _=>exact Xc hq (by rintro⟨_,_,h⟩;exact h)) h2)
  rwa [Yb] at this) _ _ _ _ H
 rw[hl,show n+(ops.toArray.size-n)=ops.toArray.size by simp;omega] at H2;exact H2
end
end
end
section
def VM (l:List Nat):Int:=if ZJ.isPrefixOf l then 1 else if l=Zb then -1 else 0
def dp (ls:List (List Nat)):Int:=(ls.map VM).sum
theorem bX (l:List Nat)(ls:List (List Nat)):dp (l::ls)=VM l+dp ls:=by simp[dp]
theorem i6 (a b:List (List Nat)):dp (a++b)=dp a+dp b:=by simp[dp]
theorem TY (a:List (List Nat)):dp a.reverse=dp a:=by
 induction a with
 | nil=>rfl
 | cons x a ih=>rw[tT,i6,ih,bX,bX];simp[dp];omega
theorem oJ {l:List Nat}(h:XS l= .txt):VM l=0/\l≠Zb/\l≠Kz/\ZJ.isPrefixOf l=false:=by
 unfold XS at h;split at h
 ·cases h
 rename_i h1;split at h
 ·cases h
 split at h
 ·cases h
 split at h
 ·cases h
 split at h
 ·cases h
 ·rename_i h4 h5;have h1:ZJ.isPrefixOf l=false:=fC.2 h1;refine⟨?_,h5,h4,h1⟩;unfold VM;rw[if_neg (by rw[h1];decide),if_neg h5]
def mf:List (List Nat)->List (List Nat)->Nat->Nat->Int->Nat
 | x::a,y::b,k,best,o=>if x=y then mf a b (k+1) (if o+VM x=0 then k+1 else best) (o+VM x)else best
 | _,_,_,best,_=>best
def mi (a b:List (List Nat))(o:Int)(q:Nat):Prop:=1<=q/\q<=a.length/\q<=b.length/\a.take q=b.take q/\o+dp (a.take q)=0
theorem HQ {x y:List Nat}{a b:List (List Nat)}{o:Int}{q:Nat}(hq:1<=q):mi (x::a) (y::b) o (q+1)↔x=y/\mi a b (o+VM x) q:=by
 unfold mi;simp only[Q2,fy,List.cons.injEq,bX];constructor
 ·rintro⟨_,h2,h3,⟨rfl,h4⟩,h5⟩;exact⟨rfl,hq,by omega,by omega,h4,by omega⟩
 ·rintro⟨rfl,_,h2,h3,h4,h5⟩;exact⟨by omega,by omega,by omega,⟨rfl,h4⟩,by omega⟩
theorem TZ:∀(a b:List (List Nat))(k best:Nat)(o:Int),((∀q,¬mi a b o q)/\mf a b k best o=best)∨∃p,mi a b o p/\(∀q,mi a b o q->q<=p)/\mf a b k best o=k+p
 | [],b,k,best,o=>.inl ⟨λq h=>by have:=h.1;have:=h.2.1;simp at this;omega,by cases b<;>rfl⟩
 | x::a,[],k,best,o=>.inl ⟨λq h=>by have:=h.1;have:=h.2.2.1;simp at this;omega,rfl⟩
 | x::a,y::b,k,best,o=>by
  rw[mf];by_cases Xr:x=y
  ·rw[Qf Xr];have one:mi (x::a) (y::b) o 1↔o+VM x=0:=by
    unfold mi;simp[Xr,dp]
   rcases TZ a b (k+1) (if o+VM x=0 then k+1 else best) (o+VM x)with⟨h1,h2⟩ | ⟨p,h1,h2,h3⟩
   ·have lst:∀q,mi (x::a) (y::b) o q->q=1:=λq hq=>by
     have:=hq.1
     match q,hq with
     | 1,_=>rfl
     | q+2,hq=>exact Xc ((HQ (by omega)).1 hq).2 (h1 _)
    by_cases h0:o+VM x=0
    ·rw[Qf h0] at h2 ⊢;exact .inr ⟨1,one.2 h0,λq hq=>by rw[lst q hq];exact QB _,h2⟩
    ·rw[if_neg h0] at h2 ⊢;exact .inl ⟨λq hq=>by have:=lst q hq;subst this;exact h0 (one.1 hq),h2⟩
   ·refine .inr ⟨p+1,(HQ h1.1).2 ⟨Xr,h1⟩,λq hq=>?_,by rw[h3];omega⟩
    match q,hq with
    | 0,_=>omega
    | 1,_=>omega
    | q+2,hq=>have:=h2 _ ((HQ (by omega)).1 hq).2;omega
  ·rw[if_neg Xr];refine .inl ⟨λq hq=>?_,rfl⟩
   match q,hq with
   | 0,hq=>exact Xc hq.1 (by omega)
   | q+1,hq=>have:=hq.2.2.2.1;simp at this;exact Xr this.1
def Yw (a b:List (List Nat)):Nat:=mf a b 0 0 0
theorem CE (a b:List (List Nat)):Yw a b<=a.length/\Yw a b<=b.length/\a.take (Yw a b)=b.take (Yw a b)/\dp (a.take (Yw a b))=0/\∀q,q<=a.length->q<=b.length->a.take q=b.take q->dp (a.take q)=0->q<=Yw a b:=by
 unfold Yw;rcases TZ a b 0 0 0 with⟨h1,h2⟩ | ⟨p,h1,h2,h3⟩
 ·rw[h2];refine⟨Xo _,Xo _,rfl,rfl,λq q1 q2 q3 q4=>?_⟩;by_cases h0:q=0
  ·omega
  ·exact Xc ⟨by omega,q1,q2,q3,by omega⟩ (h1 q)
 ·rw[h3,WQ];obtain⟨p1,p2,p3,p4,p5⟩:=h1;refine⟨p2,p3,p4,by omega,λq q1 q2 q3 q4=>?_⟩;by_cases h0:q=0
  ·omega
  ·exact h2 q ⟨by omega,q1,q2,q3,by omega⟩
def au (a b:List (List Nat)):Nat:=Yw a.reverse b.reverse
theorem uZ {α:Type}(a:List α)(q:Nat)(h:q<=a.length):a.reverse.take q=(a.drop (a.length-q)).reverse:=by
 rw[List.take_reverse]
theorem HS (a b:List (List Nat)):au a b<=a.length/\au a b<=b.length/\a.drop (a.length-au a b)=b.drop (b.length-au a b)/\dp (a.drop (a.length-au a b))=0/\∀q,q<=a.length->q<=b.length->a.drop (a.length-q)=b.drop (b.length-q)->dp (a.drop (a.length-q))=0->q<=au a b:=by
 obtain⟨h1,h2,h3,h4,h5⟩:=CE a.reverse b.reverse;rw[List.length_reverse] at h1 h2;unfold au;rw[uZ _ _ h1,uZ _ _ h2] at h3;rw[uZ _ _ h1,TY] at h4;refine⟨h1,h2,by simpa using h3,h4,λq q1 q2 q3 q4=>h5 q (by simpa using q1) (by simpa using q2) ?_ ?_⟩
 ·rw[uZ _ _ q1,uZ _ _ q2,q3]
 ·rw[uZ _ _ q1,TY];exact q4
def J4 (nm:List (List Nat))(v:Nat)(ng:Bool):List Nat:=ZJ++((if ng then [33] else [])++(nm[v]?).getD [])
def av (nm:List (List Nat))(v:Nat)(h l:List (List Nat)):List (List Nat):=
 let p:=Yw h l
 let h1:=h.drop p
 let l1:=l.drop p
 let s:=au h1 l1
 let h2:=h1.take (h1.length-s)
 let l2:=l1.take (l1.length-s)
 h.take p++((if h2=[] then J4 nm v true::l2 else J4 nm v false::(h2++if l2=[] then [] else Kz::l2))++Zb::h1.drop (h1.length-s))
inductive Tr where
 | nil
 | ln (s:List Nat) (r:Tr)
 | sc (v:Nat) (ng:Bool) (h l r:Tr)
def fl (nm:List (List Nat)):Tr->List (List Nat)
 | .nil=>[]
 | .ln s r=>s::fl nm r
 | .sc v ng h .nil r=>J4 nm v ng::(fl nm h++Zb::fl nm r)
 | .sc v ng h l r=>J4 nm v ng::(fl nm h++Kz::(fl nm l++Zb::fl nm r))
def ap:Tr->Tr->Tr
 | .nil,t=>t
 | .ln s r,t=>.ln s (ap r t)
 | .sc v ng h l r,t=>.sc v ng h l (ap r t)
def Y7 (nm:List (List Nat))(l:Tr):List (List Nat):=match l with
 | .nil=>[]
 | l=>Kz::fl nm l
theorem cR (nm:List (List Nat))(v:Nat)(ng:Bool)(h l r:Tr):fl nm (.sc v ng h l r)=J4 nm v ng::((fl nm h++Y7 nm l)++Zb::fl nm r):=by
 cases l<;>simp[fl,Y7]
theorem gY (nm:List (List Nat)):∀a b:Tr,fl nm (ap a b)=fl nm a++fl nm b
 | .nil,b=>rfl
 | .ln s r,b=>by rw[ap,fl,gY nm r b]<;>rfl
 | .sc v ng h l r,b=>by rw[ap,cR,cR,gY nm r b];simp
def Wt (n:Nat):Tr->Prop
 | .nil=>True
 | .ln s r=>XS s= .txt/\Wt n r
 | .sc v _ h l r=>v<n/\Wt n h/\Wt n l/\Wt n r
theorem i7 {n:Nat}:∀{a b:Tr},Wt n (ap a b)↔Wt n a/\Wt n b
 | .nil,b=>by simp[ap,Wt]
 | .ln s r,b=>by simp[ap,Wt,i7 (a:=r) (b:=b),and_assoc]
 | .sc v ng h l r,b=>by simp[ap,Wt,i7 (a:=r) (b:=b),and_assoc]
theorem rK (nm:List (List Nat))(v:Nat)(ng:Bool):VM (J4 nm v ng)=1:=by
 unfold VM J4;rw[Qf (by simp[ZJ,List.isPrefixOf])]
theorem u7:VM Kz=0:=by decide
theorem yk:VM Zb= -1:=by decide
theorem kz (nm:List (List Nat)){n:Nat}:∀{t:Tr},Wt n t->dp (fl nm t)=0/\∀k,0<=dp ((fl nm t).take k)
 | .nil,_=>⟨rfl,λk=>by simp[fl,dp]⟩
 | .ln s r,h=>by
  obtain⟨h1,h2⟩:=kz nm (t:=r) h.2;have e:=(oJ h.1).1;refine⟨by rw[fl,bX,e,h1];rfl,λk=>?_⟩;cases k with
  | zero=>simp[dp]
  | succ k=>rw[fl,fy,bX,e];have:=h2 k;omega
 | .sc v ng h l r,hw=>by
  obtain⟨_,w1,w2,w3⟩:=hw;obtain⟨a1,a2⟩:=kz nm w1;obtain⟨b1,b2⟩:=kz nm w2;obtain⟨c1,c2⟩:=kz nm w3;have e1:dp (Y7 nm l)=0:=by
   cases l with
   | nil=>rfl
   | _=>rw[Y7,bX,u7,b1];rfl;exactλe=>by cases e
  have e2:∀k,0<=dp ((Y7 nm l).take k):=λk=>by
   cases k with
   | zero=>simp[dp]
   | succ k=>
    cases l with
    | nil=>simp[Y7,dp]
    | _=>
     rw[Y7,fy,bX,u7]
     ·have:=b2 k;omega
     ·exactλe=>by cases e
  rw[cR];refine⟨by rw[bX,i6,i6,bX,rK,yk,a1,e1,c1];rfl,λk=>?_⟩;cases k with
  | zero=>simp[dp]
  | succ k=>
   rw[fy,bX,rK,qF,qF,i6,i6];have h1:=a2 k;have h2:=e2 (k-(fl nm h).length);generalize k-(fl nm h++Y7 nm l).length=q;cases q with
   | zero=>simp only[List.take_zero];show 0<=_+(_+_+dp []);simp only[dp,Bn,List.sum_nil];simp only[dp] at h1 h2;omega
   | succ q=>rw[fy,bX,yk];have:=c2 q;omega
deriving instance DecidableEq for Dir
def Jg:List Nat->List (List Nat)
 | []=>[[]]
 | b::l=>if b=10 then [10]::Jg l else match Jg l with
  | []=>[[b]]
  | s::ls=>(b::s)::ls
theorem HT:∀l,Jg l≠ []
 | []=>by simp[Jg]
 | b::l=>by
  unfold Jg;split
  ·simp
  ·split<;>simp
theorem CF:∀l,(Jg l).length=l.count 10+1
 | []=>rfl
 | b::l=>by
  have ih:=CF l;unfold Jg;split
  ·rename_i h;subst h;simp[ih]
  ·rename_i h;rw[PL h];split
   ·rename_i e;exact Xc e (HT l)
   ·rename_i e;rw[e] at ih;exact ih
theorem CG:∀{l},10∉l->Jg l=[l]
 | [],_=>rfl
 | b::l,h=>by
  simp only[QY,not_or] at h;unfold Jg;rw[if_neg (λe=>h.1 e.symm),CG h.2]
def aw (l:List Nat):List Nat:=l.takeWhile (λb=>b !=10)
theorem iQn {l:List Nat}(h:10∈l):(aw l).length<l.length:=by
 unfold aw;induction l with
 | nil=>cases h
 | cons b l ih=>
  by_cases hb:b=10
  ·subst hb;simp
  ·have h1:(b !=10)=true:=by simpa using hb
   rw[an,Qf h1];simp only[Q2,Nat.add_lt_add_iff_right];exact ih ((QY.1 h).resolve_left (λe=>hb e.symm))
theorem HU:∀{l},10∈l->Jg l=l.take ((aw l).length+1)::Jg (l.drop ((aw l).length+1))
 | [],h=>by cases h
 | b::l,h=>by
  by_cases hb:b=10
  ·subst hb;rw[Jg,Qf rfl];have e:aw (10::l)=[]:=by simp[aw]
   rw[e]<;>rfl
  ·have h1:(b !=10)=true:=by simpa using hb
   have e:aw (b::l)=b::aw l:=by unfold aw;rw[an,Qf h1]
   have ih:=HU ((QY.1 h).resolve_left (λe=>hb e.symm));rw[Jg,if_neg hb,ih,e]<;>rfl
theorem T0:∀{l},(∀x∈l,x<256)->∀s∈Jg l,(∀x∈s,x<256)/\s.length<=l.length
 | [],_,s,hs=>by
  have:s=[]:=by simpa [Jg] using hs
  subst this;exact⟨(λx hx=>by cases hx),QB _⟩
 | b::l,h,s,hs=>by
  have ih:=T0 (l:=l) (λx hx=>h x (by simp[hx]));unfold Jg at hs;split at hs
  ·rcases QY.1 hs with rfl | hs
   ·exact⟨by decide,by simp⟩
   ·exact⟨(ih s hs).1,Nat.le_succ_of_le (ih s hs).2⟩
  ·split at hs
   ·rename_i e;exact Xc e (HT l)
   ·rename_i t ts e;rw[e] at ih;rcases QY.1 hs with rfl | hs
    ·have:=ih t (by simp);exact⟨λx hx=>(QY.1 hx).elim (λe=>e▸h b (by simp)) (this.1 x),by simp;exact this.2⟩
    ·have:=ih s (by simp[hs]);exact⟨this.1,Nat.le_succ_of_le this.2⟩
def bf (l:List Nat):List (List Nat):=if(Jg l).getLast? =some [] then(Jg l).dropLast else Jg l
theorem T3:∀{l},cP l->Jg l=(QF l).map (·++ [10])++ [[]]
 | [],_=>rfl
 | b::l,h=>by
  have hl:cP l:=by
   cases l with
   | nil=>exact .inl rfl
   | cons c l=>right;rcases h with h | h;cases h;simpa using h
  have ih:=T3 hl;unfold Jg QF;by_cases hb:b=10
  ·subst hb;rw[Qf rfl,Qf rfl,ih]<;>rfl
  ·rw[if_neg hb,if_neg hb,ih];cases KL:QF l with
   | nil=>
    have:=Yg hl;rw[KL] at this;have:l=[]:=this.symm;subst this;rcases h with h | h
    ·cases h
    ·simp at h;exact Xc h hb
   | cons t ls=>rfl
theorem u9 {l:List Nat}(h:cP l):bf l=(QF l).map (·++ [10]):=by
 unfold bf;rw[T3 h,Qf (by simp)];simp
def cS (s:List Nat):Bool:=ZJ.isPrefixOf s||pElif.isPrefixOf s||pInc.isPrefixOf s||decide (s=Kz++ [10])||decide (s=Zb++ [10])
theorem ym:∀{p r:List Nat},10∉p->p.isPrefixOf (r++ [10])=p.isPrefixOf r
 | [],r,_=>by simp
 | a::p,[],h=>by
  simp only[QY,not_or] at h;have:(a==10)=false:=by simpa using λe:a=10=>h.1 e.symm
  simp[List.isPrefixOf,this]
 | a::p,b::r,h=>by
  simp only[QY,not_or] at h;simp only[Jo,List.isPrefixOf,ym h.2]
theorem CH (r:List Nat):cS (r++ [10])=decide (XS r≠ .txt):=by
 unfold cS;rw[ym (by decide),ym (by decide),ym (by decide)];have e1:∀k:List Nat,decide (r++ [10]=k++ [10])=decide (r=k):=λk=>by simp
 rw[e1,e1];unfold XS;by_cases h1:ZJ.isPrefixOf r=true
 ·rw[Qf h1,h1];simp
 by_cases h2:pInc.isPrefixOf r=true
 ·rw[if_neg h1,Qf h2,h2];simp
 by_cases h3:pElif.isPrefixOf r=true
 ·rw[if_neg h1,if_neg h2,Qf h3,h3];simp
 by_cases h4:r=Kz
 ·rw[if_neg h1,if_neg h2,if_neg h3,Qf h4,Zx h4];simp
 by_cases h5:r=Zb
 ·rw[if_neg h1,if_neg h2,if_neg h3,if_neg h4,Qf h5,Zx h5];simp
 rw[if_neg h1,if_neg h2,if_neg h3,if_neg h4,if_neg h5,fC.2 h1,fC.2 h2,fC.2 h3,Zr h4,Zr h5];simp
def K5 (l:List Nat):Bool:=bW l&&(QF l).all (λs=>decide (XS s= .txt))
theorem iQo (ls:List (List Nat)):((ls.map (·++ [10])).any cS)= !(ls.all (λs=>decide (XS s= .txt))):=by
 induction ls with
 | nil=>rfl
 | cons s ls ih=>
  rw[Kw,List.any_cons,Bm,ih,CH,Bool.not_and];congr 1;by_cases h:XS s= .txt<;>simp[h]
theorem T4 (r:List Nat):ZJ.isPrefixOf (r++ [10])=ZJ.isPrefixOf r:=ym (by decide)
theorem iQp (l:List Nat)(w:World)(hl:∀x∈l,x<256):
  Fn Tryz.prog 209 [.string (Qd l),.string (Qd [10])] w (λv w'=>v= .int .i64 (iZ 10 l)/\w=w'):=by
 refine QJ (c:=fQL) Qa Tryz.func209 rfl rfl rfl ?_;have h:=Tryz.stringslite_Index_one (Qd l) (UInt8.ofNat 10) w;rw[yi,CC (by decide) hl] at h;refine call (yj h) ?_;rintro _ _ ⟨rfl,rfl⟩;exact⟨rfl,rfl⟩
theorem HV (l p:List Nat)(w:World)(hl:∀x∈l,x<256)(hp:∀x∈p,x<256):
  Fn Tryz.prog 96 [.string (Qd l),.string (Qd p)] w (λv w'=>v= .bool (p.isPrefixOf l)/\w=w'):=by
 refine QJ (c:=c96) Qa Tryz.func96 rfl rfl rfl ?_;refine call (R0 l p w hl hp) ?_;rintro _ _ ⟨rfl,rfl⟩;exact⟨rfl,rfl⟩
theorem T5 (ds:List (List Nat))(n i:Nat)(s:List Nat)(hi:ds.length=i)(hn:i<n):
  (XH ds++List.replicate (n-i) (Value.string ⟨#[]⟩)).set i (.string (Qd s))=XH (ds++ [s])++List.replicate (n-(i+1)) (Value.string ⟨#[]⟩):=by
 have hl:(XH ds).length=i:=by rw[bT,hi]
 rw[Bu _ _ (by omega),hl,Bk,show n-i=(n-(i+1))+1 by omega,PF,PK];simp[XH]
def Sn (w:World)(A:Option Addr)(n c:Nat)(cs:List Value):Prop:=Sl w 1 A n c cs/\(0<n->∃g o,A=some ⟨g,o,none⟩)
theorem Sn.ext {w w':World}{A:Option Addr}{n c:Nat}{cs:List Value}(h:Sn w A n c cs)(k:Ext w w'):Sn w' A n c cs:=⟨h.1.ext k,h.2⟩
theorem iQq (l:List Nat)(w:World)(hl:∀x∈l,x<256)(QZ:l.length<=1000000000):
  Fn Tryz.prog 153 [.string (Qd l),.string (Qd [10]),.int .i64 1,.int .i64 (-1)] w (λu w'=>∃A c,u= .slice A (Jg l).length c/\Ext w w'/\Sn w' A (Jg l).length c (XH (Jg l))):=by
 have JF:=CF l;have cA:l.count 10<=l.length:=List.count_le_length;have XQ:=Q8 l;refine QJ (c:={fQd with cuts:=[]}) Qa Tryz.func153 rfl rfl rfl ?_;refine XK (by decide) ?_;refine Q9 rfl ?_;refine Zy (by decide) ?_;refine call (TU l 10 w hl (by decide)) ?_;rintro _ _ ⟨rfl,rfl⟩;refine Qj ((l.count 10+1:Nat):Int) (by show((_:Nat):Int)+1=_;omega) (by omega) ?_;refine Qj ((l.length+1:Nat):Int) (by rw[XQ];omega) (by omega) ?_;refine norm (m:=((l.count 10+1:Nat):Int)) (by split<;>omega) ?_;refine BU Qa rfl rfl rfl rfl rfl rfl rfl rfl (by show 16*(l.count 10+1)<=_;omega) (by unfold maxLen;omega) (λw1 Qe Q6 Qh=>?_);refine Qj ((l.count 10:Nat):Int) (by omega) (by omega) ?_;generalize OQ:l.count 10=cn at*;refine loop Qa [10,0] (λs:Nat×List (List Nat)×List Nat=>[.int .i64 s.1,.string (Qd s.2.2)]) (λs w'=>Mod (·=w.heap.size) w1 w'/\s.1<=cn/\s.2.1.length=s.1/\Jg l=s.2.1++Jg s.2.2/\(∀x∈s.2.2,x<256)/\s.2.2.length<=l.length/\Blk w' w.heap.size 9 (XH s.2.1++List.replicate (cn+1-s.1) (Value.string ⟨#[]⟩))) (λs _=>cn-s.1) (0,[],l) rfl ⟨Mod.refl _ _,Xo _,rfl,rfl,hl,QB _,Qh⟩ ?_;rintro⟨i,ds,r⟩ w2 ⟨px,hi,jS,KM,fi,lh,Qy⟩;simp only at hi jS KM fi lh Qy;have QH:=Q8 r;have DM:=QC List.length KM;rw[Qq,JF,jS] at DM;refine Qw (λc1=>?_) (λc1=>?_)
 ·have Q4:i<cn:=by simp only at c1;omega
  have hm:10∈r:=Classical.byContradiction (λhh=>by rw[CG hh] at DM;simp at DM;omega);have hhd:=iQn hm;have e1:iZ 10 r=((aw r).length:Nat):=by unfold iZ aw;rw[Qf hm]
  have AG:=iQp r w2 fi;rw[e1] at AG;refine call AG ?_;rintro _ _ ⟨rfl,rfl⟩;refine XJ (by omega) ?_;refine Qj (((aw r).length+1:Nat):Int) (by omega) (by omega) ?_;refine Xy (v':=.string (Qd (r.take ((aw r).length+1)))) ⟨by omega,by omega,by rw[QH];omega⟩ (by rw[KN];rfl) ?_;refine index (j:=i) (by omega) ?_;refine XV Qy (by rw[Qq,bT,List.length_replicate];omega) (λw3 Ji Qu=>?_);rw[T5 ds (cn+1) i _ jS (by omega)] at Qu;refine Qj (((aw r).length+1:Nat):Int) (by have:(Qd [10]).size=1:=rfl;omega) (by omega) ?_;refine Xy (v':=.string (Qd (r.drop ((aw r).length+1)))) ⟨by omega,by rw[QH];omega,by rw[QH];omega⟩ (by
   rw[KN,QH];show Value.string (Qd ((r.take r.length).drop _))=_;rw[ZS (QB _)];rfl) ?_
  refine Qj ((i+1:Nat):Int) (by show((i:Nat):Int)+1=_;omega) (by omega) ?_;refine⟨(i+1,ds++ [r.take ((aw r).length+1)],r.drop ((aw r).length+1)),rfl,⟨px.trans Ji (λi hi=>.inl hi),Q4,by simp[jS],?_,λx hx=>fi x (WT hx),by simp only[Y1];omega,Qu⟩,by show cn-(i+1)<cn-i;omega⟩;simp only;rw[KM,HU hm];simp
 ·have Q4:i=cn:=by simp only at c1;omega
  subst Q4;have Xi:10∉r:=λhm=>by have h1:=CF r;have:=List.count_pos_iff.2 hm;omega
  refine index (j:=i) (by omega) ?_;refine XV Qy (by rw[Qq,bT,List.length_replicate];omega) (λw3 Ji Qu=>?_);rw[T5 ds (i+1) i _ jS (by omega)] at Qu;refine Qj ((i+1:Nat):Int) (by show((i:Nat):Int)+1=_;omega) (by omega) ?_;refine kh Qa rfl rfl rfl rfl rfl rfl (QB _) ?_;have e2:Jg l=ds++ [r]:=by rw[KM,CG Xi]
  have FE:=Sl.own (sz:=1) (n:=i+1) (c:=i+1) Qu (QB _) (by unfold maxLen;omega) (by rw[Qq,bT,Qq,jS];simp);rw[Bk,List.replicate_zero,KE,Wm,ZS (by rw[bT,Qq,jS];simp)] at FE;refine⟨_,_,by rw[JF],(px.trans Ji (λi hi=>.inl hi)).ext Qe (λi hi=>by omega),?_⟩;rw[JF,e2];exact⟨FE,λ_=>⟨_,_,rfl⟩⟩
theorem iQr (l:List Nat)(w:World)(hl:∀x∈l,x<256)(QZ:l.length<=1000000000):
  Fn Tryz.prog 95 [.string (Qd l),.string (Qd [10])] w (λu w'=>∃A c,u= .slice A (Jg l).length c/\Ext w w'/\Sn w' A (Jg l).length c (XH (Jg l))):=by
 refine QJ (c:={c95 with cuts:=[]}) Qa Tryz.func95 rfl rfl rfl ?_;refine call (iQq l w hl QZ) ?_;rintro _ w1 ⟨A,c,rfl,Qe,Vm⟩;exact⟨A,c,rfl,Qe,Vm⟩
def ve (w:World)(u:Value)(ls:List (List Nat))(w':World):Prop:=∃A c,u= .slice A ls.length c/\Ext w w'/\Sn w' A ls.length c (XH ls)
theorem CI (l:List Nat)(w:World)(hl:∀x∈l,x<256)(QZ:l.length<=1000000000):
  Fn Tryz.prog 46 [.string (Qd l)] w (λu w'=>ve w u (bf l) w'):=by
 have JF:=CF l;have cA:l.count 10<=l.length:=List.count_le_length;refine QJ (c:={c46 with cuts:=[]}) Qa Tryz.func46 rfl rfl rfl ?_;refine call (iQr l w hl QZ) ?_;rintro _ w1 ⟨A,c,rfl,Qe,Vm⟩;have ZF:=Vm.1.le;refine Qj (((Jg l).length-1:Nat):Int) (by omega) (by omega) ?_;obtain⟨z,hz⟩:∃z,(Jg l).getLast? =some z:=⟨_,List.getLast?_eq_some_getLast (HT l)⟩
 have aH:(Jg l)[(Jg l).length-1]? =some z:=by rw[<-tW];exact hz
 refine KF Vm.1 (by omega) (λad u hA hu Xq=>?_);rw[lJ aH] at hu;cases hu;refine load Xq ?_;have YU:=(T0 hl z (Xl aH)).1;by_cases h0:z=[]
 ·subst h0;refine Xd rfl ?_;refine Qj (((Jg l).length-1:Nat):Int) (by omega) (by omega) ?_;refine kh Qa rfl rfl rfl rfl rfl rfl (by omega) ?_;have e:bf l=(Jg l).dropLast:=by unfold bf;rw[Qf hz]
  have h2:=Vm.1.take (m:=(Jg l).length-1) (by omega);refine⟨A,c,by rw[e,List.length_dropLast],Qe,?_⟩;rw[e,List.length_dropLast];have e3:XH (Jg l).dropLast=(XH (Jg l)).take (((Jg l).length-1)*1):=by
   rw[Wm,List.dropLast_eq_take];simp[XH,List.map_take]
  rw[e3];exact⟨h2,λh0=>Vm.2 (by omega)⟩
 ·refine XJ (λe=>h0 (Kn YU (by simp) e)) ?_;have e:bf l=Jg l:=by unfold bf;rw[if_neg (λhh=>h0 (Option.some.inj (hz.symm.trans hh)))]
  exact⟨A,c,by rw[e],Qe,by rw[e];exact Vm⟩
theorem iQs (x z:Bool)(w:World):Fn Tryz.prog 170 [.bool x,.bool false,.bool z] w (λv w'=>v= .bool (KP 4 x z)/\w=w'):=by
 refine QJ (c:={fQr with cuts:=[]}) Qa Tryz.func170 rfl rfl rfl ?_;cases x with
 | true=>
  refine Xd rfl ?_;refine Q9 rfl ?_;refine Q9 rfl ?_;exact⟨rfl,rfl⟩
 | false=>
  refine Q9 rfl ?_;refine Xd rfl ?_;exact⟨by cases z<;>rfl,rfl⟩
structure CPz where
 ox:Nat
 mx:Nat
 lx:Nat
 ax:Nat
 bx:Nat
 pb:Nat
 km:Nat
 mm:Nat
 D:AD
def CPz.caps (p:CPz):List Value:=[VP.ptr p.ox,VP.ptr p.mx,VP.ptr p.lx,VP.ptr p.ax,VP.ptr p.bx]
def CPz.clo (p:CPz):Value:=.func (.func 188) #[] #[VP.ptr p.ox,VP.ptr p.mx,VP.ptr p.lx,VP.ptr p.ax,VP.ptr p.bx]
def CPz.lC (p:CPz):List Value:=[.slice p.D.A p.D.n p.D.c,.int .i64 p.D.ra,.slice none 0 0,.int .i64 0,.slice p.D.B p.D.m p.D.d,.int .i64 p.D.rb]
structure CKz (w:World) (base:Nat) (p:CPz):Prop where
 hF:p.D.op=4
 oxb:Blk w p.ox 205 [.func (.func 170) #[] #[]]
 mxb:Blk w p.mx 272 [.map (some p.mm)]
 lxb:Blk w p.lx 204 p.lC
 axb:Blk w p.ax 273 [p.clo]
 bxb:Blk w p.bx 174 [VP.ptr p.pb]
 as_:SB w p.D.A p.D.n p.D.c p.D.a
 bs:SB w p.D.B p.D.m p.D.d p.D.b
 off:∀k,k=p.ox∨k=p.mx∨k=p.lx∨k=p.ax∨k=p.bx->k<base/\k≠p.pb/\k≠p.km/\k≠p.mm
 rowA:∀ad,p.D.A=some ad->0<p.D.n->ad.block<base/\ad.block≠p.pb/\ad.block≠p.km/\ad.block≠p.mm
 rowB:∀ad,p.D.B=some ad->0<p.D.m->ad.block<base/\ad.block≠p.pb/\ad.block≠p.km/\ad.block≠p.mm
def CSz (p:CPz)(NA:Option Addr):Nat->Prop:=λk=>k=p.mm∨BS p.pb p.km NA k
theorem CSz.moved {w:World}{p:CPz}{A A':Option Addr}(h:Moved w A A'):∀k,CSz p A' k->CSz p A k∨w.heap.size<=k:=by
 rintro k (rfl | hk)
 ·exact .inl (.inl rfl)
 ·rcases BS.moved h k hk with h | h
  ·exact .inl (.inr h)
  ·exact .inr h
theorem CSz.trans {w w1 w2:World}{p:CPz}{A A1:Option Addr}(hm:Mod (CSz p A) w w1)(hv:Moved w A A1)(h:Mod (CSz p A1) w1 w2):Mod (CSz p A) w w2:=hm.trans h (CSz.moved hv)
theorem CSz.no {p:CPz}{base:Nat}{NA:Option Addr}(hr:∀i,Qk NA i->base<=i){k:Nat}(h:k<base/\k≠p.pb/\k≠p.km/\k≠p.mm):¬CSz p NA k:=λe=>by
 obtain⟨h1,h2,h3,h4⟩:=h;rcases e with e | e | e | e
 ·exact h4 e
 ·exact h2 e
 ·exact h3 e
 ·have:=hr k e;omega
theorem CKz.mod {w w':World}{base:Nat}{p:CPz}{NA:Option Addr}(h:CKz w base p)(hr:∀i,Qk NA i->base<=i)(hm:Mod (CSz p NA) w w'):CKz w' base p:=by
 have k:=λk hk=>CSz.no (p:=p) hr (h.off k hk)
 refine⟨h.hF,h.oxb.mod hm (k _ (by simp)),h.mxb.mod hm (k _ (by simp)),h.lxb.mod hm (k _ (by simp)),h.axb.mod hm (k _ (by simp)),h.bxb.mod hm (k _ (by simp)),⟨h.as_.1.modS hm ?_,h.as_.2⟩,⟨h.bs.1.modS hm ?_,h.bs.2⟩,h.off,h.rowA,h.rowB⟩
 ·rintro h0 i ⟨ad,e,rfl⟩;exact CSz.no hr (h.rowA ad e h0)
 ·rintro h0 i ⟨ad,e,rfl⟩;exact CSz.no hr (h.rowB ad e h0)
theorem CKz.ext {w w':World}{base:Nat}{p:CPz}(h:CKz w base p)(k:Ext w w'):CKz w' base p:=
 h.mod (NA:=none) (λi hi=>by obtain⟨_,e,_⟩:=hi;cases e) (Mod.of_ext _ k)
structure CStz (w:World) (base:Nat) (p:CPz) (NA:Option Addr) (nc:Nat) (st:List Br×List Tr3):Prop where
 bd:Bd w base p.pb p.km NA nc st.1
 memo:∃m,MapQ cQ w p.mm m/\∀x y:Int,XG ((x,0,y):I3) m=ky st.2 x y
 lt:p.mm<base/\p.mm≠p.pb/\p.mm≠p.km
theorem CStz.ext {w w':World}{base:Nat}{p:CPz}{NA:Option Addr}{nc:Nat}{st:List Br×List Tr3}(h:CStz w base p NA nc st)(k:Ext w w'):CStz w' base p NA nc st:=
 ⟨h.bd.ext k,let ⟨m,h1,h2⟩:=h.memo;⟨m,h1.ext k,h2⟩,h.lt⟩
def iQt (w:World)(base:Nat)(p:CPz)(NA:Option Addr)(st:List Br×List Tr3)(w':World):Prop:=∃NA' nc',CStz w' base p NA' nc' st/\Mod (CSz p NA) w w'/\Moved w NA NA'
theorem T6 (base:Nat)(p:CPz)(ha:V0 p.D.a)(hb:V0 p.D.b)(dw:p.D.n<=1000000000000/\p.D.m<=1000000000000):∀(m:Nat)(x y:Int)(st:List Br×List Tr3)(NA:Option Addr)(nc:Nat)(w:World),
  CKz w base p->CStz w base p NA nc st->0<=x->0<=y->x+y<m->x<p.D.n+2->y<p.D.m+2->(Xw p.D.a p.D.b p.D.op m x y st).2.1.length<=100000000000->
  Fn Tryz.prog 188 (cQ (x,0,y)::p.caps) w (λv w'=>v= .int .i64 (Xw p.D.a p.D.b p.D.op m x y st).1/\iQt w base p NA (Xw p.D.a p.D.b p.D.op m x y st).2 w')
 | 0,x,y,st,NA,nc,w,_,_,x0,y0,hm,_,_,_=>by omega
 | m+1,x,y,st,NA,nc,w,hK,hS,x0,y0,hm,hx,hy,XL=>by
  have ih:=T6 base p ha hb dw m;have Vc:p.D.a.length=p.D.n:=hK.as_.2;have ew:p.D.b.length=p.D.m:=hK.bs.2;have nz:=hS.bd.top;have OJ:∀i,Qk NA i->base<=i:=λi hi=>(hS.bd.own.rows i hi).1
  refine QJ (c:={RQ with cuts:=[1]}) Qa Tryz.func188 rfl rfl rfl ?_;refine new (λw1 Qe Q6 Qh=>?_)
  replace Qh:Blk w1 w.heap.size 242 (eX (x,0,y)):=Qh;have Ks:=hK.ext Qe;have Vm:=hS.ext Qe;have oB:w.heap.size<w1.heap.size:=by omega
  refine gR [] Qa [] (λ_:Unit=>[]) (λ_ w'=>w1=w'/\¬(x<2/\y<2)) ?_ ?_
  ·refine index (j:=0) (by decide) ?_;refine Qo Qh rfl ?_;refine Qw (λc1=>?_) (λc1=>?_)
   ·refine index (j:=1) (by decide) ?_;refine Qo Qh rfl ?_;refine Zy (show(0:Int)<2 by decide) ?_;refine index (j:=2) (by decide) ?_;refine Qo Qh rfl ?_;refine Qw (λc2=>?_) (λc2=>?_)
    ·refine Qz Ks.oxb rfl ?_;refine index (j:=0) (by decide) ?_;refine Qo Qh rfl ?_;refine index (j:=1) (by decide) ?_;refine Qo Qh rfl ?_;refine index (j:=2) (by decide) ?_;refine Qo Qh rfl ?_;rw[lR ⟨c1,c2⟩,TF x0 c1 y0 c2,hK.hF];refine call (iQs (decide (x=1)) (decide (y=1)) w1) ?_;rintro v _ ⟨rfl,rfl⟩;cases KP 4 (decide (x=1)) (decide (y=1))with
     | true=>
      refine Xd rfl ?_;exact⟨rfl,NA,nc,Vm,Mod.of_ext _ Qe,Moved.refl _ _⟩
     | false=>
      refine Q9 rfl ?_;exact⟨rfl,NA,nc,Vm,Mod.of_ext _ Qe,Moved.refl _ _⟩
    ·exact⟨(),rfl,rfl,λhh=>c2 hh.2⟩
   ·exact⟨(),rfl,rfl,λhh=>c1 hh.1⟩
  rintro⟨⟩ _ ⟨rfl,Xr⟩;obtain⟨mq,fx,YY⟩:=Vm.memo;refine Qz Ks.mxb rfl ?_;refine Qt Qh rfl ?_;refine GV (kv:=cQ) (a:=((x,0,y):I3)) Qa rfl rfl rfl rfl Cz rfl rfl fx ?_;cases k:st.2.find? (λt=>decide (t.1=x/\t.2.1=y))with
  | some t=>
   have aN:XG ((x,0,y):I3) mq=some (.int .i64 t.2.2):=by rw[YY,ky,k]<;>rfl
   refine Xd (by rw[aN];rfl) ?_;rw[lS Xr k];exact⟨by rw[aN];rfl,NA,nc,Vm,Mod.of_ext _ Qe,Moved.refl _ _⟩
  | none=>
  have aN:XG ((x,0,y):I3) mq=none:=by rw[YY,ky,k]<;>rfl
  refine Q9 (by rw[aN];rfl) ?_;have ZP:min (Ql p.D.a x) (Ql p.D.b y)<64:=by
   by_cases c:x<2
   ·have:=aZ hb (n:=y) (λc2=>Xr ⟨c,c2⟩) (by omega);rw[Jk];split<;>omega
   ·have:=aZ ha (n:=x) c (by omega);rw[Jk];split<;>omega
  have OK:SB w1 none 0 0 []:=SlS.nil _;have qL:∀w',Ext w1 w'->∀(j:Nat) (v:Value),p.lC[j]? =some v->w'.cell? ((⟨p.lx,0,none⟩:Addr).add j)=some v:=λw' Qb j v hj=>by rw[(Ks.lxb.ext Qb).cell];exact hj
  have qN:∀w',Ext w1 w'->∀(j:Nat) (v:Value),(eX (x,0,y))[j]? =some v->w'.cell? ((⟨w.heap.size,0,none⟩:Addr).add j)=some v:=λw' Qb j v hj=>by rw[(Qh.ext Qb).cell];exact hj
  refine XR Qa (Ext w1) 17 [(true,0),(true,1),(true,2),(true,3),(true,5),(true,6),(true,7),(true,8),(true,10),(true,11),(true,12),(true,13),(false,4),(false,9),(false,14),(true,15),(true,16)] (by kernel_rfl) (Ext.drew w1) ?_;refine Kc (j:=0) (by decide) ?_;refine Xv (vs:=[.slice p.D.A p.D.n p.D.c,.int .i64 p.D.ra]) rfl (λw' Qb j v hj=>by
   rw[add_add,(Ks.lxb.ext Qb).cell]
   match j,hj with
   | 0,hj=>exact hj
   | 1,hj=>exact hj) ?_
  refine index (j:=0) (by decide) ?_;refine QN (v:=.int .i64 x) (λw' Qb=>qN w' Qb 0 _ rfl) ?_;refine Kc (j:=1) (by decide) ?_;refine Xv (vs:=[.slice none 0 0,.int .i64 0]) rfl (λw' Qb j v hj=>by
   rw[add_add,(Ks.lxb.ext Qb).cell]
   match j,hj with
   | 0,hj=>exact hj
   | 1,hj=>exact hj) ?_
  refine index (j:=1) (by decide) ?_;refine QN (v:=.int .i64 0) (λw' Qb=>qN w' Qb 1 _ rfl) ?_;refine Kc (j:=2) (by decide) ?_;refine Xv (vs:=[.slice p.D.B p.D.m p.D.d,.int .i64 p.D.rb]) rfl (λw' Qb j v hj=>by
   rw[add_add,(Ks.lxb.ext Qb).cell]
   match j,hj with
   | 0,hj=>exact hj
   | 1,hj=>exact hj) ?_
  refine index (j:=2) (by decide) ?_;refine QN (v:=.int .i64 y) (λw' Qb=>qN w' Qb 2 _ rfl) ?_;refine call (eQ p.D.A p.D.n p.D.c p.D.ra x p.D.a _ (Ks.as_.ext (Ext.drew w1)) (by omega)) ?_;rintro u w2 ⟨rfl,Qg⟩;have XB:=(Ext.drew w1).trans Qg;refine⟨XB,?_⟩;refine call (eQ none 0 0 0 0 [] _ (OK.ext XB) (by simp)) ?_;rintro u w3 ⟨rfl,Qi⟩;have XF:=XB.trans Qi;refine⟨XF,?_⟩;refine call (eQ p.D.B p.D.m p.D.d p.D.rb y p.D.b _ (Ks.bs.ext XF) (by omega)) ?_;rintro u w4 ⟨rfl,Qs⟩;have JW:=XF.trans Qs;refine⟨JW,?_⟩;have zf:Ql [] 0=64:=rfl;rw[zf];have OL: -9223372036854775808<=min (Ql p.D.a x) (Ql p.D.b y):=by
   have pos:∀{d:List Br},V0 d->∀{n:Int},n<d.length+2->0<=Ql d n:=λ{d} hd {n} hn=>by
    by_cases h2:n<2
    ·rw[iV h2];omega
    ·obtain⟨z,hz⟩:=W5 h2 hn;rw[eV h2 hz];exact(hd.2 _ _ hz).1
   have p1:=pos ha (n:=x) (by omega);have p2:=pos hb (n:=y) (by omega);rw[Jk];split<;>omega
  have L6:(if Ql p.D.b y<(if(64:Int)<Ql p.D.a x then 64 else Ql p.D.a x)then Ql p.D.b y else(if(64:Int)<Ql p.D.a x then 64 else Ql p.D.a x))=min (Ql p.D.a x) (Ql p.D.b y):=by
   rw[Jk] at ZP ⊢;split at ZP<;>(try split)<;>(try split)<;>(try split)<;>omega
  refine norm (m:=min (Ql p.D.a x) (Ql p.D.b y)) L6 ?_;rw[lT Xr k _ rfl] at XL ⊢;generalize Ay:min (Ql p.D.a x) (Ql p.D.b y)=v at*;have QR:=Qh.ext JW;have Yl:=Ks.ext JW;have aD:=Vm.ext JW;have Xp:=Qe.trans JW;have DO:=JW.size;refine new (λw5 Qx KI pz=>?_);refine new (λw6 QQ bu L7=>?_);have XM:=Qx.trans QQ;have L8:=pz.ext QQ;have Q7:=QR.ext XM;have dh:=Yl.ext XM;have bA:=aD.ext XM;have XX:=Xp.trans XM;obtain⟨s1,s2,s3,s4,s5⟩:=W4 ha (n:=x) x0 ZP;obtain⟨t1,t2,t3,t4,t5⟩:=W4 hb (n:=y) y0 ZP;refine loop Qa [64] (λs:Nat=>[.int .i64 s]) (λs w'=>Mod (λi=>i=w4.heap.size∨i=w5.heap.size) w6 w'/\s<=3/\Blk w' w4.heap.size 242 (eX (if 0<s then(Qm p.D.a x v).1 else 0,0,if 2<s then(Qm p.D.b y v).1 else 0))/\Blk w' w5.heap.size 242 (eX (if 0<s then(Qm p.D.a x v).2 else 0,0,if 2<s then(Qm p.D.b y v).2 else 0))) (λs _=>3-s) 0 rfl ⟨Mod.refl _ _,Xo _,L8,L7⟩ ?_;rintro s w7 ⟨Xe,sh,gh,dW⟩;have hbz:base<=w4.heap.size:=by have:=Qe.size;omega
  have cQb:w5.heap.size=w4.heap.size+1:=KI;have Az:w.heap.size<w4.heap.size:=by omega
  have AA:∀k,k<w4.heap.size->¬(k=w4.heap.size∨k=w5.heap.size):=λk hk e=>by omega
  have hlx:=hK.off p.lx (by simp);have Xh:Ext w w7:=Xe.ext XX (λi hi=>by omega);have pA:Ext w1 w7:=Xe.ext (JW.trans XM) (λi hi=>by omega);have K9:Ext w4 w7:=Xe.ext XM (λi hi=>by omega);have Q3:=QR.ext K9;have aE:=Yl.ext K9;have V8:=aD.ext K9;have W8:=Xe.size;have nLX:=AA p.lx (by omega);have nB:=AA w.heap.size Az;have h0:Qm [] 0 v=(0,0):=by unfold Qm;rw[Qf (show Ql [] 0≠v by rw[zf];omega)]
  by_cases hs:s<3
  ·rcases(show s=0∨s=1∨s=2 by omega)with rfl | rfl | rfl
   ·refine Zy (show((0:Nat):Int)<3 by decide) ?_;refine XR Qa (Mod (λi=>i=w4.heap.size∨i=w5.heap.size) w7) 17 [(true,0),(true,1),(true,2),(true,3),(true,4),(true,5),(true,6),(true,7),(true,8),(false,9),(true,10),(true,11),(true,12),(true,13),(false,14),(true,15),(false,16)] (by kernel_rfl) (Mod.of_ext _ (Ext.drew w7)) ?_;refine Kc (j:=0) (by decide) ?_;refine Xv (vs:=[.slice p.D.A p.D.n p.D.c,.int .i64 p.D.ra]) rfl (λw' Qb j v hj=>by
     rw[add_add,(aE.lxb.mod Qb nLX).cell]
     match j,hj with
     | 0,hj=>exact hj
     | 1,hj=>exact hj) ?_
    refine index (j:=0) (by decide) ?_;refine QN (v:=.int .i64 x) (λw' Qb=>by rw[(Q3.mod Qb nB).cell];rfl) ?_;refine call (kx p.D.A p.D.n p.D.c p.D.ra x v p.D.a _ (aE.as_.ext (Ext.drew w7)) (by omega) ZP) ?_;rintro u w8 ⟨rfl,Xn⟩;have Ju:=(Ext.drew w7).trans Xn;refine⟨Mod.of_ext _ Ju,?_⟩;refine index (j:=0) (by decide) ?_;refine XV (gh.ext Ju) (by simp) (λw9 Zg ju=>?_);have Vy:Mod (λi=>i=w4.heap.size∨i=w5.heap.size) w7 w9:=(Mod.of_ext _ Ju).trans Zg (λi hi=>.inl (.inl hi));refine⟨Vy,?_⟩;have gc:=Vy.size;refine index (j:=0) (by decide) ?_;refine XV (((dW.ext Ju).mod Zg (by show¬w5.heap.size=w4.heap.size;omega))) (by simp) (λQE ZA gi=>?_);have aF:Mod (λi=>i=w4.heap.size∨i=w5.heap.size) w7 QE:=Vy.trans ZA (λi hi=>.inl (.inr hi));refine⟨aF,?_⟩;have gj:=ju.mod ZA (by show¬w4.heap.size=w5.heap.size;omega);refine Qj ((1:Nat):Int) (by decide) (by decide) ?_;exact⟨1,rfl,⟨Xe.trans aF (λi hi=>.inl hi),by decide,gj,gi⟩,by show 3-1<3-0;decide⟩
   ·refine Zy (show((1:Nat):Int)<3 by decide) ?_;refine XR Qa (Mod (λi=>i=w4.heap.size∨i=w5.heap.size) w7) 17 [(true,0),(true,1),(true,2),(true,3),(true,4),(true,5),(true,6),(true,7),(true,8),(false,9),(true,10),(true,11),(true,12),(true,13),(false,14),(true,15),(false,16)] (by kernel_rfl) (Mod.of_ext _ (Ext.drew w7)) ?_;refine Kc (j:=1) (by decide) ?_;refine Xv (vs:=[.slice none 0 0,.int .i64 0]) rfl (λw' Qb j v hj=>by
     rw[add_add,(aE.lxb.mod Qb nLX).cell]
     match j,hj with
     | 0,hj=>exact hj
     | 1,hj=>exact hj) ?_
    refine index (j:=1) (by decide) ?_;refine QN (v:=.int .i64 0) (λw' Qb=>by rw[(Q3.mod Qb nB).cell];rfl) ?_;refine call (kx none 0 0 0 0 v [] _ (SlS.nil _) (by decide) ZP) ?_;rintro u w8 ⟨rfl,Xn⟩;have Ju:=(Ext.drew w7).trans Xn;refine⟨Mod.of_ext _ Ju,?_⟩;refine index (j:=1) (by decide) ?_;refine XV (gh.ext Ju) (by simp) (λw9 Zg ju=>?_);have Vy:Mod (λi=>i=w4.heap.size∨i=w5.heap.size) w7 w9:=(Mod.of_ext _ Ju).trans Zg (λi hi=>.inl (.inl hi));refine⟨Vy,?_⟩;have gc:=Vy.size;refine index (j:=1) (by decide) ?_;refine XV (((dW.ext Ju).mod Zg (by show¬w5.heap.size=w4.heap.size;omega))) (by simp) (λQE ZA gi=>?_);have aF:Mod (λi=>i=w4.heap.size∨i=w5.heap.size) w7 QE:=Vy.trans ZA (λi hi=>.inl (.inr hi));refine⟨aF,?_⟩;have gj:=ju.mod ZA (by show¬w4.heap.size=w5.heap.size;omega);refine Qj ((2:Nat):Int) (by decide) (by decide) ?_;rw[h0] at gj gi;exact⟨2,rfl,⟨Xe.trans aF (λi hi=>.inl hi),by decide,gj,gi⟩,by show 3-2<3-1;decide⟩
   ·refine Zy (show((2:Nat):Int)<3 by decide) ?_;refine XR Qa (Mod (λi=>i=w4.heap.size∨i=w5.heap.size) w7) 17 [(true,0),(true,1),(true,2),(true,3),(true,4),(true,5),(true,6),(true,7),(true,8),(false,9),(true,10),(true,11),(true,12),(true,13),(false,14),(true,15),(false,16)] (by kernel_rfl) (Mod.of_ext _ (Ext.drew w7)) ?_;refine Kc (j:=2) (by decide) ?_;refine Xv (vs:=[.slice p.D.B p.D.m p.D.d,.int .i64 p.D.rb]) rfl (λw' Qb j v hj=>by
     rw[add_add,(aE.lxb.mod Qb nLX).cell]
     match j,hj with
     | 0,hj=>exact hj
     | 1,hj=>exact hj) ?_
    refine index (j:=2) (by decide) ?_;refine QN (v:=.int .i64 y) (λw' Qb=>by rw[(Q3.mod Qb nB).cell];rfl) ?_;refine call (kx p.D.B p.D.m p.D.d p.D.rb y v p.D.b _ (aE.bs.ext (Ext.drew w7)) (by omega) ZP) ?_;rintro u w8 ⟨rfl,Xn⟩;have Ju:=(Ext.drew w7).trans Xn;refine⟨Mod.of_ext _ Ju,?_⟩;refine index (j:=2) (by decide) ?_;refine XV (gh.ext Ju) (by simp) (λw9 Zg ju=>?_);have Vy:Mod (λi=>i=w4.heap.size∨i=w5.heap.size) w7 w9:=(Mod.of_ext _ Ju).trans Zg (λi hi=>.inl (.inl hi));refine⟨Vy,?_⟩;have gc:=Vy.size;refine index (j:=2) (by decide) ?_;refine XV (((dW.ext Ju).mod Zg (by show¬w5.heap.size=w4.heap.size;omega))) (by simp) (λQE ZA gi=>?_);have aF:Mod (λi=>i=w4.heap.size∨i=w5.heap.size) w7 QE:=Vy.trans ZA (λi hi=>.inl (.inr hi));refine⟨aF,?_⟩;have gj:=ju.mod ZA (by show¬w4.heap.size=w5.heap.size;omega);refine Qj ((3:Nat):Int) (by decide) (by decide) ?_;exact⟨3,rfl,⟨Xe.trans aF (λi hi=>.inl hi),by decide,gj,gi⟩,by show 3-3<3-2;decide⟩
  ·have:s=3:=by omega
   subst this;refine XJ (show¬((3:Nat):Int)<3 by decide) ?_
   replace gh:Blk w7 w4.heap.size 242 (eX ((Qm p.D.a x v).1,0,(Qm p.D.b y v).1)):=gh
   replace dW:Blk w7 w5.heap.size 242 (eX ((Qm p.D.a x v).2,0,(Qm p.D.b y v).2)):=dW;have dx:Ql p.D.a x=v∨Ql p.D.b y=v:=by rw[<-Ay,Jk];split<;>simp
   have dec:(Qm p.D.a x v).1+(Qm p.D.b y v).1<x+y/\(Qm p.D.a x v).2+(Qm p.D.b y v).2<x+y:=by
    rcases dx with e | e
    ·have:=s5 e;omega
    ·have:=t5 e;omega
   have L9:=uX ha hb p.D.op m (Qm p.D.a x v).1 (Qm p.D.b y v).1 st s1 t1 (by omega) (by omega);have Ma:=uX ha hb p.D.op m (Qm p.D.a x v).2 (Qm p.D.b y v).2 (Xw p.D.a p.D.b p.D.op m (Qm p.D.a x v).1 (Qm p.D.b y v).1 st).2 s3 t3 (by omega) (by omega);have mo2:=oA p.D.a p.D.b p.D.op m (Qm p.D.a x v).2 (Qm p.D.b y v).2 (Xw p.D.a p.D.b p.D.op m (Qm p.D.a x v).1 (Qm p.D.b y v).1 st).2;have c1:=ih (Qm p.D.a x v).1 (Qm p.D.b y v).1 st NA nc w7 aE V8 s1 t1 (by omega) (by omega) (by omega);have c2:=λN1 n1 w' h1 h2=>ih (Qm p.D.a x v).2 (Qm p.D.b y v).2 (Xw p.D.a p.D.b p.D.op m (Qm p.D.a x v).1 (Qm p.D.b y v).1 st).2 N1 n1 w' h1 h2 s3 t3 (by omega) (by omega) (by omega)
   generalize (Xw p.D.a p.D.b p.D.op m (Qm p.D.a x v).1 (Qm p.D.b y v).1 st)=r0 at*;generalize (Xw p.D.a p.D.b p.D.op m (Qm p.D.a x v).2 (Qm p.D.b y v).2 r0.2)=r1 at*;have ul:=xO ⟨v,r0.1,r1.1⟩ r1.2.1;have ul2:(Jf ⟨v,r0.1,r1.1⟩ r1.2.1).1.length<=r1.2.1.length+1:=by
    unfold Jf;split
    ·exact xf _
    ·split
     ·exact xf _
     ·simp
   simp only at XL;refine Qz aE.axb rfl ?_;refine Qt gh rfl ?_;refine call (c1 (by omega)) ?_;rintro _ QL ⟨rfl,N1,n1,sj,Jj,zg⟩;have Mb:=dW.lt;have kR:=hS.bd.own.rows;obtain⟨l1,l2,l3⟩:=hS.lt;obtain⟨b1,b2,b3⟩:=hS.bd.lt;have new:∀k,w.heap.size<=k->¬CSz p NA k:=λk hk e=>by
    rcases e with e | e | e | e
    ·omega
    ·omega
    ·omega
    ·have:=(kR k e).2;omega
   have gk:=aE.mod OJ Jj;have Mc:=dW.mod Jj (new _ (by omega));have Z6:=Q3.mod Jj (new _ (QB _));have cY:∀i,Qk N1 i->base<=i:=λi hi=>(sj.bd.own.rows i hi).1
   have zh:∀k,w.heap.size<=k->k<w7.heap.size->¬CSz p N1 k:=λk hk h7 e=>by
    rcases CSz.moved zg k e with e | e
    ·exact new k hk e
    ·omega
   have sn:=Jj.size;have OM:=Q3.lt;refine XR Qa (Mod (CSz p N1) QL) 8 [(true,0),(true,1),(true,2),(true,3),(true,4),(false,5),(false,6),(true,7)] (by kernel_rfl) (Mod.of_ext _ (Ext.drew QL)) ?_;have nof:=λk hk=>CSz.no (p:=p) cY (gk.off k hk)
   refine QN (v:=VP.ptr p.pb) (λw' Qb=>by rw[(gk.bxb.mod Qb (nof _ (by simp))).cell0];rfl) ?_;refine QN (v:=p.clo) (λw' Qb=>by rw[(gk.axb.mod Qb (nof _ (by simp))).cell0];rfl) ?_;refine Xv (vs:=eX ((Qm p.D.a x v).2,0,(Qm p.D.b y v).2)) rfl (λw' Qb j v hj=>by rw[(Mc.mod Qb (zh _ (by omega) Mb)).cell];exact hj) ?_;refine call (c2 N1 n1 _ (gk.ext (Ext.drew QL)) (sj.ext (Ext.drew QL)) (by omega)) ?_;rintro _ Xb ⟨rfl,N2,n2,co,V7,vQ⟩;have mR:Mod (CSz p N1) QL Xb:=(Mod.of_ext _ (Ext.drew QL)).trans V7 (λi hi=>.inl hi);have zi:Moved QL N1 N2:=vQ.back (Ext.drew QL).size;refine⟨mR,?_⟩;have WA:∀i,Qk N2 i->base<=i:=λi hi=>(co.bd.own.rows i hi).1
   refine call (TD base p.pb p.km N2 n2 r1.2.1 ⟨v,r0.1,r1.1⟩ Xb co.bd (by omega)) ?_;rintro _ X9 ⟨rfl,N3,n3,dX,KA,Md⟩;have Me:Mod (CSz p N2) Xb X9:=KA.mono (λi hi=>.inl (.inr hi));have mS:Mod (CSz p N1) QL X9:=CSz.trans mR zi Me;refine⟨mS,?_⟩;have mQ0:=gk.mod cY mR;have Mf:=gk.mod cY mS;have Vw:=Z6.mod mS (zh _ (QB _) OM);obtain⟨Mg,yO,Mh⟩:=co.memo;have Mi:MapQ cQ X9 p.mm Mg:=yO.mod KA (λe=>by
    rcases e with e | e | e
    ·exact l2 e
    ·exact l3 e
    ·have:=WA _ e;omega)
   refine Qz Mf.mxb rfl ?_;refine Qt Vw rfl ?_;refine uw (kv:=cQ) (a:=((x,0,y):I3)) Qa rfl rfl rfl rfl Cz rfl rfl rfl Mi (λZu Vk mQ1 Mj=>?_);have ZW:∀k,k≠p.mm->¬(k=p.mm):=λk h=>h
   obtain⟨d1,d2,d3⟩:=dX.lt;have Mk:∀i,Qk N3 i->base<=i:=λi hi=>(dX.own.rows i hi).1
   obtain⟨kq,ON,OO⟩:=dX.known;have Ml:Bd Zu base p.pb p.km N3 n3 (Jf ⟨v,r0.1,r1.1⟩ r1.2.1).1:=⟨dX.blk.mod Vk (λe=>l2 e.symm),dX.own.mod Vk (λi hi e=>by have:=Mk i hi;have e':i=p.mm:=e;omega),⟨kq,ON.mod Vk (λe=>l3 e.symm),OO⟩,dX.lt,X3 dX.top Vk.size⟩
   have Mm:Mod (CSz p NA) w w7:=Mod.of_ext _ Xh;have mQ2:Moved w NA NA:=Moved.refl _ _;have zj:Mod (CSz p NA) w QL:=Mm.trans Jj (λi hi=>.inl hi);have zk:Moved w NA N1:=zg.back Xh.size;have Mo:Mod (CSz p NA) w X9:=CSz.trans zj zk mS;have pB:Mod (CSz p NA) w Zu:=Mo.trans Vk (λi hi=>.inl (.inl hi));have Mp:Moved w NA N3:=zk.trans (zi.trans Md mR.size) zj.size;refine⟨rfl,N3,n3,⟨Ml,⟨_,Mj,λx' y'=>?_⟩,hS.lt⟩,pB,Mp⟩;have Xi:r1.2.2.find? (λt=>decide (t.1=x/\t.2.1=y))=none:=by
    rw[xd];intro t ht hh;simp only[VX] at hh;rcases Ma t ht with h1 | h1
    ·rcases L9 t h1 with h2 | h2
     ·have:=xd.1 k t h2;simp only[VX] at this;exact this hh
     ·omega
    ·omega
   rw[bR,Mh,ky,ky,List.find?_append];by_cases YH:(x',y')=(x,y)
   ·cases YH;rw[Qf rfl,Xi];simp
   ·rw[if_neg (λe=>YH (by cases e;rfl))];have: [(x,y,(Jf ⟨v,r0.1,r1.1⟩ r1.2.1).2)].find? (λt:Tr3=>decide (t.1=x'/\t.2.1=y'))=none:=by
     rw[PN]
     ·rfl
     ·simp only[VX];exactλe=>YH (by rw[e.1,e.2])
    rw[this];simp
theorem iQu (A:Option Addr)(n c:Nat)(a:List Br)(ra:Int)(B:Option Addr)(m d:Nat)(b:List Br)(rb:Int)(w:World)(h:SB w A n c a)(h':SB w B m d b)(ha:V0 a)(hb:V0 b)(r0:0<=ra)(r1:ra<n+2)(s0:0<=rb)(s1:rb<m+2)(hn:n<=1000000000000)(hm:m<=1000000000000)
  (XL:(lU a ra b rb 4).2.1.length<=100000000000):
  Fn Tryz.prog 128 [.agg #[.slice A n c,.int .i64 ra,.slice none 0 0,.int .i64 0,.slice B m d,.int .i64 rb],.func (.func 170) #[] #[]] w (xM w (Ye a ra b rb 4)):=by
 have Vc:=h.2;have ew:=h'.2;refine QJ (c:={RN with cuts:=[]}) Qa Tryz.func128 rfl rfl rfl ?_;refine new (λw1 Qe Q6 Qh=>?_);refine new (λw2 Qg Ze Qy=>?_);refine new (λw3 Qi Jr Qu=>?_);refine call (TH w3) ?_;rintro _ w4 ⟨rfl,Qs,KR,QR,Mq⟩;refine new (λw5 Qx KI QD=>?_);refine XV (j:=0) QD (by decide) (λw6 Vv Q7=>?_);have XM:Ext w4 w6:=Vv.ext Qx (λi hi=>by omega);refine uv Qa cQ rfl ?_;intro w7 Xh W8 Mr;refine new (λw8 Xn YU Xz=>?_);refine XV (j:=0) Xz (by decide) (λw9 Zg JI=>?_);have Vn:Ext w7 w9:=Zg.ext Xn (λi hi=>by omega);refine new (λQE X1 y9 J6=>?_);refine XV (j:=0) J6 (by decide) (λQL Jj Z6=>?_);have z6:=Vv.size;have z9:=Zg.size;have DJ:=Jj.size;have ip:Ext w9 QL:=Jj.ext X1 (λi hi=>by omega);have mT:Ext w6 QL:=(Xh.trans Vn).trans ip;have dY:Ext w4 QL:=XM.trans mT;have Vl:=Qs;have mU:Ext w3 QL:=Qs.trans dY;have WE:Ext w QL:=((Qe.trans Qg).trans Qi).trans mU
 let D:AD:=⟨A,n,c,a,ra,B,m,d,b,rb,4⟩
 let p:CPz:=⟨w1.heap.size,w7.heap.size,w.heap.size,w9.heap.size,w4.heap.size,w3.heap.size+1,w3.heap.size,w6.heap.size,D⟩
 have zl:=Z6.lt;have hK:CKz QL QL.heap.size p:=by
  refine⟨rfl,Qy.ext (Qi.trans mU),JI.ext ip,Qh.ext ((Qg.trans Qi).trans mU),Z6,Q7.ext mT,h.ext WE,h'.ext WE,λk hk=>?_,λad e h0=>?_,λad e h0=>?_⟩
  ·simp only[p] at hk ⊢;rcases hk with rfl | rfl | rfl | rfl | rfl<;>omega
  ·have:=SB.lt h ad e h0;simp only[p];omega
  ·have:=SB.lt h' ad e h0;simp only[p];omega
 have hS:CStz QL QL.heap.size p none 0 ([],[]):=by
  refine⟨⟨QR.ext dY,Own.nil _ _ _ _,⟨[],Mq.ext dY,λ_=>rfl⟩,?_,QB _⟩,⟨[],Mr.ext (Vn.trans ip),λ_ _=>rfl⟩,?_⟩
  ·simp only[p];omega
  ·simp only[p];omega
 have Xi:∀i,Qk none i->QL.heap.size<=i:=λi hi=>by obtain⟨_,e,_⟩:=hi;cases e
 have nof:=λk hk=>CSz.no (p:=p) Xi (hK.off k hk)
 refine XR Qa (Mod (CSz p none) QL) 14 [(true,0),(true,1),(true,2),(true,3),(true,4),(true,5),(true,6),(true,7),(true,8),(true,9),(true,10),(true,11),(false,12),(false,13)] (by kernel_rfl) (Mod.of_ext _ (Ext.drew QL)) ?_;refine QN (v:=VP.ptr p.pb) (λw' Qb=>by rw[(hK.bxb.mod Qb (nof _ (by simp))).cell0];rfl) ?_;refine QN (v:=p.clo) (λw' Qb=>by rw[(hK.axb.mod Qb (nof _ (by simp))).cell0];rfl) ?_;refine Kc (j:=0) (by decide) ?_;refine QN (v:=.int .i64 ra) (λw' Qb=>by rw[add_add,(hK.lxb.mod Qb (nof _ (by simp))).cell];rfl) ?_;refine Kc (j:=1) (by decide) ?_;refine QN (v:=.int .i64 0) (λw' Qb=>by rw[add_add,(hK.lxb.mod Qb (nof _ (by simp))).cell];rfl) ?_;refine Kc (j:=2) (by decide) ?_;refine QN (v:=.int .i64 rb) (λw' Qb=>by rw[add_add,(hK.lxb.mod Qb (nof _ (by simp))).cell];rfl) ?_;have inv:=xQ ha hb 4 (ra.toNat+rb.toNat+1) ra rb ([],[]) ⟨λj x hx=>by simp at hx,λt ht=>by simp at ht⟩ r0 s0 (by omega) (by omega);refine call (T6 QL.heap.size p ha hb ⟨hn,hm⟩ (ra.toNat+rb.toNat+1) ra rb ([],[]) none 0 _ (hK.ext (Ext.drew QL)) (hS.ext (Ext.drew QL)) r0 s0 (by omega) r1 s1 XL) ?_;rintro _ Xb ⟨rfl,NA,nc,co,Ms,vQ⟩;have V7:Mod (CSz p none) QL Xb:=(Mod.of_ext _ (Ext.drew QL)).trans Ms (λi hi=>.inl hi);refine⟨V7,?_⟩;have mQ3:(Xw a b 4 (ra.toNat+rb.toNat+1) ra rb ([],[])).2.1.length<=100000000000:=XL;have zm:SB Xb NA _ nc _:=⟨co.bd.own.sl,rfl⟩
 refine call (Hd p.pb (.map (some p.km)) NA _ nc _ _ Xb co.bd.blk zm inv.1.1 (by show(Xw a b 4 (ra.toNat+rb.toNat+1) ra rb ([],[])).2.1.length<=_;omega) inv.2.1 inv.2.2 (SB.lt zm)) ?_;rintro _ X9 ⟨OA,k,oc,rfl,XF,zo,jt⟩;have KA:Mod (CSz p none) QL X9:=V7.trans (Mod.of_ext (CSz p none) XF) (λi hi=>.inl hi);refine⟨KA,?_⟩;have nres:¬CSz p none w2.heap.size:=CSz.no (p:=p) Xi (by simp only[p];omega);have Vw:=(Qu.ext mU).mod KA nres;refine Qv Vw rfl (sc rfl) (λZu ga _ JV=>?_);have Vk:Mod (·=w2.heap.size) X9 Zu:=qQL ga rfl;refine Qt JV rfl ?_;have sr:Ext w X9:=KA.ext WE (λi hi=>by
  rcases hi with e | e | e | ⟨_,e,_⟩
  ·simp only[p] at e;omega
  ·simp only[p] at e;omega
  ·simp only[p] at e;omega
  ·cases e)
 have z12:=V7.size;have nr:∀i,Qk OA i->¬i=w2.heap.size:=λi hi e=>by have:=jt i hi;omega
 refine⟨OA,k,oc,rfl,Vk.ext sr (λi hi=>by omega),⟨zo.1.modS Vk (λ_ i hi=>nr i hi),zo.2⟩,λi hi=>by have:=jt i hi;have:=WE.size;omega⟩
end
section
section
structure RP where
 r:Nat
 q:Nat
 nq:Nat
 NA:Option Addr
 nn:Nat
 nc:Nat
 nm:List (List Nat)
 FA:Option Addr
 nf:Nat
 cf:Nat
 fs:List (List Nat×List Nat)
def bg (x:List Nat×List Nat):List Value:=[.string (Qd x.1),.string (Qd x.2)]
theorem HW (x:List Nat×List Nat):(bg x).length=2:=rfl
structure FileOk (x:List Nat×List Nat):Prop where
 n8:∀b∈x.1,b<256
 t8:∀b∈x.2,b<256
 nl:x.1.length<=9223372036854775807
 tl:x.2.length<=1048576
 ok:cP x.2
structure RPok (w0:World) (p:RP):Prop where
 nms:Sl w0 1 p.NA p.nn p.nc (XH p.nm)
 nmb:KO p.nm
 nmk:p.nm.length<=12
 fls:SlS bg 2 w0 p.FA p.nf p.cf p.fs
 flb:∀x∈p.fs,FileOk x
 nqm:MapAt Yt w0 p.nq (Y3 (p.fs.map (·.1)) 0 [])
structure RM where
 OA:Option Addr
 oc:Nat
 BA:Option Addr
 bc:Nat
 L:List DV
 pa:Value
 T:Nat->Prop
structure RV where
 d:Nat
 fl:Nat
 ln:Nat
 rd:List Nat
 g:Gs
def oK (x:Sg×DV):List Value:=[.int .i64 x.1.f,.int .i64 x.1.t,.int .i64 x.1.fl,.int .i64 x.1.at_,.slice x.2.A x.2.n x.2.c,.int .i64 x.2.r]
theorem iQv (x:Sg×DV):(oK x).length=6:=rfl
def dN (l:List Sg)(L:List DV):List Value:=(l.zip L).flatMap oK
abbrev mj (p:RP)(m:RM)(v:RV):List Value:=[.slice p.NA p.nn p.nc,.slice p.FA p.nf p.cf,.map (some p.nq),.map (some p.q),.int .i64 v.d,m.pa,.slice m.BA v.g.tx.length m.bc,.slice m.OA v.g.sg.length m.oc,.bool v.g.fr,.int .i64 v.fl,.int .i64 v.ln]
def RS (p:RP)(m:RM):Nat->Prop:=λk=>k=p.r∨k=p.q∨Qk m.OA k∨Qk m.BA k
def TS (p:RP)(m:RM):Nat->Prop:=λk=>RS p m k∨m.T k
structure Rr (w0 w:World) (base:Nat) (p:RP) (m:RM) (v:RV):Prop where
 e0:Ext w0 w
 lor:w0.heap.size<=p.r
 loq:w0.heap.size<=p.q
 rb:p.r<base
 qb:p.q<base
 ne:p.r≠p.q
 top:base<=w.heap.size
 pa:m.pa= .pointer none∨m.pa= .pointer (some (Ke p.r 5))
 blk:Blk w p.r 157 (mj p m v)
 txt:Own w base 5 1 m.BA v.g.tx.length m.bc (VH v.g.tx)
 out:Own w base 48 6 m.OA v.g.sg.length m.oc (dN v.g.sg m.L)
 len:m.L.length=v.g.sg.length
 dgs:∀(j:Nat) (s:Sg) (x:DV),v.g.sg[j]? =some s->m.L[j]? =some x->DgO w (TS p m) p.nm.length x s.o
 rdm:∃mp,MapAt bU w p.q mp/\(mp.map (·.1)).Nodup/\∀n:Nat,XG (n:Int) mp=if n∈v.rd then some (.bool true)else none
 tl:v.g.tx.length<=1048576
 sl:v.g.sg.length<=65536
 b8:∀x∈v.g.tx,x<256
 nf:v.g.fr=false->v.g.sg≠ []∨v.rd=[]
 tt:∀i,m.T i->i<w.heap.size
section
variable {w0 w w':World} {base:Nat} {p:RP} {m:RM} {v:RV}
theorem Rr.lo (h:Rr w0 w base p m v):∀i,RS p m i->w0.heap.size<=i:=λi hi=>by
 have:=h.lor;have:=h.loq;have:=h.rb;rcases hi with rfl | rfl | hi | hi
 ·assumption
 ·assumption
 ·have:=(h.out.rows i hi).1;omega
 ·have:=(h.txt.rows i hi).1;omega
theorem Rr.hi (h:Rr w0 w base p m v):∀i,RS p m i->i<w.heap.size:=λi hi=>by
 have:=h.rb;have:=h.qb;have:=h.top;rcases hi with rfl | rfl | hi | hi
 ·omega
 ·omega
 ·exact(h.out.rows i hi).2
 ·exact(h.txt.rows i hi).2
theorem Rr.ext (h:Rr w0 w base p m v)(k:Ext w w'):Rr w0 w' base p m v:=
 ⟨h.e0.trans k,h.lor,h.loq,h.rb,h.qb,h.ne,X3 h.top k.size,h.pa,h.blk.ext k,h.txt.ext k,h.out.ext k,h.len,λj s x h1 h2=>(h.dgs j s x h1 h2).ext k,let ⟨mp,h1,h2⟩:=h.rdm;⟨mp,h1.ext k,h2⟩,h.tl,h.sl,h.b8,h.nf,λi hi=>Yq (h.tt i hi) k.size⟩
theorem RS.moved {m':RM}(h1:Moved w m.OA m'.OA)(h2:Moved w m.BA m'.BA):∀k,RS p m' k->RS p m k∨w.heap.size<=k:=by
 rintro k (rfl | rfl | hk | hk)
 ·exact .inl (.inl rfl)
 ·exact .inl (.inr (.inl rfl))
 ·rcases h1.rows k hk with h | h
  ·exact .inl (.inr (.inr (.inl h)))
  ·exact .inr h
 ·rcases h2.rows k hk with h | h
  ·exact .inl (.inr (.inr (.inr h)))
  ·exact .inr h
theorem TS.moved {m':RM}(hT:m'.T=m.T)(h1:Moved w m.OA m'.OA)(h2:Moved w m.BA m'.BA):∀k,TS p m' k->TS p m k∨w.heap.size<=k:=by
 rintro k (hk | hk)
 ·rcases RS.moved (p:=p) h1 h2 k hk with h | h
  ·exact .inl (.inl h)
  ·exact .inr h
 ·exact .inl (.inr (by rw[<-hT];exact hk))
theorem Rr.hiT (h:Rr w0 w base p m v):∀i,TS p m i->i<w.heap.size:=λi hi=>hi.elim (h.hi i) (h.tt i)
theorem Rr.nrow (h:Rr w0 w base p m v):¬Qk m.OA p.r/\¬Qk m.BA p.r:=by
 have:=h.rb;exact⟨λhi=>by have:=(h.out.rows _ hi).1;omega,λhi=>by have:=(h.txt.rows _ hi).1;omega⟩
theorem Rr.put (h:Rr w0 w base p m v){v':RV}(hm:Mod (·=p.r) w w')(hB:Blk w' p.r 157 (mj p m v'))(h1:v'.g.tx=v.g.tx)(h2:v'.g.sg=v.g.sg)(h3:v'.rd=v.rd)(h4:v'.g.fr=false->v'.g.sg≠ []∨v'.rd=[]):Rr w0 w' base p m v':=by
 have hE:=hm.ext h.e0 (λi hi=>by subst hi;exact h.lor);refine⟨hE,h.lor,h.loq,h.rb,h.qb,h.ne,X3 h.top hm.size,h.pa,hB,?_,?_,by rw[h2];exact h.len,λj s x hs hx=>?_,?_,by rw[h1];exact h.tl,by rw[h2];exact h.sl,by rw[h1];exact h.b8,h4,λi hi=>Yq (h.tt i hi) hm.size⟩
 ·rw[h1];exact h.txt.mod hm (λi hi e=>by subst e;exact h.nrow.2 hi)
 ·rw[h2];exact h.out.mod hm (λi hi e=>by subst e;exact h.nrow.1 hi)
 ·rw[h2] at hs;exact(h.dgs j s x hs hx).keep hm (λi hi=>.inl (.inl (.inl hi)))
 ·obtain⟨mp,k1,k2⟩:=h.rdm;rw[h3];exact⟨mp,k1.mod hm (λe=>h.ne e.symm),k2⟩
end
def HX (w0 w:World)(base:Nat)(p:RP)(m:RM)(v:RV)(w':World):Prop:=∃m',m'.T=m.T/\Rr w0 w' base p m' v/\Mod (RS p m) w w'/\Moved w m.OA m'.OA/\Moved w m.BA m'.BA
def gZ (e f l:Int):List PanicEntry:=[{v:=.iface 160 (.agg #[.int .i64 e,.int .i64 f,.int .i64 l]),recovered:=false}]
section
variable {w0:World} {base:Nat} {p:RP} {m:RM} {v:RV}
theorem bi (e:Int)(w:World)(h:Rr w0 w base p m v):
  FnP Tryz.prog 148 [.pointer (some ⟨p.r,0,none⟩),.int .i64 e] w (λ_ _=>False) (λch w'=>ch=gZ e v.fl v.ln/\Ext w w'):=by
 refine bQ (c:={fQa with cuts:=[]}) Qa Tryz.func148 rfl rfl rfl ?_;have hB:=h.blk;refine rg Qa 12 (by kernel_rfl) ?_;refine QN (v:=.int .i64 v.fl) (λw' Qb=>by subst Qb;rw[(hB.ext (Ext.drew w)).cell];rfl) ?_;refine QN (v:=.int .i64 v.ln) (λw' Qb=>by subst Qb;rw[(hB.ext (Ext.drew w)).cell];rfl) ?_;exact rv rfl rfl ⟨rfl,Ext.drew w⟩
theorem CJ (x:DV)(w:World):Fn Tryz.prog 202 [.pointer (some ⟨p.r,0,none⟩),Xm x.A x.n x.c x.r,.int .i64 0] w (λu w'=>u=Xm x.A x.n x.c x.r/\Ext w w'):=by
 refine QJ (c:={fQH with cuts:=[]}) Qa Tryz.func202 rfl rfl rfl ?_;refine new (λw1 Qe Q6 Qh=>?_);refine new (λw2 Qg Ze Qy=>?_);refine WX rfl ?_;refine Qt (Qh.ext Qg) rfl ?_;refine Qv Qy rfl (sc rfl) (λw3 Jc _ Qu=>?_);have Qi:Ext w1 w3:=XT Qg Qy Jc;refine Qt Qu rfl ?_;exact⟨rfl,Qe.trans Qi⟩
def T7 (w:World)(k:Nat)(o:BF)(u:Value)(w':World):Prop:=∃x:DV,u=Xm x.A x.n x.c x.r/\Ext w w'/\SB w' x.A x.n x.c x.nd/\Set1 k x.nd x.r o/\∀i,Qk x.A i->w.heap.size<=i
theorem T8 (s:List Nat)(w:World)(hP:RPok w0 p)(h:Rr w0 w base p m v)(h8:∀x∈s,x<256)(hl:s.length<=1000000000000):
  FnP Tryz.prog 144 [.pointer (some ⟨p.r,0,none⟩),.string (Qd s)] w (λu w'=>∃o,V3 p.nm s= .ok o/\T7 w p.nm.length o u w') (λch w'=>∃e,V3 p.nm s= .error e/\ch=gZ e v.fl v.ln/\Ext w w'):=by
 refine bQ (c:={eQ6 with cuts:=[]}) Qa Tryz.func144 rfl rfl rfl ?_;refine new (λw1 Qe Q6 Qh=>?_);refine Qz (h.blk.ext Qe) rfl ?_;refine call (Sp p.nm p.NA p.nn p.nc s w1 ((hP.nms.ext h.e0).ext Qe) hP.nmb h8 hl) ?_;rw[hQO];have jT:V3 p.nm s=match fO p.nm s with
  | .ok t=>.ok (evF t)
  | .error e=>.error (if e=2 then 2 else 71):=rfl
 cases jJ:fO p.nm s with
 | ok t=>
  rw[jJ] at jT;obtain⟨k1,k2,k3⟩:=hQP jJ;rintro _ w2 ⟨G,mg,cG,rfl,Qg,hG⟩;have hk:=hP.nmk;refine J0 rfl ?_;refine call (hQ3 G mg cG _ p.nm.length hk w2 hG (Tp (k2.mono (by omega)) k3) (uU t _ 0 k2)) ?_;rintro _ w3 ⟨D,md,cD,nd,r,rfl,Qi,hD,hS,hR⟩;rw[Hw] at hS;refine call (CJ ⟨D,md,cD,nd,r⟩ w3) ?_;rintro _ w4 ⟨rfl,Qs⟩;have JW:=(Qg.trans Qi).trans Qs;refine Qv (Qh.ext JW) rfl (sc rfl) (λw5 JE _ QD=>?_);have Jt:Mod (·=w.heap.size) w4 w5:=qQL JE rfl;refine Qt QD rfl ?_;have Ze:=Qg.size;exact⟨_,jT,⟨D,md,cD,nd,r⟩,rfl,Jt.ext (Qe.trans JW) (λi hi=>by omega),SB.mod (hD.ext Qs) Jt (λi hi e=>by have:=hR i hi;omega),hS,λi hi=>by have:=hR i hi;omega⟩
 | error e=>
  rw[jJ] at jT;rintro _ w2 ⟨G,mg,cG,rfl,Qg,hG⟩;have XB:=Qe.trans Qg;have h2:=h.ext XB;rcases hQQ jJ with rfl | rfl | rfl | rfl
  ·refine XK (by decide) ?_;refine XK (by decide) ?_;refine XU (bi 71 w2 h2) (λ_ _ hf=>hf.elim) ?_;rintro ch w3 ⟨rfl,Qi⟩;exact⟨_,jT,rfl,XB.trans Qi⟩
  ·refine XK (by decide) ?_;refine J0 rfl ?_;refine XU (bi 2 w2 h2) (λ_ _ hf=>hf.elim) ?_;rintro ch w3 ⟨rfl,Qi⟩;exact⟨_,jT,rfl,XB.trans Qi⟩
  ·refine XK (by decide) ?_;refine XK (by decide) ?_;refine XU (bi 71 w2 h2) (λ_ _ hf=>hf.elim) ?_;rintro ch w3 ⟨rfl,Qi⟩;exact⟨_,jT,rfl,XB.trans Qi⟩
  ·refine XK (by decide) ?_;refine XK (by decide) ?_;refine XU (bi 71 w2 h2) (λ_ _ hf=>hf.elim) ?_;rintro ch w3 ⟨rfl,Qi⟩;exact⟨_,jT,rfl,XB.trans Qi⟩
theorem T9 (k:Nat)(hk:k<=12)(x y:DV)(o o':BF)(w:World)(hx:SB w x.A x.n x.c x.nd)(hxs:Set1 k x.nd x.r o)(hy:SB w y.A y.n y.c y.nd)(iy:Set1 k y.nd y.r o'):
  Fn Tryz.prog 146 [.pointer (some ⟨p.r,0,none⟩),Xm x.A x.n x.c x.r,Xm y.A y.n y.c y.r] w (λu w'=>∃a b:DV,u= .tuple #[Xm a.A a.n a.c a.r,Xm b.A b.n b.c b.r]/\Ext w w'/\SB w' a.A a.n a.c a.nd/\Set1 k a.nd a.r (XY o o')/\(∀i,Qk a.A i->w.heap.size<=i)/\SB w' b.A b.n b.c b.nd/\Set1 k b.nd b.r (J2 o o')/\∀i,Qk b.A i->w.heap.size<=i):=by
 refine QJ (c:={eQ8 with cuts:=[]}) Qa Tryz.func146 rfl rfl rfl ?_;refine new (λw1 Qe Q6 Qh=>?_);refine new (λw2 Qg Ze Qy=>?_);refine new (λw3 Qi Jr Qu=>?_);refine new (λw4 Qs KR QR=>?_);have Vl:=Qi.trans Qs;have Jh:=Qg.trans Vl;have Xp:=Qe.trans Jh;refine Qt (Qh.ext Jh) rfl ?_;refine Qt (Qy.ext Vl) rfl ?_;have hx4:=hx.ext Xp;have Mv:=hy.ext Xp;refine call (yf x.A x.n x.c x.nd x.r y.A y.n y.c y.nd y.r w4 hx4 Mv) ?_;rw[iW hk hxs iy 0];have c1:Set1 k _ _ (XY o o'):=(fN hxs iy 0).congr (λe=>by simp[KP]);generalize Ye x.nd x.r y.nd y.r 0=D at*;obtain⟨D1,D2⟩:=D;rintro _ w5 ⟨PA,pn,pc,rfl,Qx,ss,cr⟩;refine call (CJ ⟨PA,pn,pc,D1,D2⟩ w5) ?_;rintro _ w6 ⟨rfl,QQ⟩;have XM:=Qx.trans QQ;refine Qv ((Qu.ext Qs).ext XM) rfl (sc rfl) (λw7 Zv _ Q3=>?_);have Xe:Mod (·=w2.heap.size) w6 w7:=qQL Zv rfl;have XX:=Xp.trans XM;have Vx:Ext w w7:=Xe.ext XX (λi hi=>by omega);have n12:¬w.heap.size=w2.heap.size:=by omega
 have DP:¬w1.heap.size=w2.heap.size:=by omega
 have pD:=((Qh.ext Jh).ext XM).mod Xe n12;have mQ5:=((Qy.ext Vl).ext XM).mod Xe DP;have mQ6:=(QR.ext XM).mod Xe (by show¬w3.heap.size=w2.heap.size;omega);have mW:=SB.mod (ss.ext QQ) Xe (λi hi e=>by have:=cr i hi;omega);refine XR Qa (Ext w7) 12 [(true,0),(true,1),(true,2),(true,3),(false,4),(true,5),(true,6),(false,7),(false,8),(true,9),(true,10),(false,11)] (by kernel_rfl) (Ext.drew w7) ?_;refine Xv (vs:=x.cells) rfl (λw' Qb j u hj=>by rw[(pD.ext Qb).cell];exact hj) ?_;refine Xv (vs:=y.cells) rfl (λw' Qb j u hj=>by rw[(mQ5.ext Qb).cell];exact hj) ?_;have hd:=Ext.drew w7;refine call (HJ y.A y.n y.c y.nd y.r _ ((hy.ext Vx).ext hd)) ?_;have c0:Set1 k [] 0 (λ_=>false):=bV k false;rw[iW hk iy c0 3];have c2:Set1 k _ _ (λe=> !o' e):=(fN iy c0 3).congr (λe=>by simp[KP]);generalize Ye y.nd y.r [] 0 3=F at*;obtain⟨F1,F2⟩:=F;rintro _ w8 ⟨QA,qn,qc,rfl,Xn,hQ8,pC⟩;refine⟨hd.trans Xn,?_⟩;refine call (CJ ⟨QA,qn,qc,F1,F2⟩ w8) ?_;rintro _ w9 ⟨rfl,Xx⟩;have Vn:=(hd.trans Xn).trans Xx;refine⟨Vn,?_⟩;refine call (yf x.A x.n x.c x.nd x.r QA qn qc F1 F2 w9 ((hx.ext Vx).ext Vn) (hQ8.ext Xx)) ?_;rw[iW hk hxs c2 0];have c3:Set1 k _ _ (J2 o o'):=(fN hxs c2 0).congr (λe=>by simp[KP]);generalize Ye x.nd x.r F1 F2 0=G at*;obtain⟨G1,G2⟩:=G;rintro _ QE ⟨RA,rn,rc,rfl,X1,mQ7,jw⟩;refine⟨Vn.trans X1,?_⟩;refine call (CJ ⟨RA,rn,rc,G1,G2⟩ QE) ?_;rintro _ QL ⟨rfl,Jv⟩;have jx:=(Vn.trans X1).trans Jv;refine⟨jx,?_⟩;refine Qv (mQ6.ext jx) rfl (sc rfl) (λXb mX _ Vj=>?_);have V7:Mod (·=w3.heap.size) QL Xb:=qQL mX rfl;have vT:Ext w Xb:=V7.ext (Vx.trans jx) (λi hi=>by omega);have cQd:=(Q3.ext jx).mod V7 (by show¬w2.heap.size=w3.heap.size;omega);have W8:=Vx.size;have gc:=Vn.size;have mQ8:=V7.size;have pQy:=jx.size;have cQc:=XM.size;have pQz:=Xe.size;have mQ9:=SB.mod (mW.ext jx) V7 (λi hi e=>by have:=cr i hi;omega);have LU:=SB.mod (mQ7.ext Jv) V7 (λi hi e=>by have:=jw i hi;omega);have vU:=Ext.drew Xb;have n23:¬w3.heap.size=w2.heap.size:=by omega
 refine XR Qa (λw'=>Mod (λi=>i=w2.heap.size∨i=w3.heap.size) Xb w'/\Blk w' w2.heap.size 32 (⟨PA,pn,pc,D1,D2⟩:DV).cells/\Blk w' w3.heap.size 32 (⟨RA,rn,rc,G1,G2⟩:DV).cells) 4 [(true,0),(true,1),(false,2),(false,3)] (by kernel_rfl) ⟨Mod.of_ext _ vU,cQd.ext vU,Vj.ext vU⟩ ?_;refine Xv (vs:=(⟨PA,pn,pc,D1,D2⟩:DV).cells) rfl (λw' Qb j u hj=>by rw[Qb.2.1.cell];exact hj) ?_;refine Xv (vs:=(⟨RA,rn,rc,G1,G2⟩:DV).cells) rfl (λw' Qb j u hj=>by rw[Qb.2.2.cell];exact hj) ?_;refine Qv (cQd.ext vU) rfl (sc rfl) (λX9 zq _ Vw=>?_);have KA:Mod (·=w2.heap.size) Xb.drew X9:=qQL zq rfl;have cQe:Mod (λi=>i=w2.heap.size∨i=w3.heap.size) Xb X9:=(Mod.of_ext _ vU).trans KA (λi hi=>.inl (.inl hi));have cQf:=(Vj.ext vU).mod KA n23;refine⟨⟨cQe,Vw,cQf⟩,?_⟩;refine Qv cQf rfl (sc rfl) (λZu ga _ JV=>?_);have Vk:Mod (·=w3.heap.size) X9 Zu:=qQL ga rfl;have cQg:=Vw.mod Vk (λe=>n23 e.symm);have pB:=cQe.trans Vk (λi hi=>.inl (.inr hi));refine⟨⟨pB,cQg,JV⟩,?_⟩;refine Qt cQg rfl ?_;refine Qt JV rfl ?_;have DQ:Ext w Zu:=pB.ext vT (λi hi=>by rcases hi with rfl | rfl<;>omega);exact⟨⟨PA,pn,pc,D1,D2⟩,⟨RA,rn,rc,G1,G2⟩,rfl,DQ,SB.mod mQ9 pB (λi hi e=>by have:=cr i hi;omega),c1,λi hi=>by have:=cr i hi;have:=Xp.size;omega,
  SB.mod LU pB (λi hi e=>by have:=jw i hi;omega),c3,λi hi=>by have:=jw i hi;omega⟩
theorem Ua (w:World)(h:Rr w0 w base p m v)(hd:v.d<=64):
  FnP Tryz.prog 145 [.pointer (some ⟨p.r,0,none⟩)] w (λ_ w'=>v.d≠64/\Rr w0 w' base p m {v with d:=v.d+1}/\Mod (·=p.r) w w') (λch w'=>v.d=64/\ch=gZ 2 v.fl v.ln/\Ext w w'):=by
 refine bQ (c:={eQ7 with cuts:=[]}) Qa Tryz.func145 rfl rfl rfl ?_;refine Qo h.blk rfl ?_;refine X8 (λh1=>?_) (λh1=>?_)
 ·refine XU (bi 2 w h) (λ_ _ hf=>hf.elim) ?_;rintro ch w1 ⟨rfl,Qe⟩;exact⟨by omega,rfl,Qe⟩
 ·refine Qo h.blk rfl ?_;refine Qj ((v.d+1:Nat):Int) (by show((v.d:Nat):Int)+1=_;omega) (by omega) ?_;refine XV h.blk (show 4<11 by decide) (λw1 fW Qh=>?_);exact⟨λe=>h1 (by omega),h.put fW Qh rfl rfl rfl h.nf,fW⟩
theorem iQw (ix:List Nat->Option Nat)(rd s:List Nat):dK ix rd s=if s.length<2∨s.head? ≠some 34∨s.getLast? ≠some 34∨s.count 34≠2 then .error 71 else match ix ((s.drop 1).take (s.length-2))with
  | none=>.error 73
  | some n=>if n∈rd then .error 73 else .ok n:=rfl
theorem CL {ix:List Nat->Option Nat}{rd s:List Nat}(h:s.length<2∨s.head? ≠some 34∨s.getLast? ≠some 34∨s.count 34≠2):dK ix rd s= .error 71:=Qf h
theorem iQx {p:RP}(hP:RPok w0 p):KO (p.fs.map (·.1)):=λs hs=>by
 obtain⟨x,hx,rfl⟩:=Zk.1 hs;exact⟨(hP.flb x hx).n8,(hP.flb x hx).nl⟩
theorem iQy {α:Type} [DecidableEq α]{kv:α->Value}{c:Cx}{o:Oper}{S:Env}{t ke e:Nat}{r rk re:TyRow}{x y:Operand}{q:Nat}{mm:List (α×Value)}{a:α}{C:World->Prop}{K:Env->Prop}(hg:c.g.Ok)(ho:o.op= .lookup t x y true)(hr:Q0 c.g.tys t=some r)(hd:r.d= .map ke e)(cv:Q0 c.g.tys ke=some rk)(Zc:Q0 c.g.tys e=some re)(hk:KeyV rk.d kv)
  (hx:S.ev x=some (.map (some q))) (hy:S.ev y=some (kv a)) (hm:∀w,C w->MapAt kv w q mm) {v':Value} {b:Bool} (hv:(XG a mm).getD re.z=v') (hb:(XG a mm).isSome=b) (k:Xf c S o.dst (.v (.tuple #[v',.bool b])) K):dF c o S C K:=by
 subst hv hb;refine eQp (v:=.tuple #[(XG a mm).getD re.z,.bool (XG a mm).isSome]) (λb w hf hw=>?_) k;have e1:=hf.ev hx;have e2:=hf.ev hy;have:=GN (w:=w) (a:=a) hg hr hd cv Zc hk (hm w hw) true;simp only[execOp,ho,e1,e2];simp only[Sem.run_bind,this,Result.andThen_ok];cases XG a mm<;>simp
theorem iQz (s:List Nat)(w:World)(hP:RPok w0 p)(h:Rr w0 w base p m v)(h8:∀x∈s,x<256)(hl:s.length<=1000000000000):
  FnP Tryz.prog 147 [.pointer (some ⟨p.r,0,none⟩),.string (Qd s)] w (λu w'=>∃n:Nat,dK (Jq (p.fs.map (·.1))) v.rd s= .ok n/\u= .int .i64 n/\Ext w w') (λch w'=>∃e,dK (Jq (p.fs.map (·.1))) v.rd s= .error e/\ch=gZ e v.fl v.ln/\Ext w w'):=by
 refine bQ (c:={eQ9 with cuts:=[]}) Qa Tryz.func147 rfl rfl rfl ?_;have XQ:=Q8 s;have du:=Ws h8;refine Qw (λh1=>?_) (λh1=>?_)
 ·have hs:s.length<2:=by rw[XQ] at h1;omega
  refine XU (bi 71 w h) (λ_ _ hf=>hf.elim) ?_;rintro ch w1 ⟨rfl,Qe⟩;exact⟨_,CL (.inl hs),rfl,Qe⟩
 have hs:¬s.length<2:=by rw[XQ] at h1;omega
 refine dE (j:=0) (by omega) (λx hx iA=>?_);rw[du] at hx;have dQj:s.head? =some x:=by rw[List.head?_eq_getElem?];exact hx
 refine WW (λh2=>?_) (λh2=>?_)
 ·refine XU (bi 71 w h) (λ_ _ hf=>hf.elim) ?_;rintro ch w1 ⟨rfl,Qe⟩;exact⟨_,CL (.inr (.inl (by rw[dQj];intro e;cases e;exact h2 rfl))),rfl,Qe⟩
 have nQa:x=34:=by omega
 refine Qj ((s.length-1:Nat):Int) (by rw[XQ];omega) (by omega) ?_;refine dE (j:=s.length-1) (by omega) (λy hy hyl=>?_);rw[du] at hy;have qj:s.getLast? =some y:=by rw[tW];exact hy
 refine WW (λh3=>?_) (λh3=>?_)
 ·refine XU (bi 71 w h) (λ_ _ hf=>hf.elim) ?_;rintro ch w1 ⟨rfl,Qe⟩;exact⟨_,CL (.inr (.inr (.inl (by rw[qj];intro e;cases e;exact h3 rfl)))),rfl,Qe⟩
 have nQb:y=34:=by omega
 refine call (TU s 34 w h8 (by decide)) ?_;rintro _ _ ⟨rfl,rfl⟩;refine WW (λh4=>?_) (λh4=>?_)
 ·refine XU (bi 71 w h) (λ_ _ hf=>hf.elim) ?_;rintro ch w1 ⟨rfl,Qe⟩;exact⟨_,CL (.inr (.inr (.inr (by omega)))),rfl,Qe⟩
 have hcond:¬(s.length<2∨s.head? ≠some 34∨s.getLast? ≠some 34∨s.count 34≠2):=by
  rintro(h | h | h | h)
  ·exact hs h
  ·rw[dQj,nQa] at h;exact h rfl
  ·rw[qj,nQb] at h;exact h rfl
  ·omega
 have jU:dK (Jq (p.fs.map (·.1))) v.rd s=match Jq (p.fs.map (·.1)) ((s.drop 1).take (s.length-2))with
  | none=>.error 73
  | some n=>if n∈v.rd then .error 73 else .ok n:=if_neg hcond
 have hn8:∀b∈(s.drop 1).take (s.length-2),b<256:=λb hb=>h8 b (WT (Wn hb))
 have aK:=G6 (iQx hP) _ hn8;have hB:=h.blk;refine XR Qa (Ext w) 15 [(true,0),(true,1),(true,2),(true,3),(true,4),(true,5),(true,6),(true,7),(true,8),(true,9),(true,10),(true,11),(true,12),(true,13),(true,14)] (by kernel_rfl) (Ext.drew w) ?_;refine QN (v:=.map (some p.nq)) (λw' Qb=>by rw[(hB.ext Qb).cell];rfl) ?_;refine Qj ((s.length-1:Nat):Int) (by rw[XQ];omega) (by omega) ?_;refine Xy (v':=.string (Qd ((s.drop 1).take (s.length-2)))) ⟨by omega,by omega,by rw[XQ];omega⟩ ?_ ?_
 ·rw[KN];simp only[iO,Int.toNat_one];rw[fA];congr 3
 generalize jI:(s.drop 1).take (s.length-2)=nm at*;refine iQy (kv:=Yt) (a:=Qd nm) (v':=.int .i64 ((Jq (p.fs.map (·.1)) nm).getD 0:Nat)) (b:=(Jq (p.fs.map (·.1)) nm).isSome) Qa rfl rfl rfl rfl rfl qQM rfl rfl (λw' Qb=>(hP.nqm.ext h.e0).ext Qb) (by rw[aK];cases Jq (p.fs.map (·.1)) nm<;>rfl) (by rw[aK];cases Jq (p.fs.map (·.1)) nm<;>rfl) ?_;have Qe:=Ext.drew w;have vH:=h.ext Qe;obtain⟨mp,k1,k2,k3⟩:=vH.rdm;cases KK:Jq (p.fs.map (·.1)) nm with
 | none=>
  rw[KK] at jU;refine Xd rfl ?_;refine XU (bi 73 _ vH) (λ_ _ hf=>hf.elim) ?_;rintro ch w1 ⟨rfl,Qg⟩;exact⟨_,jU,rfl,Qe.trans Qg⟩
 | some n=>
  rw[KK] at jU;simp only at jU;refine Q9 rfl ?_;refine Qo vH.blk rfl ?_;refine Ha (kv:=bU) (a:=(n:Int)) (v:=.bool (decide (n∈v.rd))) Qa rfl rfl rfl rfl rfl (KeyV.int .i64) rfl rfl k1 (by rw[k3 n];by_cases hm:n∈v.rd<;>simp[hm]) ?_;by_cases hm:n∈v.rd
  ·rw[Qf hm] at jU;refine Zy hm ?_;refine XU (bi 73 _ vH) (λ_ _ hf=>hf.elim) ?_;rintro ch w1 ⟨rfl,Qg⟩;exact⟨_,jU,rfl,Qe.trans Qg⟩
  ·rw[if_neg hm] at jU;refine XJ hm ?_;exact⟨n,jU,rfl,Qe⟩
end
end
section
theorem iQA {α:Type}{f:α->List Value}(hf:∀x,∀u∈f x,JS u=true)(l:List α):∀u∈l.flatMap f,JS u=true:=λu hu=>by
 obtain⟨x,_,hx⟩:=Wo.1 hu;exact hf x u hx
theorem iQB (x:Br):∀u∈x.cells,JS u=true:=sc rfl
theorem iQC (k:Nat)(hk:k<=12)(x:DV)(o:BF)(w:World)(hx:SB w x.A x.n x.c x.nd)(hs:Set1 k x.nd x.r o):
  Fn Tryz.prog 206 [Xm x.A x.n x.c x.r] w (T7 w k o):=by
 have QZ:=hx.2;have hl:=hs.len hk;refine QJ (c:={fQK with cuts:=[]}) Qa Tryz.func206 rfl rfl rfl ?_;refine new (λw1 Qe Q6 Qh=>?_);refine new (λw2 Qg Ze Qy=>?_);have QT:=Qe.trans Qg;have Vj:=Qh.ext Qg;refine XR Qa (Ext w2) 6 [(true,0),(true,1),(true,3),(true,4),(false,2),(true,5)] (by kernel_rfl) (Ext.drew w2) ?_;refine QN (v:=.slice x.A x.n x.c) (λw' Qb=>by rw[(Vj.ext Qb).cell];rfl) ?_;refine QN (v:=.int .i64 x.r) (λw' Qb=>by rw[(Vj.ext Qb).cell];rfl) ?_;have hd:=Ext.drew w2;have hz:=hd.size;refine Je (base:=w2.drew.heap.size) Qa rfl rfl rfl rfl rfl (by decide) rfl rfl ⟨_,rfl⟩ rfl rfl (Own.nil _ _ _ _) ((hx.ext QT).ext hd).1 (iQA iQB _) (by unfold maxLen;omega) (by show(0+x.n)*24<=_;omega) (QB _) ?_;intro A' c' w3 XI ph DB;have VT:Ext w2 w3:=XI.ext hd (λi hi=>by obtain⟨_,e,_⟩:=hi;cases e);refine⟨VT,?_⟩;refine Qv (Qy.ext VT) rfl (sc rfl) (λw4 aC _ QR=>?_);have K6:Mod (·=w1.heap.size) w3 w4:=qQL aC rfl;refine Qt QR rfl ?_;have ld:∀i,Qk A' i->w2.heap.size<=i:=λi hi=>by have:=(ph.rows i hi).1;omega
 refine⟨⟨A',0+x.n,c',x.nd,x.r⟩,rfl,K6.ext (QT.trans VT) (λi hi=>by omega),?_,hs,λi hi=>by have:=ld i hi;have:=QT.size;omega⟩;refine SB.mod ⟨?_,by show x.nd.length=0+x.n;omega⟩ K6 (λi hi e=>by have:=ld i hi;omega);simpa using ph.sl
theorem HY {l:List Sg}{L:List DV}(h:L.length=l.length)(s:Sg)(x:DV):dN (l++ [s]) (L++ [x])=dN l L++oK (s,x):=by
 unfold dN;rw[List.zip_append h.symm];simp
theorem Ub {l:List Sg}{L:List DV}(h:L.length=l.length):(dN l L).length=l.length*6:=by
 unfold dN;rw[eN iQv];simp[h]
theorem iQD (x:Sg×DV):∀u∈oK x,JS u=true:=sc rfl
theorem HZ {w:World}{base e sz n c j:Nat}{a:Addr}{xs:List Value}{v:Value}{K:World->Prop}(h:Own w base e sz (some a) n c xs)(hn:0<n)(hj:j<n*sz)
  (k:∀w1,Mod (Qk (some a)) w w1->Own w1 base e sz (some a) n c (xs.set j v)->K w1):fG w (a.add j) v K:=by
 have _:=hn;have hr:=h.row;have QZ:=hr.1;rcases hr.2 with⟨hv,_⟩ | ⟨g,cap,ZR,hv,hb,hg,p9,nu,XN,tj⟩
 ·cases hv
 ·cases hv;have hB:Blk w g e ZR.toList:=by unfold Blk;rw[hg]
  have hjc:j<ZR.toList.length:=by
   have:ZR.size=c*sz:=XN;have h2:n*sz<=c*sz:=WN _ p9;simp only[Array.length_toList];omega
  refine XV hB hjc (λw1 hm Qh=>k w1 (hm.mono (λi hi=>.inl ⟨_,rfl,hi.symm⟩)) ⟨⟨by rw[gG];exact QZ,.inr ⟨g,c,(ZR.toList.set j v).toArray,rfl,hb,Qh,p9,nu,by simpa using XN,?_⟩⟩⟩);have ht:ZR.toList.take (n*sz)=xs:=tj;show((ZR.toList.set j v).toArray.toList).take (n*sz)=xs.set j v;rw[<-ht];simp only[List.take_set]
theorem iQE {l:List Sg}{L:List DV}(h:L.length=l.length)(s:Sg)(x:DV)(t:Nat):(dN (l++ [s]) (L++ [x])).set (l.length*6+1) (.int .i64 t)=dN (l++ [{s with t:=t}]) (L++ [x]):=by
 rw[HY h,HY h,Bu _ _ (by rw[Ub h];omega),Ub h];congr 1;rw[show l.length*6+1-l.length*6=1 by omega]<;>rfl
theorem H0 {a b:List Nat}(ha:∀x∈a,x<256)(hb:∀x∈b,x<256):∀x∈a++b,x<256:=λx hx=>by
 rcases XP.1 hx with h | h
 ·exact ha x h
 ·exact hb x h
section
variable {w0:World} {base:Nat} {p:RP}
theorem Uc {s:List Nat}{fl at_:Nat}{k:BF}{g:Gs}(h:1048576<g.tx.length+s.length∨(g.fr=true/\g.sg.length=65536)):Vt s fl at_ k g=none:=Qf h
theorem iQF {s:List Nat}{fl at_:Nat}{k:BF}{g:Gs}(h:¬(1048576<g.tx.length+s.length∨(g.fr=true/\g.sg.length=65536))):Vt s fl at_ k g=some ⟨g.tx++s,oG (g.tx.length+s.length) (if g.fr then g.sg++ [⟨g.tx.length,0,fl,at_,k⟩] else g.sg),false⟩:=if_neg h
theorem iQG:yg 157 11 5:=by unfold yg;kernel_rfl
theorem Rr.app {m:RM}{v v':RV}{w w1 w2:World}(h:Rr w0 w base p m v)(s:Sg)(x:DV){A':Option Addr}{c':Nat}(ZE:Mod (Qk m.OA) w w1)(ho:Own w1 base 48 6 A' (v.g.sg.length+1) c' (dN v.g.sg m.L++oK (s,x)))(hv:Moved w m.OA A')(XW:Mod (·=p.r) w1 w2)
  (hx:DgO w (TS p m) p.nm.length x s.o) (hl:v.g.sg.length<65536) (e1:v'.g.tx=v.g.tx) (e2:v'.g.sg=v.g.sg++ [s]) (e3:v'.rd=v.rd) (hB:Blk w2 p.r 157 (mj p {m with OA:=A',oc:=c',L:=m.L++ [x]} v')):Rr w0 w2 base p {m with OA:=A',oc:=c',L:=m.L++ [x]} v':=by
 have QH:=TS.moved (p:=p) (m:=m) (m':={m with OA:=A',oc:=c',L:=m.L++ [x]}) rfl hv (Moved.refl w m.BA);have ZW:Mod (RS p m) w w2:=(ZE.mono (S':=RS p m) (λi hi=>.inl (.inr (.inr (.inl hi))))).trans XW (λi hi=>.inl (.inl hi));have Fx:∀i,Qk A' i->¬i=p.r:=λi hi e=>by subst e;have:=(ho.rows _ hi).1;have:=h.rb;omega
 have XQ:=h.top;have Q6:=ZE.size;have Ze:=XW.size;refine⟨ZW.ext h.e0 h.lo,h.lor,h.loq,h.rb,h.qb,h.ne,by omega,h.pa,hB,?_,?_,?_,?_,?_,by rw[e1];exact h.tl,?_,by rw[e1];exact h.b8,λ_=>.inl (by rw[e2];simp),λi hi=>Yq (h.tt i hi) (by omega)⟩
 ·rw[e1];exact(h.txt.mod ZE (λi hi hj=>h.txt.apart h.out (by decide) hi hj)).mod XW (λi hi e=>by subst e;exact h.nrow.2 hi)
 ·rw[e2];have:=ho.mod XW Fx;rw[HY h.len,Qq];exact this
 ·rw[e2];show(m.L++ [x]).length=_;rw[Qq,Qq,h.len]<;>rfl
 ·rw[e2];intro j s1 x1 di fY;have fY:(m.L++ [x])[j]? =some x1:=fY;rcases rD di with⟨hj,di⟩ | ⟨hj,di⟩
  ·rw[gI (by rw[h.len];exact hj)] at fY;exact(h.dgs j s1 x1 di fY).step (ZW.mono (λi hi=>.inl (.inl hi))) QH
  ·rw[aS (by rw[h.len];exact hj),h.len] at fY;obtain⟨h0,rfl⟩:=lY di;obtain⟨_,rfl⟩:=lY fY;exact hx.step (ZW.mono (λi hi=>.inl (.inl hi))) QH
 ·obtain⟨mp,k1,k2⟩:=h.rdm;rw[e3];exact⟨mp,(k1.mod ZE (k1.apart h.out)).mod XW (λe=>h.ne e.symm),k2⟩
 ·rw[e2,Qq];simp;omega
theorem iQH {l:List Sg}{L:List DV}(h:L.length=l.length)(hn:l≠ []):∃l' s L' x,l=l'++ [s]/\L=L'++ [x]/\L'.length=l'.length:=by
 rcases qM l with rfl | ⟨l',s,rfl⟩
 ·exact Xc rfl hn
 rcases qM L with rfl | ⟨L',x,rfl⟩
 ·simp at h
 ·exact⟨l',s,L',x,by simp,by simp,by simpa using h⟩
theorem add_fn (m:RM)(v:RV)(s:List Nat)(at_:Nat)(k:DV)(o:BF)(w:World)(hP:RPok w0 p)(h:Rr w0 w base p m v)(hk:DgO w (RS p m) p.nm.length k o)(h8:∀x∈s,x<256)(jO:s.length<=1048577)(oQL:v.rd≠ []):
  FnP Tryz.prog 150 [.pointer (some ⟨p.r,0,none⟩),.string (Qd s),.int .i64 at_,Xm k.A k.n k.c k.r] w (λ_ w'=>∃g',Vt s v.fl at_ o v.g=some g'/\HX w0 w base p m {v with g:=g'} w') (λch w'=>Vt s v.fl at_ o v.g=none/\ch=gZ 2 v.fl v.ln/\Ext w w'):=by
 have jR:=Q8 s;have Wd:=h.tl;have qQt:=h.sl;refine bQ (c:={fQc with cuts:=[2,4]}) Qa Tryz.func150 rfl rfl rfl ?_;refine new (λw1 Qe Q6 Qh=>?_);have h1:=h.ext Qe;refine call (hQ7 p.r 157 5 (mj p m v) m.BA m.bc v.g.tx.length w1 h1.blk rfl) ?_;rintro _ _ ⟨rfl,rfl⟩;refine Rw [] Qa (λw2=>w1=w2/\¬(1048576<v.g.tx.length+s.length∨(v.g.fr=true/\v.g.sg.length=65536))) ?_ ?_
 ·refine Qj ((v.g.tx.length+s.length:Nat):Int) (by rw[jR];omega) (by omega) ?_;refine Qw (λc1=>?_) (λc1=>?_)
  ·refine XU (bi 2 w1 h1) (λ_ _ hf=>hf.elim) ?_;rintro ch w2 ⟨rfl,Qg⟩;exact⟨Uc (.inl (by omega)),rfl,Qe.trans Qg⟩
  refine Qo h1.blk rfl ?_;refine YK (λf1=>?_) (λf1=>?_)
  ·refine Qo h1.blk rfl ?_;refine X8 (λc2=>?_) (λc2=>?_)
   ·refine XU (bi 2 w1 h1) (λ_ _ hf=>hf.elim) ?_;rintro ch w2 ⟨rfl,Qg⟩;exact⟨Uc (.inr ⟨f1,by omega⟩),rfl,Qe.trans Qg⟩
   ·exact⟨rfl,rfl,by omega⟩
  ·exact⟨rfl,rfl,by rw[f1];intro hh;rcases hh with hh | ⟨hh,_⟩;omega;cases hh⟩
 rintro _ ⟨rfl,tm⟩;have oQM:=iQF (s:=s) (fl:=v.fl) (at_:=at_) (k:=o) (g:=v.g) tm;refine Rw [] Qa (HX w0 w1 base p m {v with g:=⟨v.g.tx,if v.g.fr then v.g.sg++ [⟨v.g.tx.length,0,v.fl,at_,o⟩] else v.g.sg,false⟩}) ?_ ?_
 ·refine Qo h1.blk rfl ?_;refine YK (λf1=>?_) (λf1=>?_)
  ·have f1:v.g.fr=true:=f1;have qk:v.g.sg.length<65536:=by
    rcases Nat.lt_or_ge v.g.sg.length 65536 with hh | hh
    ·exact hh
    ·exact Xc (Or.inr ⟨f1,by omega⟩) tm
   have nE:=h.hi;have nC:¬RS p m w.heap.size:=λhh=>by have:=nE _ hh;omega
   have nrow:=h.nrow;refine XR Qa (Mod (Qk m.OA) w1) 18 [(true,0),(true,1),(true,2),(true,3),(true,4),(true,5),(true,6),(true,7),(true,8),(true,9),(true,10),(true,11),(false,12),(true,13),(false,14),(false,15),(true,16),(true,17)] (by kernel_rfl) (Mod.of_ext _ (Ext.drew w1)) ?_;refine QN (v:=.slice m.OA v.g.sg.length m.oc) (λw' Qb=>by rw[(h1.blk.mod Qb nrow.1).cell];rfl) ?_;refine QN (v:=.int .i64 v.fl) (λw' Qb=>by rw[(h1.blk.mod Qb nrow.1).cell];rfl) ?_;refine Xv (vs:=k.cells) rfl (λw' Qb j u hj=>by rw[(Qh.mod Qb (λhh=>nC (.inr (.inr (.inl hh))))).cell];exact hj) ?_;have hd:=Ext.drew w1;have DR:=hk.ext Qe;refine call (iQC p.nm.length hP.nmk k o w1.drew (DR.sb.ext hd) DR.st) ?_;rintro _ w2 ⟨x,rfl,Qg,LJ,hxs,Fy⟩;have XB:=hd.trans Qg;refine⟨Mod.of_ext _ XB,?_⟩;refine Xg Qa [oK (⟨v.g.tx.length,0,v.fl,at_,o⟩,x)] rfl rfl rfl rfl rfl ⟨rfl,rfl,⟨⟩⟩ rfl (λcs hh=>by simp only[QO] at hh;subst hh;rfl) rfl (by decide) (by decide) ?_;intro w3 Qi Jr Qu;have XF:=XB.trans Qi;refine⟨Mod.of_ext _ XF,?_⟩;have h3:=h1.ext XF;have sh:Sl w3 6 (some ⟨w2.heap.size,0,none⟩) 1 1 (oK (⟨v.g.tx.length,0,v.fl,at_,o⟩,x)):=Sl.own (sz:=6) (n:=1) Qu (QB _) (by decide) (by simp[oK]);refine Je Qa rfl rfl rfl rfl rfl (by decide) rfl rfl ⟨_,rfl⟩ rfl rfl h3.out sh (iQD _) (by unfold maxLen;omega) (by show(v.g.sg.length+1)*64<=_;omega) h3.top ?_;intro A' c' w4 Zf si DS;refine⟨(Mod.of_ext (Qk m.OA) XF).trans Zf (λi hi=>.inl hi),?_⟩;refine XV (h3.blk.mod Zf nrow.1) (show 7<11 by decide) (λw5 XZ QD=>?_);refine XV QD (show 8<11 by decide) (λw6 VQ Q7=>?_);have cQh:Mod (·=p.r) w4 w6:=XZ.trans VQ (λi hi=>.inl hi);have nQc:=h1.hiT;have As:DgO w3 (TS p m) p.nm.length x o:=(DgO.new (S:=TS p m) LJ hxs Fy (λi hi=>by have:=nQc i hi;have:=hd.size;omega)).ext Qi;have hx3:DgO w3 (TS p m) p.nm.length x (⟨v.g.tx.length,0,v.fl,at_,o⟩:Sg).o:=As;rw[f1,Qf rfl];refine⟨rfl,⟨{m with OA:=A',oc:=c',L:=m.L++ [x]},rfl,h3.app ⟨v.g.tx.length,0,v.fl,at_,o⟩ x Zf si DS cQh hx3 qk rfl rfl rfl ?_,?_,DS.back XF.size,Moved.refl _ _⟩⟩
   ·have e:(v.g.sg++ [(⟨v.g.tx.length,0,v.fl,at_,o⟩:Sg)]).length=v.g.sg.length+1:=by simp
    show Blk w6 p.r 157 [.slice p.NA p.nn p.nc,.slice p.FA p.nf p.cf,.map (some p.nq),.map (some p.q),.int .i64 v.d,m.pa,.slice m.BA v.g.tx.length m.bc,.slice A' (v.g.sg++ [(⟨v.g.tx.length,0,v.fl,at_,o⟩:Sg)]).length c',.bool false,.int .i64 v.fl,.int .i64 v.ln];rw[e];exact Q7
   ·exact((Mod.of_ext (RS p m) XF).trans Zf (λi hi=>.inl (.inr (.inr (.inl hi))))).trans cQh (λi hi=>.inl (.inl hi))
  ·have f1:v.g.fr=false:=f1;have e:({v with g:=⟨v.g.tx,if v.g.fr then v.g.sg++ [⟨v.g.tx.length,0,v.fl,at_,o⟩] else v.g.sg,false⟩}:RV)=v:=by
    obtain⟨d,fl,ln,rd,⟨tx,sg,fr⟩⟩:=v;simp only at f1;subst f1;rfl
   rw[e];exact⟨rfl,m,rfl,h1,Mod.refl _ _,Moved.refl _ _,Moved.refl _ _⟩
 rintro w2 ⟨m2,W9,h2,XW,Kr,Dz⟩;generalize pQA:(if v.g.fr then v.g.sg++ [(⟨v.g.tx.length,0,v.fl,at_,o⟩:Sg)] else v.g.sg)=WF at*;have QX:WF≠ []:=(h2.nf rfl).resolve_right oQL;have Ki:=h2.sl;simp only at Ki;obtain⟨l',s0,L',x0,e1,e2,e3⟩:=iQH (l:=WF) h2.len QX;have kM:0<WF.length:=tY.2 QX;obtain⟨oa,Ku,_⟩:=h2.out.sl.at_ kM;have Ku:m2.OA=some oa:=Ku;have oQN:yg 157 (mj p m2 {v with g:=⟨v.g.tx,WF,false⟩}).length 5:=by rw[show(mj p m2 {v with g:=⟨v.g.tx,WF,false⟩}).length=11 from rfl];exact iQG
 refine call (hQ6 base p.r 157 5 m2.pa (mj p m2 {v with g:=⟨v.g.tx,WF,false⟩}) m2.BA m2.bc v.g.tx (Qd s) w2 oQN (show 6<11 by decide) h2.pa h2.blk rfl rfl h2.txt h2.rb h2.top (by rw[jR];omega)) ?_;rintro _ w3 ⟨B',b',Qu,zr,XI,bt⟩;rw[jR,Ws h8] at zr;rw[jR] at Qu;have cQi:=h2.nrow;have cQj:Own w3 base 48 6 m2.OA WF.length m2.oc (dN WF m2.L):=h2.out.mod XI (λi hi hj=>by
  rcases hj with rfl | hj
  ·exact cQi.1 hi
  ·exact h2.out.apart h2.txt (by decide) hi hj)
 have hd:=Ext.drew w3;have cQk:=Qu.ext hd;refine rg Qa 16 (by kernel_rfl) ?_;refine QN (v:=.slice m2.OA WF.length m2.oc) (λw' Qb=>by subst Qb;rw[cQk.cell];rfl) ?_;refine QN (v:=.slice m2.OA WF.length m2.oc) (λw' Qb=>by subst Qb;rw[cQk.cell];rfl) ?_;refine Qj ((WF.length-1:Nat):Int) (by omega) (by omega) ?_;refine Qj ((v.g.tx.length+s.length:Nat):Int) (by rw[jR];omega) (by omega) ?_;rw[Ku];refine Kc (j:=WF.length-1) (by omega) ?_;have cQl:=cQj.ext hd;rw[Ku] at cQl;have ZF:WF.length=l'.length+1:=by rw[e1];simp
 show fG _ ((oa.add ((WF.length-1)*6)).add 1) _ _;rw[add_add];refine HZ cQl kM (by omega) (λw4 Zf Mw=>?_);have Xq:(dN WF m2.L).set ((WF.length-1)*6+1) (.int .i64 ((v.g.tx.length+s.length:Nat):Int))=dN (oG (v.g.tx.length+s.length) WF) m2.L:=by
  have e:(l'++ [s0]).length-1=l'.length:=by simp
  rw[e1,e2,iY,e,iQE e3]
 rw[Xq] at Mw;have zt:(oG (v.g.tx.length+s.length) WF).length=WF.length:=by rw[e1,iY];simp
 have zu:Mod (Qk m2.OA) w3 w4:=by rw[Ku];exact(Mod.of_ext _ hd).trans Zf (λi hi=>.inl hi)
 have oQO:∀i,Qk B' i->¬Qk m2.OA i:=λi hi hj=>cQj.apart zr (by decide) hj hi
 have hall:Mod (RS p m2) w2 w4:=(XI.mono (S':=RS p m2) (λi hi=>by
   rcases hi with rfl | hi
   ·exact .inl (.inl rfl)
   ·exact .inl (.inr (.inr (.inr hi))))).trans zu (λi hi=>.inl (.inr (.inr (.inl hi))))
 have Jr:=XI.size;have KR:=zu.size;have pQB:=h2.top;refine⟨_,oQM,{m2 with BA:=B',bc:=b',pa:=.pointer (some (Ke p.r 5))},W9,⟨hall.ext h2.e0 h2.lo,h2.lor,h2.loq,h2.rb,h2.qb,h2.ne,by omega,.inr rfl,?_,?_,?_,?_,?_,?_,?_,?_,?_,λ_=>?_,λi hi=>Yq (h2.tt i hi) (by omega)⟩,?_,?_,?_⟩
 all_goals try simp only
 ·have e:(v.g.tx++s).length=v.g.tx.length+s.length:=by simp
  show Blk w4 p.r 157 [.slice p.NA p.nn p.nc,.slice p.FA p.nf p.cf,.map (some p.nq),.map (some p.q),.int .i64 v.d,.pointer (some (Ke p.r 5)),.slice B' (v.g.tx++s).length b',.slice m2.OA (oG (v.g.tx.length+s.length) WF).length m2.oc,.bool false,.int .i64 v.fl,.int .i64 v.ln];rw[e,zt];exact Qu.mod zu cQi.1
 ·rw[Qq];exact zr.mod zu oQO
 ·rw[zt];rw[<-Ku] at Mw;exact Mw
 ·rw[zt];exact h2.len
 ·intro j s1 x1 di fY;have QH:=TS.moved (p:=p) (m:=m2) (m':={m2 with BA:=B',bc:=b',pa:=.pointer (some (Ke p.r 5))}) rfl (Moved.refl w2 m2.OA) bt;have key:∃s2,WF[j]? =some s2/\s2.o=s1.o:=by
   rw[e1,iY] at di;rw[e1];rcases rD di with⟨hj,di⟩ | ⟨hj,di⟩
   ·exact⟨s1,by rw[gI hj];exact di,rfl⟩
   ·obtain⟨h0,rfl⟩:=lY di;exact⟨s0,by rw[aS hj,h0];rfl,rfl⟩
  obtain⟨s2,mI,jT⟩:=key;rw[<-jT];exact(h2.dgs j s2 x1 mI fY).step (hall.mono (λi hi=>.inl (.inl hi))) QH
 ·obtain⟨mp,k1,k2⟩:=h2.rdm;refine⟨mp,(k1.mod XI (λhj=>?_)).mod zu (k1.apart h2.out),k2⟩;rcases hj with e | hj
  ·exact h2.ne e.symm
  ·exact k1.apart h2.txt hj
 ·rw[Qq];omega
 ·rw[zt];exact Ki
 ·exact H0 h.b8 h8
 ·exact .inl (by rw[<-tY,zt];exact kM)
 ·exact(((Mod.of_ext (RS p m) Qe).trans XW (λi hi=>.inl hi)).trans hall (λi hi=>by
   rcases RS.moved (p:=p) Kr Dz i hi with hh | hh
   ·exact .inl hh
   ·exact .inr (by have:=Qe.size;omega)))
 ·exact Kr.back Qe.size
 ·exact(Dz.trans bt XW.size).back Qe.size
end
end
section
theorem Rr.modT {w0 w w':World}{base:Nat}{p:RP}{m:RM}{v:RV}{U T':Nat->Prop}(h:Rr w0 w base p m v)(hm:Mod U w w')(hU:∀i,U i->m.T i)(bF:∀i,U i->¬RS p m i)(jV:∀i,U i->w0.heap.size<=i)(hT:∀i,T' i->m.T i∨w.heap.size<=i)(Xa:∀i,T' i->i<w'.heap.size):
  Rr w0 w' base p {m with T:=T'} v:=
 ⟨hm.ext h.e0 jV,h.lor,h.loq,h.rb,h.qb,h.ne,X3 h.top hm.size,h.pa,h.blk.mod hm (λhu=>bF _ hu (.inl rfl)),h.txt.mod hm (λi hi hu=>bF _ hu (.inr (.inr (.inr hi)))),h.out.mod hm (λi hi hu=>bF _ hu (.inr (.inr (.inl hi)))),h.len,
  λj s x h1 h2=>(h.dgs j s x h1 h2).step (hm.mono (λi hi=>.inl (.inr (hU i hi)))) (λi hi=>hi.elim (λhr=>.inl (.inl hr)) (λht=>(hT i ht).elim (λh=>.inl (.inr h)) .inr)),
  let ⟨mp,h1,h2⟩:=h.rdm;⟨mp,h1.mod hm (λhu=>bF _ hu (.inr (.inl rfl))),h2⟩,h.tl,h.sl,h.b8,h.nf,Xa⟩
theorem iQI {j m:Nat}{vs l:List Value}(h:j+vs.length<=m)(hm:m<=l.length):(Vs j vs l).take m=Vs j vs (l.take m):=by
 have hx:(l.take m).length=m:=by rw[Kx];omega
 rw[kn j vs l (by omega),kn j vs (l.take m) (by omega)];rw[qF,qF,Qq,Kx];rw[List.take_take,ZS (l:=vs) (by omega),List.take_take];rw[show min m j=j by omega,show min j m=j by omega,fA];congr 2;omega
theorem Ud {P:Program}{w:World}{base e sz n c j:Nat}{a:Addr}{xs vs:List Value}{K:World->Prop}(h:Own w base e sz (some a) n c xs)(hj:j+vs.length<=n*sz)(iz:∀u∈vs,JS u=true)
  (k:∀w1,Mod (Qk (some a)) w w1->Own w1 base e sz (some a) n c (Vs j vs xs)->K w1):nW P w (a.add j) vs K:=by
 have hr:=h.row;have QZ:=hr.1;rcases hr.2 with⟨hv,_⟩ | ⟨g,cap,ZR,hv,hb,hg,p9,nu,XN,tj⟩
 ·cases hv
 ·cases hv;have hB:Blk w g e ZR.toList:=by unfold Blk;rw[hg]
  have cA:ZR.toList.length=c*sz:=by simpa using XN
  have h2:n*sz<=c*sz:=WN _ p9;refine ko hB (by omega) iz (λw1 hm _ Qh=>k w1 (qQL hm ⟨_,rfl,rfl⟩) ⟨⟨by rw[Ry _ _ _ (by omega)];exact QZ,.inr ⟨g,c,(Vs j vs ZR.toList).toArray,rfl,hb,Qh,p9,nu,?_,?_⟩⟩⟩)
  ·have:=Ry j vs ZR.toList (by omega);simp only[List.size_toArray];omega
  ·have ht:ZR.toList.take (n*sz)=xs:=tj;show((Vs j vs ZR.toList).toArray.toList).take (n*sz)=_;rw[<-ht,<-iQI hj (by omega)]
theorem Ue {w:World}{base e sz n c o i:Nat}{a:Addr}{xs:List Value}{u:Value}{K:Value->Prop}(h:Own w base e sz (some a) n c xs)(hn:0<n)(hv:xs[o+i]? =some u)(k:K u):iP w ((a.add o).add i) K:=by
 obtain⟨ad,e1,hc⟩:=h.sl.at_ hn;cases e1;exact load (by rw[add_add];exact hc _ _ hv) k
theorem CM {w:World}{base e sz n c o i:Nat}{a:Addr}{xs:List Value}{u:Value}(h:Own w base e sz (some a) n c xs)(hn:0<n)(hv:xs[o+i]? =some u):w.cell? ((a.add o).add i)=some u:=by
 obtain⟨ad,e1,hc⟩:=h.sl.at_ hn;cases e1;rw[add_add];exact hc _ _ hv
structure SeV where
 s:Se
 x:DV
 y:DV
def SeV.cells (z:SeV):List Value:=[.slice z.x.A z.x.n z.x.c,.int .i64 z.x.r,.slice z.y.A z.y.n z.y.c,.int .i64 z.y.r,.bool z.s.ot,.int .i64 z.s.ln]
theorem iQJ (z:SeV):z.cells.length=6:=rfl
theorem iQK (z:SeV):∀u∈z.cells,JS u=true:=sc rfl
abbrev ay:TypeId:=232
theorem yo {pre:List Value}{z:SeV}{i:Nat}{u:Value}(h:z.cells[i]? =some u):(pre++z.cells)[pre.length+i]? =some u:=by rw[aS (by omega)];rw[show pre.length+i-pre.length=i by omega];exact h
theorem iQL {pre:List Value}{z:SeV}{i:Nat}{u:Value}:(pre++z.cells).set (pre.length+i) u=pre++z.cells.set i u:=by rw[Bu _ _ (by omega)];rw[show pre.length+i-pre.length=i by omega]
theorem Uf (vs:List Value)(i:Nat)(z:List Value):∀(pre:List Value),Vs (pre.length+i) vs (pre++z)=pre++Vs i vs z
 | []=>by simp
 | a::pre=>by
  rw[Q2,show pre.length+1+i=(pre.length+i)+1 by omega];show a::Vs (pre.length+i) vs (pre++z)=_;rw[Uf vs i z pre]<;>rfl
section
variable {w0:World} {base:Nat} {p:RP}
def iQM (w:World)(k:Nat)(nm:List (List Nat))(base n c:Nat)(a:Addr)(pre:List Value)(z:SeV)(cB:Bool)(s:List Nat)(u:Value)(w':World):Prop:=
 z.s.ot=false/\Mod (Qk (some a)) w w'/\if cB then u=Xm z.y.A z.y.n z.y.c z.y.r/\Own w' base ay 6 (some a) n c (pre++(⟨{z.s with ot:=true},z.x,z.y⟩:SeV).cells)
  else∃(o:BF) (b d:DV),V3 nm s= .ok o/\u=Xm b.A b.n b.c b.r/\SB w' b.A b.n b.c b.nd/\Set1 k b.nd b.r (XY z.s.re o)/\(∀i,Qk b.A i->w.heap.size<=i)/\SB w' d.A d.n d.c d.nd/\Set1 k d.nd d.r (J2 z.s.re o)/\(∀i,Qk d.A i->w.heap.size<=i)/\
   Own w' base ay 6 (some a) n c (pre++(⟨{z.s with re:=J2 z.s.re o},z.x,d⟩:SeV).cells)
theorem Ug (m:RM)(v:RV)(a:Addr)(n c:Nat)(pre:List Value)(z:SeV)(cB:Bool)(s:List Nat)(w:World)(hP:RPok w0 p)(h:Rr w0 w base p m v)(ho:Own w base ay 6 (some a) n c (pre++z.cells))(hT:∀i,Qk (some a) i->m.T i)(wC:pre.length+6=n*6)
  (hy:DgO w (TS p m) p.nm.length z.y z.s.re) (h8:∀x∈s,x<256) (hl:s.length<=1000000000000) (d9:w0.heap.size<=base):
  FnP Tryz.prog 149 [.pointer (some ⟨p.r,0,none⟩),.pointer (some (a.add pre.length)),.bool cB,.string (Qd s)] w (iQM w p.nm.length p.nm base n c a pre z cB s)
   (λch w'=>∃e,(z.s.ot=true/\e=71∨z.s.ot=false/\cB=false/\V3 p.nm s= .error e)/\ch=gZ e v.fl v.ln/\Mod (Qk (some a)) w w'):=by
 have kM:0<n:=by omega
 have WJ:Qk (some a) a.block:=⟨a,rfl,rfl⟩
 have bF:∀i,Qk (some a) i->¬RS p m i:=λi hi hr=>by
  have hb:=(ho.rows i hi).1;have:=h.rb;have:=h.qb;rcases hr with rfl | rfl | hr | hr
  ·omega
  ·omega
  ·exact ho.apart h.out (by decide) hi hr
  ·exact ho.apart h.txt (by decide) hi hr
 have jV:∀i,Qk (some a) i->w0.heap.size<=i:=λi hi=>by have:=(ho.rows i hi).1;omega
 refine bQ (c:={fQb with cuts:=[]}) Qa Tryz.func149 rfl rfl rfl ?_;refine new (λw1 Qe Q6 Qh=>?_);have fh:=ho.ext Qe;have h1:=h.ext Qe;refine Ue fh kM (yo (i:=4) (u:=.bool z.s.ot) rfl) ?_;refine YK (λht=>?_) (λht=>?_)
 ·refine XU (bi 71 w1 h1) (λ_ _ hf=>hf.elim) ?_;rintro ch w2 ⟨rfl,Qg⟩;exact⟨71,.inl ⟨ht,rfl⟩,rfl,Mod.of_ext _ (Qe.trans Qg)⟩
 have ht:z.s.ot=false:=ht;have yget:∀(i:Nat) (u:Value),z.y.cells[i]? =some u->z.cells[2+i]? =some u:=λi u hi=>match i,hi with
  | 0,hi=>hi
  | 1,hi=>hi
  | _+2,hi=>nomatch hi
 refine Jz (vs:=z.y.cells) rfl (λi u hi=>?_) ?_
 ·show w1.cell? (((a.add pre.length).add 2).add i)=some u;rw[add_add];exact CM fh kM (yo (yget i u hi))
 refine new (λw2 Qg Ze Qy=>?_);have im:=fh.ext Qg;have h2:=h1.ext Qg;refine Qv Qy rfl (sc rfl) (λw3 Jc Jr Qu=>?_);have XF:Ext w1 w3:=XT Qg Qy Jc;have zr:=fh.ext XF;have h3:=h1.ext XF;show fG w3 ((a.add pre.length).add 4) _ _;rw[add_add];refine HZ zr kM (by omega) (λw4 Zf zv=>?_);rw[iQL] at zv;have zv:Own w4 base ay 6 (some a) n c (pre++(⟨{z.s with ot:=cB},z.x,z.y⟩:SeV).cells):=zv;have QU:=Qe.trans XF;have cm:Mod (Qk (some a)) w w4:=(Mod.of_ext _ QU).trans Zf (λi hi=>.inl hi);have h4:Rr w0 w4 base p m v:=h3.modT Zf hT bF jV (λi hi=>.inl hi) (λi hi=>Yq (h3.tt i hi) Zf.size);have DT:¬Qk (some a) w.heap.size:=λhi=>by have:=(ho.rows _ hi).2;omega
 have Mx:¬Qk (some a) w1.heap.size:=λhi=>by have:=(ho.rows _ hi).2;omega
 have My:=XF.size;have JV:=(Qh.ext XF).mod Zf DT;have kN:=Qu.mod Zf Mx;have KR:=Zf.size;cases cB with
 | true=>
  refine Q9 rfl ?_;refine Qt kN rfl ?_;refine Qv JV rfl (sc rfl) (λw5 JE _ QD=>?_);have Jt:Mod (·=w.heap.size) w4 w5:=qQL JE rfl;refine Qt QD rfl ?_;exact⟨ht,cm.trans Jt (λi hi=>.inr (by omega)),rfl,zv.mod Jt (λi hi e=>by subst e;exact DT hi)⟩
 | false=>
  refine Xd rfl ?_;have VE:z.cells=(⟨{z.s with ot:=false},z.x,z.y⟩:SeV).cells:=by
   obtain⟨⟨ou,re,ot,ln⟩,x,y⟩:=z;simp only at ht;subst ht;rfl
  have hoC:∀w',Mod (·=w1.heap.size) w4 w'->Own w' base ay 6 (some a) n c (pre++z.cells):=λw' Qb=>by
   rw[VE];exact zv.mod Qb (λi hi e=>by subst e;exact Mx hi)
  refine iQm Qa (λch w'=>∃e,(z.s.ot=true/\e=71∨z.s.ot=false/\false=false/\V3 p.nm s= .error e)/\ch=gZ e v.fl v.ln/\Mod (Qk (some a)) w w') (λch S w' hp=>hp) (Mod (·=w1.heap.size) w4) 14 [(true,0),(true,1),(true,2),(true,3),(true,4),(true,5),(true,6),(true,7),(false,8),(false,9),(true,10),(true,11),(true,12),(false,13)] (by kernel_rfl) (Mod.of_ext _ (Ext.drew w4)) ?_;refine Xv (vs:=z.y.cells) rfl (λw' Qb i u hi=>?_) ?_
  ·show w'.cell? (((a.add pre.length).add 2).add i)=some u;rw[add_add];exact CM (hoC w' Qb) kM (yo (yget i u hi))
  have hd:=Ext.drew w4;refine XU (T8 s w4.drew hP (h4.ext hd) h8 hl) ?_ ?_
  rotate_left
  ·rintro ch w5 ⟨e,he,rfl,Qx⟩;exact⟨e,.inr ⟨ht,rfl,he⟩,rfl,cm.trans (Mod.of_ext _ (hd.trans Qx)) (λi hi=>.inl hi)⟩
  rintro _ w5 ⟨o,he,t,rfl,Qx,ht5,dt,FD⟩;have bw:=hd.trans Qx;have Mv:SB w4 z.y.A z.y.n z.y.c z.y.nd:=SB.modo (hy.sb.ext QU) Zf (λad e h0 hi=>hy.off ad e h0 (.inr (hT _ hi)));refine⟨Mod.of_ext _ bw,?_⟩;refine call (T9 p.nm.length hP.nmk z.y t z.s.re o w5 (Mv.ext bw) hy.st ht5 dt) ?_;rintro _ w6 ⟨b,d,rfl,QQ,hb6,AH,iG,hd6,jS,dy⟩;have XM:=bw.trans QQ;have cQc:=XM.size;have cQb:=bw.size;refine⟨Mod.of_ext _ XM,?_⟩;refine Qv (kN.ext XM) rfl (sc rfl) (λw7 Zv _ Q3=>?_);have Xe:Mod (·=w1.heap.size) w6 w7:=qQL Zv rfl;have vP:Mod (·=w1.heap.size) w4 w7:=(Mod.of_ext _ XM).trans Xe (λi hi=>.inl hi);refine⟨vP,?_⟩;have Mz:=hoC w7 vP;show nW _ w7 ((a.add pre.length).add 2) _ _;rw[add_add];refine Ud Mz (by show pre.length+2+2<=_;omega) (sc rfl) (λw8 JD DU=>?_);rw[Uf] at DU;have DU:Own w8 base ay 6 (some a) n c (pre++(⟨{z.s with re:=J2 z.s.re o},z.x,d⟩:SeV).cells):=DU;have MB:=Q3.mod JD Mx;refine Qt MB rfl ?_;have kS:=((JV.ext XM).mod Xe (by show¬w.heap.size=w1.heap.size;omega)).mod JD DT;refine Qv kS rfl (sc rfl) (λw9 dZ _ JI=>?_);have Zg:Mod (·=w.heap.size) w8 w9:=qQL dZ rfl;refine Qt JI rfl ?_;have pQC:=cm.size;have keep:∀x:DV,(∀i,Qk x.A i->w5.heap.size<=i)->SB w6 x.A x.n x.c x.nd->SB w9 x.A x.n x.c x.nd:=λx hr hx=>
   SB.mod (SB.mod (SB.mod hx Xe (λi hi e=>by have:=hr i hi;omega)) JD (λi hi hj=>by have:=hr i hi;have:=(ho.rows i hj).2;omega)) Zg (λi hi e=>by have:=hr i hi;omega)
  have hall:Mod (Qk (some a)) w w9:=((cm.trans vP (λi hi=>.inr (by omega))).trans JD (λi hi=>.inl hi)).trans Zg (λi hi=>.inr (by omega));refine⟨ht,hall,o,b,d,he,rfl,keep b iG hb6,AH,λi hi=>by have:=iG i hi;omega,keep d dy hd6,jS,λi hi=>by have:=dy i hi;omega,DU.mod Zg (λi hi e=>by subst e;exact DT hi)⟩
end
end
end
section
section
theorem iQN (l:List Nat)(w:World)(hl:∀x∈l,x<256)(QZ:l.length<=1000000000000):
  Fn Tryz.prog 143 [.string (Qd l),.string (Qd [32])] w (λv w'=>v= .tuple #[.string (Qd (J3 l)),.string (Qd (if 32∈l then VL l else [])),.bool (decide (32∈l))]/\Ext w w'):=
 (iQg l w hl QZ).mono λv w' h=>by
  obtain⟨h1,h2⟩:=h;refine⟨?_,h2⟩;rw[h1];by_cases hm:32∈l
  ·rw[Qf hm,Qf hm,Zx hm]
  ·rw[if_neg hm,if_neg hm,Zr hm,HO hm]
section
variable {nm:List (List Nat)} {fl d0:Nat} {inc:List Nat->Nat->Nat->BF->Gs->Except Pl Gs} {s:List Nat} {ls:List (List Nat)} {ln at_:Nat} {k:BF} {op:List Se} {g:Gs} {r:List Nat}
theorem CN (h:XS s= .ifd r):Jb nm fl d0 inc (s::ls) ln at_ k op g=match V3 nm r with
   | .error e=>.error ⟨e,fl,((ln+1:Nat):Int)⟩
   | .ok d=>if d0+op.length=64 then .error ⟨2,fl,((ln+1:Nat):Int)⟩else Jb nm fl d0 inc ls (ln+1) (at_+s.length+1) (XY k d) (⟨k,J2 k d,false,ln+1⟩::op) {g with fr:=true}:=by
 rw[Jb.eq_def];simp only[h]<;>rfl
theorem yp (h:XS s= .inc r):Jb nm fl d0 inc (s::ls) ln at_ k op g=match inc r (ln+1) (d0+op.length) k g with
   | .error p=>.error p
   | .ok g'=>Jb nm fl d0 inc ls (ln+1) (at_+s.length+1) k op {g' with fr:=true}:=by
 rw[Jb.eq_def];simp only[h]<;>rfl
theorem CO (h:XS s= .elif r):Jb nm fl d0 inc (s::ls) ln at_ k op g=match op with
   | []=>.error ⟨72,fl,((ln+1:Nat):Int)⟩
   | x::Xs=>if x.ot then .error ⟨71,fl,((ln+1:Nat):Int)⟩else match V3 nm r with
    | .error e=>.error ⟨e,fl,((ln+1:Nat):Int)⟩
    | .ok d=>Jb nm fl d0 inc ls (ln+1) (at_+s.length+1) (XY x.re d) ({x with re:=J2 x.re d}::Xs) {g with fr:=true}:=by
 rw[Jb.eq_def];simp only[h]<;>rfl
theorem CQ (h:XS s= .els):Jb nm fl d0 inc (s::ls) ln at_ k op g=match op with
   | []=>.error ⟨72,fl,((ln+1:Nat):Int)⟩
   | x::Xs=>if x.ot then .error ⟨71,fl,((ln+1:Nat):Int)⟩else Jb nm fl d0 inc ls (ln+1) (at_+s.length+1) x.re ({x with ot:=true}::Xs) {g with fr:=true}:=by
 rw[Jb.eq_def];simp only[h]<;>rfl
theorem H3 (h:XS s= .en):Jb nm fl d0 inc (s::ls) ln at_ k op g=match op with
   | []=>.error ⟨72,fl,((ln+1:Nat):Int)⟩
   | x::Xs=>Jb nm fl d0 inc ls (ln+1) (at_+s.length+1) x.ou Xs {g with fr:=true}:=by
 rw[Jb.eq_def];simp only[h]<;>rfl
theorem mo (h:XS s= .txt):Jb nm fl d0 inc (s::ls) ln at_ k op g=match Vt (s++ [10]) fl at_ k g with
   | none=>.error ⟨2,fl,((ln+1:Nat):Int)⟩
   | some g'=>Jb nm fl d0 inc ls (ln+1) (at_+s.length+1) k op g':=by
 rw[Jb.eq_def];simp only[h]<;>rfl
end
theorem Own.take {w:World}{base e sz n c k:Nat}{A:Option Addr}{cs:List Value}(h:Own w base e sz A n c cs)(hk:k<=n):Own w base e sz A k c (cs.take (k*sz)):=by
 have hr:=h.row;have hl:=hr.1;have Xk:k*sz<=n*sz:=WN _ hk;refine⟨⟨by rw[Kx];omega,?_⟩⟩;rcases hr.2 with⟨hv,hx⟩ | ⟨g,cap,ZR,hv,hb,hg,p9,nu,XN,tj⟩
 ·cases hv;obtain rfl:k=0:=by omega
  exact .inl ⟨rfl,by simp⟩
 ·cases hv;refine .inr ⟨g,c,ZR,rfl,hb,hg,by omega,nu,XN,?_⟩;have ht:ZR.toList.take (n*sz)=cs:=tj;rw[<-ht,List.take_take,nN Xk]
theorem H4 {ix:List Nat->Option Nat}{rd s:List Nat}{n:Nat}(h:dK ix rd s= .ok n):n∉rd/\∃t,ix t=some n:=by
 unfold dK at h;split at h
 ·cases h
 split at h
 ·cases h
 ·rename_i m hm;split at h
  ·cases h
  ·rename_i hn;cases h;exact⟨hn,_,hm⟩
structure LS where
 k:DV
 o:BF
 z:List SeV
 m:RM
 g:Gs
 ln:Nat
 at_:Nat
 ls:List (List Nat)
 A:Option Addr
 c:Nat
def Yx (z:List SeV):List Value:=z.flatMap SeV.cells
theorem CR (z:List SeV):(Yx z).length=z.length*6:=eN iQJ z
theorem oL (z:List SeV)(x:SeV):Yx (z++ [x])=Yx z++x.cells:=by simp[Yx]
def JO (p:RP)(m:RM)(A:Option Addr)(bk:Nat):Nat->Prop:=λi=>RS p m i∨Qk A i∨i=bk
abbrev oM:=List Nat->Nat->Nat->BF->Gs->Except Pl Gs
structure FrI (w0 w:World) (base:Nat) (p:RP) (m:RM) (v:RV) (n bk:Nat) (text:List Nat) (inc:oM) (res:Except Pl Gs) (s:LS) (w':World):Prop where
 rr:Rr w0 w' base p s.m ⟨v.d+s.z.length,n,s.ln,n::v.rd,s.g⟩
 tt:s.m.T=λi=>m.T i∨Qk s.A i∨i=bk
 kb:Blk w' bk 32 s.k.cells
 kd:DgO w' (TS p s.m) p.nm.length s.k s.o
 ow:Own w' base ay 6 s.A s.z.length s.c (Yx s.z)
 zx:∀z∈s.z,DgO w' (TS p s.m) p.nm.length z.x z.s.ou
 zy:∀z∈s.z,DgO w' (TS p s.m) p.nm.length z.y z.s.re
 dr:text.drop s.at_=Qp s.ls
 al:s.at_+(Qp s.ls).length=text.length
 li:l6 s.ls
 rs:Jb p.nm n v.d inc s.ls s.ln s.at_ s.o (s.z.reverse.map (·.s)) s.g=res
 mw:Mod (RS p m) w w'
 ma:Moved w m.OA s.m.OA
 mb:Moved w m.BA s.m.BA
 nw:∀i,Qk s.A i->w.heap.size<=i
 dl:v.d+s.z.length<=64
 lb:s.ln+s.ls.length<=1048576
section
variable {w0 w w' Vq:World} {base:Nat} {p:RP} {m:RM} {v:RV} {n bk:Nat} {text:List Nat} {inc:oM} {res:Except Pl Gs} {s s':LS}
theorem FrI.sub (h:FrI w0 w base p m v n bk text inc res s w'):∀i,JO p s.m s.A bk i->TS p s.m i:=λi hi=>by
 rcases hi with hi | hi | hi
 ·exact .inl hi
 ·exact .inr (by rw[h.tt];exact .inr (.inl hi))
 ·exact .inr (by rw[h.tt];exact .inr (.inr hi))
theorem FrI.kp (h:FrI w0 w base p m v n bk text inc res s w')(hm:Mod (JO p s.m s.A bk) w' Vq)(tt:s'.m.T=λi=>m.T i∨Qk s'.A i∨i=bk)(hA:Moved w' s.A s'.A)(hO:Moved w' s.m.OA s'.m.OA)(hB:Moved w' s.m.BA s'.m.BA){x:DV}{o:BF}(hx:DgO w' (TS p s.m) p.nm.length x o):DgO Vq (TS p s'.m) p.nm.length x o:=
 hx.step (hm.mono (λi hi=>.inl (h.sub i hi))) (λi hi=>by
  rcases hi with hi | hi
  ·rcases RS.moved (p:=p) hO hB i hi with h1 | h1
   ·exact .inl (.inl h1)
   ·exact .inr h1
  ·rw[tt] at hi;rcases hi with hi | hi | hi
   ·exact .inl (.inr (by rw[h.tt];exact .inl hi))
   ·rcases hA.rows i hi with h1 | h1
    ·exact .inl (.inr (by rw[h.tt];exact .inr (.inl h1)))
    ·exact .inr h1
   ·exact .inl (.inr (by rw[h.tt];exact .inr (.inr hi))))
theorem FrI.mw' (h:FrI w0 w base p m v n bk text inc res s w')(iC:w.heap.size<=bk)(hm:Mod (JO p s.m s.A bk) w' Vq):Mod (RS p m) w Vq:=
 h.mw.trans hm (λi hi=>by
  rcases hi with hi | hi | hi
  ·exact RS.moved (p:=p) h.ma h.mb i hi
  ·exact .inr (h.nw i hi)
  ·exact .inr (by omega))
theorem FrI.go (h:FrI w0 w base p m v n bk text inc res s w')(iC:w.heap.size<=bk)(hm:Mod (JO p s.m s.A bk) w' Vq)(rr:Rr w0 Vq base p s'.m ⟨v.d+s'.z.length,n,s'.ln,n::v.rd,s'.g⟩)(tt:s'.m.T=λi=>m.T i∨Qk s'.A i∨i=bk)(hA:Moved w' s.A s'.A)(hO:Moved w' s.m.OA s'.m.OA)(hB:Moved w' s.m.BA s'.m.BA)
  (kb:Blk Vq bk 32 s'.k.cells) (kd:DgO Vq (TS p s'.m) p.nm.length s'.k s'.o) (ow:Own Vq base ay 6 s'.A s'.z.length s'.c (Yx s'.z)) (zx:∀z∈s'.z,DgO Vq (TS p s'.m) p.nm.length z.x z.s.ou) (zy:∀z∈s'.z,DgO Vq (TS p s'.m) p.nm.length z.y z.s.re)
  {l:List Nat} (KL:s.ls=l::s'.ls) (aN:s'.at_=s.at_+l.length+1) (rs:Jb p.nm n v.d inc s'.ls s'.ln s'.at_ s'.o (s'.z.reverse.map (·.s)) s'.g=res) (dl:v.d+s'.z.length<=64) (iF:s'.ln=s.ln+1):FrI w0 w base p m v n bk text inc res s' Vq:=by
 have dy:=h.dr;have Vc:=h.al;have wI:=h.lb;have AI:=h.li;rw[KL,V4] at dy Vc;rw[KL] at wI AI;have hz:=h.mw.size;refine⟨rr,tt,kb,kd,ow,zx,zy,?_,?_,λt ht=>AI t (by simp[ht]),rs,h.mw' iC hm,h.ma.trans hO hz,h.mb.trans hB hz,λi hi=>?_,dl,?_⟩
 ·rw[aN,show s.at_+l.length+1=s.at_+(l.length+1) by omega,<-nM,dy,<-nM,List.drop_left' rfl]<;>rfl
 ·rw[aN];simp only[Qq,Q2] at Vc;omega
 ·rcases hA.rows i hi with h1 | h1
  ·exact h.nw i h1
  ·omega
 ·rw[iF];simp only[Q2] at wI;omega
theorem FrI.line (h:FrI w0 w base p m v n bk text inc res s w')(ht:text.length<=1048576){l:List Nat}{ls:List (List Nat)}(KL:s.ls=l::ls):10∉l/\s.at_+l.length+1<=text.length/\text.drop s.at_=l++10::Qp ls/\(text.drop s.at_).take l.length=l/\(text.drop s.at_).take (l.length+1)=l++ [10]:=by
 have dy:=h.dr;have Vc:=h.al;have AI:=h.li;have _:=ht;rw[KL,V4] at dy Vc;rw[KL] at AI;simp only[Qq,Q2] at Vc;refine⟨AI l (by simp),by omega,dy,by rw[dy];exact List.take_left' rfl,?_⟩;rw[dy,show l++10::Qp ls=(l++ [10])++Qp ls by simp];exact List.take_left' (by simp)
theorem Rr.putq (h:Rr w0 w base p m v){v':RV}(hm:Mod (λi=>i=p.r∨i=p.q) w w')(hB:Blk w' p.r 157 (mj p m v'))(h1:v'.g.tx=v.g.tx)(h2:v'.g.sg=v.g.sg)(h4:v'.g.fr=false->v'.g.sg≠ []∨v'.rd=[])
  (hq:∃mp,MapAt bU w' p.q mp/\(mp.map (·.1)).Nodup/\∀n:Nat,XG (n:Int) mp=if n∈v'.rd then some (.bool true)else none):Rr w0 w' base p m v':=by
 have hE:=hm.ext h.e0 (λi hi=>by rcases hi with rfl | rfl;exact h.lor;exact h.loq);have vV:=h.rb;have hb2:=h.qb;refine⟨hE,h.lor,h.loq,h.rb,h.qb,h.ne,X3 h.top hm.size,h.pa,hB,?_,?_,by rw[h2];exact h.len,λj s x hs hx=>?_,hq,by rw[h1];exact h.tl,by rw[h2];exact h.sl,by rw[h1];exact h.b8,h4,λi hi=>Yq (h.tt i hi) hm.size⟩
 ·rw[h1];exact h.txt.mod hm (λi hi e=>by have:=(h.txt.rows i hi).1;rcases e with rfl | rfl<;>omega)
 ·rw[h2];exact h.out.mod hm (λi hi e=>by have:=(h.out.rows i hi).1;rcases e with rfl | rfl<;>omega)
 ·rw[h2] at hs;exact(h.dgs j s x hs hx).keep hm (λi hi=>.inl (.inl (hi.elim .inl (λe=>.inr (.inl e)))))
end
end
section
def oN (p:RP)(f n:Nat)(rd:List Nat):oM:=λr ln d k g=>match dK (Jq (p.fs.map (·.1))) (n::rd) r with
 | .error e=>.error ⟨e,n,ln⟩
 | .ok m=>if d=64 then .error ⟨2,n,ln⟩else aq p.nm p.fs f (n::rd) (d+1) m k g
def iQO (w0:World)(base:Nat)(p:RP)(f:Nat):Prop:=∀(m:RM)(v:RV)(n:Nat)(k:DV)(o:BF)(w:World),Rr w0 w base p m v->DgO w (TS p m) p.nm.length k o->n<p.fs.length->n∉v.rd->v.d<=64->65<=f+v.d->
 FnP Tryz.prog 92 [.pointer (some ⟨p.r,0,none⟩),.int .i64 n,Xm k.A k.n k.c k.r] w (λ_ w'=>∃g',aq p.nm p.fs f v.rd v.d n o v.g= .ok g'/\HX w0 w base p m {v with g:=g'} w') (λch w'=>∃q,aq p.nm p.fs f v.rd v.d n o v.g= .error q/\ch=gZ q.e q.f q.l/\Mod (RS p m) w w')
set_option maxRecDepth 2000 in
theorem Uh (w0:World)(base:Nat)(p:RP)(hP:RPok w0 p)(d9:w0.heap.size<=base):∀f,iQO w0 base p f
 | 0=>λm v n k o w h hk hn hr hd hf=>Xc hf (by omega)
 | f+1=>λm v n k o w h hk hn hr hd hf=>by
  have ih:=Uh w0 base p hP d9 f;have hx:p.fs[n]? =some p.fs[n]:=Xu hn;have AJ:=hP.flb _ (PP hn);have oQP:aq p.nm p.fs (f+1) v.rd v.d n o v.g=Jb p.nm n v.d (oN p f n v.rd) (QF (p.fs[n].2)) 0 0 o [] {v.g with fr:=true}:=by
   rw[aq,hx]<;>rfl
  generalize bL:aq p.nm p.fs (f+1) v.rd v.d n o v.g=res at*;generalize FF:p.fs[n].2=text at*;have fe:∀x∈text,x<256:=by rw[<-FF];exact AJ.t8
  have Wd:text.length<=1048576:=by rw[<-FF];exact AJ.tl
  have OR:Qp (QF text)=text:=Yg (by rw[<-FF];exact AJ.ok);have cC:=hP.fls.2;refine bQ (c:={c92 with cuts:=[]}) Qa Tryz.func92 rfl rfl rfl ?_;refine new (λw1 Qe Q6 Qh=>?_)
  let m1:RM:={m with T:=λi=>m.T i∨Qk (none:Option Addr) i∨i=w.heap.size}
  have Aw:=h.tt;have h1:Rr w0 w1 base p m1 v:=h.modT (U:=λ_=>False) (Mod.of_ext _ Qe) (λi hi=>hi.elim) (λi hi=>hi.elim) (λi hi=>hi.elim) (λi hi=>by
    rcases hi with hi | hi | hi
    ·exact .inl hi
    ·obtain⟨_,e,_⟩:=hi;cases e
    ·exact .inr (by omega)) (λi hi=>by
    rcases hi with hi | hi | hi
    ·have:=Aw i hi;omega
    ·obtain⟨_,e,_⟩:=hi;cases e
    ·omega)
  refine XR Qa (Ext w1) 10 [(true,0),(true,1),(true,2),(true,3),(true,4),(true,5),(true,6),(true,7),(true,8),(true,9)] (by kernel_rfl) (Ext.drew w1) ?_;refine QN (v:=.int .i64 v.fl) (λw' Qb=>by rw[(h1.blk.ext Qb).cell];rfl) ?_;refine QN (v:=.int .i64 v.ln) (λw' Qb=>by rw[(h1.blk.ext Qb).cell];rfl) ?_;have DW:=Ext.drew w1;have h2:=h1.ext DW;have Qy:=Qh.ext DW;generalize w1.drew=w2 at*;obtain⟨mp,wF,hnd,tD⟩:=h2.rdm;refine Qo h2.blk rfl ?_;refine lI (kv:=bU) (a:=(n:Int)) Qa rfl rfl rfl rfl rfl (KeyV.int .i64) rfl rfl rfl wF (λw3 Jc Jr XI=>?_);have Ji:Mod (·=p.q) w2 w3:=qQL Jc rfl;have nQd:((Zo (n:Int) (Value.bool true) mp).map (·.1)).Nodup:=(TP _ _ _ hnd).1;have nQe:∀j:Nat,XG (j:Int) (Zo (n:Int) (Value.bool true) mp)=if j∈n::v.rd then some (.bool true)else none:=λj=>by
   rw[bR];by_cases hj:j=n
   ·subst hj;simp
   ·rw[if_neg (λe=>hj (by omega)),tD j];simp[hj]
  have iG:=h2.blk.mod Ji h2.ne;refine XV iG (show 9<11 by decide) (λw4 Zf QR=>?_);refine XV QR (show 10<11 by decide) (λw5 XZ QD=>?_);refine XV QD (show 8<11 by decide) (λw6 VQ Q7=>?_);have cQm:Mod (·=p.r) w3 w6:=(Zf.trans XZ (λi hi=>.inl hi)).trans VQ (λi hi=>.inl hi);have DX:Mod (λi=>i=p.r∨i=p.q) w2 w6:=(Ji.mono (S':=λi=>i=p.r∨i=p.q) (λi hi=>.inl (.inr hi))).trans cQm (λi hi=>.inl (.inl hi));have h6:Rr w0 w6 base p m1 ⟨v.d,n,0,n::v.rd,{v.g with fr:=true}⟩:=h2.putq DX Q7 rfl rfl (λe=>by cases e) ⟨_,XI.mod cQm (λe=>h2.ne e.symm),nQd,nQe⟩;have iC:¬(w.heap.size=p.r∨w.heap.size=p.q):=λe=>by have:=h.rb;have:=h.qb;have:=h.top;rcases e with e | e<;>omega
  have oQQ:=Qy.mod DX iC;have XX:Mod (RS p m) w w6:=((Mod.of_ext (RS p m) Qe).trans (Mod.of_ext (RS p m) DW) (λi hi=>.inl hi)).trans (DX.mono (S':=RS p m) (λi hi=>.inl (hi.elim .inl (λe=>.inr (.inl e))))) (λi hi=>.inl hi);refine Qo Q7 rfl ?_;refine Zt HW (hP.fls.ext h6.e0) rfl (by omega) (λpp x YH hc=>?_);obtain rfl:p.fs[n]=x:=Option.some.inj (hx.symm.trans YH);refine load (hc 1 _ rfl) ?_;rw[FF];have DR:DgO w1 (TS p m1) p.nm.length k o:=hk.step (Mod.of_ext _ Qe) (λi hi=>by
   rcases hi with hi | hi | hi | hi
   ·exact .inl (.inl hi)
   ·exact .inl (.inr hi)
   ·obtain⟨_,e,_⟩:=hi;cases e
   ·exact .inr (by omega))
  have MC:DgO w6 (TS p m1) p.nm.length k o:=(DR.ext DW).keep DX (λi hi=>.inl (.inl (hi.elim .inl (λe=>.inr (.inl e)))));have cy:(QF text).length<=text.length:=by have:=rI (QF text);rw[OR] at this;exact this
  refine loop Qa [8,10] (λs:LS=>[.slice s.A s.z.length s.c,.int .i64 s.at_]) (λs w'=>FrI w0 w base p m v n w.heap.size text (oN p f n v.rd) res s w') (λs _=>s.ls.length) ⟨k,o,[],m1,{v.g with fr:=true},0,0,QF text,none,0⟩ rfl
   ⟨h6,rfl,oQQ,MC,Own.nil _ _ _ _,(λz hz=>by cases hz),(λz hz=>by cases hz),(by rw[OR];rfl),(by rw[OR];simp),iX text,oQP.symm,XX,Moved.refl _ _,Moved.refl _ _,(λi hi=>by obtain⟨_,e,_⟩:=hi;cases e),hd,(by show 0+(QF text).length<=_;omega)⟩ ?_
  rintro s w7 hI;have h7:=hI.rr;have Vc:=hI.al;refine Qw (λc1=>?_) (λc1=>?_)
  rotate_left
  ·have KL:s.ls=[]:=by
    have hs:=Q8 text;have:=rI s.ls;exact WO (by omega)
   have h7z:=hI.rr;have QH:=hI.rs;rw[KL] at QH;refine Qw (λhz=>?_) (λhz=>?_)
   ·obtain⟨z',x,VE⟩:∃z' x,s.z=z'++ [x]:=by
     rcases qM s.z with h0 | ⟨z',x,h0⟩
     ·rw[h0] at hz;exact Xc hz (by decide)
     ·exact⟨z',x,by rw[h0];simp⟩
    have tE:s.z.length=z'.length+1:=by rw[VE];simp
    have nF:s.z.reverse.map (·.s)=x.s::z'.reverse.map (·.s):=by rw[VE];simp
    obtain⟨oa,Ku,_⟩:=hI.ow.sl.at_ (by omega:0<s.z.length);have Mz:Own w7 base ay 6 (some oa) s.z.length s.c (Yx z'++x.cells):=by rw[<-Ku,<-oL,<-VE];exact hI.ow
    have Yb:=hI.dl;refine Qj ((z'.length:Nat):Int) (by omega) (by omega) ?_;rw[Ku];refine Kc (j:=z'.length) (by omega) ?_;rw[show z'.length*6=(Yx z').length from (CR z').symm];refine Ue Mz (by omega) (yo (i:=5) (u:=.int .i64 x.s.ln) rfl) ?_;refine XV h7.blk (show 10<11 by decide) (λw8 JD Xz=>?_);have h8:Rr w0 w8 base p s.m ⟨v.d+s.z.length,n,x.s.ln,n::v.rd,s.g⟩:=h7.put JD Xz rfl rfl rfl h7.nf;refine XU (bi 72 w8 h8) (λ_ _ hf=>hf.elim) ?_;rintro ch w9 ⟨rfl,Xx⟩;refine⟨⟨72,n,x.s.ln⟩,?_,rfl,hI.mw' (QB _) ((JD.mono (S':=JO p s.m s.A w.heap.size) (λi hi=>.inl (.inl (.inl hi)))).trans (Mod.of_ext _ Xx) (λi hi=>.inl hi))⟩;rw[<-QH,Jb.eq_def,nF]
   ·have gl:s.z=[]:=WO (by omega);obtain⟨mq,k1,k2,k3⟩:=h7.rdm;refine Qo h7.blk rfl ?_;refine iQb (kv:=bU) (a:=(n:Int)) Qa rfl rfl rfl rfl rfl (KeyV.int .i64) rfl rfl k1 (λw8 ZL YU JD=>?_);refine XV (h7.blk.mod ZL h7.ne) (show 9<11 by decide) (λw9 fZ JI=>?_);refine XV JI (show 10<11 by decide) (λQE JQ J6=>?_);refine XV J6 (show 8<11 by decide) (λQL mY Z6=>?_);have cQn:Mod (·=p.r) w8 QL:=(fZ.trans JQ (λi hi=>.inl hi)).trans mY (λi hi=>.inl hi);have MD:Mod (λi=>i=p.r∨i=p.q) w7 QL:=(ZL.mono (S':=λi=>i=p.r∨i=p.q) (λi hi=>.inl (.inr hi))).trans cQn (λi hi=>.inl (.inl hi));have ME:v.d+s.z.length=v.d:=by rw[gl]<;>rfl
    rw[ME] at Z6;have Z7:Rr w0 QL base p s.m ⟨v.d,v.fl,v.ln,v.rd,{s.g with fr:=true}⟩:=h7.putq MD Z6 rfl rfl (λe=>by cases e) ⟨_,JD.mod cQn (λe=>h7.ne e.symm),(k2.sublist ((TM (n:Int) mq).map _)),λj=>by
     rw[TO _ _ _ k2];by_cases hj:j=n
     ·subst hj;rw[Qf rfl,if_neg hr]
     ·rw[if_neg (λe=>hj (by omega)),k3 j];simp[hj]⟩
    have X0:Rr w0 QL base p {s.m with T:=m.T} ⟨v.d,v.fl,v.ln,v.rd,{s.g with fr:=true}⟩:=Z7.modT (U:=λ_=>False) (Mod.refl _ _) (λi hi=>hi.elim) (λi hi=>hi.elim) (λi hi=>hi.elim) (λi hi=>.inl (by rw[hI.tt];exact .inl hi)) (λi hi=>by
     have:=Aw i hi;have:=hI.mw.size;have:=MD.size;omega)
    refine⟨{s.g with fr:=true},?_,{s.m with T:=m.T},rfl,X0,hI.mw' (QB _) (MD.mono (λi hi=>.inl (.inl (hi.elim .inl (λe=>.inr (.inl e)))))),hI.ma,hI.mb⟩;rw[<-QH,Jb.eq_def,gl]<;>rfl
  ·cases KL:s.ls with
   | nil=>
    have hs:=Q8 text;rw[KL] at Vc;have:(Qp ([]:List (List Nat))).length=0:=rfl;omega
   | cons l ls=>
    obtain⟨l1,l2,l3,l4,l5⟩:=hI.line Wd KL;have XQ:=Q8 text;have iq:∀x∈l,x<256:=λx hx=>fe x (WT (by rw[l3];simp[hx]:x∈text.drop s.at_))
    have wI:=hI.lb;refine Xy (v':=.string (Qd (text.drop s.at_))) ⟨by omega,by rw[XQ];omega,by rw[XQ];omega⟩ ?_ ?_
    ·rw[KN,XQ];simp only[iO];rw[ZS (QB _)]
    refine call (HN (text.drop s.at_) 10 w7 (λx hx=>fe x (WT hx)) (by decide)) ?_;rintro _ _ ⟨rfl,rfl⟩;have KK:iZ 10 (text.drop s.at_)=(l.length:Nat):=by
     unfold iZ;rw[Qf (by rw[l3];simp),l3,List.takeWhile_append_of_pos (λx hx=>by simpa using λe=>l1 (by rw[<-e];exact hx))];simp
    rw[KK];refine Qj ((s.at_+l.length:Nat):Int) (by show((s.at_:Nat):Int)+_=_;omega) (by omega) ?_;refine Qj ((s.at_+l.length+1:Nat):Int) (by omega) (by omega) ?_;refine Qj ((s.at_+l.length:Nat):Int) (by omega) (by omega) ?_;refine Xy (v':=.string (Qd l)) ⟨by omega,by omega,by rw[XQ];omega⟩ ?_ ?_
    ·rw[KN];simp only[iO];rw[fA,show s.at_+l.length-s.at_=l.length by omega,l4]
    refine Qo h7.blk rfl ?_;refine Qj ((s.ln+1:Nat):Int) (by show((s.ln:Nat):Int)+1=_;omega) (by omega) ?_;refine XV h7.blk (show 10<11 by decide) (λw8 JD Xz=>?_);have h8:Rr w0 w8 base p s.m ⟨v.d+s.z.length,n,s.ln+1,n::v.rd,s.g⟩:=h7.put JD Xz rfl rfl rfl h7.nf;refine call (iQN l w8 iq (by omega)) ?_;rintro _ w9 ⟨rfl,Xx⟩;have h9:=h8.ext Xx;have lj:w.heap.size<=w.heap.size:=QB _;have gm:Mod (JO p s.m s.A w.heap.size) w7 w9:=(JD.mono (S':=JO p s.m s.A w.heap.size) (λi hi=>.inl (.inl (.inl hi)))).trans (Mod.of_ext _ Xx) (λi hi=>.inl hi);have npr:¬w.heap.size=p.r:=λe=>iC (.inl e)
    have dk:Blk w9 w.heap.size 32 s.k.cells:=(hI.kb.mod JD npr).ext Xx;have su:∀{x:DV} {o:BF},DgO w7 (TS p s.m) p.nm.length x o->DgO w9 (TS p s.m) p.nm.length x o:=λhx=>hI.kp gm hI.tt (Moved.refl _ _) (Moved.refl _ _) (Moved.refl _ _) hx
    have fj:=su hI.kd;have nopr:∀i,Qk s.A i->¬i=p.r:=λi hi e=>by have:=(hI.ow.rows i hi).1;have:=h7.rb;omega
    have aa:Own w9 base ay 6 s.A s.z.length s.c (Yx s.z):=(hI.ow.mod JD nopr).ext Xx;have QH:=hI.rs;rw[KL] at QH;have lf:(((Qd (J3 l)).size:Int)<(Qd l).size)↔32∈l:=by rw[Q8,Q8,<-TV];omega
    have Yb:=hI.dl;have pQD:l.length<=1048576:=by omega
    have pQE:=gm.size;have pQF:=hI.mw.size;have Xj:∀(q:Pl) (ch:List PanicEntry) (w':World),res= .error q->ch=gZ q.e q.f q.l->Mod (JO p s.m s.A w.heap.size) w9 w'->∃q,res= .error q/\ch=gZ q.e q.f q.l/\Mod (RS p m) w w':=λq ch w' h1 h2 h3=>⟨q,h1,h2,hI.mw' lj (gm.trans h3 (λi hi=>.inl hi))⟩
    have OS:∀i,Qk s.A i->w0.heap.size<=i:=λi hi=>by have:=(aa.rows i hi).1;omega
    have qm:∀i,Qk s.A i->¬RS p s.m i:=λi hi hr=>by
     have hb:=(aa.rows i hi).1;have:=h9.rb;have:=h9.qb;rcases hr with rfl | rfl | hr | hr
     ·omega
     ·omega
     ·exact aa.apart h9.out (by decide) hi hr
     ·exact aa.apart h9.txt (by decide) hi hr
    have AK:∀i,Qk s.A i->s.m.T i:=λi hi=>by rw[hI.tt];exact .inr (.inl hi)
    have nbk:¬RS p s.m w.heap.size:=λhr=>by
     have:=h.rb;have:=h.qb;have:=h.top;rcases hr with e | e | hr | hr
     ·omega
     ·omega
     ·exact dk.apart h9.out (by decide) hr
     ·exact dk.apart h9.txt (by decide) hr
    have hhA:∀i,Qk s.A i->i<w9.heap.size:=λi hi=>(aa.rows i hi).2
    have nbA:¬Qk s.A w.heap.size:=dk.apart aa (by decide);have nprA:¬Qk s.A p.r:=λhi=>nopr _ hi rfl
    by_cases P1:J3 l=oI/\32∈l
    ·have Xt:=iQh P1.1 P1.2;rw[Qf P1.2];have fi:∀x∈VL l,x<256:=λx hx=>iq x (WT hx)
     have lh:(VL l).length<=1000000000000:=by unfold VL;rw[Y1];omega
     refine Zy (by rw[P1.1];rfl) ?_;refine Zy (lf.2 P1.2) ?_;refine XU (T8 (VL l) w9 hP h9 fi lh) ?_ ?_
     rotate_left
     ·rintro ch QE ⟨e,he,rfl,X1⟩;refine Xj ⟨e,n,((s.ln+1:Nat):Int)⟩ _ QE ?_ rfl (Mod.of_ext _ X1);rw[<-QH,CN Xt,he]
     rintro _ QE ⟨d,he,t,rfl,X1,nQf,dt,FD⟩;refine new (λQL Jv sn Z6=>?_);refine Qv Z6 rfl (sc rfl) (λXb mX _ Vj=>?_);have mZ:Ext QE Xb:=XT Jv Z6 mX;have jy:=X1.trans mZ;have X0:=h9.ext jy;have pQG:=jy.size;have nQg:=X1.size;refine XU (Ua Xb X0 Yb) ?_ ?_
     rotate_left
     ·rintro ch X9 ⟨jz,rfl,XF⟩;refine Xj ⟨2,n,((s.ln+1:Nat):Int)⟩ _ X9 ?_ rfl (Mod.of_ext _ (jy.trans XF));have jz:v.d+(s.z.reverse.map (·.s)).length=64:=by simpa using jz
      rw[<-QH,CN Xt,he];simp only[Qf jz]
     rintro _ X9 ⟨sw,Va,dm⟩;have sw:¬v.d+s.z.length=64:=sw;have cQo:=(dk.ext jy).mod dm npr;have n10r:¬QE.heap.size=p.r:=λe=>by have:=h9.rb;have:=h9.top;omega
     have nQh:=Vj.mod dm n10r;refine Qt cQo rfl ?_;refine Qt nQh rfl ?_;have MF:=(fj.ext jy).keep dm (λi hi=>.inl (.inl (.inl hi)));have nQi:SB X9 t.A t.n t.c t.nd:=SB.mod (nQf.ext mZ) dm (λi hi e=>by have:=FD i hi;have:=h9.rb;have:=h9.top;omega);refine call (T9 p.nm.length hP.nmk s.k t s.o d X9 MF.sb MF.st nQi dt) ?_;rintro _ Zu ⟨a,b,rfl,JW,nQj,has,Ar,nQk,AH,iG⟩;refine new (λJ8 JJ pQH pE=>?_);refine new (λac Vo nQl WG=>?_);have vW:=JJ.trans Vo;refine Qv (pE.ext Vo) rfl (sc rfl) (λVU MG _ pD=>?_);have sA:Mod (·=Zu.heap.size) ac VU:=qQL MG rfl;have pF:Ext Zu VU:=sA.ext vW (λi hi=>by omega);refine Qv (WG.mod sA (by show¬J8.heap.size=Zu.heap.size;omega)) rfl (sc rfl) (λVp nQm _ kS=>?_);have zw:Mod (·=J8.heap.size) VU Vp:=qQL nQm rfl;have cQp:Ext Zu Vp:=zw.ext pF (λi hi=>by omega);have nQn:=pD.mod zw (by show¬Zu.heap.size=J8.heap.size;omega);have pG:=JW.trans cQp;have bB:=Va.ext pG;have DY:=cQo.ext pG;have pQI:=MF.ext pG;have nQo:=(aa.ext jy).mod dm nopr;have nQp:=nQo.ext pG;have hd:=Ext.drew Vp;have pQJ:=pG.size;have pQK:=dm.size;have pQL:=JW.size;have pQM:=vW.size;have n15A:¬Qk s.A J8.heap.size:=λhi=>by have:=hhA _ hi;omega
     refine XR Qa (Mod (Qk s.A) Vp) 11 [(true,0),(true,1),(true,2),(true,3),(true,4),(true,5),(true,6),(true,7),(false,8),(false,9),(true,10)] (by kernel_rfl) (Mod.of_ext _ hd) ?_;refine Xv (vs:=s.k.cells) rfl (λw' Qb j u hj=>by rw[(DY.mod Qb nbA).cell];exact hj) ?_;refine Xv (vs:=b.cells) rfl (λw' Qb j u hj=>by rw[(kS.mod Qb n15A).cell];exact hj) ?_;refine QN (v:=.int .i64 ((s.ln+1:Nat):Int)) (λw' Qb=>by rw[(bB.blk.mod Qb nprA).cell];rfl) ?_
     let zn:SeV:=⟨⟨s.o,J2 s.o d,false,s.ln+1⟩,s.k,b⟩
     refine Xg Qa [zn.cells] rfl rfl rfl rfl rfl ⟨rfl,rfl,⟨⟩⟩ rfl (λcs hh=>by simp only[QO] at hh;subst hh;rfl) rfl (by decide) (by decide) ?_;intro bC gn MH pH;have sB:=hd.trans gn;refine⟨Mod.of_ext _ sB,?_⟩;have nQq:Sl bC 6 (some ⟨Vp.drew.heap.size,0,none⟩) 1 1 zn.cells:=Sl.own (sz:=6) (n:=1) pH (QB _) (by decide) (by simp[SeV.cells]);refine Je Qa rfl rfl rfl rfl rfl (by decide) rfl rfl ⟨_,rfl⟩ rfl rfl (nQp.ext sB) nQq (iQK zn) (by unfold maxLen;omega) (by show(s.z.length+1)*80<=_;omega) (bB.ext sB).top ?_;intro A' c' YE DZ D0 D3;have sC:Mod (Qk s.A) Vp YE:=(Mod.of_ext (Qk s.A) sB).trans DZ (λi hi=>.inl hi);refine⟨sC,?_⟩;have n14A:¬Qk s.A Zu.heap.size:=λhi=>by have:=hhA _ hi;omega
     refine Qt (nQn.mod sC n14A) rfl ?_;refine Qv (DY.mod sC nbA) rfl (sc rfl) (λgp zz _ kT=>?_);have kU:Mod (·=w.heap.size) YE gp:=qQL zz rfl;have nQr:Mod (JO p s.m s.A w.heap.size) Vp gp:=(sC.mono (S':=JO p s.m s.A w.heap.size) (λi hi=>.inl (.inr (.inl hi)))).trans kU (λi hi=>.inl (.inr (.inr hi)));have cQq:=sC.size;have fk:Rr w0 YE base p {s.m with T:=λi=>m.T i∨Qk A' i∨i=w.heap.size} ⟨v.d+s.z.length+1,n,s.ln+1,n::v.rd,s.g⟩:=bB.modT sC AK qm OS (λi hi=>by
       rcases hi with hi | hi | hi
       ·exact .inl (by rw[hI.tt];exact .inl hi)
       ·rcases D3.rows i hi with h1 | h1
        ·exact .inl (by rw[hI.tt];exact .inr (.inl h1))
        ·exact .inr (by have:=sB.size;omega)
       ·exact .inl (by rw[hI.tt];exact .inr (.inr hi))) (λi hi=>by
       rcases hi with hi | hi | hi
       ·have:=Aw i hi;omega
       ·exact(D0.rows i hi).2
       ·have:=DY.lt;omega)
     have gq:Rr w0 gp base p {s.m with T:=λi=>m.T i∨Qk A' i∨i=w.heap.size} ⟨v.d+s.z.length+1,n,s.ln+1,n::v.rd,s.g⟩:=fk.modT kU (λi hi=>.inr (.inr hi)) (λi hi=>by subst hi;exact nbk) (λi hi=>by have:=h.e0.size;omega) (λi hi=>.inl hi) (λi hi=>Yq (fk.tt i hi) kU.size);refine XV gq.blk (show 8<11 by decide) (λae D4 sE=>?_);have kV:Rr w0 ae base p {s.m with T:=λi=>m.T i∨Qk A' i∨i=w.heap.size} ⟨v.d+s.z.length+1,n,s.ln+1,n::v.rd,{s.g with fr:=true}⟩:=gq.put D4 sE rfl rfl rfl (λe=>by cases e);have dQk:Mod (JO p s.m s.A w.heap.size) w9 Vp:=((Mod.of_ext _ jy).trans (dm.mono (S':=JO p s.m s.A w.heap.size) (λi hi=>.inl (.inl (.inl hi)))) (λi hi=>.inl hi)).trans (Mod.of_ext _ pG) (λi hi=>.inl hi);have dQl:Mod (JO p s.m s.A w.heap.size) Vp ae:=nQr.trans D4 (λi hi=>.inl (.inl (.inl hi)));have dQm:Mod (JO p s.m s.A w.heap.size) w7 ae:=(gm.trans dQk (λi hi=>.inl hi)).trans dQl (λi hi=>.inl hi);have dQn:Moved w7 s.A A':=D3.back (by have:=gm.size;have:=dQk.size;have:=sB.size;omega);have qQu:(λi=>m.T i∨Qk A' i∨i=w.heap.size)=(λi=>m.T i∨Qk A' i∨i=w.heap.size):=rfl
     let s':LS:=⟨a,XY s.o d,s.z++ [zn],{s.m with T:=λi=>m.T i∨Qk A' i∨i=w.heap.size},{s.g with fr:=true},s.ln+1,s.at_+l.length+1,ls,A',c'⟩
     have kp:∀{x:DV} {o:BF},DgO w7 (TS p s.m) p.nm.length x o->DgO ae (TS p s'.m) p.nm.length x o:=λhx=>hI.kp (s':=s') dQm rfl dQn (Moved.refl _ _) (Moved.refl _ _) hx
     have AL:(s.z++ [zn]).length=s.z.length+1:=by simp
     have oQR:∀i,TS p s.m i->i<X9.heap.size:=λi hi=>by
      have:=h9.hiT i hi;omega
     have fresh:∀(x:DV) (ox:BF),(∀i,Qk x.A i->X9.heap.size<=i)->SB Zu x.A x.n x.c x.nd->Set1 p.nm.length x.nd x.r ox->DgO ae (TS p s'.m) p.nm.length x ox:=λx ox hr hx hs=>by
      have e1:DgO Vp (TS p s.m) p.nm.length x ox:=⟨hx.ext cQp,hs,λad e _ hh=>by have:=hr _ ⟨ad,e,rfl⟩;have:=oQR _ hh;omega⟩
      exact e1.step (dQl.mono (λi hi=>.inl (hI.sub i hi))) (λi hi=>by
       rcases hi with hi | hi
       ·exact .inl (.inl hi)
       ·rcases hi with hi | hi | hi
        ·exact .inl (.inr (by rw[hI.tt];exact .inl hi))
        ·rcases D3.rows i hi with h1 | h1
         ·exact .inl (.inr (by rw[hI.tt];exact .inr (.inl h1)))
         ·exact .inr (by have:=sB.size;omega)
        ·exact .inl (.inr (by rw[hI.tt];exact .inr (.inr hi))))
     refine⟨s',?_,?_,?_⟩
     ·show Has _ _;have e:(((s.z++ [zn]).length:Nat):Int)=((s.z.length+1:Nat):Int):=by rw[AL]
      simp only[s',AL];rfl
     ·refine hI.go (s':=s') lj dQm ?_ rfl dQn (Moved.refl _ _) (Moved.refl _ _) ?_ ?_ ?_ ?_ ?_ KL rfl ?_ ?_ rfl
      ·show Rr w0 ae base p _ ⟨v.d+(s.z++ [zn]).length,n,s.ln+1,n::v.rd,{s.g with fr:=true}⟩;rw[AL];exact kV
      ·exact kT.mod D4 npr
      ·exact fresh a _ Ar nQj has
      ·show Own ae base ay 6 A' (s.z++ [zn]).length c' (Yx (s.z++ [zn]));rw[AL,oL];exact(D0.mod kU (λi hi e=>by subst e;exact(DY.mod sC nbA).apart D0 (by decide) hi)).mod D4 (λi hi e=>by subst e;have:=(D0.rows _ hi).1;have:=h.rb;omega)
      ·intro z hz;simp only[s',XP,QO] at hz;rcases hz with hz | rfl
       ·exact kp (hI.zx z hz)
       ·exact kp hI.kd
      ·intro z hz;simp only[s',XP,QO] at hz;rcases hz with hz | rfl
       ·exact kp (hI.zy z hz)
       ·exact fresh b _ iG nQk AH
      ·have jz:¬v.d+(s.z.reverse.map (·.s)).length=64:=by simpa using sw
       rw[CN Xt,he] at QH;simp only[if_neg jz] at QH;rw[<-QH];simp[s',zn]
      ·show v.d+(s.z++ [zn]).length<=64;rw[AL];omega
     ·show ls.length<(l::ls).length;simp
    have X7:v.d+(s.z.reverse.map (·.s)).length=v.d+s.z.length:=by simp
    have fi:∀x∈VL l,x<256:=λx hx=>iq x (WT hx)
    have lh:(VL l).length<=1000000000000:=by unfold VL;rw[Y1];omega
    by_cases P2:J3 l=rJ/\32∈l
    ·have Xt:=iQi P2.1 P2.2;rw[Qf P2.2];refine XJ (by rw[P2.1];decide) ?_;refine Zy (by rw[P2.1];rfl) ?_;refine Zy (lf.2 P2.2) ?_;refine XU (iQz (VL l) w9 hP h9 fi lh) ?_ ?_
     rotate_left
     ·rintro ch QE ⟨e,he,rfl,X1⟩;refine Xj ⟨e,n,((s.ln+1:Nat):Int)⟩ _ QE ?_ rfl (Mod.of_ext _ X1);rw[<-QH,yp Xt];have hi:oN p f n v.rd (VL l) (s.ln+1) (v.d+(s.z.reverse.map (·.s)).length) s.o s.g= .error ⟨e,n,((s.ln+1:Nat):Int)⟩:=by
       unfold oN;rw[show dK (Jq (p.fs.map (·.1))) (n::v.rd) (VL l)= .error e from he]
      rw[hi]
     rintro _ QE ⟨n',he,rfl,X1⟩;have he:dK (Jq (p.fs.map (·.1))) (n::v.rd) (VL l)= .ok n':=he;have XO:=h9.ext X1;refine XU (Ua QE XO Yb) ?_ ?_
     rotate_left
     ·rintro ch QL ⟨jz,rfl,Jv⟩;refine Xj ⟨2,n,((s.ln+1:Nat):Int)⟩ _ QL ?_ rfl (Mod.of_ext _ (X1.trans Jv));have jz:v.d+(s.z.reverse.map (·.s)).length=64:=by simpa using jz
      rw[<-QH,yp Xt];have hi:oN p f n v.rd (VL l) (s.ln+1) (v.d+(s.z.reverse.map (·.s)).length) s.o s.g= .error ⟨2,n,((s.ln+1:Nat):Int)⟩:=by
       unfold oN;rw[he];simp only[Qf jz]
      rw[hi]
     rintro _ QL ⟨sw,Z7,mY⟩;have sw:¬v.d+s.z.length=64:=sw;have jz:¬v.d+(s.z.reverse.map (·.s)).length=64:=by simpa using sw
     have cQr:=(dk.ext X1).mod mY npr;refine Qt cQr rfl ?_;obtain⟨wD,tn,tF⟩:=H4 he;have KJ:n'<p.fs.length:=by have:=lZ tF;simpa using this
     have nQs:=(fj.ext X1).keep mY (λi hi=>.inl (.inl (.inl hi)));have jU:∀R,aq p.nm p.fs f (n::v.rd) (v.d+s.z.length+1) n' s.o s.g=R->oN p f n v.rd (VL l) (s.ln+1) (v.d+(s.z.reverse.map (·.s)).length) s.o s.g=R:=λR hR=>by
      unfold oN;rw[he];simp only[if_neg jz];rw[X7];exact hR
     have OT:Mod (JO p s.m s.A w.heap.size) w9 QL:=(Mod.of_ext _ X1).trans (mY.mono (S':=JO p s.m s.A w.heap.size) (λi hi=>.inl (.inl (.inl hi)))) (λi hi=>.inl hi);refine XU (ih s.m ⟨v.d+s.z.length+1,n,s.ln+1,n::v.rd,s.g⟩ n' s.k s.o QL Z7 nQs KJ wD (by show v.d+s.z.length+1<=64;omega) (by show 65<=f+(v.d+s.z.length+1);omega)) ?_ ?_
     rotate_left
     ·rintro ch Xb ⟨q,hq,rfl,V9⟩;refine Xj q _ Xb ?_ rfl (OT.trans V9 (λi hi=>.inl (.inl hi)));rw[<-QH,yp Xt,jU _ hq]
     rintro _ Xb ⟨g',Yc,m',iH,X0,V9,nQt,nQu⟩;refine Qo X0.blk rfl ?_;refine Qj ((v.d+s.z.length:Nat):Int) (by show((v.d+s.z.length+1:Nat):Int)-1=_;omega) (by omega) ?_;refine XV X0.blk (show 4<11 by decide) (λX9 dm Vw=>?_);have Va:Rr w0 X9 base p m' ⟨v.d+s.z.length,n,s.ln+1,n::v.rd,g'⟩:=X0.put dm Vw rfl rfl rfl X0.nf;refine XV Va.blk (show 8<11 by decide) (λZu D5 JV=>?_);have Ya:Rr w0 Zu base p m' ⟨v.d+s.z.length,n,s.ln+1,n::v.rd,{g' with fr:=true}⟩:=Va.put D5 JV rfl rfl rfl (λe=>by cases e);have MI:Mod (·=p.r) Xb Zu:=dm.trans D5 (λi hi=>.inl hi);have oQS:Mod (JO p s.m s.A w.heap.size) w9 Zu:=(OT.trans V9 (λi hi=>.inl (.inl hi))).trans MI (λi hi=>.inl (.inl (.inl hi)));have dQo:Mod (JO p s.m s.A w.heap.size) w7 Zu:=gm.trans oQS (λi hi=>.inl hi);have hzm:=OT.size;have K7:Moved w7 s.m.OA m'.OA:=nQt.back (by omega);have fm:Moved w7 s.m.BA m'.BA:=nQu.back (by omega)
     let s':LS:=⟨s.k,s.o,s.z,m',{g' with fr:=true},s.ln+1,s.at_+l.length+1,ls,s.A,s.c⟩
     have W9:s'.m.T=λi=>m.T i∨Qk s'.A i∨i=w.heap.size:=by show m'.T=_;rw[iH,hI.tt]
     have kp:∀{x:DV} {o:BF},DgO w7 (TS p s.m) p.nm.length x o->DgO Zu (TS p s'.m) p.nm.length x o:=λhx=>hI.kp (s':=s') dQo W9 (Moved.refl _ _) K7 fm hx
     have nQv:Own Zu base ay 6 s.A s.z.length s.c (Yx s.z):=((((aa.ext X1).mod mY nopr).mod V9 qm).mod MI nopr)
     have nQw:=(cQr.mod V9 nbk).mod MI npr;refine⟨s',rfl,?_,?_⟩
     ·refine hI.go (s':=s') lj dQo Ya W9 (Moved.refl _ _) K7 fm nQw (kp hI.kd) nQv (λz hz=>kp (hI.zx z hz)) (λz hz=>kp (hI.zy z hz)) KL rfl ?_ Yb rfl;rw[yp Xt,jU _ Yc] at QH;exact QH
     ·show ls.length<(l::ls).length;simp
    by_cases P3:J3 l=uY/\32∈l
    ·have Xt:=iQj P3.1 P3.2;rw[Qf P3.2];refine XJ (by rw[P3.1];decide) ?_;refine XJ (by rw[P3.1];decide) ?_;refine Zy (by rw[P3.1];rfl) ?_;refine Zy (lf.2 P3.2) ?_;refine X8 (λhz=>?_) (λhz=>?_)
     ·have gl:s.z=[]:=WO (by omega);refine XU (bi 72 w9 h9) (λ_ _ hf=>hf.elim) ?_;rintro ch QE ⟨rfl,X1⟩;refine Xj ⟨72,n,((s.ln+1:Nat):Int)⟩ _ QE ?_ rfl (Mod.of_ext _ X1);rw[<-QH,CO Xt,gl]<;>rfl
     obtain⟨z',x,VE⟩:∃z' x,s.z=z'++ [x]:=by
      rcases qM s.z with h0 | ⟨z',x,h0⟩
      ·exact Xc (by rw[h0];rfl) hz
      ·exact⟨z',x,by rw[h0];simp⟩
     have tE:s.z.length=z'.length+1:=by rw[VE];simp
     have nF:s.z.reverse.map (·.s)=x.s::z'.reverse.map (·.s):=by rw[VE];simp
     obtain⟨oa,Ku,_⟩:=aa.sl.at_ (by omega:0<s.z.length);have qp:Qk (some oa)=Qk s.A:=by rw[Ku]
     have zA:Own w9 base ay 6 (some oa) s.z.length s.c (Yx z'++x.cells):=by rw[<-Ku,<-oL,<-VE];exact aa
     have gC:x∈s.z:=by rw[VE];simp
     have YH:=su (hI.zx x gC);have Xr:=su (hI.zy x gC);have JF:=CR z';have FG:∀i,TS p s.m i->i<w9.heap.size:=h9.hiT
     refine Qj ((z'.length:Nat):Int) (by omega) (by omega) ?_;rw[Ku];refine Kc (j:=z'.length) (by omega) ?_;rw[show z'.length*6=(Yx z').length from JF.symm];refine XJ (λe=>by have e2:l=Zb:=Kn iq (by decide) e;have:=P3.2;rw[e2] at this;exact Xc this (by decide)) ?_;have AM:decide (Qd l=(⟨#[35,101,108,115,101]⟩:ByteArray))=false:=Zr (λe=>by have e2:l=Kz:=Kn iq (by decide) e;have:=P3.2;rw[e2] at this;exact Xc this (by decide));refine XU (Ug s.m ⟨v.d+s.z.length,n,s.ln+1,n::v.rd,s.g⟩ oa s.z.length s.c (Yx z') x (decide (Qd l=(⟨#[35,101,108,115,101]⟩:ByteArray))) (VL l) w9 hP h9 zA (by rw[qp];exact AK) (by rw[JF];omega) Xr fi lh d9) ?_ ?_
     rotate_left
     ·rintro ch QE ⟨e,he,rfl,JQ⟩;refine Xj ⟨e,n,((s.ln+1:Nat):Int)⟩ _ QE ?_ rfl (JQ.mono (λi hi=>.inl (.inr (.inl (by rw[<-qp];exact hi)))));rw[AM] at he;rw[<-QH,CO Xt,nF];rcases he with⟨h1,rfl⟩ | ⟨h1,_,h3⟩
      ·simp only[h1,if_true]
      ·simp only[h1,h3];rfl
     rintro u QE ⟨eu,JQ,bL⟩;rw[AM,if_neg (by decide)] at bL;obtain⟨o',b,d',gw,rfl,m7,AH,iG,pI,jS,dy,MJ⟩:=bL
     let zn:SeV:=⟨{x.s with re:=J2 x.s.re o'},x.x,d'⟩
     let nk:DV:=b
     let no:BF:=XY x.s.re o'
     rw[qp] at JQ;have ML:=dk.mod JQ nbA;have XO:Rr w0 QE base p s.m ⟨v.d+s.z.length,n,s.ln+1,n::v.rd,s.g⟩:=h9.modT JQ AK qm OS (λi hi=>.inl hi) (λi hi=>Yq (h9.tt i hi) JQ.size);refine Qv ML rfl (sc rfl) (λQL zB _ Z6=>?_);have Jj:Mod (·=w.heap.size) QE QL:=qQL zB rfl;have Z7:Rr w0 QL base p s.m ⟨v.d+s.z.length,n,s.ln+1,n::v.rd,s.g⟩:=XO.modT Jj (λi hi=>by rw[hI.tt];exact .inr (.inr hi)) (λi hi=>by subst hi;exact nbk) (λi hi=>by have:=h.e0.size;omega) (λi hi=>.inl hi) (λi hi=>Yq (XO.tt i hi) Jj.size);refine XV Z7.blk (show 8<11 by decide) (λXb V9 Vj=>?_);have X0:Rr w0 Xb base p s.m ⟨v.d+s.z.length,n,s.ln+1,n::v.rd,{s.g with fr:=true}⟩:=Z7.put V9 Vj rfl rfl rfl (λe=>by cases e);have AN:Mod (JO p s.m s.A w.heap.size) QE Xb:=(Jj.mono (S':=JO p s.m s.A w.heap.size) (λi hi=>.inl (.inr (.inr hi)))).trans V9 (λi hi=>.inl (.inl (.inl hi)));have AO:Mod (JO p s.m s.A w.heap.size) w9 Xb:=(JQ.mono (S':=JO p s.m s.A w.heap.size) (λi hi=>.inl (.inr (.inl hi)))).trans AN (λi hi=>.inl hi);have qq:Mod (JO p s.m s.A w.heap.size) w7 Xb:=gm.trans AO (λi hi=>.inl hi);have nG:(z'++ [zn]).length=s.z.length:=by rw[tE];simp
     let s':LS:=⟨nk,no,z'++ [zn],s.m,{s.g with fr:=true},s.ln+1,s.at_+l.length+1,ls,s.A,s.c⟩
     have kp:∀{x:DV} {o:BF},DgO w7 (TS p s.m) p.nm.length x o->DgO Xb (TS p s'.m) p.nm.length x o:=λhx=>hI.kp (s':=s') qq hI.tt (Moved.refl _ _) (Moved.refl _ _) (Moved.refl _ _) hx
     have fresh:∀(x:DV) (ox:BF),(∀i,Qk x.A i->w9.heap.size<=i)->SB QE x.A x.n x.c x.nd->Set1 p.nm.length x.nd x.r ox->DgO Xb (TS p s'.m) p.nm.length x ox:=λx ox hr hx hs=>by
      have e1:DgO QE (TS p s.m) p.nm.length x ox:=⟨hx,hs,λad e _ hh=>by have:=hr _ ⟨ad,e,rfl⟩;have:=FG _ hh;omega⟩
      exact e1.step (AN.mono (λi hi=>.inl (hI.sub i hi))) (λi hi=>.inl hi)
     refine⟨s',?_,?_,?_⟩
     ·show Has _ _;simp only[s',nG];rw[Ku]<;>rfl
     ·refine hI.go (s':=s') lj qq ?_ hI.tt (Moved.refl _ _) (Moved.refl _ _) (Moved.refl _ _) ?_ ?_ ?_ ?_ ?_ KL rfl ?_ ?_ rfl
      ·show Rr w0 Xb base p _ ⟨v.d+(z'++ [zn]).length,n,s.ln+1,n::v.rd,{s.g with fr:=true}⟩;rw[nG];exact X0
      ·exact Z6.mod V9 npr
      ·exact fresh b _ iG m7 AH
      ·show Own Xb base ay 6 s.A (z'++ [zn]).length s.c (Yx (z'++ [zn]));rw[nG,oL];have MM:Own QE base ay 6 s.A s.z.length s.c (Yx z'++zn.cells):=by rw[Ku];exact MJ
       exact(MM.mod Jj (λi hi e=>by subst e;exact nbA hi)).mod V9 nopr
      ·intro z hz;simp only[s',XP,QO] at hz;rcases hz with hz | rfl
       ·exact kp (hI.zx z (by rw[VE];simp[hz]))
       ·exact kp (hI.zx x gC)
      ·intro z hz;simp only[s',XP,QO] at hz;rcases hz with hz | rfl
       ·exact kp (hI.zy z (by rw[VE];simp[hz]))
       ·exact fresh d' _ dy pI jS
      ·rw[CO Xt,nF] at QH;simp only[eu,gw] at QH;rw[<-QH];simp[s',zn,no,eu]
      ·show v.d+(z'++ [zn]).length<=64;rw[nG];omega
     ·show ls.length<(l::ls).length;simp
    have oQT:=iQk P1 P2 P3;by_cases pJ:l=Kz
    ·have Xt:XS l= .els:=by rw[pJ]<;>rfl
     have Xi:32∉l:=by rw[pJ];decide
     have JH:J3 l=Kz:=by rw[HO Xi,pJ]
     rw[if_neg Xi];refine XJ (by rw[JH];decide) ?_;refine XJ (by rw[JH];decide) ?_;refine XJ (by rw[JH];decide) ?_;refine Zy (by rw[pJ];rfl) ?_;refine X8 (λhz=>?_) (λhz=>?_)
     ·have gl:s.z=[]:=WO (by omega);refine XU (bi 72 w9 h9) (λ_ _ hf=>hf.elim) ?_;rintro ch QE ⟨rfl,X1⟩;refine Xj ⟨72,n,((s.ln+1:Nat):Int)⟩ _ QE ?_ rfl (Mod.of_ext _ X1);rw[<-QH,CQ Xt,gl]<;>rfl
     obtain⟨z',x,VE⟩:∃z' x,s.z=z'++ [x]:=by
      rcases qM s.z with h0 | ⟨z',x,h0⟩
      ·exact Xc (by rw[h0];rfl) hz
      ·exact⟨z',x,by rw[h0];simp⟩
     have tE:s.z.length=z'.length+1:=by rw[VE];simp
     have nF:s.z.reverse.map (·.s)=x.s::z'.reverse.map (·.s):=by rw[VE];simp
     obtain⟨oa,Ku,_⟩:=aa.sl.at_ (by omega:0<s.z.length);have qp:Qk (some oa)=Qk s.A:=by rw[Ku]
     have zA:Own w9 base ay 6 (some oa) s.z.length s.c (Yx z'++x.cells):=by rw[<-Ku,<-oL,<-VE];exact aa
     have gC:x∈s.z:=by rw[VE];simp
     have YH:=su (hI.zx x gC);have Xr:=su (hI.zy x gC);have JF:=CR z';have FG:∀i,TS p s.m i->i<w9.heap.size:=h9.hiT
     refine Qj ((z'.length:Nat):Int) (by omega) (by omega) ?_;rw[Ku];refine Kc (j:=z'.length) (by omega) ?_;rw[show z'.length*6=(Yx z').length from JF.symm];refine XJ (by rw[pJ];decide) ?_;have AM:decide (Qd l=(⟨#[35,101,108,115,101]⟩:ByteArray))=true:=Zx (by rw[pJ];rfl);refine XU (Ug s.m ⟨v.d+s.z.length,n,s.ln+1,n::v.rd,s.g⟩ oa s.z.length s.c (Yx z') x (decide (Qd l=(⟨#[35,101,108,115,101]⟩:ByteArray))) [] w9 hP h9 zA (by rw[qp];exact AK) (by rw[JF];omega) Xr (λx hx=>by cases hx) (by decide) d9) ?_ ?_
     rotate_left
     ·rintro ch QE ⟨e,he,rfl,JQ⟩;refine Xj ⟨e,n,((s.ln+1:Nat):Int)⟩ _ QE ?_ rfl (JQ.mono (λi hi=>.inl (.inr (.inl (by rw[<-qp];exact hi)))));rw[AM] at he;rw[<-QH,CQ Xt,nF];rcases he with⟨h1,rfl⟩ | ⟨_,h2,_⟩
      ·simp only[h1,if_true]
      ·cases h2
     rintro u QE ⟨eu,JQ,bL⟩;rw[AM,Qf rfl] at bL;obtain⟨rfl,MJ⟩:=bL
     let zn:SeV:=⟨{x.s with ot:=true},x.x,x.y⟩
     let nk:DV:=x.y
     let no:BF:=x.s.re
     rw[qp] at JQ;have ML:=dk.mod JQ nbA;have XO:Rr w0 QE base p s.m ⟨v.d+s.z.length,n,s.ln+1,n::v.rd,s.g⟩:=h9.modT JQ AK qm OS (λi hi=>.inl hi) (λi hi=>Yq (h9.tt i hi) JQ.size);refine Qv ML rfl (sc rfl) (λQL zB _ Z6=>?_);have Jj:Mod (·=w.heap.size) QE QL:=qQL zB rfl;have Z7:Rr w0 QL base p s.m ⟨v.d+s.z.length,n,s.ln+1,n::v.rd,s.g⟩:=XO.modT Jj (λi hi=>by rw[hI.tt];exact .inr (.inr hi)) (λi hi=>by subst hi;exact nbk) (λi hi=>by have:=h.e0.size;omega) (λi hi=>.inl hi) (λi hi=>Yq (XO.tt i hi) Jj.size);refine XV Z7.blk (show 8<11 by decide) (λXb V9 Vj=>?_);have X0:Rr w0 Xb base p s.m ⟨v.d+s.z.length,n,s.ln+1,n::v.rd,{s.g with fr:=true}⟩:=Z7.put V9 Vj rfl rfl rfl (λe=>by cases e);have AN:Mod (JO p s.m s.A w.heap.size) QE Xb:=(Jj.mono (S':=JO p s.m s.A w.heap.size) (λi hi=>.inl (.inr (.inr hi)))).trans V9 (λi hi=>.inl (.inl (.inl hi)));have AO:Mod (JO p s.m s.A w.heap.size) w9 Xb:=(JQ.mono (S':=JO p s.m s.A w.heap.size) (λi hi=>.inl (.inr (.inl hi)))).trans AN (λi hi=>.inl hi);have qq:Mod (JO p s.m s.A w.heap.size) w7 Xb:=gm.trans AO (λi hi=>.inl hi);have nG:(z'++ [zn]).length=s.z.length:=by rw[tE];simp
     let s':LS:=⟨nk,no,z'++ [zn],s.m,{s.g with fr:=true},s.ln+1,s.at_+l.length+1,ls,s.A,s.c⟩
     have kp:∀{x:DV} {o:BF},DgO w7 (TS p s.m) p.nm.length x o->DgO Xb (TS p s'.m) p.nm.length x o:=λhx=>hI.kp (s':=s') qq hI.tt (Moved.refl _ _) (Moved.refl _ _) (Moved.refl _ _) hx
     have fresh:∀(x:DV) (ox:BF),(∀i,Qk x.A i->w9.heap.size<=i)->SB QE x.A x.n x.c x.nd->Set1 p.nm.length x.nd x.r ox->DgO Xb (TS p s'.m) p.nm.length x ox:=λx ox hr hx hs=>by
      have e1:DgO QE (TS p s.m) p.nm.length x ox:=⟨hx,hs,λad e _ hh=>by have:=hr _ ⟨ad,e,rfl⟩;have:=FG _ hh;omega⟩
      exact e1.step (AN.mono (λi hi=>.inl (hI.sub i hi))) (λi hi=>.inl hi)
     refine⟨s',?_,?_,?_⟩
     ·show Has _ _;simp only[s',nG];rw[Ku]<;>rfl
     ·refine hI.go (s':=s') lj qq ?_ hI.tt (Moved.refl _ _) (Moved.refl _ _) (Moved.refl _ _) ?_ ?_ ?_ ?_ ?_ KL rfl ?_ ?_ rfl
      ·show Rr w0 Xb base p _ ⟨v.d+(z'++ [zn]).length,n,s.ln+1,n::v.rd,{s.g with fr:=true}⟩;rw[nG];exact X0
      ·exact Z6.mod V9 npr
      ·exact kp (hI.zy x gC)
      ·show Own Xb base ay 6 s.A (z'++ [zn]).length s.c (Yx (z'++ [zn]));rw[nG,oL];have MM:Own QE base ay 6 s.A s.z.length s.c (Yx z'++zn.cells):=by rw[Ku];exact MJ
       exact(MM.mod Jj (λi hi e=>by subst e;exact nbA hi)).mod V9 nopr
      ·intro z hz;simp only[s',XP,QO] at hz;rcases hz with hz | rfl
       ·exact kp (hI.zx z (by rw[VE];simp[hz]))
       ·exact kp (hI.zx x gC)
      ·intro z hz;simp only[s',XP,QO] at hz;rcases hz with hz | rfl
       ·exact kp (hI.zy z (by rw[VE];simp[hz]))
       ·exact kp (hI.zy x gC)
      ·rw[CQ Xt,nF] at QH;simp only[eu] at QH;rw[<-QH];simp[s',zn,no]
      ·show v.d+(z'++ [zn]).length<=64;rw[nG];omega
     ·show ls.length<(l::ls).length;simp
    by_cases pK:l=Zb
    ·have Xt:XS l= .en:=by rw[pK]<;>rfl
     have Xi:32∉l:=by rw[pK];decide
     have JH:J3 l=Zb:=by rw[HO Xi,pK]
     refine XJ (by rw[JH];decide) ?_;refine XJ (by rw[JH];decide) ?_;refine XJ (by rw[JH];decide) ?_;refine XJ (by rw[pK];decide) ?_;refine Zy (by rw[pK];rfl) ?_;refine X8 (λhz=>?_) (λhz=>?_)
     ·have gl:s.z=[]:=WO (by omega);refine XU (bi 72 w9 h9) (λ_ _ hf=>hf.elim) ?_;rintro ch QE ⟨rfl,X1⟩;refine Xj ⟨72,n,((s.ln+1:Nat):Int)⟩ _ QE ?_ rfl (Mod.of_ext _ X1);rw[<-QH,H3 Xt,gl]<;>rfl
     obtain⟨z',x,VE⟩:∃z' x,s.z=z'++ [x]:=by
      rcases qM s.z with h0 | ⟨z',x,h0⟩
      ·exact Xc (by rw[h0];rfl) hz
      ·exact⟨z',x,by rw[h0];simp⟩
     have tE:s.z.length=z'.length+1:=by rw[VE];simp
     have nF:s.z.reverse.map (·.s)=x.s::z'.reverse.map (·.s):=by rw[VE];simp
     obtain⟨oa,Ku,_⟩:=aa.sl.at_ (by omega:0<s.z.length);have qp:Qk (some oa)=Qk s.A:=by rw[Ku]
     have zA:Own w9 base ay 6 (some oa) s.z.length s.c (Yx z'++x.cells):=by rw[<-Ku,<-oL,<-VE];exact aa
     have gC:x∈s.z:=by rw[VE];simp
     have YH:=su (hI.zx x gC);have Xr:=su (hI.zy x gC);have JF:=CR z';have FG:∀i,TS p s.m i->i<w9.heap.size:=h9.hiT
     refine Qj ((z'.length:Nat):Int) (by omega) (by omega) ?_;rw[Ku];refine Kc (j:=z'.length) (by omega) ?_;rw[show z'.length*6=(Yx z').length from JF.symm];refine Zy (by rw[pK];rfl) ?_;refine Jz (vs:=x.x.cells) rfl (λi u hi=>?_) ?_
     ·show w9.cell? (((oa.add (Yx z').length).add 0).add i)=some u;rw[add_add];refine CM zA (by omega) (yo ?_)
      match i,hi with
      | 0,hi=>exact hi
      | 1,hi=>exact hi
      | _+2,hi=>exact nomatch hi
     refine Qv dk rfl (sc rfl) (λQE jA _ J6=>?_);have ZA:Mod (·=w.heap.size) w9 QE:=qQL jA rfl;have XO:Rr w0 QE base p s.m ⟨v.d+s.z.length,n,s.ln+1,n::v.rd,s.g⟩:=h9.modT ZA (λi hi=>by rw[hI.tt];exact .inr (.inr hi)) (λi hi=>by subst hi;exact nbk) (λi hi=>by have:=h.e0.size;omega) (λi hi=>.inl hi) (λi hi=>Yq (h9.tt i hi) ZA.size);refine Qj ((z'.length:Nat):Int) (by omega) (by omega) ?_;refine kh (h:=z'.length) Qa rfl rfl rfl rfl rfl rfl (by have:=aa.sl.le;omega) ?_;refine Qo XO.blk rfl ?_;refine Qj ((v.d+z'.length:Nat):Int) (by show((v.d+s.z.length:Nat):Int)-1=_;omega) (by omega) ?_;refine XV XO.blk (show 4<11 by decide) (λQL mY Z6=>?_);have Z7:Rr w0 QL base p s.m ⟨v.d+z'.length,n,s.ln+1,n::v.rd,s.g⟩:=XO.put mY Z6 rfl rfl rfl XO.nf;refine XV Z7.blk (show 8<11 by decide) (λXb V9 Vj=>?_);have X0:Rr w0 Xb base p s.m ⟨v.d+z'.length,n,s.ln+1,n::v.rd,{s.g with fr:=true}⟩:=Z7.put V9 Vj rfl rfl rfl (λe=>by cases e);have MN:Mod (·=p.r) QE Xb:=mY.trans V9 (λi hi=>.inl hi);have AO:Mod (JO p s.m s.A w.heap.size) w9 Xb:=(ZA.mono (S':=JO p s.m s.A w.heap.size) (λi hi=>.inl (.inr (.inr hi)))).trans MN (λi hi=>.inl (.inl (.inl hi)));have qq:Mod (JO p s.m s.A w.heap.size) w7 Xb:=gm.trans AO (λi hi=>.inl hi)
     let s':LS:=⟨x.x,x.s.ou,z',s.m,{s.g with fr:=true},s.ln+1,s.at_+l.length+1,ls,s.A,s.c⟩
     have kp:∀{x:DV} {o:BF},DgO w7 (TS p s.m) p.nm.length x o->DgO Xb (TS p s'.m) p.nm.length x o:=λhx=>hI.kp (s':=s') qq hI.tt (Moved.refl _ _) (Moved.refl _ _) (Moved.refl _ _) hx
     refine⟨s',?_,?_,?_⟩
     ·show Has _ _;simp only[s'];rw[Ku]<;>rfl
     ·refine hI.go (s':=s') lj qq X0 hI.tt (Moved.refl _ _) (Moved.refl _ _) (Moved.refl _ _) (J6.mod MN npr) (kp (hI.zx x gC)) ?_ (λz hz=>kp (hI.zx z (by rw[VE];simp[show z∈z' from hz]))) (λz hz=>kp (hI.zy z (by rw[VE];simp[show z∈z' from hz]))) KL rfl ?_ ?_ rfl
      ·have ht:=aa.take (k:=z'.length) (by omega);rw[VE,oL,List.take_left' (by rw[JF])] at ht;exact(ht.mod ZA (λi hi e=>by subst e;exact nbA hi)).mod MN nopr
      ·rw[H3 Xt,nF] at QH;rw[<-QH]
      ·show v.d+z'.length<=64;omega
     ·show ls.length<(l::ls).length;simp
    have Xt:XS l= .txt:=by rw[oQT,if_neg pJ,if_neg pK]
    have D6:¬Qd l=(⟨#[35,101,108,115,101]⟩:ByteArray):=λe=>pJ (Kn iq (by decide) e)
    have D7:¬Qd l=(⟨#[35,101,110,100]⟩:ByteArray):=λe=>pK (Kn iq (by decide) e)
    have vX:∀x∈J3 l,x<256:=λx hx=>iq x ((xa _).subset hx)
    by_cases q1:J3 l=oI
    ·refine Zy (by rw[q1];rfl) ?_;refine XJ (λe=>P1 ⟨q1,lf.1 e⟩) ?_;refine XJ (by rw[q1];decide) ?_;refine XJ (by rw[q1];decide) ?_;refine XJ D6 ?_;refine XJ D7 ?_;have Kk:=Ext.drew w9;refine rg Qa 7 (by kernel_rfl) ?_;refine Xy (v':=.string (Qd (l++ [10]))) ⟨by omega,by omega,by rw[XQ];omega⟩ ?_ ?_
     ·rw[KN];simp only[iO];rw[fA,show s.at_+l.length+1-s.at_=l.length+1 by omega,l5]
     refine Xv (vs:=s.k.cells) rfl (λw' Qb j u hj=>by subst Qb;rw[(dk.ext Kk).cell];exact hj) ?_;have tG:=h9.ext Kk;have tH:DgO w9.drew (RS p s.m) p.nm.length s.k s.o:=⟨fj.sb.ext Kk,fj.st,λad e h0 hh=>fj.off ad e h0 (.inl hh)⟩
     refine XU (add_fn s.m ⟨v.d+s.z.length,n,s.ln+1,n::v.rd,s.g⟩ (l++ [10]) s.at_ s.k s.o w9.drew hP tG tH (λx hx=>by
      rcases XP.1 hx with hx | hx
      ·exact iq x hx
      ·simp only[QO] at hx;omega) (by rw[Qq];simp;omega) (PS _ _)) ?_ ?_
     rotate_left
     ·rintro ch QE ⟨hg,rfl,X1⟩;refine Xj ⟨2,n,((s.ln+1:Nat):Int)⟩ _ QE ?_ rfl (Mod.of_ext _ (Kk.trans X1));rw[<-QH,mo Xt,show Vt (l++ [10]) n s.at_ s.o s.g=none from hg]
     rintro _ QE ⟨g',Yc,m',iH,XO,JQ,sF,sG⟩;have tI:Mod (JO p s.m s.A w.heap.size) w9 QE:=(Mod.of_ext _ Kk).trans JQ (λi hi=>.inl (.inl hi));have jW:Mod (JO p s.m s.A w.heap.size) w7 QE:=gm.trans tI (λi hi=>.inl hi);have AP:=Kk.size;have K7:Moved w7 s.m.OA m'.OA:=sF.back (by omega);have fm:Moved w7 s.m.BA m'.BA:=sG.back (by omega)
     let s':LS:=⟨s.k,s.o,s.z,m',g',s.ln+1,s.at_+l.length+1,ls,s.A,s.c⟩
     have W9:s'.m.T=λi=>m.T i∨Qk s'.A i∨i=w.heap.size:=by show m'.T=_;rw[iH,hI.tt]
     have kp:∀{x:DV} {o:BF},DgO w7 (TS p s.m) p.nm.length x o->DgO QE (TS p s'.m) p.nm.length x o:=λhx=>hI.kp (s':=s') jW W9 (Moved.refl _ _) K7 fm hx
     refine⟨s',rfl,?_,?_⟩
     ·refine hI.go (s':=s') lj jW XO W9 (Moved.refl _ _) K7 fm ((dk.ext Kk).mod JQ nbk) (kp hI.kd) ((aa.ext Kk).mod JQ qm) (λz hz=>kp (hI.zx z hz)) (λz hz=>kp (hI.zy z hz)) KL rfl ?_ Yb rfl;rw[mo Xt,show Vt (l++ [10]) n s.at_ s.o s.g=some g' from Yc] at QH;exact QH
     ·show ls.length<(l::ls).length;simp
    refine XJ (λe=>q1 (Kn vX (by decide) e)) ?_;by_cases q2:J3 l=rJ
    ·refine Zy (by rw[q2];rfl) ?_;refine XJ (λe=>P2 ⟨q2,lf.1 e⟩) ?_;refine XJ (by rw[q2];decide) ?_;refine XJ D6 ?_;refine XJ D7 ?_;have Kk:=Ext.drew w9;refine rg Qa 7 (by kernel_rfl) ?_;refine Xy (v':=.string (Qd (l++ [10]))) ⟨by omega,by omega,by rw[XQ];omega⟩ ?_ ?_
     ·rw[KN];simp only[iO];rw[fA,show s.at_+l.length+1-s.at_=l.length+1 by omega,l5]
     refine Xv (vs:=s.k.cells) rfl (λw' Qb j u hj=>by subst Qb;rw[(dk.ext Kk).cell];exact hj) ?_;have tG:=h9.ext Kk;have tH:DgO w9.drew (RS p s.m) p.nm.length s.k s.o:=⟨fj.sb.ext Kk,fj.st,λad e h0 hh=>fj.off ad e h0 (.inl hh)⟩
     refine XU (add_fn s.m ⟨v.d+s.z.length,n,s.ln+1,n::v.rd,s.g⟩ (l++ [10]) s.at_ s.k s.o w9.drew hP tG tH (λx hx=>by
      rcases XP.1 hx with hx | hx
      ·exact iq x hx
      ·simp only[QO] at hx;omega) (by rw[Qq];simp;omega) (PS _ _)) ?_ ?_
     rotate_left
     ·rintro ch QE ⟨hg,rfl,X1⟩;refine Xj ⟨2,n,((s.ln+1:Nat):Int)⟩ _ QE ?_ rfl (Mod.of_ext _ (Kk.trans X1));rw[<-QH,mo Xt,show Vt (l++ [10]) n s.at_ s.o s.g=none from hg]
     rintro _ QE ⟨g',Yc,m',iH,XO,JQ,sF,sG⟩;have tI:Mod (JO p s.m s.A w.heap.size) w9 QE:=(Mod.of_ext _ Kk).trans JQ (λi hi=>.inl (.inl hi));have jW:Mod (JO p s.m s.A w.heap.size) w7 QE:=gm.trans tI (λi hi=>.inl hi);have AP:=Kk.size;have K7:Moved w7 s.m.OA m'.OA:=sF.back (by omega);have fm:Moved w7 s.m.BA m'.BA:=sG.back (by omega)
     let s':LS:=⟨s.k,s.o,s.z,m',g',s.ln+1,s.at_+l.length+1,ls,s.A,s.c⟩
     have W9:s'.m.T=λi=>m.T i∨Qk s'.A i∨i=w.heap.size:=by show m'.T=_;rw[iH,hI.tt]
     have kp:∀{x:DV} {o:BF},DgO w7 (TS p s.m) p.nm.length x o->DgO QE (TS p s'.m) p.nm.length x o:=λhx=>hI.kp (s':=s') jW W9 (Moved.refl _ _) K7 fm hx
     refine⟨s',rfl,?_,?_⟩
     ·refine hI.go (s':=s') lj jW XO W9 (Moved.refl _ _) K7 fm ((dk.ext Kk).mod JQ nbk) (kp hI.kd) ((aa.ext Kk).mod JQ qm) (λz hz=>kp (hI.zx z hz)) (λz hz=>kp (hI.zy z hz)) KL rfl ?_ Yb rfl;rw[mo Xt,show Vt (l++ [10]) n s.at_ s.o s.g=some g' from Yc] at QH;exact QH
     ·show ls.length<(l::ls).length;simp
    refine XJ (λe=>q2 (Kn vX (by decide) e)) ?_;by_cases q3:J3 l=uY
    ·refine Zy (by rw[q3];rfl) ?_;refine XJ (λe=>P3 ⟨q3,lf.1 e⟩) ?_;refine XJ D6 ?_;refine XJ D7 ?_;have Kk:=Ext.drew w9;refine rg Qa 7 (by kernel_rfl) ?_;refine Xy (v':=.string (Qd (l++ [10]))) ⟨by omega,by omega,by rw[XQ];omega⟩ ?_ ?_
     ·rw[KN];simp only[iO];rw[fA,show s.at_+l.length+1-s.at_=l.length+1 by omega,l5]
     refine Xv (vs:=s.k.cells) rfl (λw' Qb j u hj=>by subst Qb;rw[(dk.ext Kk).cell];exact hj) ?_;have tG:=h9.ext Kk;have tH:DgO w9.drew (RS p s.m) p.nm.length s.k s.o:=⟨fj.sb.ext Kk,fj.st,λad e h0 hh=>fj.off ad e h0 (.inl hh)⟩
     refine XU (add_fn s.m ⟨v.d+s.z.length,n,s.ln+1,n::v.rd,s.g⟩ (l++ [10]) s.at_ s.k s.o w9.drew hP tG tH (λx hx=>by
      rcases XP.1 hx with hx | hx
      ·exact iq x hx
      ·simp only[QO] at hx;omega) (by rw[Qq];simp;omega) (PS _ _)) ?_ ?_
     rotate_left
     ·rintro ch QE ⟨hg,rfl,X1⟩;refine Xj ⟨2,n,((s.ln+1:Nat):Int)⟩ _ QE ?_ rfl (Mod.of_ext _ (Kk.trans X1));rw[<-QH,mo Xt,show Vt (l++ [10]) n s.at_ s.o s.g=none from hg]
     rintro _ QE ⟨g',Yc,m',iH,XO,JQ,sF,sG⟩;have tI:Mod (JO p s.m s.A w.heap.size) w9 QE:=(Mod.of_ext _ Kk).trans JQ (λi hi=>.inl (.inl hi));have jW:Mod (JO p s.m s.A w.heap.size) w7 QE:=gm.trans tI (λi hi=>.inl hi);have AP:=Kk.size;have K7:Moved w7 s.m.OA m'.OA:=sF.back (by omega);have fm:Moved w7 s.m.BA m'.BA:=sG.back (by omega)
     let s':LS:=⟨s.k,s.o,s.z,m',g',s.ln+1,s.at_+l.length+1,ls,s.A,s.c⟩
     have W9:s'.m.T=λi=>m.T i∨Qk s'.A i∨i=w.heap.size:=by show m'.T=_;rw[iH,hI.tt]
     have kp:∀{x:DV} {o:BF},DgO w7 (TS p s.m) p.nm.length x o->DgO QE (TS p s'.m) p.nm.length x o:=λhx=>hI.kp (s':=s') jW W9 (Moved.refl _ _) K7 fm hx
     refine⟨s',rfl,?_,?_⟩
     ·refine hI.go (s':=s') lj jW XO W9 (Moved.refl _ _) K7 fm ((dk.ext Kk).mod JQ nbk) (kp hI.kd) ((aa.ext Kk).mod JQ qm) (λz hz=>kp (hI.zx z hz)) (λz hz=>kp (hI.zy z hz)) KL rfl ?_ Yb rfl;rw[mo Xt,show Vt (l++ [10]) n s.at_ s.o s.g=some g' from Yc] at QH;exact QH
     ·show ls.length<(l::ls).length;simp
    ·refine XJ (λe=>q3 (Kn vX (by decide) e)) ?_;refine XJ D6 ?_;refine XJ D7 ?_;have Kk:=Ext.drew w9;refine rg Qa 7 (by kernel_rfl) ?_;refine Xy (v':=.string (Qd (l++ [10]))) ⟨by omega,by omega,by rw[XQ];omega⟩ ?_ ?_
     ·rw[KN];simp only[iO];rw[fA,show s.at_+l.length+1-s.at_=l.length+1 by omega,l5]
     refine Xv (vs:=s.k.cells) rfl (λw' Qb j u hj=>by subst Qb;rw[(dk.ext Kk).cell];exact hj) ?_;have tG:=h9.ext Kk;have tH:DgO w9.drew (RS p s.m) p.nm.length s.k s.o:=⟨fj.sb.ext Kk,fj.st,λad e h0 hh=>fj.off ad e h0 (.inl hh)⟩
     refine XU (add_fn s.m ⟨v.d+s.z.length,n,s.ln+1,n::v.rd,s.g⟩ (l++ [10]) s.at_ s.k s.o w9.drew hP tG tH (λx hx=>by
      rcases XP.1 hx with hx | hx
      ·exact iq x hx
      ·simp only[QO] at hx;omega) (by rw[Qq];simp;omega) (PS _ _)) ?_ ?_
     rotate_left
     ·rintro ch QE ⟨hg,rfl,X1⟩;refine Xj ⟨2,n,((s.ln+1:Nat):Int)⟩ _ QE ?_ rfl (Mod.of_ext _ (Kk.trans X1));rw[<-QH,mo Xt,show Vt (l++ [10]) n s.at_ s.o s.g=none from hg]
     rintro _ QE ⟨g',Yc,m',iH,XO,JQ,sF,sG⟩;have tI:Mod (JO p s.m s.A w.heap.size) w9 QE:=(Mod.of_ext _ Kk).trans JQ (λi hi=>.inl (.inl hi));have jW:Mod (JO p s.m s.A w.heap.size) w7 QE:=gm.trans tI (λi hi=>.inl hi);have AP:=Kk.size;have K7:Moved w7 s.m.OA m'.OA:=sF.back (by omega);have fm:Moved w7 s.m.BA m'.BA:=sG.back (by omega)
     let s':LS:=⟨s.k,s.o,s.z,m',g',s.ln+1,s.at_+l.length+1,ls,s.A,s.c⟩
     have W9:s'.m.T=λi=>m.T i∨Qk s'.A i∨i=w.heap.size:=by show m'.T=_;rw[iH,hI.tt]
     have kp:∀{x:DV} {o:BF},DgO w7 (TS p s.m) p.nm.length x o->DgO QE (TS p s'.m) p.nm.length x o:=λhx=>hI.kp (s':=s') jW W9 (Moved.refl _ _) K7 fm hx
     refine⟨s',rfl,?_,?_⟩
     ·refine hI.go (s':=s') lj jW XO W9 (Moved.refl _ _) K7 fm ((dk.ext Kk).mod JQ nbk) (kp hI.kd) ((aa.ext Kk).mod JQ qm) (λz hz=>kp (hI.zx z hz)) (λz hz=>kp (hI.zy z hz)) KL rfl ?_ Yb rfl;rw[mo Xt,show Vt (l++ [10]) n s.at_ s.o s.g=some g' from Yc] at QH;exact QH
     ·show ls.length<(l::ls).length;simp
end
end
end Go.Proofs.YtjabbbcdgmlojaaGreatDoor
