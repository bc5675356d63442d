/-
  What PPatchAppliesLikeReference rests on, part 3 (wip/shake.py).
  Conditions: none.
-/
import Derived.Test.YtjabbbcdgmlojaaGreatDoorQPPatchAppliesLikeReferenceb
set_option linter.all false
set_option linter.deprecated false
set_option maxHeartbeats 12800000
namespace Go.Proofs.YtjabbbcdgmlojaaGreatDoor
open Go Go.RowKit
section
section
theorem NP {a b w:θ}{g:Nat}{r:(χ Br×Int)×Int}{A:Θ}{n c:Nat}(j:Ext w a)(d:Mod (·=g) a b)(k:w.heap.size<=g)(f:SB a A n c r.1.1)(h:∀i,Qj A i->g<i):Ext w b/\SB b A n c r.1.1/\∀i,Qj A i->w.heap.size<=i:=
 ⟨d.ext j λi a=>ω,⟨f.1.modS d (λ_ i a e=>by have:=h i a;omega),f.2⟩,λi a=>by have:=h i a;omega⟩
end
section
theorem lQN {names:Λ}(h:names.all (λs=>s.all (λx=>decide (x<256))&&decide (s.length<=100))=true):KH names:=λs a=>by have:=Vb.1 h s a;rw[Z4,YX] at this;exact⟨λx a=>by have:=Vb.1 this.1 x a;simpa using this,ω⟩
theorem lQO {k:Int}(a:0<=k)(c:k<=63):Rd0 [⟨k,0,1⟩]:=λj b d=>by obtain⟨rfl,rfl⟩:=i7 d;refine⟨a,c,rB 0,?_,(by decide:(0:Int)<=1),?_,(by decide:(0:Int)≠1),by simp,?_,?_⟩;simp only;omega;simp only;omega;rw[nC (by simp only;omega)];simp only;omega;rw[nC (by simp only;omega)];simp only;omega
theorem Gn {k:Int}(a:0<=k)(b:k<=63):VD [⟨k,0,1⟩] 2:=⟨lQO a b,δ,by simp,rfl⟩
end
section
end
section
theorem bQ1 (b:Nat):Yb b=true↔(97<=b/\b<=122)∨(65<=b/\b<=90)∨b=95:=by unfold Yb;simp;omega
theorem bQ2 {p:Prop} [Decidable p]{b:Bool}(h:b=true↔p):(Value.bool (decide p))= .bool b:=by congr 1;rw[mN,YX,h]
theorem NQ {x y:Int}{b:Bool}(h:b=true↔x=y):(Value.bool (x==y))= .bool b:=by congr 1;rw[mN,beq_iff_eq,h]
theorem NR (b:Nat)(w:θ):Fn ψ 211 [.int .u8 b] w (λv a=>v= .bool (Yb b)/\w=a):=by have a:=bQ1 b;refine KS (c:=jQU) Qe Tryz.func211 rfl rfl rfl ?_;refine Ql (λf=>?_) λf=>?_;refine Ql (λd=>?_) λd=>?_;exact⟨by rw[a.2 ω],rfl⟩;refine Ql (λd=>?_) λd=>?_;refine Ql (λe=>?_) λe=>?_;exact Xg f ω;exact⟨NQ (by rw[a];omega),rfl⟩;exact Xg d ω;refine Ql (λd=>?_) λd=>?_;refine Ql (λe=>?_) λe=>?_;exact⟨by rw[a.2 ω],rfl⟩;exact⟨NQ (by rw[a];omega),rfl⟩;exact⟨NQ (by rw[a];omega),rfl⟩
def aF (s:Γ):Bool:=pC s&&s.all Zr
theorem bQ3 (b:Nat):Zr b=true↔Yb b=true∨(48<=b/\b<=57):=by unfold Zr isDig;simp
def yH (s:Γ)(i:Nat):Prop:=∃b,s[i]? =some b/\(Yb b=true∨(i≠0/\48<=b/\b<=57))
theorem bQ4 (s:Γ):aF s=true↔s≠ []/\∀i,i<s.length->yH s i:=by
 unfold aF;rw[Z4];constructor;rintro⟨d,e⟩;cases s with
 |nil=>cases d
 |cons b r=>refine⟨by simp,λi a=>?_⟩;have f:=Q6 a;refine⟨_,f,?_⟩;cases i with|zero=>exact .inl d|succ i=>have:=Vb.1 e _ (Fp a);obtain h|h:=(bQ3 _).1 this;exact .inl h;exact .inr ⟨ω,h⟩
 rintro⟨d,e⟩;cases s with|nil=>exact Xg rfl d|cons b r=>refine⟨?_,Vb.2 λx f=>?_⟩;obtain⟨c,d,h⟩:=e 0 (by simp);simp at d;subst d;obtain h|h:=h;exact h;exact Xg rfl h.1;obtain⟨i,a,rfl⟩:=xU.1 f;obtain⟨c,d,h⟩:=e i a;rw[Q6 a] at d;cases d;rw[bQ3];obtain h|h:=h;exact .inl h;exact .inr h.2
theorem Gp (s:Γ)(w:θ)(C:∀x∈s,x<256)(H:s.length<=9223372036854775807):Fn ψ 173 [.string (Qb s)] w (λv k=>v= .bool (aF s)/\w=k):=by
 have F:(Qb s).size=s.length:=QZ s;have l:Yn (Qb s)=s:=We C;refine QK jQp [] Tryz.func173 ?_;refine loop Qe [3] (λi:Nat=>[.int .i64 i]) (λi k=>w=k/\i<=s.length/\∀j,j<i->yH s j) (λi _=>s.length-i) 0 rfl ⟨rfl,Q9 _,λj m=>Xg m ω⟩ ?_;rintro i k ⟨rfl,G,a⟩;refine Ql (λr=>?_) λr=>?_;have next:yH s i->∀j,j<i+1->yH s j:=λh j m=>by
  by_cases q:j<i;exact a j q;have:j=i:=by omega
  subst this;exact h
 have c:¬yH s i->aF s=false:=λh=>by rw[<-Mz];exactλe=>h (((bQ4 s).1 e).2 i ω)
 refine Wd ω λx f D=>?_;rw[l] at f;refine call (NR x w) ?_;rintro _ _ ⟨rfl,rfl⟩;cases g:Yb x with|true=>refine QX rfl ?_;refine Qz ((i+1:Nat):Int) ?_;exact⟨i+1,rfl,⟨rfl,ω,next ⟨x,f,.inl g⟩⟩,QL⟩|false=>
  have n:(i≠0->¬(48<=x/\x<=57))->¬yH s i:=λh ⟨b,B,d⟩=>by have:b=x:=Option.some.inj (B.symm.trans f);subst this;obtain d|d:=d;rw[g] at d;cases d;exact h d.1 d.2
  refine Q3 rfl (X0 (λt=>?_) λt=>?_);exact⟨by rw[c (n λh=>Xg h ω)],rfl⟩;refine Wd ω λy o I=>?_;rw[l] at o;have:y=x:=Option.some.inj (o.symm.trans f);subst this;refine Ql (λu=>?_) λu=>?_;exact⟨by rw[c (n λ_ h=>ω)],rfl⟩;refine Wd ω λz p E=>?_;rw[l] at p;have:z=y:=Option.some.inj (p.symm.trans f);subst this;refine Ql (λA=>?_) λA=>?_;exact⟨by rw[c (n λ_ h=>ω)],rfl⟩;refine Qz ((i+1:Nat):Int) ?_;exact⟨i+1,rfl,⟨rfl,ω,next ⟨z,f,.inr ⟨ω,ω,ω⟩⟩⟩,QL⟩
 refine⟨bQ2 ?_,rfl⟩;rw[bQ4];constructor;rintro⟨h,_⟩;have:s.length≠0:=λe=>h (VT e);omega
 intro h;refine⟨λe=>by
           have:s.length=0:=by rw[e]<;>rfl
           omega,λj m=>a j ω⟩
def fV (l:Γ):Λ->Option Nat|[]=>none|s::names=>if s=l then some 0 else(fV l names).map (·+1)
theorem NS {l:Γ}:∀{names:Λ}{i:Nat},(∀j,j<i->names[j]? ≠some l)->names[i]? =some l->fV l names=some i|[],i,_,h=>by simp at h|s::names,0,_,h=>by simp at h;simp[fV,h]|s::names,i+1,hn,h=>by have a:s≠l:=λe=>hn 0 ω (by simp[e]);have:=NS (names:=names) (i:=i) (λj b=>by have:=hn (j+1) ω;simpa using this) (by simpa using h);simp[fV,a,this]
theorem Gq {l:Γ}:∀{a:Λ},l∉a->fV l a=none|[],_=>rfl|s::a,h=>by simp only[XI,not_or] at h;rw[fV,φ λe=>h.1 e.symm,Gq h.2]<;>rfl
def yI (l:Γ)(a:Λ):Int:=match fV l a with|some i=>(i:Int)|none=> -1
theorem lQP {a:Λ}(h:a.Nodup)(l:Γ):fV l a=ZS a l:=by
 by_cases b:l∈a;obtain⟨i,c,rfl⟩:=xU.1 b;have d:fV a[i] a=some i:=NS (λj f e=>by
  have f:j<a.length:=by omega
  rw[Q6 f] at e;have:=(List.getElem_inj h).1 (Option.some.inj e);omega) (Q6 c)
 have f:=NO a i 0 none a[i] h (Q6 c);rw[d];unfold ZS;rw[f,YW];rw[Gq b];unfold ZS;rw[Gm _ _ _ _ b]
theorem bQ5 {l:Γ}:∀{names:Λ},l∈names->∃k,fV l names=some k
 |[],h=>by cases h
 |s::names,h=>by by_cases e:s=l;exact⟨0,by rw[fV,Qf e]⟩;obtain⟨k,a⟩:=bQ5 (names:=names) (by simp only[XI] at h;exact h.resolve_left λb=>e b.symm);exact⟨k+1,by rw[fV,φ e,a];rfl⟩
theorem bQ6 {l:Γ}{names:Λ}:0<=yI l names↔l∈names:=by unfold yI;by_cases a:l∈names;obtain⟨k,b⟩:=bQ5 a;rw[b];simp[a];rw[Gq a];simp[a]
theorem bQ7 (names:Λ)(A:Θ)(n c:Nat)(l:Γ)(w:θ)(h:Sl w 1 A n c (Xb names))(g:∀s∈names,∀x∈s,x<256)(k:∀x∈l,x<256):Fn ψ 174 [.slice A n c,.string (Qb l)] w (λv a=>v= .int .i64 (yI l names)/\w=a):=by
 have b:names.length=n:=by have:=h.len;rw[az] at this;omega
 have b:n<=9223372036854775807:=by have:=h.le;have:=h.cap;simp only[maxLen] at this;omega
 refine QK jQq [] Tryz.func174 ?_;refine loop Qe [5] (λs:Nat=>[.int .i64 s]) (λs a=>w=a/\s<=n/\∀j,j<s->names[j]? ≠some l) (λs _=>n-s) 0 rfl ⟨rfl,Q9 _,λj d=>Xg d ω⟩ ?_;rintro s _ ⟨rfl,a,b⟩;refine Ql (λa=>?_) λa=>?_;have a:names[s]? =some names[s]:=Q6 ω;generalize names[s]=t at a;refine Zq h ω λo u p f m=>?_;rw[dw a] at f;cases f;refine load m ?_;have f:=g t (Xd a);by_cases e:t=l;subst e;refine Zm rfl ?_;exact⟨by unfold yI;rw[NS b a],rfl⟩;refine XB (λh=>e (Jl f k h)) (Qz ((s+1:Nat):Int) ?_);refine⟨s+1,rfl,⟨rfl,ω,λj d=>?_⟩,QL⟩;by_cases d:j<s;exact b j d;have:j=s:=by omega
 subst this;rw[a];exactλh=>e (Option.some.inj h)
 refine⟨?_,rfl⟩;have:l∉names:=λa=>by obtain⟨i,d,rfl⟩:=xU.1 a;exact b i ω (Q6 d)
 unfold yI;rw[Gq this]
theorem Gr (s:Γ):Wf s=true↔aF s=true/\s≠dx/\s≠fg:=by
 constructor;intro h;obtain⟨a,c,d⟩:=lQD h;refine⟨?_,c,d⟩;unfold aF;rw[lQC a];exact Vb.2 a.2;rintro⟨a,c,d⟩;unfold aF at a;rw[Z4] at a;cases s with|nil=>exact Xg a.1 δ|cons b r=>
  have e:Yb b=true:=a.1;have f:isDig b=false:=by have:=(bQ1 b).1 e;unfold isDig;simp;omega
  unfold Wf;rw[YX];refine⟨by simp,?_,c,d⟩;show(if isDig b then 0 else((b::r).takeWhile Zr).length)=_;rw[f,φ δ,aQ0 a.2]
theorem NT (a:Λ)(A:Θ)(n c:Nat)(w:θ)(h:Sl w 1 A n c (Xb a))(C:KH a):Fn ψ 119 [.slice A n c] w (λv o=>v= .bool (JG a)/\Ext w o):=by
 have b:a.length=n:=by have:=h.len;rw[az] at this;omega
 have b:n<=9223372036854775807:=by have:=h.le;have:=h.cap;simp only[maxLen] at this;omega
 have F:=NN C;refine QK iQE [] Tryz.func119 ?_;refine loop Qe [3] (λs:Nat=>[.int .i64 s]) (λs o=>Ext w o/\s<=n/\(a.take s).all Wf=true/\(a.take s).Nodup) (λs _=>n-s) 0 rfl ⟨Ext.refl w,Q9 _,rfl,by simp⟩ ?_;rintro s b ⟨j,f,d,l⟩;refine Ql (λf=>?_) λf=>?_;have g:a[s]? =some a[s]:=Q6 ω;generalize a[s]=t at g;obtain⟨q,B⟩:=C t (Xd g);have E:((Qb t=(⟨#[116,114,117,101]⟩:ByteArray))↔t=dx):=⟨λh=>Jl q δ h,λh=>by rw[h];rfl⟩
 have G:((Qb t=(⟨#[102,97,108,115,101]⟩:ByteArray))↔t=fg):=⟨λh=>Jl q δ h,λh=>by rw[h];rfl⟩
 have f:(Wf t≠true∨t∈a.take s)->JG a=false:=λh=>by
  rw[<-Mz];intro r;obtain h|h:=h;rw[Ng g h] at r;cases r;have D:=(F.1 r).2.1;obtain⟨i,z,r⟩:=xU.1 h;rw[KR] at z;rw[List.getElem_take] at r;have z:s<a.length:=by omega
  have:a[s]=t:=by rw[Q6 z] at g;exact Option.some.inj g
  have:=(List.getElem_inj (h₀:=(by omega:i<a.length)) (h₁:=z) D).1 (by rw[r,this]);omega
 have H:=h.ext j;have r:∀{o:θ} {K:Addr->Prop},Ext b o->(∀p,(∀z,Ext b z->z.cell? p=some (.string (Qb t)))->K p)->be A n (s:Int) 1 K:=λ{o} {K} _ k=>by refine Zq H ω λI u J o D=>?_;rw[dw g] at o;cases o;exact k _ λz I=>I.cell D
 refine Xw (Ext b) 31 ((oz 4 0 ((false,4)::(oz 18 5 (oz 4 24 [(false,23),(false,28),(true,29),(true,30)]))))) (Ext.drew b) (r (Ext.refl _) λp z=>?_);refine Qx z (call (Gp t _ q B) ?_);rintro _ _ ⟨rfl,rfl⟩;refine⟨Ext.drew b,?_⟩;cases D:aF t with
 |false=>
  refine Q3 rfl ?_;have:Wf t≠true:=λh=>by rw[((Gr t).1 h).1] at D;cases D
  exact⟨by rw[f (.inl this)],j.trans (Ext.drew b)⟩
 |true=>
  refine QX rfl (r (Ext.refl _) λB z=>?_);refine Qx z ?_;by_cases z:t=dx;refine Zm (E.2 z) ?_;have:Wf t≠true:=λh=>((Gr t).1 h).2.1 z;exact⟨by rw[f (.inl this)],j.trans (Ext.drew b)⟩
  refine XB (λh=>z (E.1 h)) (r (Ext.refl _) λI B=>?_);refine Qx B ?_;by_cases B:t=fg;refine Zm (G.2 B) ?_;have:Wf t≠true:=λh=>((Gr t).1 h).2.2 B;exact⟨by rw[f (.inl this)],j.trans (Ext.drew b)⟩
  refine XB (λh=>B (G.1 h)) (r (Ext.refl _) λI E=>?_);refine Qx E (bm Qe rfl rfl rfl rfl rfl rfl (by have:=h.le;omega) ?_);refine⟨Ext.drew b,?_⟩;have r:Sl b.drew 1 A s c (Xb (a.take s)):=by have:=(H.ext (Ext.drew b)).take (m:=s) ω;rw[VC] at this;rw[show Xb (a.take s)=(Xb a).take s by simp[Xb]];exact this
  refine call (bQ7 (a.take s) A s c t _ r (λu o=>(C u (aw o)).1) q) ?_;rintro _ _ ⟨rfl,rfl⟩;refine⟨Ext.drew b,?_⟩;have q:Wf t=true:=(Gr t).2 ⟨D,z,B⟩;by_cases o:t∈a.take s;refine Zm (bQ6.2 o) ?_;exact⟨by rw[f (.inr o)],j.trans (Ext.drew b)⟩;refine XB (λh=>o (bQ6.1 h)) (Qz ((s+1:Nat):Int) ?_);refine⟨s+1,rfl,⟨j.trans (Ext.drew b),ω,aQ4 d g q,?_⟩,QL⟩;rw[JT,g];simp only[rz];rw[Mv];exact⟨l,by simp,λx b y a e=>by simp only[Xx] at a;subst a;subst e;exact o b⟩
 have:s=n:=by omega
 subst this;rw[ZJ ω] at d l;exact⟨bQ2 (by rw[F];exact⟨λh=>ω,λh=>⟨d,l,ω⟩⟩),j⟩
end
section
theorem lQQ (l:Λ)(s:Γ):Xb (l++ [s])=Xb l++ [.string (Qb s)]:=by simp[Xb]
def Gt (s:Γ)(i n:Nat):Prop:=0<n/\i+n<=s.length/\X9 (s.drop i)=((s.drop i).take n::(X9 (s.drop (i+n))).1,(X9 (s.drop (i+n))).2)
theorem NU {s:Γ}{i b:Nat}(a:s[i]? =some b)(h:b=40∨b=41∨b=33):Gt s i 1:=by have c:=(ZK.1 a).1;have e:=VU c;rw[Q6 c] at a;rw[Option.some.inj a] at e;exact⟨ω,ω,by rw[e,yA h];rfl⟩
theorem bQ8 {s:Γ}{i b:Nat}(c:s[i]? =some b)(a:s[i+1]? =some b)(h:b=38∨b=124):Gt s i 2:=by have d:=(ZK.1 c).1;have f:=(ZK.1 a).1;have e:=VU d;have g:=VU f;rw[Q6 d] at c;rw[Q6 f] at a;rw[Option.some.inj c,g,Option.some.inj a] at e;exact⟨ω,ω,by rw[e,yB h];rfl⟩
theorem bQ9 {s:Γ}{i b:Nat}(a:s[i]? =some b)(h:b=32∨b=9):X9 (s.drop i)=X9 (s.drop (i+1)):=by have c:=(ZK.1 a).1;have e:=VU c;rw[Q6 c] at a;rw[e,Option.some.inj a,bQL h]
theorem cQa {s:Γ}{i b:Nat}(a:s[i]? =some b)(d:¬(b=32∨b=9))(f:¬(b=40∨b=41∨b=33))(g:¬((b=38∨b=124)/\s[i+1]? =some b))(j:Yb b=false):X9 (s.drop i)=([],false):=by have c:=(ZK.1 a).1;have e:=VU c;rw[Q6 c] at a;rw[e,Option.some.inj a];refine BU d f (λh=>g ⟨h.1,?_⟩) j;rw[<-h.2,AT]
def Gu (s:Γ)(i n:Nat):Prop:=0<n/\i+n<=s.length/\aF ((s.drop i).take n)=true
theorem Gv {s:Γ}{i n:Nat}(h:Gu s i n)(d:i+n=s.length∨aF ((s.drop i).take (n+1))=false):Gt s i n:=by
 obtain⟨g,j,a⟩:=h;have k:Gk ((s.drop i).take n):=by unfold aF at a;rw[Z4] at a;refine⟨?_,Vb.1 a.2⟩;cases f:(s.drop i).take n with|nil=>rw[f] at a;exact Xg a.1 δ|cons b r=>rw[f] at a;exact⟨b,r,rfl,a.1⟩
 have l:Stop (s.drop (i+n)):=λb r e=>by
  obtain d|d:=d;rw[fK ω] at e;cases e;rw[<-Mz];intro m;have o:(s.drop i)[n]? =some b:=by rw[xV,<-AT,e]<;>rfl
  have p:(s.drop i).take (n+1)=(s.drop i).take n++ [b]:=by rw[JT,o]<;>rfl
  have:aF ((s.drop i).take (n+1))=true:=by unfold aF at a ⊢;rw[p,Mw];rw[Z4] at a;cases f:(s.drop i).take n with|nil=>rw[f] at a;exact Xg a.1 δ|cons c r=>rw[f] at a;simp only[dZ,Z4];exact⟨a.1,a.2,by simp[m]⟩
  rw[this] at d;cases d
 refine⟨g,j,?_⟩;have:=lQB k l;rw[<-mP,jK] at this;rw[this,mP]
theorem cQb {s:Γ}{i b:Nat}(a:s[i]? =some b)(h:Yb b=true):Gu s i 1:=by have c:=(ZK.1 a).1;have e:=VU c;rw[Q6 c] at a;refine⟨ω,ω,?_⟩;rw[e,Option.some.inj a];unfold aF;show(Yb b && [b].all Zr)=true;rw[h];simp[uX h]
theorem B0 {s:Γ}{i n:Nat}:(Qb s).extract i (i+n)=Qb ((s.drop i).take n):=by rw[Kj,dm];congr 2;omega
theorem lQR (s:Γ)(w:θ)(F:∀x∈s,x<256)(hl:s.length<=1000000000000):
  Fn ψ 238 [.string (Qb s)] w (λv d=>∃A n c,v= .tuple #[.slice A n c,.bool (X9 s).2]/\Ext w d/\Sl d 1 A n c (Xb (if(X9 s).2 then(X9 s).1 else []))):=by
 have XC:(Qb s).size=s.length:=QZ s;have U:Yn (Qb s)=s:=We F;refine QK kQb [6] Tryz.func238 ?_;refine loop Qe [5,4] (λt:Nat×Λ×Θ×Nat=>[.int .i64 t.1,.slice t.2.2.1 t.2.1.length t.2.2.2])
  (λt d=>Ext w d/\t.1<=s.length/\t.2.1.length<=t.1/\Own d w.heap.size 9 1 t.2.2.1 t.2.1.length t.2.2.2 (Xb t.2.1)/\X9 s=(t.2.1++(X9 (s.drop t.1)).1,(X9 (s.drop t.1)).2)) (λt _=>s.length-t.1) (0,[],none,0) rfl
  ⟨Ext.refl w,Q9 _,Qw _,Own.nil _ _ _ _,by simp⟩ ?_
 rintro⟨i,out,A,c⟩ o ⟨g,H,oN,y,f⟩;simp only at g H oN y f;refine Ql (λG=>?_) (λG=>?_)
 ·have a:s[i]? =some s[i]:=Q6 ω;generalize s[i]=b at a;have r:∀{K:Int->Prop},K (b:Int)->fM (Qb s) (i:Int) K:=λk=>Wd ω (λx R _=>by
   rw[U] at R;have:x=b:=Option.some.inj (R.symm.trans a);subst this;exact k)
  refine cL [] Qe [6,5] (λn:Nat=>[.int .i64 n,.int .i64 i]) (λn d=>o=d/\Gt s i n) ?_ ?_
  ·refine r ?_;have P:(b=32∨b=9)->∀(K:Prop),K->K:=λ_ _ k=>k
   by_cases Z:b=32
   ·refine JF ω (Qz ((i+1:Nat):Int) ?_);exact⟨(i+1,out,A,c),rfl,⟨g,by simp only;omega,by simp only;omega,y,by simp only;rw[<-bQ9 a (.inl Z)];exact f⟩,QL⟩
   refine X6 ω (r ?_);by_cases c2:b=9
   ·refine JF ω (Qz ((i+1:Nat):Int) ?_);exact⟨(i+1,out,A,c),rfl,⟨g,by simp only;omega,by simp only;omega,y,by simp only;rw[<-bQ9 a (.inr c2)];exact f⟩,QL⟩
   refine X6 ω (r ?_);by_cases c3:b=40
   ·refine JF ω ?_;exact⟨1,rfl,rfl,NU a (.inl c3)⟩
   refine X6 ω (r ?_);by_cases c4:b=41
   ·refine JF ω ?_;exact⟨1,rfl,rfl,NU a (.inr (.inl c4))⟩
   refine X6 ω (r ?_);by_cases c5:b=33
   ·refine JF ω ?_;exact⟨1,rfl,rfl,NU a (.inr (.inr c5))⟩
   refine X6 ω (Qz ((i+1:Nat):Int) ?_);have N:¬(b=32∨b=9):=by omega
   have D:¬(b=40∨b=41∨b=33):=by omega
   have X:=F b (Xd a);refine Ql (λB=>?_) (λB=>?_)
   ·have h:s[i+1]? =some s[i+1]:=Q6 ω;generalize s[i+1]=j at h;have J:=F j (Xd h);have M:(s.drop i).take 2=[b,j]:=by
     have H:=(ZK.1 a).1;have l:=(ZK.1 h).1;rw[VU H,VU l];rw[Q6 H] at a;rw[Q6 l] at h;rw[Option.some.inj a,Option.some.inj h]<;>rfl
    have z:∀x∈ [b,j],x<256:=by simp[X,J]
    refine Qz ((i+2:Nat):Int) (XF (v':=.string (Qb [b,j])) ⟨ω,ω,ω⟩ (by rw[<-M];simp only[WX];rw[B0]) ?_);by_cases c6:b=38/\j=38
    ·obtain⟨rfl,rfl⟩:=c6;refine Zm rfl ?_;exact⟨2,rfl,rfl,bQ8 a h (.inl rfl)⟩
    refine XB (λe=>c6 (by have:=Jl (m:=[38,38]) z δ e;simpa using this)) (Qz ((i+2:Nat):Int) (XF (v':=.string (Qb [b,j])) ⟨ω,ω,ω⟩ (by rw[<-M];simp only[WX];rw[B0]) ?_));by_cases O:b=124/\j=124
    ·obtain⟨rfl,rfl⟩:=O;refine Zm rfl ?_;exact⟨2,rfl,rfl,bQ8 a h (.inr rfl)⟩
    refine XB (λe=>O (by have:=Jl (m:=[124,124]) z δ e;simpa using this)) ?_;have C:¬((b=38∨b=124)/\s[i+1]? =some b):=by
     rintro⟨h4,q⟩;have:j=b:=Option.some.inj (h.symm.trans q);omega
    refine r (call (NR b o) ?_);rintro _ _ ⟨rfl,rfl⟩;cases E:Yb b with
    | false=>
     refine QX rfl ?_;have e:=cQa a N D C E;have:(X9 s).2=false:=by rw[f,e]
     exact⟨none,0,0,by rw[this],g,by rw[this];exact Sl.nil _ _⟩
    | true=>
     refine Q3 rfl (loop Qe [6] (λn:Nat=>[.int .i64 n]) (λn d=>o=d/\Gu s i n) (λn _=>s.length-n) 1 rfl ⟨rfl,cQb a E⟩ ?_);rintro n _ ⟨rfl,p⟩;have L:=p.2.1;refine Qz ((i+n:Nat):Int) ?_;refine Ql (λq=>?_) (λq=>?_)
     ·refine Qz ((i+n:Nat):Int) (Qz ((i+(n+1):Nat):Int) (XF (v':=.string (Qb ((s.drop i).take (n+1)))) ⟨ω,ω,ω⟩ (by simp only[WX];rw[B0]) ?_));have z:∀x∈(s.drop i).take (n+1),x<256:=B8.take (B8.drop F i) (n+1)
      refine call (Gp ((s.drop i).take (n+1)) o z (by rw[KR,Wz];omega)) ?_;rintro _ _ ⟨rfl,rfl⟩;cases l:aF ((s.drop i).take (n+1))with
      | true=>
       refine Q3 rfl (Qz ((n+1:Nat):Int) ?_);exact⟨n+1,rfl,⟨rfl,ω,ω,l⟩,QL⟩
      | false=>
       refine QX rfl ?_;exact⟨n,rfl,rfl,Gv p (.inr l)⟩
     ·exact⟨n,rfl,rfl,Gv p (.inl ω)⟩
   ·have C:¬((b=38∨b=124)/\s[i+1]? =some b):=by
     rintro⟨h4,q⟩;have:=(ZK.1 q).1;omega
    refine r (call (NR b o) ?_);rintro _ _ ⟨rfl,rfl⟩;cases E:Yb b with
    | false=>
     refine QX rfl ?_;have e:=cQa a N D C E;have:(X9 s).2=false:=by rw[f,e]
     exact⟨none,0,0,by rw[this],g,by rw[this];exact Sl.nil _ _⟩
    | true=>
     refine Q3 rfl (loop Qe [6] (λn:Nat=>[.int .i64 n]) (λn d=>o=d/\Gu s i n) (λn _=>s.length-n) 1 rfl ⟨rfl,cQb a E⟩ ?_);rintro n _ ⟨rfl,p⟩;have L:=p.2.1;refine Qz ((i+n:Nat):Int) ?_;refine Ql (λq=>?_) (λq=>?_)
     ·refine Qz ((i+n:Nat):Int) (Qz ((i+(n+1):Nat):Int) (XF (v':=.string (Qb ((s.drop i).take (n+1)))) ⟨ω,ω,ω⟩ (by simp only[WX];rw[B0]) ?_));have z:∀x∈(s.drop i).take (n+1),x<256:=B8.take (B8.drop F i) (n+1)
      refine call (Gp ((s.drop i).take (n+1)) o z (by rw[KR,Wz];omega)) ?_;rintro _ _ ⟨rfl,rfl⟩;cases l:aF ((s.drop i).take (n+1))with
      | true=>
       refine Q3 rfl (Qz ((n+1:Nat):Int) ?_);exact⟨n+1,rfl,⟨rfl,ω,ω,l⟩,QL⟩
      | false=>
       refine QX rfl ?_;exact⟨n,rfl,rfl,Gv p (.inr l)⟩
     ·exact⟨n,rfl,rfl,Gv p (.inl ω)⟩
  ·rintro n _ ⟨rfl,G,B,C⟩;refine Qz ((i+n:Nat):Int) (XF (v':=.string (Qb ((s.drop i).take n))) ⟨ω,ω,ω⟩ (by simp only[WX];rw[B0]) (hQ7 Qe rfl rfl rfl rfl rfl rfl rfl rfl (λw2 I XR T=>?_)));have cR:Sl w2 1 (some ⟨o.heap.size,0,none⟩) 1 1 [.string (Qb ((s.drop i).take n))]:=Sl.own' (n:=1) T rfl δ;refine XV (sz:=1) (n:=out.length) (y.ext I) cR (by intro u Q;simp at Q;rcases Q with rfl;rfl) (by unfold maxLen;omega) (by have:=g.size;have:=I.size;omega) ?_ (b:=(by show _*16<=_;omega));intro S Y w3 V fp qa;refine Qz ((i+n:Nat):Int) ?_;have W:Ext w w3:=V.ext (g.trans I) (λk hk=>(y.rows k hk).1);refine⟨(i+n,out++ [(s.drop i).take n],S,Y),by simp only[Qy,Xa,Jz];rfl,⟨W,B,by simp only[Qy,Xa,Jz];omega,by simp only[Qy,Xa,Jz];rw[lQQ];exact fp,by simp only;rw[f,C];simp⟩,by show s.length-(i+n)<s.length-i;omega⟩
 ·have:i=s.length:=by omega
  subst this;rw[fK (Qw _)] at f;have B:(X9 s).2=true:=by rw[f]<;>rfl
  have G:(X9 s).1=out:=by rw[f];simp[BR]
  rw[B];exact⟨A,out.length,c,rfl,g,by rw[G];exact y.sl⟩
end
section
structure RD where
 NA:Θ
 nn:Nat
 nc:Nat
 names:Λ
 LA:Θ
 ln:Nat
 lc:Nat
 toks:Λ
structure Rs where
 at_:Nat
 f:List Fz
 bad:Bool
 unk:Bool
structure RDok (w0:World) (D:RD):Prop where
 nms:Sl w0 1 D.NA D.nn D.nc (Xb D.names)
 tks:Sl w0 1 D.LA D.ln D.lc (Xb D.toks)
 nb:KH D.names
 tb:∀t∈D.toks,(∀x∈t,x<256)/\t.length<=1000000000000
 wf:∀t∈D.toks,aF t=pC t
 lim:D.toks.length<=1000000000000
theorem RDok.ln {a:θ}{D:RD}(h:RDok a D):D.toks.length=D.ln:=by have:=h.tks.len;rw[az] at this;omega
structure Rq (w0 w:World) (base r:Nat) (D:RD) (A:Θ) (c:Nat) (s:Rs):Prop where
 e0:Ext w0 w
 r0:w0.heap.size<=r
 lt:r<base
 top:base<=w.heap.size
 blk:Blk w r 314 [.slice D.NA D.nn D.nc,.slice D.LA D.ln D.lc,.int .i64 s.at_,.slice A s.f.length c,.bool s.bad,.bool s.unk]
 own:Own w base 280 4 A s.f.length c (pq s.f)
 le:s.at_<=D.toks.length
def Ca (b:θ)(a r:Nat)(D:RD)(s:Rs)(w:θ):Prop:=∃A c,Rq b w a r D A c s
theorem Rq.nrow {b w:θ}{a r:Nat}{D:RD}{A:Θ}{c:Nat}{s:Rs}(h:Rq b w a r D A c s):¬Qj A r:=λa=>by have:=(h.own.rows r a).1;have:=h.lt;omega
theorem Rq.ext {b w d:θ}{a r:Nat}{D:RD}{A:Θ}{c:Nat}{s:Rs}(h:Rq b w a r D A c s)(k:Ext w d):Rq b d a r D A c s:=
 ⟨h.e0.trans k,h.r0,h.lt,XU h.top k.size,h.blk.ext k,h.own.ext k,h.le⟩
theorem Rq.set {d w b:θ}{a r:Nat}{D:RD}{A:Θ}{c:Nat}{s:Rs}(h:Rq d w a r D A c s)(k:Mod (·=r) w b){s':Rs}(f:s'.f=s.f)(g:s'.at_<=D.toks.length)(j:Blk b r 314 [.slice D.NA D.nn D.nc,.slice D.LA D.ln D.lc,.int .i64 s'.at_,.slice A s'.f.length c,.bool s'.bad,.bool s'.unk]):Rq d b a r D A c s':=
 ⟨k.ext h.e0 (λi a=>by have:=h.r0;omega),h.r0,h.lt,XU h.top k.size,j,by rw[f];exact h.own.mod k λi a e=>h.nrow (by rw[<-e];exact a),g⟩
theorem NV {l:Λ}{i:Nat}{t:Γ}(h:l[i]? =some t):(l.drop i).head? =some t:=by rw[AT,h]
theorem vf (f:θ)(b r:Nat)(D:RD)(A:Θ)(c:Nat)(s:Rs)(a:Γ)(w:θ)(i:RDok f D)(h:Rq f w b r D A c s)(m:∀x∈a,x<256):
  Fn ψ 252 [.pointer (some ⟨r,0,none⟩),.string (Qb a)] w (λv d=>v= .bool (decide (s.at_<D.toks.length/\(D.toks.drop s.at_).head? =some a))/\
   Rq f d b r D A c (if s.at_<D.toks.length/\(D.toks.drop s.at_).head? =some a then{s with at_:=s.at_+1}else s)):=by
 have b:=i.ln;have b:=i.lim;refine QK kQj [] Tryz.func252 ?_;refine Xw (Ext w) 24 (oz 24 0 []) (Ext.drew w) ?_;have q:∀(j:Nat) (v:τ),[Value.slice D.NA D.nn D.nc,.slice D.LA D.ln D.lc,.int .i64 s.at_,.slice A s.f.length c,.bool s.bad,.bool s.unk][j]? =some v->∀d,Ext w d->d.cell? ((⟨r,0,none⟩:Addr).add j)=some v:=λj v f d b=>by rw[(h.blk.ext b).cell];exact f
 refine Qx (q 2 _ rfl) (Qx (q 1 _ rfl) ?_);have f:=h.ext (Ext.drew w);refine Ql (λk=>?_) λk=>?_;refine Qx (q 1 _ rfl) (Qx (q 2 _ rfl) ?_);have g:D.toks[s.at_]? =some D.toks[s.at_]:=Q6 ω;generalize D.toks[s.at_]=t at g;have n:=(i.tb t (Xd g)).1;refine Zq (i.tks.ext h.e0) ω λp u y l o=>?_;rw[dw g] at l;cases l;refine Qx (λd b=>b.cell o) ?_;by_cases e:t=a;subst e;refine Zm rfl ?_;have b:s.at_<D.toks.length/\(D.toks.drop s.at_).head? =some t:=⟨ω,NV g⟩
 rw[Qf b,Zg b];refine Qp f.blk rfl (Qz ((s.at_+1:Nat):Int) (Xv f.blk (by simp) λl d i=>?_));exact⟨rfl,f.set d rfl (by simp only;omega) i⟩;refine XB (λh=>e (Jl n m h)) ?_;have b:¬(s.at_<D.toks.length/\(D.toks.drop s.at_).head? =some a):=λd=>e (by rw[NV g] at d;exact Option.some.inj d.2);rw[φ b,XZ b];exact⟨rfl,f⟩
 have b:¬(s.at_<D.toks.length/\(D.toks.drop s.at_).head? =some a):=λd=>k (by have:=d.1;omega);rw[φ b,XZ b];exact⟨rfl,f⟩
theorem vh (g:θ)(a r:Nat)(D:RD)(A:Θ)(c:Nat)(s:Rs)(x:Fz)(w:θ)(d:RDok g D)(h:Rq g w a r D A c s)(l:s.f.length+1<=s.at_):
  Fn ψ 253 [.pointer (some ⟨r,0,none⟩),.agg x.cells.toArray] w (λv l=>v= .int .i64 (s.f.length:Nat)/\Ca g a r D {s with f:=s.f++ [x]} l):=by
 have a:=d.lim;have a:=h.le;refine KS (c:=kQk) Qe Tryz.func253 rfl rfl rfl ?_;refine new λa m d p=>?_;have d:=h.ext m;have o:=h.own.rows;have m:Mod (Qj A) a a.drew:=Mod.of_ext _ (Ext.drew a);refine Xw (Mod (Qj A) a) 8 (oz 6 0 [(false,6),(false,7)]) m (Qx (v:=.slice A s.f.length c) (λl m=>by rw[(d.blk.mod m h.nrow).cell];rfl) ?_);have q:¬Qj A w.heap.size:=λt=>by have:=(o _ t).2;omega
 refine Xe (vs:=x.cells) rfl (λl m j v t=>by rw[(p.mod m q).cell];exact t) (XM (x.cells) ?_);intro p l m q;have m:=(Ext.drew a).trans l;have l:=d.ext m;refine⟨Mod.of_ext _ m,?_⟩;have t:Sl p 4 (some ⟨a.drew.heap.size,0,none⟩) 1 1 x.cells:=Sl.own (sz:=4) (n:=1) q (Qw _) δ (by simp[Fz.cells]);refine XV l.own t (by intro u p;simp[Fz.cells] at p;obtain rfl|rfl|rfl|rfl:=p <;>rfl) (by unfold maxLen;omega) l.top ?_ (b:=(by show _*32<=_;omega));intro q t w3 y p l;have l:Mod (Qj A) a w3:=(Mod.of_ext (Qj A) m).trans y λ_=>.inl;refine⟨l,?_⟩;have y:=d.blk.mod l h.nrow;refine Xv y (by simp) λz a m=>?_;refine Qp m rfl (Qz ((s.f.length:Nat):Int) ?_);have y:Ext g w3:=l.ext d.e0 (λi g=>by have:=(o i g).1;have:=h.lt;have:=h.r0;omega);have o:(s.f++ [x]).length=s.f.length+1:=by simp
 refine⟨rfl,q,t,⟨a.ext y (λi g=>by have:=h.r0;omega),h.r0,h.lt,?_,?_,?_,h.le⟩⟩;have:=l.size;have:=a.size;have:=d.top;omega;simp only;rw[o];exact m;simp only;rw[o,Nj];exact p.mod a (λk d e=>by have:=(p.rows k d).1;have:=h.lt;omega)
end
section
def RAdv (s a:Rs):Prop:=s.at_<=a.at_/\a.f.length+s.at_<=s.f.length+a.at_
theorem RAdv.refl (s:Rs):RAdv s s:=⟨Qw _,Qw _⟩
def yJ (D:RD)(s:Rs)(o:Option (Fm×Bool×Λ))(a:Int)(b:Rs):Prop:=RAdv s b/\match o with|none=>b.bad=true|some (t,u,c)=>a=((s.f.length+Q4 t-1:Nat):Int)/\b.f=s.f++Z6 t s.f.length/\b.bad=false/\b.unk=(s.unk||u)/\D.toks.drop b.at_=c
def Cb (e:θ)(b r:Nat)(D:RD)(F:Nat)(k:Nat)(d:Λ->Option (Fm×Bool×Λ)):Prop:=∀(A:Θ)(c:Nat)(s:Rs)(w:θ),Rq e w b r D A c s->s.bad=false->s.f.length<=s.at_->D.toks.length-s.at_<k->
 Fn Tryz.prog F [.pointer (some ⟨r,0,none⟩)] w λv g=>∃(a:Int) (f:Rs),v= .int .i64 a/\Ca e b r D f g/\yJ D s (d (D.toks.drop s.at_)) a f
def LoI (D:RD)(d:Γ)(mk:Fm->Fm->Fm)(c:Λ->Option (Fm×Bool×Λ))(s:Rs)(o:Option (Fm×Bool×Λ))(a:Int)(b:Rs):Prop:=RAdv s b/\((b.bad=true/\o=none)∨(b.bad=false/\∃t u,a=((s.f.length+Q4 t-1:Nat):Int)/\b.f=s.f++Z6 t s.f.length/\b.unk=(s.unk||u)/\o=bz d mk c ((D.toks.drop b.at_).length+1) t u (D.toks.drop b.at_)))
theorem rX {l:Λ}{i:Nat}{t:Γ}(h:(l.drop i).head? =some t):l.drop i=t::l.drop (i+1):=by rw[AT] at h;have a:=(ZK.1 h).1;rw[VU a];rw[Q6 a] at h;rw[Option.some.inj h]
theorem LoI.first {D:RD}{c:Γ}{mk:Fm->Fm->Fm}{b:Λ->Option (Fm×Bool×Λ)}{s s1:Rs}{a:Int}(h:yJ D s (b (D.toks.drop s.at_)) a s1):LoI D c mk b s (VZ c mk b (D.toks.drop s.at_)) a s1:=by obtain⟨d,c⟩:=h;refine⟨d,?_⟩;unfold VZ;cases d:b (D.toks.drop s.at_)with|none=>rw[d] at c;exact .inl ⟨c,rfl⟩|some q=>obtain⟨t,u,b⟩:=q;rw[d] at c;obtain⟨b,d,e,f,g⟩:=c;exact .inr ⟨e,t,u,b,d,f,by rw[g]⟩
theorem LoI.step {D:RD}{g:Γ}{mk:Fm->Fm->Fm}{c:Λ->Option (Fm×Bool×Λ)}{s d i:Rs}{o:Option (Fm×Bool×Λ)}{a b:Int}{k:Int}(r:jV c)
  (As:∀a b e,Z6 (mk a b) e=Z6 a e++Z6 b (e+Q4 a)++ [⟨k,0,((e+Q4 a-1:Nat):Int),((e+Q4 a+Q4 b-1:Nat):Int)⟩]) (XC:∀a b,Q4 (mk a b)=Q4 a+Q4 b+1)
  (h:LoI D g mk c s o a d) (hb:d.bad=false) (hh:(D.toks.drop d.at_).head? =some g) (hr:yJ D {d with at_:=d.at_+1} (c (D.toks.drop (d.at_+1))) b i) (_:d.f.length<=d.at_):
  LoI D g mk c s o ((i.f.length:Nat):Int) {i with f:=i.f++ [⟨k,0,a,b⟩]}:=by
 obtain⟨j,e⟩:=h;obtain⟨l,i⟩:=hr;have n:=l.1;have p:=l.2;simp only at n p;have l:=j.1;have l:=j.2;refine⟨⟨by simp only;omega,by simp only[Qy,Xa,Jz];omega⟩,?_⟩;obtain⟨e,_⟩|⟨_,t,u,w,l,x,j⟩:=e;rw[hb] at e;cases e;rw[rX hh] at j;cases e:c (D.toks.drop (d.at_+1))with|none=>rw[e] at i;refine .inl ⟨i,?_⟩;rw[j,Xa];show bz g mk c ((D.toks.drop (d.at_+1)).length+1+1) t u _=none;rw[bz,Fl,Qf rfl,List.tail_cons,e]|some q=>
  obtain⟨g,v,c⟩:=q;rw[e] at i;obtain⟨n,c,y,p,z⟩:=i;simp only at n c p;have i:=aE t;have i:=aE g;have i:d.f.length=s.f.length+Q4 t:=by rw[l,Qy,Kk]
  refine .inr ⟨y,mk t g,u||v,?_,?_,?_,?_⟩;rw[c,Qy,Kk,i,XC];congr 1;omega;simp only;rw[c,l,As,w,n,i,Qy,Kk];simp;simp only;rw[p,x,Fo];simp only;rw[j,z];exact lQF r (m:=1) e
theorem LoI.done {D:RD}{c:Γ}{mk:Fm->Fm->Fm}{b:Λ->Option (Fm×Bool×Λ)}{s s1:Rs}{o:Option (Fm×Bool×Λ)}{a:Int}(h:LoI D c mk b s o a s1)(e:s1.bad=true∨(D.toks.drop s1.at_).head? ≠some c):yJ D s o a s1:=by obtain⟨c,b⟩:=h;refine⟨c,?_⟩;obtain⟨b,rfl⟩|⟨c,t,u,f,g,i,d⟩:=b;exact b;have b:=e.resolve_left (by rw[c];decide);rw[lQE b] at d;subst d;exact⟨f,g,c,i,rfl⟩
theorem cQc (g:θ)(d r:Nat)(D:RD)(k:Nat)(e:Λ->Option (Fm×Bool×Λ))(q:RDok g D)(u:jV e)(H:Cb g d r D 260 k e):Cb g d r D 251 k (VZ [38,38] .and e):=by
 intro A c s w h f i j;refine QK kQi [] Tryz.func251 ?_;refine call (H A c s w h f i j) ?_;rintro _ o ⟨i,f,rfl,j,l⟩;refine loop Qe [3] (λσ:Int×Rs=>[.int .i64 σ.1]) (λσ m=>Ca g d r D σ.2 m/\LoI D [38,38] .and e s (VZ [38,38] .and e (D.toks.drop s.at_)) σ.1 σ.2) (λσ _=>D.toks.length-σ.2.at_) (i,f) rfl ⟨j,LoI.first l⟩ ?_;rintro⟨a,f⟩ o ⟨⟨j,l,e⟩,i⟩;simp only at e i;have m:=i.1;have v:f.f.length<=f.at_:=by have:=m.1;have:=m.2;omega
 refine Qp e.blk rfl ?_;cases n:f.bad with|true=>refine QX rfl ?_;exact⟨a,f,rfl,⟨j,l,e⟩,i.done (.inl n)⟩|false=>refine Q3 rfl ?_;refine call (vf g d r D j l f [38,38] o q e δ) ?_;by_cases e:f.at_<D.toks.length/\(D.toks.drop f.at_).head? =some [38,38];rw[Qf e,Zg e];rintro _ t ⟨rfl,o⟩;refine Q3 rfl (call (H j l _ t o n (by simp only;omega) (by simp only;have:=m.1;omega)) ?_);rintro _ x ⟨b,m,rfl,⟨y,z,B⟩,p⟩;have C:=i.step (k:=4) u (λ_ _ _=>rfl) (λ_ _=>rfl) n e.2 p v;have n:=p.1.1;have u:=p.1.2;simp only at n u;refine call (vh g d r D y z m ⟨4,0,a,b⟩ x q B ω) ?_;rintro _ g ⟨rfl,d⟩;exact⟨(((m.f.length:Nat):Int),_),rfl,⟨d,C⟩,by show D.toks.length-m.at_<D.toks.length-f.at_;omega⟩;rw[φ e,XZ e];rintro _ t ⟨rfl,o⟩;refine QX rfl ?_;refine⟨a,f,rfl,⟨j,l,o⟩,i.done (.inr λd=>e ⟨?_,d⟩)⟩;rw[AT] at d;exact(ZK.1 d).1
theorem cQd (g:θ)(d r:Nat)(D:RD)(k:Nat)(e:Λ->Option (Fm×Bool×Λ))(q:RDok g D)(u:jV e)(H:Cb g d r D 251 k e):Cb g d r D 239 k (VZ [124,124] .or e):=by
 intro A c s w h f i j;refine QK kQc [] Tryz.func239 ?_;refine call (H A c s w h f i j) ?_;rintro _ o ⟨i,f,rfl,j,l⟩;refine loop Qe [3] (λσ:Int×Rs=>[.int .i64 σ.1]) (λσ m=>Ca g d r D σ.2 m/\LoI D [124,124] .or e s (VZ [124,124] .or e (D.toks.drop s.at_)) σ.1 σ.2) (λσ _=>D.toks.length-σ.2.at_) (i,f) rfl ⟨j,LoI.first l⟩ ?_;rintro⟨a,f⟩ o ⟨⟨j,l,e⟩,i⟩;simp only at e i;have m:=i.1;have v:f.f.length<=f.at_:=by have:=m.1;have:=m.2;omega
 refine Qp e.blk rfl ?_;cases n:f.bad with|true=>refine QX rfl ?_;exact⟨a,f,rfl,⟨j,l,e⟩,i.done (.inl n)⟩|false=>refine Q3 rfl ?_;refine call (vf g d r D j l f [124,124] o q e δ) ?_;by_cases e:f.at_<D.toks.length/\(D.toks.drop f.at_).head? =some [124,124];rw[Qf e,Zg e];rintro _ t ⟨rfl,o⟩;refine Q3 rfl (call (H j l _ t o n (by simp only;omega) (by simp only;have:=m.1;omega)) ?_);rintro _ x ⟨b,m,rfl,⟨y,z,B⟩,p⟩;have C:=i.step (k:=5) u (λ_ _ _=>rfl) (λ_ _=>rfl) n e.2 p v;have n:=p.1.1;have u:=p.1.2;simp only at n u;refine call (vh g d r D y z m ⟨5,0,a,b⟩ x q B ω) ?_;rintro _ g ⟨rfl,d⟩;exact⟨(((m.f.length:Nat):Int),_),rfl,⟨d,C⟩,by show D.toks.length-m.at_<D.toks.length-f.at_;omega⟩;rw[φ e,XZ e];rintro _ t ⟨rfl,o⟩;refine QX rfl ?_;refine⟨a,f,rfl,⟨j,l,o⟩,i.done (.inr λd=>e ⟨?_,d⟩)⟩;rw[AT] at d;exact(ZK.1 d).1
end
section
theorem Gw {D:RD}{s:Rs}{t:Γ}{a:Γ->Option Nat}{n:Nat}(c:D.toks.drop s.at_=t::D.toks.drop (s.at_+1))(d:s.bad=false)(e:t≠ [33])(g:t≠ [40])(h:pC t=true){f:Fm}{u:Bool}(i:uZ a t=(f,u))(j:Q4 f=1)(b:Bool)(k:b=(s.unk||u)):yJ D s (VG a (n+1) (D.toks.drop s.at_)) ((s.f.length:Nat):Int) ⟨s.at_+1,s.f++Z6 f s.f.length,s.bad,b⟩:=by refine⟨⟨by simp only;omega,by simp only[Qy,Kk];omega⟩,?_⟩;rw[c];unfold VG;rw[φ e,φ g,Qf h,i];exact⟨by rw[j];rfl,rfl,d,k,rfl⟩
theorem cQe (g:θ)(b r:Nat)(D:RD)(d:RDok g D)(o:Γ->Option Nat)(S:∀l,o l=fV l D.names):∀n,Cb g b r D 260 n (VG o n)
 |0=>λA c s w h y k m=>by omega
 |n+1=>λA c s w h y k m=>by
  have k:=cQe g b r D d o S n;have P:=cQd g b r D n _ d (bQS o n) (cQc g b r D n _ d (u9 o n) k);have m:=d.lim;have m:=d.ln;refine QK kQp [] Tryz.func260 ?_;refine call (vf g b r D A c s [33] w d h δ) ?_;by_cases G:s.at_<D.toks.length/\(D.toks.drop s.at_).head? =some [33];rw[Qf G,Zg G];rintro _ C ⟨rfl,E⟩;refine Q3 rfl (call (k A c _ C E y (by simp only;omega) (by simp only;omega)) ?_);rintro _ m ⟨a,z,rfl,⟨B,p,x⟩,k⟩;have F:=k.1.1;have L:=k.1.2;simp only at F L;refine call (vh g b r D B p z ⟨3,0,a,0⟩ m d x ω) ?_;rintro _ z ⟨rfl,H⟩;refine⟨_,_,rfl,H,⟨by simp only;omega,by simp only[Qy,Xa,Jz];omega⟩,?_⟩;have B:=k.2;simp only at B;rw[rX G.2];unfold VG;rw[Qf rfl];cases k:VG o n (D.toks.drop (s.at_+1))with|none=>rw[k] at B;exact B|some q=>
   obtain⟨t,u,T⟩:=q;rw[k] at B;obtain⟨M,I,N,O,J⟩:=B;have B:=aE t;refine⟨?_,?_,N,O,J⟩;rw[I,Qy,Kk]<;>rfl
   simp only;rw[I,M];simp[Z6]
  rw[φ G,XZ G];rintro _ C ⟨rfl,E⟩;refine QX rfl (call (vf g b r D A c s dx C d E δ) ?_);by_cases p:s.at_<D.toks.length/\(D.toks.drop s.at_).head? =some dx;rw[Qf p,Zg p];rintro _ m ⟨rfl,x⟩;refine Q3 rfl (call (vh g b r D A c _ ⟨1,0,0,0⟩ m d x (by simp only;omega)) ?_);rintro _ z ⟨rfl,H⟩;exact⟨_,_,rfl,H,Gw (f:=.c true) (u:=false) (rX p.2) y δ δ δ rfl rfl s.unk (by simp)⟩;rw[φ p,XZ p];rintro _ m ⟨rfl,x⟩;refine QX rfl (call (vf g b r D A c s fg m d x δ) ?_);by_cases H:s.at_<D.toks.length/\(D.toks.drop s.at_).head? =some fg;rw[Qf H,Zg H];rintro _ z ⟨rfl,x⟩;refine Q3 rfl (call (vh g b r D A c _ ⟨0,0,0,0⟩ z d x (by simp only;omega)) ?_);rintro _ m ⟨rfl,B⟩;exact⟨_,_,rfl,B,Gw (f:=.c false) (u:=false) (rX H.2) y δ δ δ rfl rfl s.unk (by simp)⟩;rw[φ H,XZ H];rintro _ z ⟨rfl,x⟩;refine QX rfl (call (vf g b r D A c s [40] z d x δ) ?_);by_cases z:s.at_<D.toks.length/\(D.toks.drop s.at_).head? =some [40];rw[Qf z,Zg z];rintro _ m ⟨rfl,K⟩;refine Q3 rfl (call (P A c _ m K y (by simp only;omega) (by simp only;omega)) ?_);rintro _ C ⟨a,P,rfl,⟨Q,R,E⟩,B⟩;have F:=B.1.1;have L:=B.1.2;have x:=B.2;simp only at F L x;refine call (vf g b r D Q R P [41] C d E δ) ?_;by_cases B:P.at_<D.toks.length/\(D.toks.drop P.at_).head? =some [41];rw[Qf B,Zg B];rintro _ C ⟨rfl,L⟩;refine QX rfl ?_;refine⟨a,_,rfl,⟨Q,R,L⟩,⟨by simp only;omega,by simp only;omega⟩,?_⟩;rw[rX z.2];unfold VG;rw[φ δ,Qf rfl];cases k:VZ [124,124] Fm.or (VZ [38,38] Fm.and (VG o n)) (D.toks.drop (s.at_+1))with|none=>rw[k] at x;exact x|some q=>obtain⟨t,u,T⟩:=q;rw[k] at x;obtain⟨M,I,N,O,J⟩:=x;simp only;rw[<-J,Qf B.2,rX B.2];exact⟨M,I,N,O,rfl⟩
  rw[φ B,XZ B];rintro _ C ⟨rfl,L⟩;refine Q3 rfl (Xv L.blk (by simp) λC E F=>?_);refine⟨a,_,rfl,⟨Q,R,L.set (s':={P with bad:=true}) E rfl L.le F⟩,⟨by simp only;omega,by simp only;omega⟩,?_⟩;rw[rX z.2];unfold VG;rw[φ δ,Qf rfl];cases k:VZ [124,124] Fm.or (VZ [38,38] Fm.and (VG o n)) (D.toks.drop (s.at_+1))with|none=>rfl|some q=>obtain⟨t,u,T⟩:=q;rw[k] at x;obtain⟨M,I,N,O,J⟩:=x;simp only;rw[<-J,φ λk=>B ⟨by rw[AT] at k;exact(ZK.1 k).1,k⟩];trivial
  rw[φ z,XZ z];rintro _ m ⟨rfl,K⟩;refine QX rfl ?_;have x:VG o (n+1) (D.toks.drop s.at_)=none->∀(A c) (w k:θ),Rq g w b r D A c s->Mod (·=r) w k->Blk k r 314 [.slice D.NA D.nn D.nc,.slice D.LA D.ln D.lc,.int .i64 s.at_,.slice A s.f.length c,.bool true,.bool s.unk]->
    ∃(a:Int) (s':Rs),(Value.int .i64 0)= .int .i64 a/\Ca g b r D s' k/\yJ D s (VG o (n+1) (D.toks.drop s.at_)) a s':=λo A c w k h B I=>by
   rw[o];exact⟨0,{s with bad:=true},rfl,⟨A,c,h.set B rfl h.le I⟩,RAdv.refl s,rfl⟩
  have q:∀(j:Nat) (v:τ),[Value.slice D.NA D.nn D.nc,.slice D.LA D.ln D.lc,.int .i64 s.at_,.slice A s.f.length c,.bool s.bad,.bool s.unk][j]? =some v->∀k,Ext m k->k.cell? ((⟨r,0,none⟩:Addr).add j)=some v:=λj v L k o=>by rw[(K.blk.ext o).cell];exact L
  have B:=K.ext (Ext.drew m);refine Xw (Ext m) 24 (oz 21 0 [(false,21),(true,22),(true,23)]) (Ext.drew m) (Qx (q 2 _ rfl) (Qx (q 1 _ rfl) (Ql (λI=>?_) λI=>?_)));have I:D.toks[s.at_]? =some D.toks[s.at_]:=Q6 ω;generalize D.toks[s.at_]=t at I;obtain⟨O,J⟩:=d.tb t (Xd I);have J:=NV I;have M:=rX J;have N:t≠ [33]:=λe=>G ⟨ω,by rw[J,e]⟩;have G:t≠ [40]:=λe=>z ⟨ω,by rw[J,e]⟩
  have P:t≠dx:=λe=>p ⟨ω,by rw[J,e]⟩;have Q:t≠fg:=λe=>H ⟨ω,by rw[J,e]⟩
  have J:=d.wf t (Xd I);refine Qx (q 1 _ rfl) (Qx (q 2 _ rfl) (Zq (d.tks.ext K.e0) ω λR u T p H=>?_));rw[dw I] at p;cases p;refine Qx (λk o=>o.cell H) (call (Gp t _ O ω) ?_);rintro _ _ ⟨rfl,rfl⟩;refine⟨Ext.drew m,?_⟩;cases z:aF t with|false=>refine QX rfl ?_;rw[J] at z;refine Xv B.blk (by simp) λC E F=>?_;refine x ?_ A c _ C B E F;rw[M];unfold VG;rw[φ N,φ G,φ (by rw[z];decide)]|true=>
   refine Q3 rfl ?_;rw[J] at z;have J:∀(j:Nat) (v:τ),[Value.slice D.NA D.nn D.nc,.slice D.LA D.ln D.lc,.int .i64 s.at_,.slice A s.f.length c,.bool s.bad,.bool s.unk][j]? =some v->∀k,Ext m.drew k->k.cell? ((⟨r,0,none⟩:Addr).add j)=some v:=λj v L k o=>by rw[(B.blk.ext o).cell];exact L
   refine Xw (Ext m.drew) 16 (oz 14 0 [(false,14),(true,15)]) (Ext.drew m.drew) (Qx (J 0 _ rfl) (Qx (J 1 _ rfl) (Qx (J 2 _ rfl) (Zq (d.tks.ext B.e0) ω λR u T p H=>?_))));rw[dw I] at p;cases p;refine Qx (λk o=>o.cell H) ?_;have k:=B.ext (Ext.drew m.drew);refine call (bQ7 D.names D.NA D.nn D.nc t _ (d.nms.ext k.e0) (λu p=>(d.nb u p).1) O) ?_;rintro _ _ ⟨rfl,rfl⟩;refine⟨Ext.drew m.drew,?_⟩;refine Qp k.blk rfl (Qz ((s.at_+1:Nat):Int) (Xv k.blk (by simp) λC E F=>?_));have m:Rq g C b r D A c {s with at_:=s.at_+1}:=k.set E rfl (by simp only;omega) F;have k:=S t;unfold yI;cases p:fV t D.names with|none=>rw[p] at k;refine Zm δ (Xv m.blk (by simp) λo H I=>?_);have J:Rq g o b r D A c {s with at_:=s.at_+1,unk:=true}:=m.set H rfl m.le I;refine call (vh g b r D A c _ ⟨2,0,0,0⟩ o d J (by simp only;omega)) ?_;rintro _ H ⟨rfl,o⟩;exact⟨_,_,rfl,o,Gw (f:=.v 0) (u:=true) M y N G z (by unfold uZ;rw[φ P,φ Q,k];rfl) rfl true (by simp)⟩|some i=>rw[p] at k;refine XB (by simp only;omega) (call (vh g b r D A c _ ⟨2,(i:Int),0,0⟩ C d m (by simp only;omega)) ?_);rintro _ H ⟨rfl,o⟩;exact⟨_,_,rfl,o,Gw (f:=.v i) (u:=false) M y N G z (by unfold uZ;rw[φ P,φ Q,k];rfl) rfl s.unk (by simp)⟩
  refine Xv B.blk (by simp) λC E F=>?_;refine x ?_ A c _ C B E F;rw[fK ω]<;>rfl
end
section
theorem Cc:∀(n:Nat)(l:Γ),∀t∈(YI n l).1,(∀x∈t,x∈l)/\t.length<=l.length/\aF t=pC t
 |0,l,t,h=>by cases h
 |n+1,[],t,h=>by cases h
 |n+1,b::l,t,h=>by
  have up:∀d:Γ,(∀x∈d,x∈b::l)->d.length<=(b::l).length->(∀x∈t,x∈d)/\t.length<=d.length/\aF t=pC t->(∀x∈t,x∈b::l)/\t.length<=(b::l).length/\aF t=pC t:=λd g i e=>⟨λx a=>g x (e.1 x a),XU e.2.1 i,e.2.2⟩
  have f:∀x∈l,x∈b::l:=λx a=>xW _ a;simp only[YI] at h;split at h
  exact up l f (by simp) (Cc n l t h);split at h;rename_i c;simp only[XI] at h;obtain rfl|h:=h;refine⟨by simp,by simp,?_⟩;obtain rfl|rfl|rfl:=c <;>rfl
  exact up l f (by simp) (Cc n l t h);split at h;rename_i c;simp only[XI] at h;obtain rfl|h:=h;refine⟨by simp,?_,?_⟩;cases l with|nil=>simp at c|cons y l=>simp
  obtain rfl|rfl:=c.1 <;>rfl
  exact up l.tail (λx a=>f x (List.mem_of_mem_tail a)) (by simp[AO];omega) (Cc n l.tail t h);split at h;rename_i c;simp only[XI] at h;obtain rfl|h:=h;refine⟨λx a=>(U6 Zr).subset a,(U6 Zr).length_le,?_⟩;unfold aF;rw[List.all_takeWhile,Fq];exact up _ (λx a=>(UX Zr).subset a) (BP _ _) (Cc n _ t h);cases h
theorem lQS (b:Λ)(A:Θ)(n c:Nat)(s:Γ)(w:θ)(h:Sl w 1 A n c (Xb b))(g:KH b)(m:∀x∈s,x<256)(d:s.length<=1000000000000):Fn ψ 216 [.slice A n c,.string (Qb s)] w (Nv w (gL b s)):=by
 rw[bQQ];unfold Gj;refine QK jQZ [] Tryz.func216 ?_;refine call (NT b A n c w h g) ?_;rintro _ i ⟨rfl,f⟩;cases r:JG b with|false=>refine Q3 rfl ?_;exact⟨none,0,0,rfl,f,SlS.nil _⟩|true=>
  refine QX rfl (call (lQR s i m d) ?_);rintro _ d ⟨k,y,z,rfl,i,p⟩;have o:=f.trans i;cases f:(X9 s).2 with|false=>refine Q3 rfl ?_;exact⟨none,0,0,rfl,o,SlS.nil _⟩|true=>
   refine QX rfl ?_;rw[f] at p;have i:=Cc s.length s;let D:RD:=⟨A,n,c,b,k,y,z,(X9 s).1⟩
   have k:RDok d D:=⟨h.ext o,p,g,λt f=>⟨λx p=>m x ((i t f).1 x p),by have:=(i t f).2.1;omega⟩,λt f=>(i t f).2.2,by have:=BY s.length s;show(YI s.length s).1.length<=_;omega⟩
   refine new λf i p m=>?_;have p:Rq d f (d.heap.size+1) d.heap.size D none 0 ⟨0,[],false,false⟩:=⟨i,Qw _,iU _,ω,m,Own.nil _ _ _ _,Q9 _⟩
   have i:∀l,ZS b l=fV l D.names:=λl=>(lQP ((NN g).1 r).2.1 l).symm;have g:=cQd d (d.heap.size+1) d.heap.size D (s.length+1) _ k (bQS (ZS b) (s.length+1)) (cQc d (d.heap.size+1) d.heap.size D (s.length+1) _ k (u9 (ZS b) (s.length+1)) (cQe d (d.heap.size+1) d.heap.size D k (ZS b) i (s.length+1)));refine call (g none 0 _ f p rfl (Qw _) (by have:=BY s.length s;show(YI s.length s).1.length-0<_;omega)) ?_;rintro _ i ⟨a,f,rfl,⟨r,y,m⟩,p⟩;have z:=o.trans m.e0;have g:=p.2;have o:yC (ZS b) (s.length+1) (X9 s).1=VZ [124,124] Fm.or (Gl (ZS b) (s.length+1)) (List.drop 0 D.toks):=rfl;rw[o];have q:∀(j:Nat) (v:τ),[Value.slice D.NA D.nn D.nc,.slice D.LA D.ln D.lc,.int .i64 f.at_,.slice r f.f.length y,.bool f.bad,.bool f.unk][j]? =some v->∀o,Ext i o->o.cell? ((⟨d.heap.size,0,none⟩:Addr).add j)=some v:=λj v d o p=>by rw[(m.blk.ext p).cell];exact d
   have o:=m.ext (Ext.drew i);have d:=z.trans (Ext.drew i);refine Xw (Ext i) 17 (oz 17 0 []) (Ext.drew i) (Qx (q 4 _ rfl) ?_);cases z:f.bad with
   |true=>
    refine Q3 rfl ?_;refine⟨none,0,0,?_,d,?_⟩
    all_goals
     cases i:VZ [124,124] Fm.or (Gl (ZS b) (s.length+1)) (List.drop 0 D.toks)with
     |some q=>obtain⟨t,u,p⟩:=q;rw[i] at g;have:=g.2.2.1;rw[z] at this;cases this
     |none=>first|rfl|exact SlS.nil _
   |false=>
    refine QX rfl (Qx (q 2 _ rfl) (Qx (q 1 _ rfl) ?_));cases i:VZ [124,124] Fm.or (Gl (ZS b) (s.length+1)) (List.drop 0 D.toks)with
    |none=>rw[i] at g;have:f.bad=true:=g;rw[z] at this;cases this
    |some q=>
     obtain⟨t,u,p⟩:=q;rw[i] at g;obtain⟨B,b,C,z,i⟩:=g;have g:=k.ln;have g:=m.le;simp only;refine Ql (λg=>?_) λg=>?_;have g:p≠ []:=λe=>by rw[e] at i;have:=QG List.length i;rw[Wz] at this;simp at this;omega
     rw[Qf trivial,Qf trivial,Qf g];exact⟨none,0,0,rfl,d,SlS.nil _⟩;have g:p=[]:=by rw[<-i];exact fK ω
     refine Qp o.blk rfl ?_;simp only[d4,Jz,AP] at b z;rw[Qf trivial,Qf trivial,φ λh=>h g,<-z];have g:f.f.length=Q4 t:=by rw[b,Kk]
     cases g:f.unk with|true=>refine Q3 rfl ?_;exact⟨none,0,0,rfl,d,SlS.nil _⟩|false=>refine QX rfl ?_;refine Qp o.blk rfl ?_;rw[φ δ];refine Ql (λg=>?_) λg=>?_;rw[Qf ω];exact⟨none,0,0,rfl,d,SlS.nil _⟩;refine Qp o.blk rfl ?_;rw[φ ω];exact⟨r,f.f.length,y,rfl,d,by rw[<-b];exact⟨o.own.sl,rfl⟩⟩
end
theorem cQf (o:Int)(w:θ):Fn ψ 255 [.int .i64 o] w (λv a=>v= .int .i64 (Zt o)/\w=a):=by refine KS (c:=kQm) Qe Tryz.func255 rfl rfl rfl ?_;unfold Zt;refine X0 (λa=>?_) λa=>?_;exact⟨by rw[Qf (.inl a)],rfl⟩;refine X0 (λb=>?_) λb=>?_;exact⟨by rw[Qf (.inr (.inl b))],rfl⟩;refine X0 (λd=>?_) λd=>?_;exact⟨by rw[Qf (.inr (.inr d))],rfl⟩;rw[φ λh=>h.elim a λh=>h.elim b d];refine X0 (λa=>?_) λa=>?_;exact⟨by rw[Qf a],rfl⟩;rw[φ a];refine X0 (λa=>?_) λa=>?_;exact⟨by rw[Qf (.inl a)],rfl⟩;refine X0 (λb=>?_) λb=>?_;exact⟨by rw[Qf (.inr b)],rfl⟩;exact⟨by rw[φ λh=>h.elim a b],rfl⟩
def Jv:Λ:=[[65],[66],[67],[68],[108,111,110,103,95,110,97,109,101],[95],[120,49],[84,82,85,69],[116],[102],[116,114,117],[102,97,108,115,101,101]]
theorem lQT (k:Nat)(w:θ)(a:k<=12):Fn ψ 51 [.int .i64 k] w (λv b=>∃A c,v= .slice A k c/\Ext w b/\Sl b 1 A k c (Xb (Jv.take k))):=by refine QK c51 [] Tryz.func51 ?_;refine ny Qe (Jv.map λs=>[.string (Qb s)]) rfl rfl rfl rfl rfl ⟨rfl,rfl,rfl,rfl,rfl,rfl,rfl,rfl,rfl,rfl,rfl,rfl,rfl,rfl,rfl,rfl,rfl,rfl,rfl,rfl,rfl,rfl,rfl,rfl,⟨⟩⟩ rfl (λb h=>by simp only[Z5] at h;obtain⟨s,_,rfl⟩:=h;rfl) rfl δ δ ?_;intro b d f e;refine bm Qe rfl rfl rfl rfl rfl rfl a ?_;have f:Sl b 1 (some ⟨w.heap.size,0,none⟩) 12 12 (Xb Jv):=Sl.own' (n:=12) e rfl δ;have:=f.take (m:=k) a;rw[VC] at this;exact⟨_,12,rfl,d,by rw[show Xb (Jv.take k)=(Xb Jv).take k by simp[Xb]];exact this⟩
theorem lQU (k:Nat)(a:k<=12):KH (Jv.take k)/\JG (Jv.take k)=true/\(Jv.take k).length=k:=by
 have c:KH Jv:=lQN δ;have a:KH (Jv.take k):=λs b=>c s (aw b);have c:(Jv.take k).length=k:=by rw[KR];show min k 12=k;omega
 refine⟨a,(NN a).2 ⟨?_,List.Nodup.sublist (List.take_sublist k Jv) δ,ω⟩,c⟩;have:Jv.all Wf=true:=by decide
 exact Vb.2 λs b=>Vb.1 this s (aw b)
def vi (v:Nat)(a:Bool):Fm:=if a then .v v else .not (.v v)
def vj (a:χ Br):Nat->Int->Fm
 |0,_=>.c false
 |m+1,n=>if n<2 then .c (decide (n=1))else match a[(n-2).toNat]? with
  |none=>.c false
  |some b=>if b.h<2/\b.l<2 then vi b.v.toNat (decide (b.h=1))
   else if b.l=0 then .and (vi b.v.toNat true) (vj a m b.h)
   else if b.h=0 then .and (vi b.v.toNat false) (vj a m b.l)
   else if b.h=1 then .or (vi b.v.toNat true) (vj a m b.l)
   else if b.l=1 then .or (vi b.v.toNat false) (vj a m b.h)
   else .or (.and (vi b.v.toNat true) (vj a m b.h)) (.and (vi b.v.toNat false) (vj a m b.l))
def cf (a:χ Br)(n:Int):Fm:=vj a (n.toNat+1) n
def evF:Fm->(Nat->Bool)->Bool|.c b,_=>b|.v n,e=>e n|.not a,e=> !evF a e|.and a b,e=>evF a e&&evF b e|.or a b,e=>evF a e||evF b e
def VIn (k:Nat)(a:χ Br):Prop:=∀b∈a,b.v<k
theorem VIn.nil (k:Nat):VIn k []:=λb a=>by simp at a
theorem VIn.lvl {k:Nat}{a:χ Br}(h:VIn k a){n:Int}(c:¬n<2)(d:n<a.length+2):QB a n<k:=by obtain⟨b,a⟩:=em c d;rw[i6 c a];exact h b (Xd a)
theorem Rd0.lvl0 {a:χ Br}(h:Rd0 a){n:Int}(c:n<a.length+2):0<=QB a n:=by by_cases a:n<2;rw[nC a];omega;obtain⟨z,b⟩:=em a c;rw[i6 a b];exact(h _ _ b).1
theorem lQV {a b c:Nat}(e:a<c)(f:b<c):2^a+2^b<=2^c:=by
 obtain⟨d,rfl⟩:∃d,c=d+1:=⟨c-1,ω⟩
 have e:2^a<=2^d:=bZ δ ω;have e:2^b<=2^d:=bZ δ ω;rw[rC];omega
theorem lQW (a:Nat):1<=2^a:=Nat.one_le_two_pow
theorem NW {d:χ Br}(h:Rd0 d){k:Nat}(i:VIn k d):∀(m:Nat)(n:Int)(e:χ Br×Γ),0<=n->n<m->n<d.length+2->(ZM d m n e).2.1.length+1<=e.1.length+2^((k:Int)-QB d n).toNat|0,n,e,r,t,_=>by omega|m+1,n,e,r,t,u=>by have p:=lQW ((k:Int)-QB d n).toNat;by_cases f:n<2;rw[pw f];simp only;omega;by_cases j:0<e.2[(n-2).toNat]?.getD 0;rw[px f j];simp only;omega;obtain⟨b,g⟩:=em f u;obtain⟨v,w,o,x,q,y,z,A,B,C⟩:=h _ _ g;have D:=i b (Xd g);have s:=i6 f g;rw[rS f j g];have E:=NW h i m b.l e o ω ω;generalize (ZM d m b.l e)=l at*;have F:=NW h i m b.h l.2 q ω ω;generalize (ZM d m b.h l.2)=G at*;have:=lQV (a:=((k:Int)-QB d b.l).toNat) (b:=((k:Int)-QB d b.h).toNat) (c:=((k:Int)-QB d n).toNat) ω ω;simp only[Qy,Xa,Jz];omega
theorem NY {c:χ Br}{k:Nat}(e:VIn k c):∀(m:Nat)(n:Int)(a:χ Br×Γ),VIn k a.1->VIn k (ZM c m n a).2.1|0,n,a,h=>h|m+1,n,a,h=>by by_cases d:n<2;rw[pw d];exact h;by_cases f:0<a.2[(n-2).toNat]?.getD 0;rw[px d f];exact h;cases g:c[(n-2).toNat]? with|none=>rw[ZM,φ d,φ f,g];exact h|some b=>rw[rS d f g];have f:=NY e m b.l a h;generalize (ZM c m b.l a)=d at*;have i:=NY e m b.h d.2 f;generalize (ZM c m b.h d.2)=a at*;intro x a;simp only[X2,Xx] at a;obtain a|rfl:=a;exact i x a;exact e b (Xd g)
theorem lQX {a:χ Br}{k:Nat}(b:VIn k a)(r:Int):VIn k (fh a r).1:=NY b _ _ _ (VIn.nil k)
theorem VD.len {nd:χ Br}{r:Int}(h:VD nd r){k:Nat}(a:VIn k nd):nd.length+1<=2^k:=by have i:=NW h.rd0 a (r.toNat+1) r ([],List.replicate nd.length 0) h.2.1 (by have:=h.2.1;omega) h.2.2.1;have e:(ZM nd (r.toNat+1) r ([],List.replicate nd.length 0)).2.1=nd:=QG Prod.fst h.2.2.2;rw[e] at i;have:=h.rd0.lvl0 h.2.2.1;have p:2^((k:Int)-QB nd r).toNat<=2^k:=bZ δ ω;simp only[Jz] at i;omega
theorem lQY {k:Nat}{l:χ Br}(h:VIn k l){b:Br}(c:b.v<k):VIn k (Kc b l).1:=by unfold Kc;split;exact h;split;exact h;intro x a;simp only[X2,Xx] at a;obtain a|rfl:=a;exact h x a;exact c
theorem NZ {a b:χ Br}(f:bu a)(g:bu b){k:Nat}(j:VIn k a)(l:VIn k b)(i:Int):∀(m:Nat)(x y:Int)(d:χ Br×χ Tr3),0<=x->0<=y->x<a.length+2->y<b.length+2->VIn k d.1->VIn k (Zh a b i m x y d).2.1
 |0,_,_,d,_,_,_,_,h=>h
 |m+1,x,y,d,q,r,p,s,h=>by
  by_cases e:x<2/\y<2;rw[rT e];exact h;cases k3:d.2.find? (λt=>decide (t.1=x/\t.2.1=y))with|some t=>rw[rU e k3];exact h|none=>
   have u:min (QB a x) (QB b y)<k:=by
    by_cases c:x<2;have:=l.lvl (n:=y) (λo=>e ⟨c,o⟩) s;rw[KG];split<;>omega
    have:=j.lvl (n:=x) c p;rw[KG];split<;>omega
   have p:min (QB a x) (QB b y)<64:=by
    by_cases c:x<2;have:=fi g (n:=y) (λo=>e ⟨c,o⟩) ω;rw[KG];split<;>omega
    have:=fi f (n:=x) c ω;rw[KG];split<;>omega
   rw[rV e k3 _ rfl];generalize min (QB a x) (QB b y)=v at*;obtain⟨e,s,o,w,z⟩:=dC f (n:=x) q p;obtain⟨q,w,s,z,A⟩:=dC g (n:=y) r p;have p:=NZ f g j l i m (Qv a x v).1 (Qv b y v).1 d e q ω ω h;generalize (Zh a b i m (Qv a x v).1 (Qv b y v).1 d)=e at*;have d:=NZ f g j l i m (Qv a x v).2 (Qv b y v).2 e.2 o s ω ω p;exact lQY d u
structure Set1 (k:Nat) (nd:List Br) (r:Int) (o:(Nat->Bool)->Bool):Prop where
 vd:VD nd r
 vin:VIn k nd
 mean:∀e,ev nd r e=o e
theorem Set1.len {k:Nat}{a:χ Br}{r:Int}{o:(Nat->Bool)->Bool}(h:Set1 k a r o)(b:k<=12):a.length<=4095:=by have:=h.vd.len h.vin;have p:2^k<=2^12:=bZ δ b;omega
theorem Set1.chk {k:Nat}{a:χ Br}{r:Int}{o:(Nat->Bool)->Bool}(h:Set1 k a r o)(b:k<=12):XN a r=0:=F5 (by have:=h.len b;omega) h.vd
theorem Set1.unique {k g:Nat}{a b:χ Br}{r c:Int}{o d:(Nat->Bool)->Bool}(h:Set1 k a r o)(f:Set1 g b c d)(e:∀x,o x=d x):(a,r)=(b,c):=
 h.vd.eqv f.vd (λx=>by rw[h.mean,f.mean,e])
theorem Set1.congr {k:Nat}{a:χ Br}{r:Int}{o o':(Nat->Bool)->Bool}(h:Set1 k a r o)(e:∀x,o x=o' x):Set1 k a r o':=⟨h.vd,h.vin,λx=>(h.mean x).trans (e x)⟩
theorem fj {k:Nat}{a b:χ Br}{f g:Int}{o i:(Nat->Bool)->Bool}(h:Set1 k a f o)(c:Set1 k b g i)(d:Int):Set1 k (Wg a f b g d).1 (Wg a f b g d).2 (λe=>J5 d (o e) (i e)):=by obtain⟨v,m⟩:=lQs h.vd c.vd d;refine⟨v,lQX (NZ h.vd.dok c.vd.dok h.vin c.vin d _ _ _ _ h.vd.2.1 c.vd.2.1 h.vd.2.2.1 c.vd.2.2.1 (VIn.nil k)) _,λe=>?_⟩;rw[m e,h.mean,c.mean]
theorem i9 {k:Nat}(c:k<=12){a b:χ Br}{d e:Int}{o i:(Nat->Bool)->Bool}(h:Set1 k a d o)(g:Set1 k b e i)(f:Int):dD a d b e f=(Wg a d b e f,0):=by have l:=(fj h g f).len c;unfold dD;rw[φ λd=>d (h.chk c),φ λd=>d (g.chk c)];unfold ei;rw[φ ω]
theorem Y0 (k:Nat)(b:Bool):Set1 k [] (if b then 1 else 0) (λ_=>b):=by refine⟨⟨λj x a=>by simp at a,by cases b<;>decide,by cases b<;>decide,by cases b<;>rfl⟩,VIn.nil k,λe=>?_⟩;rw[VY (by cases b<;>decide)];cases b<;>rfl
def gT (a:Λ)(s:Γ):Except Int Fm:=if JG a then
  if(X9 s).2 then match yC (ZS a) (s.length+1) (X9 s).1 with|none=>.error 31|some (t,u,a)=>if a≠ [] then .error 31 else if u then .error 3 else if 512<Q4 t then .error 2 else .ok t
  else .error 31
 else .error 1
theorem cQg (a:Λ)(s:Γ):gL a s=match gT a s with|.ok t=>(Z6 t 0,0)|.error e=>([],e):=by rw[bQQ];unfold Gj gT;cases JG a with|false=>rfl|true=>cases (X9 s).2 with|false=>rfl|true=>simp only[if_true];cases yC (ZS a) (s.length+1) (X9 s).1 with|none=>rfl|some q=>obtain⟨t,u,b⟩:=q;simp only;by_cases a:b≠ [];rw[Qf a,Qf a];rw[φ a,φ a];by_cases a:u=true;rw[Qf a,Qf a];rw[φ a,φ a];by_cases a:512<Q4 t;rw[Qf a,Qf a];rw[φ a,φ a]
def Gy (N:Nat)(a:Λ->Option (Fm×Bool×Λ)):Prop:=∀b t c,a b=some (t,false,c)->VarsIn N t
theorem cQh {N:Nat}{c:Γ}{mk:Fm->Fm->Fm}{d:Λ->Option (Fm×Bool×Λ)}(i:∀a b,VarsIn N a->VarsIn N b->VarsIn N (mk a b))(h:Gy N d):∀(m:Nat) (a:Fm) (u:Bool) (e:Λ) (t:Fm) (f:Λ),(u=false->VarsIn N a)->bz c mk d m a u e=some (t,false,f)->VarsIn N t
 |0,a,u,e,t,f,_,c=>by cases c
 |m+1,a,u,e,t,f,j,c=>by
  unfold bz at c;split at c;cases g:d e.tail with
  |none=>rw[g] at c;cases c
  |some q=>
   obtain⟨b,v,d⟩:=q;rw[g] at c;refine cQh i h m _ _ _ t f (λd=>?_) c;cases u<;>cases v<;>simp at d
   exact i _ _ (j rfl) (h _ _ _ g)
  cases c;exact j rfl
theorem Gz {N:Nat}{d:Γ}{mk:Fm->Fm->Fm}{c:Λ->Option (Fm×Bool×Λ)}(f:∀a b,VarsIn N a->VarsIn N b->VarsIn N (mk a b))(h:Gy N c):Gy N (VZ d mk c):=λg t i d=>by
 unfold VZ at d;cases e:c g with
 |none=>rw[e] at d;cases d
 |some q=>obtain⟨a,u,c⟩:=q;rw[e] at d;exact cQh f h _ _ _ _ t i (λc=>by subst c;exact h _ _ _ e) d
theorem cQi {N:Nat}{d:Γ->Option Nat}(i:∀l n,d l=some n->n<N):∀n,Gy N (VG d n)
 |0=>λe t m h=>by cases h
 |n+1=>λe t m h=>by
  have j:=cQi i n;cases e with
  |nil=>cases h
  |cons w e=>
   unfold VG at h;split at h;cases b:VG d n e with
   |none=>rw[b] at h;cases h
   |some q=>obtain⟨a,u,r⟩:=q;rw[b] at h;cases h;exact show VarsIn N a from j _ _ _ b
   split at h;cases b:VZ [124,124] Fm.or (VZ [38,38] Fm.and (VG d n)) e with
   |none=>rw[b] at h;cases h
   |some q=>obtain⟨a,u,r⟩:=q;rw[b] at h;simp only at h;split at h;cases h;exact Gz (mk:=Fm.or) (λ_ _ h f=>⟨h,f⟩) (Gz (mk:=Fm.and) (λ_ _ h f=>⟨h,f⟩) j) _ _ _ b;cases h
   split at h;simp only[Option.some.injEq,Prod.mk.injEq] at h;obtain⟨rfl,c,_⟩:=h;unfold uZ at c ⊢;split;trivial;split;trivial;rename_i o p;rw[φ o,φ p] at c;simp only at c;cases g:d w with
   |none=>rw[g] at c;cases c
   |some k=>exact i _ _ g
   cases h
theorem cQj (l:Γ)(N:Nat):∀(a:Λ)(i:Nat)(b:Option Nat),(∀n,b=some n->n<N)->i+a.length<=N->∀n,kY l a i b=some n->n<N|[],i,b,c,_,n,h=>c n h|s::a,i,b,c,hl,n,h=>by unfold kY at h;refine cQj l N a (i+1) _ (λm b=>?_) (by simp at hl;omega) n h;split at b;cases b;simp at hl;omega;exact c m b
theorem ld {a:Λ}{l:Γ}{n:Nat}(h:ZS a l=some n):n<a.length:=cQj l _ a 0 none (λ_ h=>by cases h) ω n h
theorem cQk {c:Λ}{s:Γ}{t:Fm}(h:gT c s= .ok t):JG c=true/\VarsIn c.length t/\Q4 t<=512:=by
 unfold gT at h;split at h;rename_i d;split at h;split at h;cases h;rename_i g u i e;split at h;cases h;split at h;cases h;split at h;cases h;rename_i b f;cases h;have b:u=false:=by simpa using b
 subst b;exact⟨d,Gz (mk:=Fm.or) (λ_ _ h a=>⟨h,a⟩) (Gz (mk:=Fm.and) (λ_ _ h a=>⟨h,a⟩) (cQi (λl n h=>ld h) _)) _ _ _ e,ω⟩;cases h;cases h
theorem cQl {a:Λ}{s:Γ}{e:Int}(h:gT a s= .error e):e=1∨e=2∨e=3∨e=31:=by
 unfold gT at h
 repeat' split at h
 all_goals first|cases h|skip
 all_goals simp
abbrev BF:=(Nat->Bool)->Bool
def Jn (a:Λ)(s:Γ):Except Int BF:=match gT a s with|.ok t=>.ok (evF t)|.error e=>.error (if e=2 then 2 else 71)
inductive Dir where
 |txt
 |ifd (s:Γ)
 |elif (s:Γ)
 |els
 |en
 |inc (s:Γ)
def Zd:Γ:=[35,105,102,32]
def pElif:Γ:=[35,101,108,105,102,32]
def pInc:Γ:=[35,105,110,99,108,117,100,101,32]
def J6:Γ:=[35,101,108,115,101]
def X5:Γ:=[35,101,110,100]
def X3 (s:Γ):Dir:=if Zd.isPrefixOf s then .ifd (s.drop 4)else if pInc.isPrefixOf s then .inc (s.drop 9)else if pElif.isPrefixOf s then .elif (s.drop 6)else if s=J6 then .els else if s=X5 then .en else .txt
def QN:Γ->Λ|[]=>[]|b::l=>if b=10 then []::QN l else match QN l with|[]=>[[b]]|s::ls=>(b::s)::ls
def Qk (a:Λ):Γ:=a.flatMap λs=>s++ [10]
theorem YJ (s:Γ)(ls:Λ):Qk (s::ls)=s++10::Qk ls:=by simp[Qk]
theorem pD (ls:Λ):ls.length<=(Qk ls).length:=by induction ls with|nil=>exact Qw _|cons s ls a=>rw[YJ];simp only[Xa,Qy];omega
def pE (a:Λ):Prop:=∀s∈a,10∉s
theorem lQZ (s l:Γ)(h:10∉s):QN (s++10::l)=s::QN l:=by induction s with|nil=>simp[QN]|cons b s a=>simp only[XI,not_or] at h;rw[dZ,QN,φ λe=>h.1 e.symm,a h.2]
theorem lQ0 {ls:Λ}(h:pE ls):QN (Qk ls)=ls:=by induction ls with|nil=>rfl|cons s ls a=>rw[YJ,lQZ _ _ (h s (by simp)),a λt b=>h t (by simp[b])]
def Y1 (l:Γ):Prop:=l=[]∨l.getLast? =some 10
theorem nE:∀(l:Γ),pE (QN l)|[]=>λs a=>by simp[QN] at a|b::l=>by have c:=nE l;intro s a;unfold QN at a;split at a;simp only[XI] at a;obtain rfl|a:=a;simp;exact c s a;rename_i d;cases f:QN l with|nil=>rw[f] at a;simp only[Xx] at a;subst a;simpa using λe=>d e.symm|cons t g=>rw[f] at a c;simp only[XI] at a;obtain rfl|a:=a;have:=c t (by simp);simp only[XI,not_or];exact⟨λe=>d e.symm,this⟩;exact c s (by simp[a])
theorem Wh:∀{l:Γ},Y1 l->Qk (QN l)=l
 |[],_=>rfl
 |b::l,h=>by
  have f:Y1 l:=by cases l with|nil=>exact .inl rfl|cons c l=>right;obtain h|h:=h;cases h;simpa using h
  have a:=Wh f;unfold QN;split;rename_i d;subst d;rw[YJ,a]<;>rfl
  rename_i d;cases e:QN l with|nil=>rw[e] at a;have:l=[]:=a.symm;subst this;obtain h|h:=h;cases h;simp at h;exact Xg h d|cons t g=>rw[e] at a;simp only[YJ] at a ⊢;rw[dZ,a]
theorem cQm (ls:Λ):Y1 (Qk ls):=by induction ls with|nil=>exact .inl rfl|cons s ls a=>right;rw[YJ];obtain h|h:=a;rw[h];simp;rw[List.getLast?_append,List.getLast?_cons,h];simp
structure Sg where
 f:Nat
 t:Nat
 fl:Nat
 at_:Nat
 o:BF
structure Gs where
 tx:Γ
 sg:List Sg
 fr:Bool
structure Se where
 ou:BF
 re:BF
 ot:Bool
 ln:Nat
structure Pl where
 e:Int
 f:Int
 l:Int
def lf (n:Nat):χ Sg->χ Sg|[]=>[]|[x]=>[{x with t:=n}]|x::y::l=>x::lf n (y::l)
theorem jW (n:Nat)(l:χ Sg)(x:Sg):lf n (l++ [x])=l++ [{x with t:=n}]:=by induction l with|nil=>rfl|cons y l a=>cases l with|nil=>rfl|cons z l=>rw[dZ,dZ] at*;rw[lf,a]<;>rfl
def Yo (s:Γ)(fl a:Nat)(k:BF)(g:Gs):Option Gs:=
 if 1048576<g.tx.length+s.length∨(g.fr=true/\g.sg.length=65536)then none
 else some ⟨g.tx++s,lf (g.tx.length+s.length) (if g.fr then g.sg++ [⟨g.tx.length,0,fl,a,k⟩] else g.sg),false⟩
def eo (a:Γ->Option Nat)(b:Γ)(s:Γ):Except Int Nat:=
 if s.length<2∨s.head? ≠some 34∨s.getLast? ≠some 34∨s.count 34≠2 then .error 71
 else match a ((s.drop 1).take (s.length-2))with|none=>.error 73|some n=>if n∈b then .error 73 else .ok n
abbrev Jw (a b:BF):BF:=λe=>a e&&b e
abbrev Vm (a b:BF):BF:=λe=>a e && !b e
def Z9 (c:Λ)(fl f:Nat)(a:Γ->Nat->Nat->BF->Gs->Except Pl Gs):Λ->Nat->Nat->BF->χ Se->Gs->Except Pl Gs
 |[],_,_,_,b,g=>match b with
  |[]=>.ok {g with fr:=true}
  |x::_=>.error ⟨72,fl,x.ln⟩
 |s::ls,ln,at_,k,b,g=>match X3 s with
  |.ifd r=>match Jn c r with
   |.error e=>.error ⟨e,fl,ln+1⟩
   |.ok d=>if f+b.length=64 then .error ⟨2,fl,ln+1⟩else Z9 c fl f a ls (ln+1) (at_+s.length+1) (Jw k d) (⟨k,Vm k d,false,ln+1⟩::b) {g with fr:=true}
  |.inc r=>match a r (ln+1) (f+b.length) k g with
   |.error p=>.error p
   |.ok h=>Z9 c fl f a ls (ln+1) (at_+s.length+1) k b {h with fr:=true}
  |.elif r=>match b with
   |[]=>.error ⟨72,fl,ln+1⟩
   |x::X8=>if x.ot then .error ⟨71,fl,ln+1⟩else match Jn c r with
    |.error e=>.error ⟨e,fl,ln+1⟩
    |.ok d=>Z9 c fl f a ls (ln+1) (at_+s.length+1) (Jw x.re d) ({x with re:=Vm x.re d}::X8) {g with fr:=true}
  |.els=>match b with
   |[]=>.error ⟨72,fl,ln+1⟩
   |x::X8=>if x.ot then .error ⟨71,fl,ln+1⟩else Z9 c fl f a ls (ln+1) (at_+s.length+1) x.re ({x with ot:=true}::X8) {g with fr:=true}
  |.en=>match b with
   |[]=>.error ⟨72,fl,ln+1⟩
   |x::X8=>Z9 c fl f a ls (ln+1) (at_+s.length+1) x.ou X8 {g with fr:=true}
  |.txt=>match Yo (s++ [10]) fl at_ k g with|none=>.error ⟨2,fl,ln+1⟩|some h=>Z9 c fl f a ls (ln+1) (at_+s.length+1) k b h
def Yc (b:Λ)(a:χ (Γ×Γ)):Nat->Γ->Nat->Nat->BF->Gs->Except Pl Gs|0,_,_,_,_,_=>.error ⟨0,0,0⟩|f+1,c,d,n,k,g=>Z9 b n d (λr h d k g=>match eo (ZS (a.map (·.1))) (n::c) r with|.error e=>.error ⟨e,n,h⟩|.ok m=>if d=64 then .error ⟨2,n,h⟩else Yc b a f (n::c) (d+1) m k g) (QN ((a[n]?.map (·.2)).getD [])) 0 0 k [] {g with fr:=true}
def jX (s:Γ):Bool:=decide (s≠ [])&&s.all λb=>decide (32<=b)&&b !=34&&b !=127
def bB (l:Γ):Bool:=decide (l=[])||l.getLast? ==some 10
def dE:χ (Γ×Γ)->Λ->Nat->Option Pl|[],_,_=>none|x::l,seen,i=>if¬(jX x.1=true/\x.1∉seen/\bB x.2=true)then some ⟨70,i,0⟩else if 1048576<x.2.length then some ⟨2,i,0⟩else dE l (seen++ [x.1]) (i+1)
def V0 (a:χ (Γ×Γ)):Option Pl:=if 256<a.length then some ⟨2, -1,0⟩else dE a [] 0
def W0 (c:Λ)(b:χ (Γ×Γ))(a:Γ):Except Pl Gs:=
 if JG c=false then .error ⟨30, -1,0⟩else match V0 b with|some p=>.error p|none=>match ZS (b.map (·.1)) a with|none=>.error ⟨73, -1,0⟩|some n=>Yc c b 65 [] 0 n (λ_=>true) ⟨[],[],false⟩
theorem Cd (A:Θ)(n c:Nat)(r m v:Int)(d:χ Br)(w:θ)(h:SB w A n c d)(E:m<n+2)(L:v<64):Fn ψ 167 [Q5 A n c r,.int .i64 m,.int .i64 v] w (λu f=>u= .tuple #[.int .i64 (Qv d m v).1,.int .i64 (Qv d m v).2]/\Ext w f):=by
 have K:=h.2;have M:n<=9223372036854775807:=by have:=h.1.le;have:=h.1.cap;simp only[maxLen] at this;omega
 refine QK jQj [] Tryz.func167 ?_;refine new λH l J q=>?_;refine Qm q (call (kZ A n c r m d H (h.ext l) E) ?_);rintro u k ⟨rfl,o⟩;have g:=l.trans o;have s:=q.ext o;refine Ya (λi=>?_) λi=>?_;exact⟨by unfold Qv;rw[Qf i],g⟩;have I:¬m<2:=λC=>by unfold QB at i;rw[Qf C] at i;omega
 have j:=Q6 (show(m-2).toNat<d.length by omega);generalize d[(m-2).toNat]=b at j;have e:Qv d m v=(b.l,b.h):=by unfold Qv;rw[φ ω,j]
 rw[e];refine Xw (Ext k) 16 (oz 16 0 []) (Ext.drew k) (Qx (v:=.slice A n c) (λf a=>by rw[(s.ext a).cell];rfl) (Qz (((m-2).toNat:Nat):Int) (XG aD (h.ext g) rfl ω λp z F D=>?_)));have G:z=b:=Option.some.inj (F.symm.trans j);subst G;refine Qx (v:=.int .i64 z.l) (λf a=>a.cell (D 1 _ rfl)) (Qx (v:=.slice A n c) (λf a=>by rw[(s.ext a).cell];rfl) (Qz (((m-2).toNat:Nat):Int) (XG aD (h.ext g) rfl ω λN t B x=>?_)));have y:t=z:=Option.some.inj (B.symm.trans j);subst y;refine Qx (v:=.int .i64 t.h) (λf a=>a.cell (x 2 _ rfl)) ?_;exact⟨rfl,g.trans (Ext.drew k)⟩
def Ce (a:χ Br)(b:Br):Option τ:=(VX b a).map λi=>.int .i64 ((i+2:Nat):Int)
structure Bd (w:World) (base pb km:Nat) (NA:Θ) (nc:Nat) (nd:List Br):Prop where
 blk:Blk w pb 177 [.slice NA nd.length nc,.map (some km)]
 own:Own w base 105 3 NA nd.length nc (pz nd)
 known:∃m,MapQ fU w km m/\∀b,Zc b m=Ce nd b
 lt:pb<base/\km<base/\pb≠km
 top:base<=w.heap.size
theorem Bd.ext {w b:θ}{a c d:Nat}{e:Θ}{f:Nat}{nd:χ Br}(h:Bd w a c d e f nd)(k:Ext w b):Bd b a c d e f nd:=
 ⟨h.blk.ext k,h.own.ext k,let ⟨m,a,b⟩:=h.known;⟨m,a.ext k,b⟩,h.lt,XU h.top k.size⟩
def BS (a b:Nat)(c:Θ):Nat->Prop:=λk=>k=a∨k=b∨Qj c k
theorem BS.moved {w:θ}{a b:Nat}{A c:Θ}(h:Moved w A c):∀k,BS a b c k->BS a b A k∨w.heap.size<=k:=by rintro k (rfl|rfl|a);exact .inl (.inl rfl);exact .inl (.inr (.inl rfl));obtain h|h:=h.rows k a;exact .inl (.inr (.inr h));exact .inr h
def lQ1 (w:θ)(a d e:Nat)(f:Θ)(h:χ Br)(g:θ):Prop:=∃b c,Bd g a d e b c h/\Mod (BS d e f) w g/\Moved w f b
theorem cQn (b x:Br):∀l:χ Br,VX x l=none->VX b (l++ [x])=if b=x then some l.length else VX b l
 |[],_=>by
  show(if x=b then some 0 else(none:Option Nat).map (·+1))=_;by_cases h:x=b;rw[Qf h,Qf h.symm]<;>rfl
  rw[φ h,φ λe=>h e.symm]<;>rfl
 |y::l,hx=>by
  have c:y≠x:=λe=>by rw[VX,Qf e] at hx;cases hx
  have a:VX x l=none:=by rw[VX,φ c] at hx;cases d:VX x l with|none=>rfl|some k=>rw[d] at hx;cases hx
  have d:=cQn b x l a;show(if y=b then some 0 else(VX b (l++ [x])).map (·+1))=if b=x then some (l.length+1)else if y=b then some 0 else(VX b l).map (·+1)
  rw[d];by_cases a:b=x;rw[Qf a,Qf a,φ λe=>c (e.trans a)]<;>rfl
  rw[φ a,φ a]
theorem lQ2 {b:Br}{a:χ Br}{i:Nat}(h:b.l≠b.h)(k:VX b a=some i):Kc b a=(a,((i+2:Nat):Int)):=by unfold Kc;rw[φ h,k]
theorem lQ3 {b:Br}{a:χ Br}(h:b.l≠b.h)(k:VX b a=none):Kc b a=(a++ [b],((a.length+2:Nat):Int)):=by unfold Kc;rw[φ h,k]
theorem lQ4 (f pb km:Nat)(d:Θ)(l:Nat)(c:χ Br)(b:Br)(w:θ)(h:Bd w f pb km d l c)(g:c.length+1<=1000000000000):Fn ψ 189 [.pointer (some ⟨pb,0,none⟩),.int .i64 b.v,.int .i64 b.l,.int .i64 b.h] w (λu k=>u= .int .i64 (Kc b c).2/\lQ1 w f pb km d (Kc b c).1 k):=by
 obtain⟨g,o,p⟩:=h.lt;have I:=h.top;have y:=h.own.rows;refine QK jQE [] Tryz.func189 ?_;refine X0 (λq=>?_) λq=>?_;have e:Kc b c=(c,b.l):=by unfold Kc;rw[Qf q]
 rw[e];exact⟨rfl,d,l,h,Mod.refl _ _,Moved.refl _ _⟩;refine new λB o C g=>?_;refine Qo g λw2 r s p=>?_;have s:Ext w w2:=X1 o g r;replace p:Blk w2 w.heap.size 105 b.cells:=p;have r:=h.ext s;obtain⟨m,hm,z⟩:=r.known;refine Xw (Ext w2) 11 ((oz 5 0 ((false,5)::(oz 5 6 [])))) (Ext.drew w2) (Qx (v:=.map (some km)) (λk g=>by rw[(r.blk.ext g).cell];rfl) (Xe (vs:=b.cells) rfl (λk g j v o=>by rw[(p.ext g).cell];exact o) (aQY (kv:=fU) (a:=b) Qe rfl rfl rfl rfl F8 rfl rfl (hm.ext (Ext.drew w2)) ?_)));refine⟨Ext.drew w2,?_⟩;have A:=s.trans (Ext.drew w2);have E:=p.ext (Ext.drew w2);have t:=r.ext (Ext.drew w2);have J:=hm.ext (Ext.drew w2);have p:w2.heap.size<=w2.drew.heap.size:=(Ext.drew w2).size;generalize w2.drew=w3 at*;cases p:VX b c with
 |some i=>
  have r:Zc b m=some (.int .i64 ((i+2:Nat):Int)):=by rw[z,Ce,p]<;>rfl
  have s:=lQ2 q p;refine bj (Q3 (by rw[r];rfl) ?_);rw[s];exact⟨by rw[r];rfl,d,l,t,Mod.of_ext _ A,Moved.refl _ _⟩
 |none=>
  have r:Zc b m=none:=by rw[z,Ce,p]<;>rfl
  have s:=lQ3 q p;refine bj (QX (by rw[r];rfl) ?_);rw[s];have q:B.heap.size=w.heap.size+1:=C;have D:¬Qj d pb:=λq=>by have:=(y _ q).1;omega
  have F:¬Qj d w.heap.size:=λq=>by have:=(y _ q).2;omega
  refine Xw (Mod (Qj d) w3) 8 (oz 6 0 [(false,6),(false,7)]) (Mod.of_ext _ (Ext.drew w3)) (Qx (v:=.slice d c.length l) (λk g=>by rw[(t.blk.mod g D).cell];rfl) (Xe (vs:=b.cells) rfl (λk g j v o=>by rw[(E.mod g F).cell];exact o) (XM (b.cells) ?_)));intro r l s B;have s:=(Ext.drew w3).trans l;have l:=t.ext s;refine⟨Mod.of_ext _ s,?_⟩;have C:Sl r 3 (some ⟨w3.drew.heap.size,0,none⟩) 1 1 b.cells:=Sl.own (sz:=3) (n:=1) B (Qw _) δ (by simp[Br.cells]);refine XV (n:=c.length) l.own C (by intro u r;simp[Br.cells] at r;obtain rfl|rfl|rfl:=r <;>rfl) (by unfold maxLen;omega) l.top ?_ (b:=(by show _*24<=_;omega));intro B G w5 H r C;have l:Mod (Qj d) w3 w5:=(Mod.of_ext (Qj d) s).trans H λ_=>.inl;refine⟨l,?_⟩;have H:=l.size;have H:=s.size;have s:=A.size;refine Xv (t.blk.mod l D) (by simp) λw6 s K=>?_;have t:=s.size;have H:∀i,Qj B i->f<=i:=λi f=>(r.rows i f).1;have t:Blk w6 pb 177 [.slice B (c.length+1) G,.map (some km)]:=K;refine QQ t rfl (Qz ((c.length+2:Nat):Int) ?_ (hm:=by show((c.length+1:Nat):Int)+1=_;omega));have D:=(E.mod l F).mod s (by show¬w.heap.size=pb;omega);have E:MapQ fU w6 km m:=(J.mod l λq=>by have:=(y _ q).1;omega).mod s (by show¬km=pb;omega);refine Xw (Ext w6) 6 (oz 6 0 []) (Ext.drew w6) (Qx (v:=.map (some km)) (λk g=>by rw[(t.ext g).cell];rfl) (Xe (vs:=b.cells) rfl (λk g j v o=>by rw[(D.ext g).cell];exact o) (Bv (kv:=fU) (a:=b) Qe rfl rfl rfl rfl F8 rfl rfl rfl (E.ext (Ext.drew w6)) λw8 k g o=>?_)));have g:Mod (·=km) w6 w8:=(Mod.of_ext (·=km) (Ext.drew w6)).trans k λ_=>.inl;have k:Mod (BS pb km d) w w3:=Mod.of_ext _ A;have q:Mod (BS pb km d) w w5:=k.trans l λi f=>.inl (.inr (.inr f));have l:Mod (BS pb km d) w w6:=q.trans s λi f=>.inl (.inl f);have k:Mod (BS pb km d) w w8:=l.trans g λi f=>.inl (.inr (.inl f));have d:(c++ [b]).length=c.length+1:=by simp
  refine⟨rfl,B,G,⟨?_,?_,⟨_,o,λx=>?_⟩,h.lt,XU I k.size⟩,k,C.back ω⟩;rw[d];exact t.mod g (by show¬pb=km;omega);rw[d,F6];exact(r.mod s λi f e=>by have:=H i f;have d:i=pb:=e;omega).mod g (λi f e=>by have:=H i f;have d:i=km:=e;omega);rw[fc,z,Ce,Ce,cQn x b c p];by_cases c:x=b;rw[Qf c,Qf c]<;>rfl
  rw[φ c,φ c]
theorem GA (F:Θ)(m cf:Nat)(L:χ DV)(w:θ)(h:SlS DV.cells 2 w F m cf L)(u:∀x∈L,SB w x.A x.n x.c x.nd):Fn ψ 111 [.slice F m cf] w (λv i=>v= .int .i64 (cg L)/\Ext w i):=by
 have C:=h.2;have D:m<=9223372036854775807:=by have:=h.1.le;have:=h.1.cap;simp only[maxLen] at this;omega
 refine QK iQx [] Tryz.func111 ?_;refine loop Qe [8] (λs:Nat=>[.int .i64 s]) (λs i=>Ext w i/\s<=m/\∀(j:Nat) (y:DV),j<s->L[j]? =some y->XN y.nd y.r=0) (λs _=>m-s) 0 rfl ⟨Ext.refl w,Q9 _,λj y f=>Xg f ω⟩ ?_;rintro s G ⟨c,E,a⟩;refine Ql (λt=>?_) λt=>?_;refine XG bw (h.ext c) rfl ω λp x g z=>?_;refine Jm (vs:=x.cells) rfl z (new λH n B l=>?_);refine Qo l λw3 r A o=>?_;have d:Ext w w3:=c.trans (X1 n l r);refine Qm o (call (F9 x.A x.n x.c x.nd x.r w3 ((u x (Xd g)).ext d)) ?_);rintro v I ⟨rfl,k⟩;refine Ya (λe=>?_) λe=>?_;exact⟨by rw[bQz a g e],d.trans k⟩;refine Qz ((s+1:Nat):Int) ?_;refine⟨s+1,rfl,⟨d.trans k,ω,λj y f b=>?_⟩,QL⟩;by_cases q:j<s;exact a j y q b;have:j=s:=by omega
 subst this;rw[Option.some.inj (b.symm.trans g)];exact e;exact⟨by rw[bQA λj y f b=>a j y ω b],c⟩
theorem cQo (A:Θ)(n c:Nat)(a:χ Br)(b:Int)(d w:θ)(h:SB w A n c a)(t:∀i,Qj A i->d.heap.size<=i)(o:Ext d w):Fn ψ 127 [Q5 A n c b] w (pA d (ei (a,b))):=by
 have u:=h.2;refine QK iQM [] Tryz.func127 ?_;refine new λp f d q=>?_;refine new λr g d s=>?_;have j:=f.trans g;refine QQ (q.ext g) rfl (Ql (λd=>?_) λd=>?_);have e:ei (a,b)=(([],0),2):=by unfold ei;rw[Qf (show 4096<(a,b).1.length by simp only;omega)]
 rw[e];refine Qo s λw3 k _ l=>?_;have d:Mod (·=p.heap.size) r w3:=vQB k rfl;refine Qm l ?_;exact⟨none,0,0,rfl,o.trans (d.ext j λi m=>by have:=f.size;omega),SlS.nil _,λi ⟨_,e,_⟩=>by cases e⟩;have e:ei (a,b)=((a,b),0):=by unfold ei;rw[φ (show¬4096<(a,b).1.length by simp only;omega)]
 rw[e];refine Qm (q.ext g) (Qo s λw3 k _ l=>?_);have d:Mod (·=p.heap.size) r w3:=vQB k rfl;refine Qm l ?_;refine⟨A,n,c,rfl,o.trans (d.ext j λi m=>by have:=f.size;omega),⟨(h.ext j).1.modS d (λb i m e=>by obtain⟨d,rfl,rfl⟩:=m;have:=SB.lt h d rfl b;omega),u⟩,t⟩
theorem N0 (k:Int)(w:θ)(a:0<=k)(b:k<=63):Fn ψ 34 [.int .i64 k] w (pA w (([⟨k,0,1⟩],2),0)):=by refine QK c34 [] Tryz.func34 ?_;refine new λd f a b=>?_;refine XB ω ?_;refine XB ω ?_;refine XM (⟨k,0,1⟩:Br).cells ?_;intro c a h g;refine Qo (b.ext a) λw3 h _ j=>?_;have b:Mod (·=w.heap.size) c w3:=vQB h rfl;refine Qm j ?_;refine⟨some ⟨d.heap.size,0,none⟩,1,1,rfl,b.ext (f.trans a) λi c=>ω,⟨Sl.own (sz:=3) (n:=1) (g.mod b ω) (Qw _) δ (by simp[Br.cells]),rfl⟩,λi ⟨a,e,c⟩=>by cases e;simp only at c;omega⟩
theorem fW (b:Bool)(w:θ):Fn ψ 37 [.bool b] w (λv a=>v=Q5 none 0 0 (if b then 1 else 0)/\Ext w a):=by refine QK c37 [] Tryz.func37 ?_;refine new λc e d a=>?_;cases b with|true=>refine Q3 rfl ?_;refine Qo a λf c _ d=>?_;refine Qm d ?_;exact⟨rfl,X1 e a c⟩|false=>refine QX rfl ?_;refine Qo a λf c _ d=>?_;refine Qm d ?_;exact⟨rfl,X1 e a c⟩
def Cf (F:Nat)(a:Int):Prop:=(F=84/\a=0)∨(F=155/\a=1)∨(F=83/\a=3)
theorem N4 {F:Nat}{op:Int}(h:Cf F op)(x y:Bool)(w:θ):Fn ψ F [.bool x,.bool y] w (λv a=>v= .bool (J5 op x y)/\w=a):=by
 obtain⟨rfl,rfl⟩|⟨rfl,rfl⟩|⟨rfl,rfl⟩:=h;refine QK c84 [] Tryz.func84 ?_;cases x with|true=>refine Q3 rfl ?_;exact⟨rfl,rfl⟩|false=>refine QX rfl ?_;exact⟨rfl,rfl⟩
 refine QK jQa [] Tryz.func155 ?_;cases x with|true=>refine Q3 rfl ?_;exact⟨rfl,rfl⟩|false=>refine QX rfl ?_;exact⟨rfl,rfl⟩
 refine QK c83 [] Tryz.func83 ?_;exact⟨rfl,rfl⟩
theorem lQ5 {F:Nat}{op:Int}(h:Cf F op)(b:Nat)(x y z:Bool)(w:θ)(a:Blk w b 139 [.func (.func F) #[] #[]]):Fn ψ 129 [.bool x,.bool y,.bool z,.pointer (some ⟨b,0,none⟩)] w (λv c=>v= .bool (J5 op x y)/\w=c):=by obtain⟨rfl,rfl⟩|⟨rfl,rfl⟩|⟨rfl,rfl⟩:=h;refine QK M9 [] Tryz.func129 ?_;refine QQ a rfl ?_;refine call (N4 (op:=0) (.inl ⟨rfl,rfl⟩) x y w) ?_;rintro _ _ ⟨rfl,rfl⟩;exact⟨rfl,rfl⟩;refine QK M9 [] Tryz.func129 ?_;refine QQ a rfl ?_;refine call (N4 (op:=1) (.inr (.inl ⟨rfl,rfl⟩)) x y w) ?_;rintro _ _ ⟨rfl,rfl⟩;exact⟨rfl,rfl⟩;refine QK M9 [] Tryz.func129 ?_;refine QQ a rfl ?_;refine call (N4 (op:=3) (.inr (.inr ⟨rfl,rfl⟩)) x y w) ?_;rintro _ _ ⟨rfl,rfl⟩;exact⟨rfl,rfl⟩
theorem vQH {α:Type} [DecidableEq α]{P:Program}{ke:Nat}{kv:α->τ}{d c:Nat}(h:P.underlying ke=some (.array d c))(f:∀(a b:α) (w:θ),(Op.equal ke (kv a) (kv b)).run P w= .ok (decide (a=b)) w) (i:∀b a w,(Instr.checkKey b 10000 ke (kv a)).run P w= .ok () w) (k:∀a,Instr.sameBits 10000 (kv a) (kv a)=true):KeyQ P ke kv:=by
 refine⟨λa m bs w g=>?_,i,k⟩;have key:=Nd (P:=P) (ke:=ke) (kv:=kv) a w (λb=>f a b w) m bs 0 g;obtain⟨r,f,i,k,l⟩:=key;refine⟨r,?_,i,λj v n o=>by simpa using (k j v n).2 o,l⟩;unfold Instr.findKey;simp only[Sem.run_bind,JB h,Result.andThen_ok];cases m with|nil=>simp only[Zw,List.zip_nil_left,List.map_nil,Instr.findNow,Sem.run_pure];simp[Zw,Instr.findAsking] at f;rw[f]|cons p m=>
  cases bs with|nil=>simp at g|cons s bs=>
   have e:Zw kv (p::m) (s::bs)={key:=kv p.1,val:=p.2,born:=s}::Zw kv m bs:=rfl;rw[e] at f ⊢;have g:Instr.findNow (.array d c) (kv a) ({key:=kv p.1,val:=p.2,born:=s}::Zw kv m bs) 0=none:=by simp[Instr.findNow,Instr.sameNow]
   rw[g];exact f
abbrev I3:=Int×Int×Int
abbrev jY (t:I3):List Value:=[.int .i64 t.1,.int .i64 t.2.1,.int .i64 t.2.2]
abbrev nF:I3->Value:=λt=>.agg #[.int .i64 t.1,.int .i64 t.2.1,.int .i64 t.2.2]
theorem GC:ψ.cellsOf 3=1:=by kernel_rfl
theorem Cg (a b:Int)(n:Nat)(w:θ):(Op.equalIn (n+1) 3 (.int .i64 a) (.int .i64 b)).run ψ w= .ok (a==b) w:=by simp[Op.equalIn,JB Tryz.underlying3]
theorem lQ6 (a b:I3)(n:Nat)(w:θ):(Op.equalIn (n+2) 242 (nF a) (nF b)).run ψ w= .ok (decide (a=b)) w:=by
 obtain⟨i,k⟩:=U7.1 (show(ψ.info? 3).isSome=true by kernel_rfl);obtain⟨c,d,f⟩:=a;obtain⟨g,h,j⟩:=b;have e:=run_equalIn_array (w:=w) (n+1) #[.int .i64 c,.int .i64 d,.int .i64 f] #[.int .i64 g,.int .i64 h,.int .i64 j] Tryz.underlying242 k;rw[GC,show List.range 3=[0,1,2] from rfl] at e;refine e.trans ?_;have o:∀x y z:Int,(part 3 #[Value.int .i64 x,.int .i64 y,.int .i64 z] (0*1)).run ψ w= .ok (.int .i64 x) w:=λx y z=>fN k3 rfl w;have p:∀x y z:Int,(part 3 #[Value.int .i64 x,.int .i64 y,.int .i64 z] (1*1)).run ψ w= .ok (.int .i64 y) w:=λx y z=>fN k3 rfl w
 have q:∀x y z:Int,(part 3 #[Value.int .i64 x,.int .i64 y,.int .i64 z] (2*1)).run ψ w= .ok (.int .i64 z) w:=λx y z=>fN k3 rfl w;have r:decide ((c,d,f)=(g,h,j))=(c==g&&(d==h&&f==j)):=by by_cases k:c=g<;>by_cases l:d=h<;>by_cases m:f=j<;>simp[k,l,m]
 rw[r];simp only[Op.eqItems,Sem.run_bind,o,Result.andThen_ok,Cg];cases k:c==g with|false=>simp|true=>simp only[Bool.not_true,UW,if_false,Sem.run_bind,p,Result.andThen_ok,Cg,YF];cases l:d==h with|false=>simp|true=>simp only[Bool.not_true,UW,if_false,Sem.run_bind,q,Result.andThen_ok,Cg,YF];cases m:f==j<;>simp
theorem lQ7 (b:Bool)(a:I3)(n:Nat)(w:θ):(Instr.checkKey b (n+2) 242 (nF a)).run ψ w= .ok () w:=by
 obtain⟨i,c⟩:=U7.1 (show(ψ.info? 3).isSome=true by kernel_rfl);have d:∀x y z:Int,(part 3 #[Value.int .i64 x,.int .i64 y,.int .i64 z] 0).run ψ w= .ok (.int .i64 x) w:=λx y z=>fN k3 rfl w;have e:∀x y z:Int,(part 3 #[Value.int .i64 x,.int .i64 y,.int .i64 z] 1).run ψ w= .ok (.int .i64 y) w:=λx y z=>fN k3 rfl w
 have f:∀x y z:Int,(part 3 #[Value.int .i64 x,.int .i64 y,.int .i64 z] 2).run ψ w= .ok (.int .i64 z) w:=λx y z=>fN k3 rfl w;have g:(sizeOf 3).run ψ w= .ok 1 w:=by rw[<-GC];exact Go.run_sizeOf w c
 simp[Instr.checkKey,JB Tryz.underlying242,JB Tryz.underlying3,g,d,e,f,Std.Legacy.Range.forIn_eq_forIn_range',Std.Legacy.Range.size,List.range'_succ]
theorem cQp:KeyQ ψ 242 nF:=
 vQH Tryz.underlying242 (λa b w=>lQ6 a b 9998 w) (λb a w=>lQ7 b a 9998 w) (λa=>by simp[Instr.sameBits])
def Xj {α:Sort _}(z:Bool)(a b:α):α:=match z with|false=>a|true=>b
theorem lQ8 {z:Bool}{y:Int}(h:Xj z y 0<2)(k:Xj z 0 y<2):y<2:=by cases z;exact h;exact k
theorem cQq (z:Bool){m:Nat}(h:m<=1000000000000):Xj z m 0<=1000000000000/\Xj z 0 m<=1000000000000:=by cases z;exact⟨h,Q9 _⟩;exact⟨Q9 _,h⟩
theorem lQ9 {z:Bool}{x y b a:Int}(e:((b,Xj z a 0,Xj z 0 a):I3)=(x,Xj z y 0,Xj z 0 y)):(b,a)=(x,y):=by cases z<;>(cases e;rfl)
theorem N5 (z:Bool){w:θ}{B:Θ}{m d:Nat}{b:χ Br}(h:SB w B m d b):SB w (Xj z B none) (Xj z m 0) (Xj z d 0) (Xj z b [])/\SB w (Xj z none B) (Xj z 0 m) (Xj z 0 d) (Xj z [] b):=by cases z;exact⟨h,SlS.nil _⟩;exact⟨SlS.nil _,h⟩
theorem mQa (z:Bool)(b:χ Br)(y:Int){v:Int}(a:v<64):Qv (Xj z b []) (Xj z y 0) v=(Xj z (Qv b y v).1 0,Xj z (Qv b y v).2 0)/\Qv (Xj z [] b) (Xj z 0 y) v=(Xj z 0 (Qv b y v).1,Xj z 0 (Qv b y v).2):=by
 have a:Qv [] 0 v=(0,0):=by unfold Qv;rw[Qf (show QB [] 0≠v by rw[show QB [] 0=64 from rfl];omega)]
 cases z;exact⟨rfl,a⟩;exact⟨a,rfl⟩
structure CP where
 ox:Nat
 ob:Nat
 mx:Nat
 lx:Nat
 ax:Nat
 bx:Nat
 pb:Nat
 km:Nat
 mm:Nat
 F:Nat
 D:AD
def CP.caps (p:CP):χ τ:=[VP.ptr p.ox,VP.ptr p.mx,VP.ptr p.lx,VP.ptr p.ax,VP.ptr p.bx]
def CP.clo (p:CP):τ:=.func (.func 188) #[] #[VP.ptr p.ox,VP.ptr p.mx,VP.ptr p.lx,VP.ptr p.ax,VP.ptr p.bx]
def CP.lC (z:Bool)(p:CP):χ τ:=[.slice p.D.A p.D.n p.D.c,.int .i64 p.D.ra,.slice (Xj z p.D.B none) (Xj z p.D.m 0) (Xj z p.D.d 0),.int .i64 (Xj z p.D.rb 0),.slice (Xj z none p.D.B) (Xj z 0 p.D.m) (Xj z 0 p.D.d),.int .i64 (Xj z 0 p.D.rb)]
def Ch (z:Bool)(a:Nat):τ:=.func (.func (Xj z 129 170)) #[] (Xj z #[VP.ptr a] #[])
structure CK (z:Bool) (w:World) (base:Nat) (p:CP):Prop where
 hF:Xj z (Cf p.F p.D.op) (p.D.op=4)
 oxb:Blk w p.ox 205 [Ch z p.ob]
 obb:Xj z (Blk w p.ob 139 [.func (.func p.F) #[] #[]]) True
 mxb:Blk w p.mx 272 [.map (some p.mm)]
 lxb:Blk w p.lx 204 (p.lC z)
 axb:Blk w p.ax 273 [p.clo]
 bxb:Blk w p.bx 174 [VP.ptr p.pb]
 as_:SB w p.D.A p.D.n p.D.c p.D.a
 bs:SB w p.D.B p.D.m p.D.d p.D.b
 off:∀k,k=p.ox∨k=p.ob∨k=p.mx∨k=p.lx∨k=p.ax∨k=p.bx->k<base/\k≠p.pb/\k≠p.km/\k≠p.mm
 rowA:∀ad,p.D.A=some ad->0<p.D.n->ad.block<base/\ad.block≠p.pb/\ad.block≠p.km/\ad.block≠p.mm
 rowB:∀ad,p.D.B=some ad->0<p.D.m->ad.block<base/\ad.block≠p.pb/\ad.block≠p.km/\ad.block≠p.mm
def CS (p:CP)(a:Θ):Nat->Prop:=λk=>k=p.mm∨BS p.pb p.km a k
theorem CS.moved {w:θ}{p:CP}{A a:Θ}(h:Moved w A a):∀k,CS p a k->CS p A k∨w.heap.size<=k:=by rintro k (rfl|a);exact .inl (.inl rfl);obtain h|h:=BS.moved h k a;exact .inl (.inr h);exact .inr h
theorem CS.trans {w a w2:θ}{p:CP}{A b:Θ}(c:Mod (CS p A) w a)(d:Moved w A b)(h:Mod (CS p b) a w2):Mod (CS p A) w w2:=c.trans h (CS.moved d)
theorem CS.no {p:CP}{a:Nat}{b:Θ}(c:∀i,Qj b i->a<=i){k:Nat}(h:k<a/\k≠p.pb/\k≠p.km/\k≠p.mm):¬CS p b k:=λe=>by obtain⟨f,a,b,d⟩:=h;obtain e|e|e|e:=e;exact d e;exact a e;exact b e;have:=c k e;omega
theorem CK.mod {z:Bool}{w d:θ}{a:Nat}{p:CP}{NA:Θ}(h:CK z w a p)(c:∀i,Qj NA i->a<=i)(b:Mod (CS p NA) w d):CK z d a p:=by
 have k:=λk a=>CS.no (p:=p) c (h.off k a);refine⟨h.hF,h.oxb.mod b (k _ (by simp)),by have a:=h.obb;have d:=k p.ob (by simp);cases z;exact Blk.mod a b d;trivial,h.mxb.mod b (k _ (by simp)),h.lxb.mod b (k _ (by simp)),h.axb.mod b (k _ (by simp)),h.bxb.mod b (k _ (by simp)),⟨h.as_.1.modS b ?_,h.as_.2⟩,⟨h.bs.1.modS b ?_,h.bs.2⟩,h.off,h.rowA,h.rowB⟩
 rintro a i ⟨b,e,rfl⟩;exact CS.no c (h.rowA b e a);rintro a i ⟨b,e,rfl⟩;exact CS.no c (h.rowB b e a)
theorem CK.ext {z:Bool}{w b:θ}{a:Nat}{p:CP}(h:CK z w a p)(k:Ext w b):CK z b a p:=
 h.mod (NA:=none) (λi a=>by obtain⟨_,e,_⟩:=a;cases e) (Mod.of_ext _ k)
def Ci (l:χ Tr3)(x y:Int):Option τ:=(l.find? λt=>decide (t.1=x/\t.2.1=y)).map λt=>.int .i64 t.2.2
structure CSt (z:Bool) (w:World) (base:Nat) (p:CP) (NA:Θ) (nc:Nat) (st:List Br×List Tr3):Prop where
 bd:Bd w base p.pb p.km NA nc st.1
 memo:∃m,MapQ nF w p.mm m/\∀x y:Int,Zc ((x,Xj z y 0,Xj z 0 y):I3) m=Ci st.2 x y
 lt:p.mm<base/\p.mm≠p.pb/\p.mm≠p.km
theorem CSt.ext {z:Bool}{w b:θ}{a:Nat}{p:CP}{c:Θ}{d:Nat}{st:χ Br×χ Tr3}(h:CSt z w a p c d st)(k:Ext w b):CSt z b a p c d st:=
 ⟨h.bd.ext k,let ⟨m,a,b⟩:=h.memo;⟨m,a.ext k,b⟩,h.lt⟩
def CTo (z:Bool)(w:θ)(a:Nat)(p:CP)(d:Θ)(f:χ Br×χ Tr3)(e:θ):Prop:=∃b c,CSt z e a p b c f/\Mod (CS p d) w e/\Moved w d b
theorem mQb {op x y:Int}(a:0<=x)(b:x<2)(c:0<=y)(d:y<2):gP op x y=if J5 op (decide (x=1)) (decide (y=1))then 1 else 0:=by have e:=bQJ (op:=op) a b c d;have f:=ND (op:=op) a b c d;rw[<-e];by_cases h:gP op x y=1;rw[Zg h];exact h;rw[XZ h];show gP op x y=0;omega
theorem GD {a b:χ Br}(h:bu a)(i:bu b)(g:Int):∀(f:Nat)(x y:Int)(e:χ Br×χ Tr3),0<=x->0<=y->x<a.length+2->y<b.length+2->∀t∈(Zh a b g f x y e).2.2,t∈e.2∨t.1+t.2.1<=x+y
 |0,x,y,e,_,_,_,_=>λt d=>.inl d
 |f+1,x,y,e,m,o,j,l=>by
  by_cases j:x<2/\y<2;rw[rT j];exactλt d=>.inl d
  cases k:e.2.find? (λt=>decide (t.1=x/\t.2.1=y))with|some t=>rw[rU j k];exactλt d=>.inl d|none=>
   have l:min (QB a x) (QB b y)<64:=by
    by_cases c:x<2;have:=fi i (n:=y) (λp=>j ⟨c,p⟩) ω;rw[KG];split<;>omega
    have:=fi h (n:=x) c ω;rw[KG];split<;>omega
   rw[rV j k _ rfl];generalize min (QB a x) (QB b y)=v at*;obtain⟨j,q,p,r,s⟩:=dC h (n:=x) m l;obtain⟨m,r,q,s,u⟩:=dC i (n:=y) o l;have l:=GD h i g f _ _ e j m ω ω;generalize (Zh a b g f (Qv a x v).1 (Qv b y v).1 e)=j at*;have m:=GD h i g f _ _ j.2 p q ω ω;generalize (Zh a b g f (Qv a x v).2 (Qv b y v).2 j.2)=e at*;intro t d;simp only[X2,Xx] at d;obtain d|rfl:=d;obtain e|e:=m t d;obtain d|d:=l t e;exact .inl d;exact .inr ω;exact .inr ω;exact .inr (by simp only;omega)
theorem mQc (x z:Bool)(w:θ):Fn ψ 170 [.bool x,.bool false,.bool z] w (λv a=>v= .bool (J5 4 x z)/\w=a):=by refine QK jQm [] Tryz.func170 ?_;cases x with|true=>refine Q3 rfl ?_;refine QX rfl ?_;refine QX rfl ?_;exact⟨rfl,rfl⟩|false=>refine QX rfl ?_;refine Q3 rfl ?_;exact⟨by cases z<;>rfl,rfl⟩
theorem cQr (z:Bool)(g:Nat)(p:CP)(W:bu p.D.a)(J:bu p.D.b)(bO:p.D.n<=1000000000000/\p.D.m<=1000000000000):∀(m:Nat)(x y:Int)(C:χ Br×χ Tr3)(NA:Θ)(R:Nat)(w:θ),CK z w g p->CSt z w g p NA R C->0<=x->0<=y->x+y<m->x<p.D.n+2->y<p.D.m+2->(Zh p.D.a p.D.b p.D.op m x y C).2.1.length<=100000000000->Fn ψ 188 (nF (x,Xj z y 0,Xj z 0 y)::p.caps) w λv l=>v= .int .i64 (Zh p.D.a p.D.b p.D.op m x y C).1/\CTo z w g p NA (Zh p.D.a p.D.b p.D.op m x y C).2 l
 |0,x,y,C,NA,R,w,_,_,x0,y0,hm,_,_,_=>by omega
 |m+1,x,y,C,NA,R,w,hK,P,x0,y0,hm,hx,hy,Vh=>by
  have ih:=cQr z g p W J bO m;have JM:p.D.a.length=p.D.n:=hK.as_.2;have cZ:p.D.b.length=p.D.m:=hK.bs.2;have tQ:=P.bd.top;have EH:∀i,Qj NA i->g<=i:=λi q=>(P.bd.own.rows i q).1;refine QK jQD [1] Tryz.func188 ?_;refine new λE N Q0 F=>?_
  replace F:Blk E w.heap.size 242 (jY (x,Xj z y 0,Xj z 0 y)):=F;have G:=hK.ext N;have Yf:=P.ext N;have oB:w.heap.size<E.heap.size:=by omega
  refine cL [] Qe [] (λ_:Unit=>[]) (λ_ l=>E=l/\¬(x<2/\y<2)) ?_ ?_
  ·refine index (j:=0) δ (Qp F rfl ?_);refine Ql (λV=>?_) λV=>?_
   ·refine index (j:=1) δ (Qp F rfl ?_);refine Ql (λO=>?_) λO=>?_
    ·refine index (j:=2) δ (Qp F rfl ?_);refine Ql (λc3=>?_) λc3=>?_
     ·refine QQ G.oxb rfl (index (j:=0) δ (Qp F rfl (index (j:=1) δ (Qp F rfl (index (j:=2) δ (Qp F rfl ?_))))));have c4:=lQ8 O c3;rw[rT ⟨V,c4⟩,mQb x0 V y0 c4];have hF:=hK.hF;have Av:=G.obb;cases z
      focus
       refine call (lQ5 hF p.ob (decide (x=1)) (decide (y=1)) (decide ((0:Int)=1)) E Av) ?_
      rotate_left
      focus
       rw[show p.D.op=4 from hF];refine call (mQc (decide (x=1)) (decide (y=1)) E) ?_
      all_goals
       rintro v _ ⟨rfl,rfl⟩;cases J5 _ (decide (x=1)) (decide (y=1));refine QX rfl ?_;exact⟨rfl,NA,R,Yf,Mod.of_ext _ N,Moved.refl _ _⟩;refine Q3 rfl ?_;exact⟨rfl,NA,R,Yf,Mod.of_ext _ N,Moved.refl _ _⟩
     exact⟨(),rfl,rfl,λL=>c3 (by cases z;exact(by decide:(0:Int)<2);exact L.2)⟩
    exact⟨(),rfl,rfl,λL=>O (by cases z;exact L.2;exact(by decide:(0:Int)<2))⟩
   exact⟨(),rfl,rfl,λL=>V L.1⟩
  rintro⟨⟩ _ ⟨rfl,XQ⟩;obtain⟨mq,kB,KP⟩:=Yf.memo;refine QQ G.mxb rfl (Qm F (aQY (kv:=nF) (a:=((x,Xj z y 0,Xj z 0 y):I3)) Qe rfl rfl rfl rfl cQp rfl rfl kB ?_));cases k:C.2.find? (λt=>decide (t.1=x/\t.2.1=y))with
  |some t=>
   have iQ:Zc ((x,Xj z y 0,Xj z 0 y):I3) mq=some (.int .i64 t.2.2):=by rw[KP,Ci,k]<;>rfl
   refine Q3 (by rw[iQ];rfl) ?_;rw[rU XQ k];exact⟨by rw[iQ];rfl,NA,R,Yf,Mod.of_ext _ N,Moved.refl _ _⟩
  |none=>
  have iQ:Zc ((x,Xj z y 0,Xj z 0 y):I3) mq=none:=by rw[KP,Ci,k]<;>rfl
  refine QX (by rw[iQ];rfl) ?_;have Kp:min (QB p.D.a x) (QB p.D.b y)<64:=by
   by_cases c:x<2;have:=fi J (n:=y) (λO=>XQ ⟨c,O⟩) ω;rw[KG];split<;>omega
   have:=fi W (n:=x) c ω;rw[KG];split<;>omega
  obtain⟨C6,sG⟩:=N5 z G.bs;obtain⟨m2,m3⟩:=cQq z bO.2;have qL:∀l,Ext E l->∀(j:Nat) (v:τ),(p.lC z)[j]? =some v->l.cell? ((⟨p.lx,0,none⟩:Addr).add j)=some v:=λl o j v f=>by rw[(G.lxb.ext o).cell];exact f
  have qN:∀l,Ext E l->∀(j:Nat) (v:τ),(jY (x,Xj z y 0,Xj z 0 y))[j]? =some v->l.cell? ((⟨w.heap.size,0,none⟩:Addr).add j)=some v:=λl o j v f=>by rw[(F.ext o).cell];exact f
  refine Xw (Ext E) 17 (oz 4 0 (oz 4 5 (oz 4 10 [(false,4),(false,9),(false,14),(true,15),(true,16)]))) (Ext.drew E) (KU (j:=0) δ ?_);refine Xe (vs:=[.slice p.D.A p.D.n p.D.c,.int .i64 p.D.ra]) rfl (λl o j v f=>by
   rw[add_add,(G.lxb.ext o).cell];match j,f with|0,f=>exact f|1,f=>exact f) ?_
  refine index (j:=0) δ (Qx (v:=.int .i64 x) (λl o=>qN l o 0 _ rfl) (KU (j:=1) δ ?_));refine Xe (vs:=[.slice (Xj z p.D.B none) (Xj z p.D.m 0) (Xj z p.D.d 0),.int .i64 (Xj z p.D.rb 0)]) rfl (λl o j v f=>by
   rw[add_add,(G.lxb.ext o).cell];match j,f with|0,f=>exact f|1,f=>exact f) ?_
  refine index (j:=1) δ (Qx (v:=.int .i64 (Xj z y 0)) (λl o=>qN l o 1 _ rfl) (KU (j:=2) δ ?_));refine Xe (vs:=[.slice (Xj z none p.D.B) (Xj z 0 p.D.m) (Xj z 0 p.D.d),.int .i64 (Xj z 0 p.D.rb)]) rfl (λl o j v f=>by
   rw[add_add,(G.lxb.ext o).cell];match j,f with|0,f=>exact f|1,f=>exact f) ?_
  refine index (j:=2) δ (Qx (v:=.int .i64 (Xj z 0 y)) (λl o=>qN l o 2 _ rfl) (call (kZ p.D.A p.D.n p.D.c p.D.ra x p.D.a _ (G.as_.ext (Ext.drew E)) ω) ?_));rintro u w2 ⟨rfl,Qg⟩;have XS:=(Ext.drew E).trans Qg;refine⟨XS,?_⟩;refine call (kZ _ _ _ (Xj z p.D.rb 0) (Xj z y 0) _ _ (C6.ext XS) (by cases z;exact(by show y<(p.D.m:Int)+2;omega);exact(by show(0:Int)<(0:Nat)+2;omega))) ?_;rintro u w3 ⟨rfl,Qi⟩;have Xc:=XS.trans Qi;refine⟨Xc,?_⟩;refine call (kZ _ _ _ (Xj z 0 p.D.rb) (Xj z 0 y) _ _ (sG.ext Xc) (by cases z;exact(by show(0:Int)<(0:Nat)+2;omega);exact(by show y<(p.D.m:Int)+2;omega))) ?_;rintro u A ⟨rfl,Qq⟩;have M:=Xc.trans Qq;refine⟨M,?_⟩;have hvn: -9223372036854775808<=min (QB p.D.a x) (QB p.D.b y):=by
   have pos:∀{d:χ Br},bu d->∀{n:Int},n<d.length+2->0<=QB d n:=λ{d} hd {n} hn=>by by_cases K:n<2;rw[nC K];omega;obtain⟨z,hz⟩:=em K hn;rw[i6 K hz];exact(hd.2 _ _ hz).1
   have p1:=pos W (n:=x) ω;have p2:=pos J (n:=y) ω;rw[KG];split<;>omega
  have rQe:∀a b c d:Int,min a d<64->(b=d/\c=64∨b=64/\c=d)->(if c<(if b<a then b else a)then c else(if b<a then b else a))=min a d:=by rintro a b c d hv (⟨rfl,rfl⟩|⟨rfl,rfl⟩)<;>rw[KG] at hv ⊢ <;> split at hv<;>(try split)<;>(try split)<;>(try split)<;>omega
  refine norm (m:=min (QB p.D.a x) (QB p.D.b y)) (rQe _ _ _ _ Kp (by cases z;exact .inl ⟨rfl,rfl⟩;exact .inr ⟨rfl,rfl⟩)) ?_;rw[rV XQ k _ rfl] at Vh ⊢;generalize TW:min (QB p.D.a x) (QB p.D.b y)=v at*;have QU:=F.ext M;have aP:=G.ext M;have dO:=Yf.ext M;have X4:=N.trans M;have HY:=M.size;refine new λH QH KA zu=>?_;refine new λw6 Q7 eC hH6=>?_;have U:=QH.trans Q7;have hL6:=zu.ext Q7;have Xi:=QU.ext U;have gg:=aP.ext U;have eE:=dO.ext U;have XJ:=X4.trans U;obtain⟨s1,s2,s3,s4,s5⟩:=dC W (n:=x) x0 Kp;obtain⟨t1,t2,t3,t4,t5⟩:=dC J (n:=y) y0 Kp;refine loop Qe [64] (λs:Nat=>[.int .i64 s]) (λs l=>Mod (λi=>i=A.heap.size∨i=H.heap.size) w6 l/\s<=3/\Blk l A.heap.size 242 (jY (if 0<s then(Qv p.D.a x v).1 else 0,if 1<s then(Qv (Xj z p.D.b []) (Xj z y 0) v).1 else 0,if 2<s then(Qv (Xj z [] p.D.b) (Xj z 0 y) v).1 else 0))/\Blk l H.heap.size 242 (jY (if 0<s then(Qv p.D.a x v).2 else 0,if 1<s then(Qv (Xj z p.D.b []) (Xj z y 0) v).2 else 0,if 2<s then(Qv (Xj z [] p.D.b) (Xj z 0 y) v).2 else 0))) (λs _=>3-s) 0 rfl ⟨Mod.refl _ _,Q9 _,hL6,hH6⟩ ?_;rintro s w7 ⟨XH,qg,Dj,Z⟩;have hbz:g<=A.heap.size:=by have:=N.size;omega
  have rQf:H.heap.size=A.heap.size+1:=KA;have TX:w.heap.size<A.heap.size:=by omega
  have gQ1:∀k,k<A.heap.size->¬(k=A.heap.size∨k=H.heap.size):=λk hk e=>by omega
  have hlx:=hK.off p.lx (by simp);have Xq:Ext w w7:=XH.ext XJ λi q=>ω;have Y6:Ext E w7:=XH.ext (M.trans U) λi q=>ω;have ag:Ext A w7:=XH.ext U λi q=>ω;have Q2:=QU.ext ag;have S:=aP.ext ag;have Yr:=dO.ext ag;have aa:=XH.size;have nLX:=gQ1 p.lx ω;have nB:=gQ1 w.heap.size TX;by_cases Q:s<3;obtain⟨m2',m3'⟩:=cQq z bO.2;obtain⟨B,X,d,b,r,I,J,EF,e1,e2,e3,e4,e5⟩:∃(B:Θ) (X d:Nat) (b:χ Br) (r I:Int),SB w7 B X d b/\X<=1000000000000/\(∀j u,([.slice B X d,.int .i64 r]:χ τ)[j]? =some u->(p.lC z)[s*2+j]? =some u)/\(jY (x,Xj z y 0,Xj z 0 y))[s]? =some (.int .i64 I)/\(jY (if 0<s then(Qv p.D.a x v).1 else 0,if 1<s then(Qv (Xj z p.D.b []) (Xj z y 0) v).1 else 0,if 2<s then(Qv (Xj z [] p.D.b) (Xj z 0 y) v).1 else 0)).set s (.int .i64 (Qv b I v).1)=jY (if 0<s+1 then(Qv p.D.a x v).1 else 0,if 1<s+1 then(Qv (Xj z p.D.b []) (Xj z y 0) v).1 else 0,if 2<s+1 then(Qv (Xj z [] p.D.b) (Xj z 0 y) v).1 else 0)/\(jY (if 0<s then(Qv p.D.a x v).2 else 0,if 1<s then(Qv (Xj z p.D.b []) (Xj z y 0) v).2 else 0,if 2<s then(Qv (Xj z [] p.D.b) (Xj z 0 y) v).2 else 0)).set s (.int .i64 (Qv b I v).2)=jY (if 0<s+1 then(Qv p.D.a x v).2 else 0,if 1<s+1 then(Qv (Xj z p.D.b []) (Xj z y 0) v).2 else 0,if 2<s+1 then(Qv (Xj z [] p.D.b) (Xj z 0 y) v).2 else 0)/\I<b.length+2:=by obtain rfl|rfl|rfl:=(show s=0∨s=1∨s=2 by omega);exact⟨_,_,_,_,p.D.ra,x,S.as_,bO.1,λj u f=>match j,f with|0,f=>f|1,f=>f,rfl,rfl,rfl,ω⟩;exact⟨_,_,_,_,Xj z p.D.rb 0,Xj z y 0,(N5 z S.bs).1,m2',λj u f=>match j,f with|0,f=>f|1,f=>f,rfl,rfl,rfl,by cases z;exact(by show y<(p.D.b.length:Int)+2;omega);exact(show(0:Int)<((0:Nat):Int)+2 by decide)⟩;exact⟨_,_,_,_,Xj z 0 p.D.rb,Xj z 0 y,(N5 z S.bs).2,m3',λj u f=>match j,f with|0,f=>f|1,f=>f,rfl,rfl,rfl,by cases z;exact(show(0:Int)<((0:Nat):Int)+2 by decide);exact(by show y<(p.D.b.length:Int)+2;omega)⟩
  refine Zm ω (Xw (Mod (λi=>i=A.heap.size∨i=H.heap.size) w7) 17 ((oz 9 0 ((false,9)::(oz 4 10 [(false,14),(true,15),(false,16)])))) (Mod.of_ext _ (Ext.drew w7)) (KU Q ?_));refine Xe (vs:=[.slice B X d,.int .i64 r]) rfl (λl o j v f=>by
   rw[add_add,(S.lxb.mod o nLX).cell];exact e1 j v f) ?_
  refine index Q (Qx (v:=.int .i64 I) (λl o=>by rw[(Q2.mod o nB).cell];exact e2) (call (Cd B X d r I v b _ (J.ext (Ext.drew w7)) (by have:=J.2;omega) Kp) ?_));rintro u w8 ⟨rfl,QY⟩;have lG:=(Ext.drew w7).trans QY;refine⟨Mod.of_ext _ lG,?_⟩;refine index Q (Xv (Dj.ext lG) Q λw9 Xy hL9=>?_);have sN:Mod (λi=>i=A.heap.size∨i=H.heap.size) w7 w9:=(Mod.of_ext _ lG).trans Xy λi q=>.inl (.inl q);refine⟨sN,?_⟩;have VL:=sN.size;refine index Q (Xv (((Z.ext lG).mod Xy (by show¬H.heap.size=A.heap.size;omega))) Q λQu ZI rQg=>?_);have HZ:Mod (λi=>i=A.heap.size∨i=H.heap.size) w7 Qu:=sN.trans ZI λi q=>.inl (.inr q);refine⟨HZ,?_⟩;have rQh:=hL9.mod ZI (by show¬A.heap.size=H.heap.size;omega);refine QF s ?_;exact⟨s+1,rfl,⟨XH.trans HZ λ_=>.inl,Q,e3▸rQh,e4▸rQg⟩,QL⟩;have:s=3:=by omega
  subst this;refine XB (show¬((3:Nat):Int)<3 by decide) ?_;obtain⟨q1,q2⟩:=mQa z p.D.b y Kp;replace Dj:Blk w7 A.heap.size 242 (jY ((Qv p.D.a x v).1,Xj z (Qv p.D.b y v).1 0,Xj z 0 (Qv p.D.b y v).1)):=by rw[q1,q2] at Dj;exact Dj
  replace Z:Blk w7 H.heap.size 242 (jY ((Qv p.D.a x v).2,Xj z (Qv p.D.b y v).2 0,Xj z 0 (Qv p.D.b y v).2)):=by rw[q1,q2] at Z;exact Z
  have iO:QB p.D.a x=v∨QB p.D.b y=v:=by rw[<-TW,KG];split<;>simp
  have dec:(Qv p.D.a x v).1+(Qv p.D.b y v).1<x+y/\(Qv p.D.a x v).2+(Qv p.D.b y v).2<x+y:=by obtain e|e:=iO;have:=s5 e;omega;have:=t5 e;omega
  have sm1:=GD W J p.D.op m (Qv p.D.a x v).1 (Qv p.D.b y v).1 C s1 t1 ω ω;have sm2:=GD W J p.D.op m (Qv p.D.a x v).2 (Qv p.D.b y v).2 (Zh p.D.a p.D.b p.D.op m (Qv p.D.a x v).1 (Qv p.D.b y v).1 C).2 s3 t3 ω ω;have mo2:=uW p.D.a p.D.b p.D.op m (Qv p.D.a x v).2 (Qv p.D.b y v).2 (Zh p.D.a p.D.b p.D.op m (Qv p.D.a x v).1 (Qv p.D.b y v).1 C).2;have V:=ih (Qv p.D.a x v).1 (Qv p.D.b y v).1 C NA R w7 S Yr s1 t1 ω ω ω;have O:=λN1 n1 l h1 K=>ih (Qv p.D.a x v).2 (Qv p.D.b y v).2 (Zh p.D.a p.D.b p.D.op m (Qv p.D.a x v).1 (Qv p.D.b y v).1 C).2 N1 n1 l h1 K s3 t3 ω ω ω;generalize (Zh p.D.a p.D.b p.D.op m (Qv p.D.a x v).1 (Qv p.D.b y v).1 C)=Y at*;generalize (Zh p.D.a p.D.b p.D.op m (Qv p.D.a x v).2 (Qv p.D.b y v).2 Y.2)=D at*;have ul:=Gc ⟨v,Y.1,D.1⟩ D.2.1;have ul2:(Kc ⟨v,Y.1,D.1⟩ D.2.1).1.length<=D.2.1.length+1:=by unfold Kc;split;exact Nat.le_succ _;split;exact Nat.le_succ _;simp
  simp only at Vh;refine QQ S.axb rfl (Qm Dj (call (V ω) ?_));rintro _ QJ ⟨rfl,N1,n1,HV,ZH,fQJ⟩;have rQi:=Z.lt;have sS:=P.bd.own.rows;obtain⟨l1,l2,l3⟩:=P.lt;obtain⟨b1,b2,b3⟩:=P.bd.lt;have new:∀k,w.heap.size<=k->¬CS p NA k:=λk hk e=>by obtain e|e|e|e:=e;omega;omega;omega;have:=(sS k e).2;omega
  have zw:=S.mod EH ZH;have rQj:=Z.mod ZH (new _ ω);have ZC:=Q2.mod ZH (new _ (Qw _));have kg:∀i,Qj N1 i->g<=i:=λi q=>(HV.bd.own.rows i q).1;have nw1:∀k,w.heap.size<=k->k<w7.heap.size->¬CS p N1 k:=λk hk h7 e=>by obtain e|e:=CS.moved fQJ k e;exact new k hk e;omega
  have kl:=ZH.size;have tQl:=Q2.lt;refine Xw (Mod (CS p N1) QJ) 8 (oz 5 0 [(false,5),(false,6),(true,7)]) (Mod.of_ext _ (Ext.drew QJ)) ?_;have nof:=λk hk=>CS.no (p:=p) kg (zw.off k hk);refine Qx (v:=VP.ptr p.pb) (λl o=>by rw[(zw.bxb.mod o (nof _ (by simp))).cell0];rfl) (Qx (v:=p.clo) (λl o=>by rw[(zw.axb.mod o (nof _ (by simp))).cell0];rfl) (Xe (vs:=jY ((Qv p.D.a x v).2,Xj z (Qv p.D.b y v).2 0,Xj z 0 (Qv p.D.b y v).2)) rfl (λl o j v f=>by rw[(rQj.mod o (nw1 _ ω rQi)).cell];exact f) (call (O N1 n1 _ (zw.ext (Ext.drew QJ)) (HV.ext (Ext.drew QJ)) ω) ?_)));rintro _ Xk ⟨rfl,N2,n2,nU,co,P9⟩;have H0:Mod (CS p N1) QJ Xk:=(Mod.of_ext _ (Ext.drew QJ)).trans co λ_=>.inl;have fQK:Moved QJ N1 N2:=P9.back (Ext.drew QJ).size;refine⟨H0,?_⟩;have YO:∀i,Qj N2 i->g<=i:=λi q=>(nU.bd.own.rows i q).1
  refine call (lQ4 g p.pb p.km N2 n2 D.2.1 ⟨v,Y.1,D.1⟩ Xk nU.bd ω) ?_;rintro _ Zy ⟨rfl,N3,n3,T,VJ,rQk⟩;have rQl:Mod (CS p N2) Xk Zy:=VJ.mono λi q=>.inl (.inr q);have H1:Mod (CS p N1) QJ Zy:=CS.trans H0 fQK rQl;refine⟨H1,?_⟩;have uQa:=zw.mod kg H0;have rQm:=zw.mod kg H1;have KB:=ZC.mod H1 (nw1 _ (Qw _) tQl);obtain⟨mq2,PO,rQn⟩:=nU.memo;have rQo:MapQ nF Zy p.mm mq2:=PO.mod VJ (λe=>by
   obtain e|e|e:=e;exact l2 e;exact l3 e;have:=YO _ e;omega)
  refine QQ rQm.mxb rfl (Qm KB (Bv (kv:=nF) (a:=((x,Xj z y 0,Xj z 0 y):I3)) Qe rfl rfl rfl rfl cQp rfl rfl rfl rQo λZe cq uQb rQp=>?_));have ZV:∀k,k≠p.mm->¬(k=p.mm):=λk h=>h;obtain⟨d1,d2,d3⟩:=T.lt;have Rv:∀i,Qj N3 i->g<=i:=λi q=>(T.own.rows i q).1
  obtain⟨kq,hkq,LW⟩:=T.known;have rQq:Bd Ze g p.pb p.km N3 n3 (Kc ⟨v,Y.1,D.1⟩ D.2.1).1:=⟨T.blk.mod cq λe=>l2 e.symm,T.own.mod cq (λi q e=>by have:=Rv i q;have e':i=p.mm:=e;omega),⟨kq,hkq.mod cq λe=>l3 e.symm,LW⟩,T.lt,XU T.top cq.size⟩
  have rQr:Mod (CS p NA) w w7:=Mod.of_ext _ Xq;have uQc:Moved w NA NA:=Moved.refl _ _;have fQL:Mod (CS p NA) w QJ:=rQr.trans ZH λ_=>.inl;have fQM:Moved w NA N1:=fQJ.back Xq.size;have rQs:Mod (CS p NA) w Zy:=CS.trans fQL fQM H1;have zz:Mod (CS p NA) w Ze:=rQs.trans cq λi q=>.inl (.inl q);have rQt:Moved w NA N3:=fQM.trans (fQK.trans rQk H0.size) fQL.size;refine⟨rfl,N3,n3,⟨rQq,⟨_,rQp,λx' I=>?_⟩,P.lt⟩,zz,rQt⟩;have Xo:D.2.2.find? (λt=>decide (t.1=x/\t.2.1=y))=none:=by rw[My];intro t ht L;simp only[YX] at L;obtain h1|h1:=sm2 t ht;obtain K|K:=sm1 t h1;have:=My.1 k t K;simp only[YX] at this;exact this L;omega;omega
  rw[fc,rQn,Ci,Ci,List.find?_append];by_cases JQ:(x',I)=(x,y)
  cases JQ;rw[Qf rfl,Xo];simp;rw[φ λe=>JQ (lQ9 e)];have: [(x,y,(Kc ⟨v,Y.1,D.1⟩ D.2.1).2)].find? (λt:Tr3=>decide (t.1=x'/\t.2.1=I))=none:=by rw[hQo];rfl;simp only[YX];exactλe=>JQ (by rw[e.1,e.2])
  rw[this];simp
theorem mQd (w:θ):Fn ψ 187 [] w (λv a=>v=VP.ptr (w.heap.size+1)/\Ext w a/\a.heap.size=w.heap.size+2/\Blk a (w.heap.size+1) 177 [.slice none 0 0,.map (some w.heap.size)]/\MapQ fU a w.heap.size []):=by refine QK jQC [] Tryz.func187 ?_;refine Bu Qe fU rfl ?_;intro b d a e;refine new λf b g c=>?_;rw[a] at c;exact⟨by rw[a];rfl,d.trans b,ω,c,e.ext b⟩
theorem cQs (z:Bool)(A:Θ)(n c:Nat)(a:χ Br)(g:Int)(B:Θ)(m d:Nat)(b:χ Br)(f s:Int)(F r:Nat)(w:θ)(Z:Xj z (Cf F s) (s=4))(h:SB w A n c a)(G:SB w B m d b)(N:Xj z (Blk w r 139 [.func (.func F) #[] #[]]) True)(O:bu a)(P:bu b)(Q:0<=g)(r1:g<n+2)(R:0<=f)(s1:f<m+2)(hn:n<=1000000000000)(hm:m<=1000000000000)(S:(nA a g b f s).2.1.length<=100000000000):Fn ψ 128 [.agg #[.slice A n c,.int .i64 g,.slice (Xj z B none) (Xj z m 0) (Xj z d 0),.int .i64 (Xj z f 0),.slice (Xj z none B) (Xj z 0 m) (Xj z 0 d),.int .i64 (Xj z 0 f)],Ch z r] w (F7 w (Wg a g b f s)):=by
 have l:=h.2;have l:=G.2;refine QK iQN [] Tryz.func128 ?_;refine new λT M l Qh=>?_;refine new λC U l Qs=>?_;refine new λu H l Qt=>?_;refine call (mQd u) ?_;rintro _ I ⟨rfl,q,l,QU,J⟩;refine new λy E K l=>?_;refine Xv (j:=0) l δ λw6 y Xi=>?_;have X7:Ext I w6:=y.ext E λi l=>ω;refine Bu Qe nF rfl ?_;intro V Xq E vR;refine new λE K W L=>?_;refine Xv (j:=0) L δ λw9 E XX=>?_;have W:Ext V w9:=E.ext K λi l=>ω;refine new λL Y X K=>?_;refine Xv (j:=0) K δ λQJ L X=>?_;have K:=y.size;have y:=E.size;have y:=L.size;have K:Ext w9 QJ:=L.ext Y λi l=>ω;have Y:Ext w6 QJ:=(Xq.trans W).trans K;have L:Ext I QJ:=X7.trans Y;have y:=q;have E:Ext u QJ:=q.trans L;have y:Ext w QJ:=((M.trans U).trans H).trans E;let D:AD:=⟨A,n,c,a,g,B,m,d,b,f,s⟩
 obtain⟨q,uQd,Vj,M⟩:∃o,o<C.heap.size/\Ch z r=Ch z o/\Xj z (Blk QJ o 139 [.func (.func F) #[] #[]]) True:=by cases z;exact⟨r,by have:=Blk.lt N;omega,rfl,Blk.ext N y⟩;exact⟨T.heap.size,ω,rfl,trivial⟩
 let p:CP:=⟨T.heap.size,q,V.heap.size,w.heap.size,w9.heap.size,I.heap.size,u.heap.size+1,u.heap.size,w6.heap.size,F,D⟩
 have r:=X.lt;have u:CK z QJ QJ.heap.size p:=by
  refine⟨Z,by show Blk _ _ _ [Ch z q];rw[<-Vj];exact Qs.ext (H.trans E),M,XX.ext K,Qh.ext ((U.trans H).trans E),X,Xi.ext Y,h.ext y,G.ext y,λk r=>?_,λq e H=>?_,λq e H=>?_⟩;simp only[p] at r ⊢;obtain rfl|rfl|rfl|rfl|rfl|rfl:=r <;>omega
  have:=SB.lt h q e H;simp only[p];omega;have:=SB.lt G q e H;simp only[p];omega
 have I:CSt z QJ QJ.heap.size p none 0 ([],[]):=by refine⟨⟨QU.ext L,Own.nil _ _ _ _,⟨[],J.ext L,λ_=>rfl⟩,?_,Qw _⟩,⟨[],vR.ext (W.trans K),λ_ _=>rfl⟩,?_⟩;simp only[p];omega;simp only[p];omega
 have H:∀i,Qj none i->QJ.heap.size<=i:=λi l=>by obtain⟨_,e,_⟩:=l;cases e
 have q:=λk r=>CS.no (p:=p) H (u.off k r);refine Xw (Mod (CS p none) QJ) 14 (oz 12 0 [(false,12),(false,13)]) (Mod.of_ext _ (Ext.drew QJ)) (Qx (v:=VP.ptr p.pb) (λG r=>by rw[(u.bxb.mod r (q _ (by simp))).cell0];rfl) (Qx (v:=p.clo) (λG r=>by rw[(u.axb.mod r (q _ (by simp))).cell0];rfl) (KU (j:=0) δ (Qx (v:=.int .i64 g) (λG r=>by rw[add_add,(u.lxb.mod r (q _ (by simp))).cell];rfl) (KU (j:=1) δ (Qx (v:=.int .i64 (Xj z f 0)) (λG r=>by rw[add_add,(u.lxb.mod r (q _ (by simp))).cell];rfl) (KU (j:=2) δ ?_)))))));refine Qx (v:=.int .i64 (Xj z 0 f)) (λG r=>by rw[add_add,(u.lxb.mod r (q _ (by simp))).cell];rfl) ?_;have q:=Gd O P s (g.toNat+f.toNat+1) g f ([],[]) ⟨λj x r=>by simp at r,λt G=>by simp at G⟩ Q R ω ω;refine call (cQr z QJ.heap.size p O P ⟨hn,hm⟩ (g.toNat+f.toNat+1) g f ([],[]) none 0 _ (u.ext (Ext.drew QJ)) (I.ext (Ext.drew QJ)) Q R ω r1 s1 S) ?_;rintro _ Xk ⟨rfl,G,I,J,r,u⟩;have u:Mod (CS p none) QJ Xk:=(Mod.of_ext _ (Ext.drew QJ)).trans r λ_=>.inl;refine⟨u,?_⟩;have r:(Zh a b s (g.toNat+f.toNat+1) g f ([],[])).2.1.length<=100000000000:=S;have r:SB Xk G _ I _:=⟨J.bd.own.sl,rfl⟩
 refine call (bQp p.pb (.map (some p.km)) G _ I _ _ Xk J.bd.blk r q.1.1 (by show(Zh a b s (g.toNat+f.toNat+1) g f ([],[])).2.1.length<=_;omega) q.2.1 q.2.2 (SB.lt r)) ?_;rintro _ Zy ⟨q,k,G,rfl,f,r,s⟩;have g:Mod (CS p none) QJ Zy:=u.trans (Mod.of_ext (CS p none) f) λ_=>.inl;refine⟨g,?_⟩;have f:¬CS p none C.heap.size:=CS.no (p:=p) H (by simp only[p];omega);have H:=(Qt.ext E).mod g f;refine Qo H λZe E _ I=>?_;have f:Mod (·=C.heap.size) Zy Ze:=vQB E rfl;refine Qm I ?_;have E:Ext w Zy:=g.ext y (λi l=>by
  obtain e|e|e|⟨_,e,_⟩:=l;simp only[p] at e;omega;simp only[p] at e;omega;simp only[p] at e;omega;cases e)
 have g:=u.size;have g:∀i,Qj q i->¬i=C.heap.size:=λi l e=>by have:=s i l;omega
 refine⟨q,k,G,rfl,f.ext E λi l=>ω,⟨r.1.modS f λ_ i l=>g i l,r.2⟩,λi l=>by have:=s i l;have:=y.size;omega⟩
theorem N6 (A:Θ)(n c:Nat)(a:χ Br)(f:Int)(B:Θ)(m d:Nat)(b:χ Br)(g r:Int)(F:Nat)(w:θ)(hF:Cf F r)(h:SB w A n c a)(D:SB w B m d b):Fn ψ 82 [Q5 A n c f,Q5 B m d g,.func (.func F) #[] #[]] w (pA w (dD a f b g r)):=by
 have JM:=h.2;have cZ:=D.2;refine QK c82 [] Tryz.func82 ?_;refine new λw1 Qd Q0 Qh=>?_;refine new λV N XR Qs=>?_;refine new λW Qi JI Qt=>?_;refine new λX O Ku L=>?_;have z:=Qi.trans O;have s:=(Qd.trans N).trans z;have J:=(Qh.ext N).ext z;have U:=Qs.ext z;have ki:=Qt.ext O;refine Qm J (Qm U (WC (⟨A,n,c,a,f⟩:DV).cells (⟨B,m,d,b,g⟩:DV).cells ?_));intro Y K KA QC;have I:=s.trans K;have hL:SlS DV.cells 2 Y (some ⟨X.heap.size,0,none⟩) 2 2 [⟨A,n,c,a,f⟩,⟨B,m,d,b,g⟩]:=⟨Sl.own (sz:=2) (n:=2) QC (Qw _) δ (by simp[DV.cells]),rfl⟩
 refine call (GA _ 2 2 _ Y hL (λx T=>by
  simp only[XI,d5,eX] at T;obtain rfl|rfl:=T;exact h.ext I;exact D.ext I)) ?_
 rintro v G ⟨rfl,Q7⟩;have o:=K.trans Q7;have t:=s.trans o;have E:=L.ext o;have uQf:=o.size;have S:cg [(⟨A,n,c,a,f⟩:DV),⟨B,m,d,b,g⟩]=if XN a f≠0 then XN a f else if XN b g≠0 then XN b g else 0:=rfl
 refine Ya (λl=>?_) λl=>?_;have e:dD a f b g r=(([],0),cg [(⟨A,n,c,a,f⟩:DV),⟨B,m,d,b,g⟩]):=by rw[S] at l ⊢;unfold dD;split;rfl;rename_i j;rw[φ j] at l;split;rfl;rename_i vL;rw[φ vL] at l;exact Xg rfl l
 rw[e];refine Qo E λw7 Zn _ Q2=>?_;have XH:Mod (·=W.heap.size) G w7:=vQB Zn rfl;refine Qm Q2 ?_;exact⟨none,0,0,rfl,XH.ext t λi p=>ω,SlS.nil _,λi ⟨_,e,_⟩=>by cases e⟩;rw[S] at l;have C:XN a f=0:=by by_cases j:XN a f=0;exact j;rw[Qf j] at l;exact l
 have R:XN b g=0:=by rw[φ λj=>j C] at l;by_cases j:XN b g=0;exact j;rw[Qf j] at l;exact l
 obtain⟨sa,u⟩:=gM.1 C;obtain⟨sb,y⟩:=gM.1 R;have e:dD a f b g r=ei (Wg a f b g r):=by unfold dD;rw[φ λj=>j C,φ λj=>j R]
 rw[e];have hb2:=yz u y r;have tV:(a.length+2)*(b.length+2)<=4098*4098:=Fr ω ω;refine Qm (J.ext o) (Qm (U.ext o) ?_);have Av:Blk G V.heap.size 139 [.func (.func F) #[] #[]]:=ki.ext o;refine call (cQs false A n c a f B m d b g r F V.heap.size G hF (h.ext t) (D.ext t) Av u.dok y.dok u.2.1 (by have:=u.2.2.1;omega) y.2.1 (by have:=y.2.2.1;omega) ω ω ω) ?_;rintro v w7 ⟨OA,k,oc,rfl,Xq,qi,Ye⟩;have Q:=o.trans Xq;have JE:=s.trans Q;have z67:=t.size;refine call (cQo OA k oc _ _ X w7 qi (λi p=>by have:=Ye i p;omega) Q) ?_;rintro v w8 ⟨PA,q,pc,rfl,M,H,Z⟩;refine Qo (L.ext M) λw9 J2 _ XX=>?_;have P:Mod (·=W.heap.size) w8 w9:=vQB J2 rfl;refine Qm XX ?_;refine⟨PA,q,pc,rfl,P.ext (s.trans M) λi p=>ω,⟨H.1.modS P (λ_ i p e=>by have:=Z i p;omega),H.2⟩,λi p=>by have:=Z i p;omega⟩
theorem Cj (A:Θ)(n c:Nat)(a:χ Br)(e:Int)(B:Θ)(m d:Nat)(b:χ Br)(f:Int)(w:θ)(h:SB w A n c a)(l:SB w B m d b):Fn ψ 36 [Q5 A n c e,Q5 B m d f] w (pA w (dD a e b f 0)):=by refine QK c36 [] Tryz.func36 ?_;refine new λg o j p=>?_;refine new λs k g t=>?_;refine new λu g j x=>?_;have j:=(o.trans k).trans g;refine Qm ((p.ext k).ext g) ?_;refine Qm (t.ext g) ?_;refine call (N6 A n c a e B m d b f 0 84 u (.inl ⟨rfl,rfl⟩) (h.ext j) (l.ext j)) ?_;rintro v k ⟨l,q,o,rfl,g,p,t⟩;refine Qo (x.ext g) λw5 u _ y=>?_;have x:Mod (·=s.heap.size) k w5:=vQB u rfl;refine Qm y ?_;obtain⟨k,s,u⟩:=NP (r:=dD a e b f 0) (j.trans g) x ω p (λi y=>by have:=t i y;omega);exact⟨l,q,o,rfl,k,s,u⟩
theorem cQt (A:Θ)(n c:Nat)(a:χ Br)(e:Int)(B:Θ)(m d:Nat)(b:χ Br)(f:Int)(w:θ)(h:SB w A n c a)(l:SB w B m d b):Fn ψ 101 [Q5 A n c e,Q5 B m d f] w (pA w (dD a e b f 1)):=by refine QK iQo [] Tryz.func101 ?_;refine new λg o j p=>?_;refine new λs k g t=>?_;refine new λu g j x=>?_;have j:=(o.trans k).trans g;refine Qm ((p.ext k).ext g) ?_;refine Qm (t.ext g) ?_;refine call (N6 A n c a e B m d b f 1 155 u (.inr (.inl ⟨rfl,rfl⟩)) (h.ext j) (l.ext j)) ?_;rintro v k ⟨l,q,o,rfl,g,p,t⟩;refine Qo (x.ext g) λw5 u _ y=>?_;have x:Mod (·=s.heap.size) k w5:=vQB u rfl;refine Qm y ?_;obtain⟨k,s,u⟩:=NP (r:=dD a e b f 1) (j.trans g) x ω p (λi y=>by have:=t i y;omega);exact⟨l,q,o,rfl,k,s,u⟩
theorem N7 (A:Θ)(n c:Nat)(a:χ Br)(b:Int)(w:θ)(h:SB w A n c a):Fn ψ 35 [Q5 A n c b] w (pA w (dD a b [] 0 3)):=by refine QK c35 [] Tryz.func35 ?_;refine new λf g d j=>?_;refine new λk d e l=>?_;have e:=g.trans d;refine Qm (j.ext d) ?_;refine call (N6 A n c a b none 0 0 [] 0 3 83 k (.inr (.inr ⟨rfl,rfl⟩)) (h.ext e) (SlS.nil _)) ?_;rintro v g ⟨j,q,k,rfl,d,m,o⟩;refine Qo (l.ext d) λw5 p _ s=>?_;have l:Mod (·=f.heap.size) g w5:=vQB p rfl;refine Qm s ?_;obtain⟨f,g,p⟩:=NP (r:=dD a b [] 0 3) (e.trans d) l ω m (λi s=>by have:=o i s;omega);exact⟨j,q,k,rfl,f,g,p⟩
end
section
section
variable {α:Type} {f:α->List Value} {sz:Nat}
theorem cQu (a:∀x,(f x).length=sz):∀(l:χ α)(j:Nat),(l.flatMap f).take (j*sz)=(l.take j).flatMap f|[],j=>by simp|x::l,0=>by simp|x::l,j+1=>by rw[dk,xQ,dk,<-cQu a l j,Mq];rw[ZJ (by rw[a,jM];omega),a,show(j+1)*sz-sz=j*sz by rw[jM];omega]
theorem cQv (a:∀x,(f x).length=sz):∀(l:χ α)(j:Nat),(l.flatMap f).drop (j*sz)=(l.drop j).flatMap f|[],j=>by simp|x::l,0=>by simp|x::l,j+1=>by rw[dk,U5,<-cQv a l j,List.drop_append];rw[fK (by rw[a,jM];omega),a,show(j+1)*sz-sz=j*sz by rw[jM];omega];rfl
theorem N8 (a:∀x,(f x).length=sz)(l:χ α){j:Nat}(x:α)(b:j<l.length):Ym (j*sz) (f x) (l.flatMap f)=(l.set j x).flatMap f:=by have c:(j+1)*sz<=l.length*sz:=aY _ b;rw[jM] at c;rw[nv _ _ _ (by rw[a,gJ a];exact c),a,cQu a,<-jM,cQv a,List.set_eq_take_append_cons_drop,Qf b];simp
theorem mQe (a:∀x,(f x).length=sz)(h:0<sz){z:α}{b:Array τ}(d:b.toList=f z)(n:Nat):(madeCells b (n*sz)).toList=(List.replicate n z).flatMap f:=by
 have k:b.size=sz:=by rw[<-Array.length_toList,d,a]
 apply Fh;intro i;by_cases g:i<n*sz;have j:i/sz<n:=Nat.div_lt_of_lt_mul (by rw[AN];exact g);have c:i % sz<sz:=dq _ h;have m:i/sz*sz+i % sz=i:=by rw[AN];exact Nat.div_add_mod i sz
 have o:(List.replicate n z)[i/sz]? =some z:=by rw[List.getElem?_replicate,Qf j]
 have h:=Q6 (l:=f z) (i:=i % sz) (by rw[a];exact c);have j:=gK a _ _ _ _ _ o h;rw[m] at j;rw[j];have e:b[i % b.size]! =(f z)[i % sz]'(by rw[a];exact c):=by
  have j:b[i % sz]? =some ((f z)[i % sz]'(by rw[a];exact c)):=by rw[<-Array.getElem?_toList,d];exact h
  rw[k,Array.getElem!_eq_getD,Array.getD_eq_getD_getElem?,j]<;>rfl
 simp[madeCells,g,e];rw[uu (by simp[madeCells];omega),uu (by rw[gJ a];simp;omega)]
theorem mQf (d:∀x,(f x).length=sz)(l:0<sz)(z:α){c:Cx}(h:c.g.Ok){o:Oper}{S:Env}{w:θ}{K:Env->θ->Prop}{Q:ZD}{t e:Nat}{x y:Operand}{n:Nat}{r b:TyRow}(m:o.op= .makeSlice t x y)(p:Q8 c.g.tys t=some r)(q:r.d= .slice e)(j:Q8 c.g.tys e=some b)(s:b.z.cells.toList=f z)(u:b.sz=sz) (A:S.ev x=some (.int .i64 n)) (B:S.ev y=some (.int .i64 n)) (D:b.by_*n<=281474976710656) (C:n<=maxLen)(k:∀g,Ext w g->g.heap.size=w.heap.size+1->Blk g w.heap.size e ((List.replicate n z).flatMap f)->XD c S o.dst (.v (.slice (some ⟨w.heap.size,0,none⟩) n n)) λS=>K S g):Zv c o S w K Q:=by
 obtain⟨_,i,D,E,F,G⟩:=h.row j;have j:=(h.row p).1;rw[q] at j;have g:=run_make (P:=c.g.P) w t e i b.z j D G .i64 .i64 n n ω ω (by rw[F];omega) (by unfold maxLen at C;omega);have h:=mQe d l s n;rw[E,u] at g;simp only[WX] at g;refine Kr (w':=w.alloc (.cells (madeCells b.z.cells (n*sz)) e)) (v:=.slice (some ⟨w.heap.size,0,none⟩) n n) (λa d=>?_) (k _ (Ext.alloc w _) (by simp) ?_);have j:=d.ev A;have l:=d.ev B;simp only[execOp,m,j,l];simp at g ⊢;rw[g]<;>rfl
 rw[<-h];simpa using Blk.new w e (madeCells b.z.cells (n*sz)).toList
end
end
section
structure DgI (w0:World) (g:Nat) (f:List Fz) (k n s:Nat) (L:List DV) (w:World):Prop where
 m:Mod (·=g) w0 w
 blk:Blk w g 32 (L.flatMap DV.cells)
 len:L.length=n
 got:∀j,j<s->∃x t,L[j]? =some x/\RepF f t j/\SB w x.A x.n x.c x.nd/\Set1 k x.nd x.r (evF t)/\∀i,Qj x.A i->g<i
theorem SB.mod {S:Nat->Prop}{w a:θ}{A:Θ}{n c:Nat}{nd:χ Br}(h:SB w A n c nd)(b:Mod S w a)(d:∀i,Qj A i->¬S i):SB a A n c nd:=⟨h.1.modS b λ_ i a=>d i a,h.2⟩
theorem DgI.mod {b w w':θ}{g:Nat}{f:χ Fz}{k n s:Nat}{L:χ DV}(h:DgI b g f k n s L w)(a:Ext w w'):DgI b g f k n s L w':=
 ⟨h.m.trans (Mod.of_ext (·=g) a) λ_=>.inl,h.blk.ext a,h.len,λj b=>by
  obtain⟨x,t,c,d,e,i,l⟩:=h.got j b;exact⟨x,t,c,d,e.ext a,i,l⟩⟩
theorem DgI.put {b w w':θ}{g:Nat}{f:χ Fz}{k n s:Nat}{L:χ DV}(h:DgI b g f k n s L w)(p:s<n){x:DV}{t:Fm}(l:RepF f t s)(m:SB w x.A x.n x.c x.nd)(o:Set1 k x.nd x.r (evF t))(c:∀i,Qj x.A i->g<i)(a:Mod (·=g) w w')(d:Blk w' g 32 (Ym (s*2) x.cells (L.flatMap DV.cells))):DgI b g f k n (s+1) (L.set s x) w':=by have b:=h.len;refine⟨h.m.trans a λ_=>.inl,by rw[<-N8 bw L x ω];exact d,by rw[jL];exact b,λj d=>?_⟩;by_cases d:j=s;subst d;exact⟨x,t,by rw[mS ω],l,m.mod a (λi b e=>by have:=c i b;omega),o,c⟩;obtain⟨y,u,l,m,o,p,c⟩:=h.got j ω;exact⟨y,u,by rw[jN λe=>d e.symm];exact l,m,o.mod a (λi b e=>by have:=c i b;omega),p,c⟩
def DgC (g s:Nat)(L:χ DV)(w a:θ):Prop:=Mod (·=g) w a/\∀(j:Nat)(x:DV),j≠s->L[j]? =some x->∀(i:Nat)(v:τ),x.cells[i]? =some v->a.cell? ((⟨g,0,none⟩:Addr).add (j*2+i))=some v
theorem DgC.of_ext {g s:Nat}{L:χ DV}{w w':θ}(a:Blk w g 32 (L.flatMap DV.cells))(h:Ext w w'):DgC g s L w w':=
 ⟨Mod.of_ext _ h,λj x _ b i v c=>by rw[(a.ext h).cell];exact gK bw _ _ _ _ _ b c⟩
theorem DgC.put {g s:Nat}{L:χ DV}{w a w':θ}{x:DV}(b:s<L.length)(h:Ext w a)(c:Mod (·=g) a w')(d:Blk w' g 32 (Ym (s*2) x.cells (L.flatMap DV.cells))):DgC g s L w w':=
 ⟨(
  Mod.of_ext (·=g) h).trans c λ_=>.inl,λj y a c i v f=>by
  rw[d.cell,N8 bw L x b];exact gK bw _ _ _ _ _ (by rw[jN λe=>a e.symm];exact c) f⟩
theorem FV.rep {f:χ Fz}(h:FV f){i:Nat}(a:i<f.length):∃t,RepF f t i:=kQ5 h.2.2.1 i a
theorem mQg (F:Θ)(n cF:Nat)(f:χ Fz)(k:Nat)(hk:k<=12)(w:θ)(h:SF w F n cF f)(hv:FV f)(xj:Nx k f):Fn ψ 203 [.slice F n cF] w (λv R=>∃A m c nd r,v= .tuple #[Q5 A m c r,.int .i64 0]/\Ext w R/\SB R A m c nd/\Set1 k nd r (evF (BJ f))/\∀i,Qj A i->w.heap.size<i):=by
 have hn:=h.2;have hvl:=hv.1;have iw:=hv.2.1;refine QK jQQ [] Tryz.func203 ?_;refine new λw1 Qd Q0 Qh=>?_;refine call (kQ3 F n cF f w1 (h.ext Qd)) ?_;rintro _ O ⟨rfl,Qg⟩;refine KT (F3 hv) ?_;have Q1:=Qd.trans Qg;refine mQf bw δ (⟨none,0,0,[],0⟩:DV) Qe rfl rfl rfl rfl rfl rfl rfl rfl (by show 32*n<=_;omega) (by unfold maxLen;omega) λw3 Qi JI Qt=>?_;have QT:=Q1.trans Qi;have rQd:=Q1.size;have XR:w1.heap.size<=O.heap.size:=Qg.size;refine loop Qe [17] (λs:Nat×χ DV=>[.int .i64 s.1]) (λs R=>DgI w3 O.heap.size f k n s.1 s.2 R/\s.1<=n) (λs _=>n-s.1) (0,List.replicate n ⟨none,0,0,[],0⟩) rfl ⟨⟨Mod.refl _ _,Qt,by simp,λj X=>Xg X (by simp)⟩,Q9 _⟩ ?_;rintro⟨s,L⟩ w4 ⟨hI,hs⟩;simp only at hI hs;have Qq:Ext w w4:=hI.m.ext QT λi d=>ω;have hL:=hI.len;refine Ql (λh1=>?_) λh1=>?_;have B:s<n:=by simp only at h1;omega
 refine XG kW (h.ext Qq) rfl B λp x hx hc=>?_;refine Jm (vs:=x.cells) rfl hc (new λw5 QH KA QC=>?_);refine Qo QC λw6 Vg eC N=>?_;have X7:Ext w4 w6:=X1 QH QC Vg;have o:=hI.mod X7;obtain⟨t,H⟩:=hv.rep (i:=s) ω;have Ku:=hI.m.size;have H4:=X7.size;have c0:Set1 k [] 0 (λ_=>false):=Y0 k false;have qR:∀i,Qj (none:Θ) i->O.heap.size<i:=λi d=>by obtain⟨_,e,_⟩:=d;cases e
 cases t with
 |c b=>
  cases b with
  |false=>have S:x=⟨0,0,0,0⟩:=Option.some.inj (hx.symm.trans H);subst S;refine QQ N rfl (JF rfl (QQ N rfl (call (fW false w6) ?_)));rintro _ V ⟨rfl,G⟩;have g:=o.mod G;refine KU (j:=s) B (iY (j:=s*2) (vs:=(⟨none,0,0,[],0⟩:DV).cells) g.blk (by rw[gJ bw,hL];show s*2+2<=n*2;omega) (sc rfl) λw8 T Wj P=>?_);have Q:Mod (·=O.heap.size) V w8:=vQB T rfl;have U:=g.put B (x:=⟨none,0,0,[],0⟩) H (SlS.nil _) (Y0 k false) qR Q P;refine KT rfl (QF s ?_);exact⟨(s+1,L.set s ⟨none,0,0,[],0⟩),rfl,⟨U,by show s+1<=n;omega⟩,QL⟩
  |true=>have S:x=⟨1,0,0,0⟩:=Option.some.inj (hx.symm.trans H);subst S;refine QQ N rfl (X6 (show¬(1:Int)=0 by decide) (JF rfl (QQ N rfl (call (fW true w6) ?_))));rintro _ V ⟨rfl,G⟩;have g:=o.mod G;refine KU (j:=s) B (iY (j:=s*2) (vs:=(⟨none,0,0,[],1⟩:DV).cells) g.blk (by rw[gJ bw,hL];show s*2+2<=n*2;omega) (sc rfl) λw8 T Wj P=>?_);have Q:Mod (·=O.heap.size) V w8:=vQB T rfl;have U:=g.put B (x:=⟨none,0,0,[],1⟩) H (SlS.nil _) (Y0 k true) qR Q P;refine KT rfl (QF s ?_);exact⟨(s+1,L.set s ⟨none,0,0,[],1⟩),rfl,⟨U,by show s+1<=n;omega⟩,QL⟩
 |v q=>
  have S:x=⟨2,(q:Nat),0,0⟩:=Option.some.inj (hx.symm.trans H);subst S;have hq:(q:Int)<k:=xj _ (Xd hx) rfl;refine QQ N rfl (X6 (show¬(2:Int)=0 by decide) (X6 (show¬(2:Int)=1 by decide) (JF rfl (Qp N rfl (call (N0 (q:Nat) w6 ω ω) ?_)))));rintro _ V ⟨C,J,I,rfl,G,kj,Ye⟩;have g:=o.mod G;have gz:Set1 k [⟨(q:Nat),0,1⟩] 2 (evF (.v q)):=⟨Gn ω ω,λb hb=>by simp only[Xx] at hb;subst hb;exact hq,λe=>by
   rw[gR (Gn (k:=((q:Nat):Int)) ω ω).wf δ (b:=⟨(q:Nat),0,1⟩) rfl,VY (by simp),VY (by simp)];cases h:e q<;>simp[evF,h]⟩
  refine KU (j:=s) B (iY (j:=s*2) (vs:=(⟨C,J,I,[⟨(q:Nat),0,1⟩],2⟩:DV).cells) g.blk (by rw[gJ bw,hL];show s*2+2<=n*2;omega) (sc rfl) λw8 T Wj P=>?_);have Q:Mod (·=O.heap.size) V w8:=vQB T rfl;have U:=g.put B (x:=⟨C,J,I,[⟨(q:Nat),0,1⟩],2⟩) H kj gz (λi d=>by have:=Ye i d;omega) Q P;refine KT rfl (QF s ?_);exact⟨(s+1,L.set s ⟨C,J,I,[⟨(q:Nat),0,1⟩],2⟩),rfl,⟨U,by show s+1<=n;omega⟩,QL⟩
 |not a=>
  obtain⟨j,X,Z,Y⟩:=H;have S:x=⟨3,0,(j:Nat),0⟩:=Option.some.inj (hx.symm.trans Z);subst S;obtain⟨y,u,hy,hu,gA,W,mi⟩:=o.got j X;obtain rfl:u=a:=vQC hu Y;have oI:=i9 hk W c0 3;have Zk:=fj W c0 3;have Jr:j<n:=by omega
  refine QQ N rfl (X6 (show¬(3:Int)=0 by decide) (X6 (show¬(3:Int)=1 by decide) (X6 (show¬(3:Int)=2 by decide) (JF rfl (Qp N rfl (KU (j:=j) Jr (fS (j:=j*2) (vs:=y.cells) o.blk rfl (λi v d=>gK bw _ _ _ _ _ hy d) ?_)))))));refine call (N7 y.A y.n y.c y.nd y.r w6 gA) ?_;rw[oI];rintro _ V ⟨C,J,I,rfl,G,kj,Ye⟩;have g:=o.mod G;have H:RepF f (.not u) s:=⟨j,X,Z,Y⟩
  generalize Wg y.nd y.r [] 0 3=D at*;obtain⟨K,M⟩:=D;have gz:Set1 k K M (evF (.not u)):=Zk.congr (λe=>by simp[J5,evF]);refine KU (j:=s) B (iY (j:=s*2) (vs:=(⟨C,J,I,K,M⟩:DV).cells) g.blk (by rw[gJ bw,hL];show s*2+2<=n*2;omega) (sc rfl) λw8 T Wj P=>?_);have Q:Mod (·=O.heap.size) V w8:=vQB T rfl;have U:=g.put B (x:=⟨C,J,I,K,M⟩) H kj gz (λi d=>by have:=Ye i d;omega) Q P;refine KT rfl (QF s ?_);exact⟨(s+1,L.set s ⟨C,J,I,K,M⟩),rfl,⟨U,by show s+1<=n;omega⟩,QL⟩
 |and a b=>
  obtain⟨j,l,X,hl,Z,Y,kD⟩:=H;have S:x=⟨4,0,(j:Nat),(l:Nat)⟩:=Option.some.inj (hx.symm.trans Z);subst S;obtain⟨y,u,hy,hu,gA,W,mi⟩:=o.got j X;obtain rfl:u=a:=vQC hu Y;obtain⟨z,u',hz,cB,kE,qS,TY⟩:=o.got l hl;obtain rfl:u'=b:=vQC cB kD;have oI:=i9 hk W qS 0;have Zk:=fj W qS 0;have Jr:j<n:=by omega
  have aU:l<n:=by omega
  refine QQ N rfl (X6 (show¬(4:Int)=0 by decide) (X6 (show¬(4:Int)=1 by decide) (X6 (show¬(4:Int)=2 by decide) (X6 (show¬(4:Int)=3 by decide) (JF rfl (Xw (DgC O.heap.size s L w6) 19 ((oz 12 0 ((false,12)::(oz 4 13 [(false,17),(true,18)])))) (DgC.of_ext o.blk (Ext.drew w6)) ?_))))));have EI:¬w4.heap.size=O.heap.size:=by omega
  refine Qx (v:=.int .i64 (j:Nat)) (λR E=>by rw[(N.mod E.1 EI).cell];rfl) (KU (j:=j) Jr (Xe (vs:=y.cells) rfl (λR E i v d=>by rw[add_add];exact E.2 j y ω hy i v d) (Qx (v:=.int .i64 (l:Nat)) (λR E=>by rw[(N.mod E.1 EI).cell];rfl) (KU (j:=l) aU (Xe (vs:=z.cells) rfl (λR E i v d=>by rw[add_add];exact E.2 l z ω hz i v d) (call (Cj y.A y.n y.c y.nd y.r z.A z.n z.c z.nd z.r _ (gA.ext (Ext.drew w6)) (kE.ext (Ext.drew w6))) ?_))))));rw[oI];rintro _ V ⟨C,J,I,rfl,Rw,kj,Ye⟩;have G:=(Ext.drew w6).trans Rw;have tQm:=(Ext.drew w6).size;refine⟨DgC.of_ext o.blk G,?_⟩;have g:=o.mod G;have H:RepF f (.and u u') s:=⟨j,l,X,hl,Z,Y,kD⟩
  generalize Wg y.nd y.r z.nd z.r 0=D at*;obtain⟨K,M⟩:=D;have gz:Set1 k K M (evF (.and u u')):=Zk.congr (λe=>by simp[J5,evF]);refine KU (j:=s) B (iY (j:=s*2) (vs:=(⟨C,J,I,K,M⟩:DV).cells) g.blk (by rw[gJ bw,hL];show s*2+2<=n*2;omega) (sc rfl) λw8 T Wj P=>?_);have Q:Mod (·=O.heap.size) V w8:=vQB T rfl;have U:=g.put B (x:=⟨C,J,I,K,M⟩) H kj gz (λi d=>by have:=Ye i d;omega) Q P;refine⟨DgC.put ω G Q P,?_⟩;refine KT rfl (QF s ?_);exact⟨(s+1,L.set s ⟨C,J,I,K,M⟩),rfl,⟨U,by show s+1<=n;omega⟩,QL⟩
 |or a b=>
  obtain⟨j,l,X,hl,Z,Y,kD⟩:=H;have S:x=⟨5,0,(j:Nat),(l:Nat)⟩:=Option.some.inj (hx.symm.trans Z);subst S;obtain⟨y,u,hy,hu,gA,W,mi⟩:=o.got j X;obtain rfl:u=a:=vQC hu Y;obtain⟨z,u',hz,cB,kE,qS,TY⟩:=o.got l hl;obtain rfl:u'=b:=vQC cB kD;have oI:=i9 hk W qS 1;have Zk:=fj W qS 1;have Jr:j<n:=by omega
  have aU:l<n:=by omega
  refine QQ N rfl (X6 (show¬(5:Int)=0 by decide) (X6 (show¬(5:Int)=1 by decide) (X6 (show¬(5:Int)=2 by decide) (X6 (show¬(5:Int)=3 by decide) (X6 (show¬(5:Int)=4 by decide) (JF rfl (Xw (DgC O.heap.size s L w6) 19 ((oz 12 0 ((false,12)::(oz 4 13 [(false,17),(true,18)])))) (DgC.of_ext o.blk (Ext.drew w6)) ?_)))))));have EI:¬w4.heap.size=O.heap.size:=by omega
  refine Qx (v:=.int .i64 (j:Nat)) (λR E=>by rw[(N.mod E.1 EI).cell];rfl) (KU (j:=j) Jr (Xe (vs:=y.cells) rfl (λR E i v d=>by rw[add_add];exact E.2 j y ω hy i v d) (Qx (v:=.int .i64 (l:Nat)) (λR E=>by rw[(N.mod E.1 EI).cell];rfl) (KU (j:=l) aU (Xe (vs:=z.cells) rfl (λR E i v d=>by rw[add_add];exact E.2 l z ω hz i v d) (call (cQt y.A y.n y.c y.nd y.r z.A z.n z.c z.nd z.r _ (gA.ext (Ext.drew w6)) (kE.ext (Ext.drew w6))) ?_))))));rw[oI];rintro _ V ⟨C,J,I,rfl,Rw,kj,Ye⟩;have G:=(Ext.drew w6).trans Rw;have tQm:=(Ext.drew w6).size;refine⟨DgC.of_ext o.blk G,?_⟩;have g:=o.mod G;have H:RepF f (.or u u') s:=⟨j,l,X,hl,Z,Y,kD⟩
  generalize Wg y.nd y.r z.nd z.r 1=D at*;obtain⟨K,M⟩:=D;have gz:Set1 k K M (evF (.or u u')):=Zk.congr (λe=>by simp[J5,evF]);refine KU (j:=s) B (iY (j:=s*2) (vs:=(⟨C,J,I,K,M⟩:DV).cells) g.blk (by rw[gJ bw,hL];show s*2+2<=n*2;omega) (sc rfl) λw8 T Wj P=>?_);have Q:Mod (·=O.heap.size) V w8:=vQB T rfl;have U:=g.put B (x:=⟨C,J,I,K,M⟩) H kj gz (λi d=>by have:=Ye i d;omega) Q P;refine⟨DgC.put ω G Q P,?_⟩;refine KT rfl (QF s ?_);exact⟨(s+1,L.set s ⟨C,J,I,K,M⟩),rfl,⟨U,by show s+1<=n;omega⟩,QL⟩
 have B:s=n:=by simp only at h1;omega
 subst B;obtain⟨y,u,hy,hu,gA,W,mi⟩:=hI.got (s-1) ω;have mj:=Nw (f:=f) (t:=u) (by rw[hn];exact hu);refine Qz ((s-1:Nat):Int) (KU (j:=s-1) ω (fS (j:=(s-1)*2) (vs:=y.cells) hI.blk rfl (λi v d=>gK bw _ _ _ _ _ hy d) ?_));have QU:=((Qh.ext Qg).ext Qi).mod hI.m (by show¬w.heap.size=O.heap.size;omega);refine Qo QU λw5 Zx KA QC=>?_;have Zu:Mod (·=w.heap.size) w4 w5:=vQB Zx rfl;refine Qm QC ?_;exact⟨y.A,y.n,y.c,y.nd,y.r,rfl,Zu.ext Qq λi d=>ω,gA.mod Zu (λi d e=>by have:=mi i d;omega),by rw[mj];exact W,λi d=>by have:=mi i d;omega⟩
end
section
section
abbrev KV (g o:Nat):Addr:=(⟨g,0,none⟩:Addr).add o
def Ck (t m o:Nat):Prop:=liesAt Tryz.prog Tryz.prog.depth t (m/Tryz.prog.cellsOf t) o 109 1=true
theorem N9 (g o:Nat):(KV g o).off=o/\(KV g o).block=g:=by unfold KV;rw[uK];exact⟨rfl,rfl⟩
theorem Og {w:θ}{g t o j:Nat}{a:χ τ}(h:Blk w g t a):w.cell? ((KV g o).add j)=a[o+j]? :=by unfold KV;rw[add_add,h.cell]
theorem Cl {w:θ}{g t o j:Nat}{a:χ τ}{v:τ}{K:τ->Prop}(h:Blk w g t a)(b:a[o+j]? =some v)(k:K v):kT w ((KV g o).add j) K:=load (by rw[Og h];exact b) k
theorem cQw {w:θ}{g t o j:Nat}{a:χ τ}{v:τ}{K:θ->Prop}(h:Blk w g t a)(c:o+j<a.length)(k:∀b,Mod (·=g) w b->Blk b g t (a.set (o+j) v)->K b):eY w ((KV g o).add j) v K:=by unfold KV;rw[add_add];exact Xv h c k
theorem mQh (g t o:Nat)(pa:τ)(cs:χ τ)(w:θ)(hl:Ck t cs.length o)(ho:o<cs.length)(hp:pa= .pointer none∨pa= .pointer (some (KV g o)))(hB:Blk w g t cs)(hc:cs[o]? =some pa):
  Fn ψ 106 [.pointer (some (KV g o))] w (λ_ w'=>Mod (·=g) w w'/\Blk w' g t (cs.set o (.pointer (some (KV g o))))):=by
 obtain⟨j,hj,sB⟩:=aQR;refine KS (c:=aQJ) Qe Tryz.func106 rfl rfl rfl ?_;have gw:w.shape? (KV g o).block=some (t,cs.length):=by rw[(N9 g o).2];exact hB.shape
 have ucs:=Tryz.underlying107;have uus:=Tryz.underlying240;rcases hp with rfl | rfl
 ·refine Cl hB (by simpa using hc) ?_;refine Q3 rfl ?_;refine Kr (w':=w) (v:=.pointer (some (KV g o))) (λa hf=>?_) ?_
  ·have e1:=hf.ev (show Env.ev _ (.tmp 8)=some (.pointer (some (KV g o))) from rfl);have:=Lib.run_to_unsafe (P:=ψ) (src:=107) (dst:=240) w (KV g o) ucs uus hj sB gw (by rw[(N9 g o).1];exact ho);simp only[execOp,e1];simp[ff,this]
  refine Kr (w':=w) (v:=.pointer (some (KV g o))) (λa hf=>?_) ?_
  ·have e1:=hf.ev (show Env.ev _ (.tmp 9)=some (.pointer (some (KV g o))) from rfl);have:=run_callFunc_extern (P:=ψ) (e:=Extern.AbiNoEscape.same) Tryz.func159 κ κ κ κ #[.pointer (some (KV g o))] w;rw[Lib.run_noEscape] at this;simp only[execOp,resolve,invoke];simp[Deferred.ofValue,Act.eval] at e1 ⊢;simp[e1,ff,this]
  refine Kr (w':=w) (v:=.pointer (some (KV g o))) (λa hf=>?_) ?_
  ·have e1:=hf.ev (show Env.ev _ (.tmp 10)=some (.pointer (some (KV g o))) from rfl);have:=Lib.run_from_unsafe (P:=ψ) (src:=240) (dst:=107) (u:=109) w (KV g o) uus ucs hj gw (by rw[(N9 g o).1];exact hl);simp only[execOp,e1];simp[ff,this]
  refine cQw hB (by simpa using ho) (λw1 hm Qh=>?_);exact⟨hm,by simpa using Qh⟩
 ·refine Cl hB (by simpa using hc) ?_;refine QX rfl ?_;refine Cl hB (by simpa using hc) ?_;refine Kr (w':=w) (v:=.bool false) (λa hf=>?_) ?_
  ·have e1:=hf.ev (show Env.ev _ (.tmp 17)=some (.pointer (some (KV g o))) from rfl);have e2:=hf.ev (show Env.ev _ (.tmp 18)=some (.pointer (some (KV g o))) from rfl);have:=Lib.run_neq_ptr_same (P:=ψ) (tp:=107) w (KV g o) ucs hj;simp only[execOp,e1,e2,eqGuard];simp[ff,this]
  refine QX rfl ?_;refine⟨Mod.refl _ _,?_⟩;have e:cs.set o (.pointer (some (KV g o)))=cs:=by
   apply Fh;intro i;by_cases hi:i=o
   ·subst hi;rw[mS ho,hc]
   ·rw[jN (λe=>hi e.symm)]
  rw[e];exact hB
theorem mQi (b g t o:Nat)(j:τ)(d:χ τ)(A:Θ)(c:Nat)(a:Γ)(s:ByteArray)(w:θ)(p:Ck t d.length o)(q:o+1<d.length)(r:j= .pointer none∨j= .pointer (some (KV g o)))(u:Blk w g t d)(x:d[o]? =some j) (y:d[o+1]? =some (.slice A a.length c)) (n:Own w b 5 1 A a.length c (YH a)) (l:g<b) (f:b<=w.heap.size) (z:a.length+s.size<=140737488355328):Fn ψ 56 [.pointer (some (KV g o)),.string s] w (λ_ m=>∃f l,Blk m g t ((d.set o (.pointer (some (KV g o)))).set (o+1) (.slice f (a.length+s.size) l))/\Own m b 5 1 f (a.length+s.size) l (YH (a++Yn s))/\Mod (Bp g A) w m/\Moved w A f):=by
 refine KS (c:=c56) Qe Tryz.func56 rfl rfl rfl ?_;refine call (mQh g t o j d w p ω r u x) ?_;rintro v j ⟨b,m⟩;have j:=n.rows;have p:¬Qj A g:=λh=>by have:=(j g h).1;omega
 have r:=n.mod b λk j e=>p (e▸j);refine Cl m (v:=.slice A a.length c) (show(d.set o (.pointer (some (KV g o))))[o+1]? =_ by rw[jN ω];exact y) ?_;refine aQP Qe rfl rfl rfl rfl rfl rfl rfl rfl rfl rfl rfl r z (by have:=b.size;omega) ?_;intro f l n d a r;refine cQw (m.mod d p) (by simpa using q) λx n u=>?_;have m:=a.rows;refine⟨f,l,u,?_,?_,r.back b.size⟩;rw[aQB,<-aQQ];exact a.mod n (λk j e=>by have:=(m k j).1;omega);exact((b.mono (S':=Bp g A) λi a=>.inl (.inl a)).trans d λi a=>.inl (.inr a)).trans n λi a=>.inl (.inl a)
theorem mQj (g t o:Nat)(a:χ τ)(A:Θ)(c n:Nat)(w:θ)(b:Blk w g t a)(d:a[o+1]? =some (.slice A n c)):Fn ψ 205 [.pointer (some (KV g o))] w (λv e=>v= .int .i64 n/\w=e):=by refine KS (c:=jQR) Qe Tryz.func205 rfl rfl rfl ?_;refine Cl b d ?_;exact⟨rfl,rfl⟩
theorem mQk (i g t o:Nat)(F:χ τ)(A:Θ)(c:Nat)(b:Γ)(w:θ)(G:Blk w g t F)(E:F[o+1]? =some (.slice A b.length c))(n:Own w i 5 1 A b.length c (YH b))(R:∀x∈b,x<256)(V:b.length<=140737488355328):Fn ψ 57 [.pointer (some (KV g o))] w (λv w'=>v= .string (Qb b)/\Mod (Qj A) w w'):=by
 refine KS (c:=c57) Qe Tryz.func57 rfl rfl rfl ?_;have O:(YH b).length=b.length:=yh b;refine Xw (Ext w) 10 (oz 4 0 (oz 5 5 [(false,4)])) (Ext.drew w) (Qx (v:=.slice A b.length c) (λw' r=>by rw[Og (G.ext r)];exact E) (Qx (v:=.slice A b.length c) (λw' r=>by rw[Og (G.ext r)];exact E) ?_));have L:b.length=0->Value.string ByteArray.empty=Value.string (Qb b):=λk=>by have:b=[]:=VT k;subst this;rfl
 by_cases k:b.length=0;have B:∃p w1,(Builtin.unsafeSliceData_ #[62] 179 #[.slice A b.length c]).run ψ w.drew= .ok (.pointer p) w1/\Ext w w1:=by
  obtain⟨l,_⟩|⟨d,Q,J,l,u,N,_⟩:=n.row.2;simp only[Value.slice.injEq] at l;obtain⟨rfl,_,rfl⟩:=l;exact⟨none,w.drew,Lib.run_unsafeSliceData_nil _ _ _ _ _,Ext.drew w⟩;simp only[Value.slice.injEq] at l;obtain⟨rfl,_,rfl⟩:=l;by_cases I:c=0;subst I;have s:w.drew.shape? d=some (5,J.size):=by unfold World.shape?;rw[show w.drew.heap[d]? =_ from N]
  exact⟨_,_,Lib.run_unsafeSliceData_zero (P:=ψ) w.drew _ _ 5 Tryz.underlying179 ⟨d,0,none⟩ _ _ s,(Ext.drew w).trans (Ext.alloc _ _)⟩;exact⟨_,w.drew,Lib.run_unsafeSliceData_row (P:=ψ) w.drew _ _ ⟨d,0,none⟩ _ _ I,Ext.drew w⟩
 obtain⟨p,w1,K,C⟩:=B;refine Kr (w':=w1) (v:=.pointer p) (λa f=>?_) ⟨C,?_⟩;have h:=f.ev (show Env.ev _ (.tmp 6)=some (.slice A b.length c) from rfl);simp only[execOp,resolve,invoke,builtin];simp[ff,h,K];refine Kr (w':=w1) (v:=.string ByteArray.empty) (λa f=>?_) ?_;have h:=f.ev (show Env.ev _ (.tmp 7)=some (.pointer p) from rfl);have m:=f.ev (show Env.ev _ (.tmp 12)=some (.int .i64 b.length) from rfl);have:=Lib.run_unsafeString_none (P:=ψ) w1 179 3 9 p;rw[k] at m;simp only[execOp,resolve,invoke,builtin];simp[ff,h,m];rw[this]<;>rfl
 exact⟨L k,Mod.of_ext _ C⟩;obtain⟨d,T,rfl,u,D,W⟩:=n.blk ω;have U:=n.sl.le;refine Kr (w':=w.drew) (v:=.pointer (some ⟨d,0,none⟩)) (λa f=>?_) ⟨Ext.drew w,?_⟩;have h:=f.ev (show Env.ev _ (.tmp 6)=some (.slice (some ⟨d,0,none⟩) b.length c) from rfl);have:=Lib.run_unsafeSliceData_row (P:=ψ) w.drew #[62] 179 ⟨d,0,none⟩ b.length c ω;simp only[execOp,resolve,invoke,builtin];simp[ff,h,this];refine Kr (w':=w.drew.freeze ⟨d,0,none⟩ b.length) (v:=.string (Qb b)) (λa f=>?_) ?_;have h:=f.ev (show Env.ev _ (.tmp 7)=some (.pointer (some ⟨d,0,none⟩)) from rfl);have m:=f.ev (show Env.ev _ (.tmp 12)=some (.int .i64 b.length) from rfl);have s:w.drew.shape? d=some (5,(YH b++T).length):=(D.ext (Ext.drew w)).shape;have q:(b.map UInt8.ofNat).length=b.length:=by simp
 have:=Lib.run_unsafeString_row (P:=ψ) w.drew 179 3 9 5 Tryz.underlying179 κ d _ s (b.map UInt8.ofNat) (by intro e;apply k;rw[<-q,e];rfl) (by simp[yh]) (by rw[q];omega) (λj x H=>by
  rw[(D.ext (Ext.drew w)).cell];simp only[Wy,Mu] at H;obtain⟨y,z,rfl⟩:=H;have M:j<b.length:=(ZK.1 z).1;rw[eW (by rw[O];exact M),uO z];have:=R y (Xd z);simp[mR this])
 rw[q] at this;simp only[execOp,resolve,invoke,builtin];simp[ff,h,m];rw[this]<;>rfl
 exact⟨rfl,(Mod.of_ext (Qj _) (Ext.drew w)).trans (aQS w.drew d b.length (S:=Qj (some ⟨d,0,none⟩)) ⟨_,rfl,rfl⟩) λ_=>.inl⟩
end
section
def dF {α:Type} [DecidableEq α](a:α):χ (α×τ)->χ (α×τ)|[]=>[]|(b,v)::l=>if a=b then l else(b,v)::dF a l
theorem cQx {α:Type} [DecidableEq α](a:α):∀l:χ (α×τ),(dF a l).Sublist l|[]=>List.Sublist.refl _|(b,v)::l=>by unfold dF;split;exact List.sublist_cons_self _ _;exact(cQx a l).cons_cons _
theorem cQy {α:Type} [DecidableEq α]{a:α}:∀{l:χ (α×τ)},a∉l.map (·.1)->Zc a l=none|[],_=>rfl|(b,v)::l,h=>by simp only[YD,XI,not_or] at h;unfold Zc;rw[φ h.1];exact cQy h.2
theorem cQz {α:Type} [DecidableEq α](a b:α):∀l:χ (α×τ),(l.map (·.1)).Nodup->Zc b (dF a l)=if b=a then none else Zc b l|[],_=>by simp[dF,Zc]|(d,u)::l,hn=>by simp only[YD,AQ] at hn;unfold dF;split;rename_i h;subst h;by_cases c:b=a;subst c;rw[Qf rfl];exact cQy hn.1;rw[φ c];show _=if b=a then _ else Zc b l;rw[φ c];rename_i h;have f:=cQz a b l hn.2;simp only[Zc];by_cases c:b=d;rw[Qf c,Qf c,φ λe=>h (by rw[<-e];exact c)];rw[φ c,φ c,f]
theorem cQA {α:Type} [DecidableEq α](a:α)(v:τ):∀l:χ (α×τ),(l.map (·.1)).Nodup->((ZP a v l).map (·.1)).Nodup/\∀x,x∈(ZP a v l).map (·.1)->x=a∨x∈l.map (·.1)|[],_=>by simp[ZP]|(b,u)::l,h=>by simp only[YD,AQ] at h;unfold ZP;split;rename_i d;exact⟨by simpa using h,λx c=>.inr (by simpa using c)⟩;rename_i d;obtain⟨g,f⟩:=cQA a v l h.2;refine⟨?_,λx c=>?_⟩;rw[YD,AQ];exact⟨λi=>by obtain e|e:=f b i;exact d e.symm;exact h.1 e,g⟩;rw[YD,XI] at c;obtain rfl|c:=c;exact .inr (by simp);obtain e|e:=f x c;exact .inl e;exact .inr (by rw[YD,XI];exact .inr e)
theorem cQB {α:Type} [DecidableEq α]{d:TypeDesc}{c:α->τ}(k:KeyV d c)(a:α):∀(m:χ (α×τ))(bs:Γ)(i:Nat),bs.length=m.length->
  ∃r,Instr.findNow d (c a) (Zw c m bs) i=some r/\(∀j v,r=some (j,v)->i<=j/\j-i<m.length/\(Zw c m bs).eraseIdx (j-i)=Zw c (dF a m) (bs.eraseIdx (j-i))/\(dF a m).length+1=m.length)/\(r=none->dF a m=m)
 | [],bs,i,h=>⟨none,rfl,(λj v h=>nomatch h),λ_=>rfl⟩
 | (b,u)::m,[],i,h=>by simp at h
 | (b,u)::m,s::bs,i,h=>by
  have e:Zw c ((b,u)::m) (s::bs)={key:=c b,val:=u,born:=s}::Zw c m bs:=rfl;rw[e];unfold Instr.findNow;simp only[k.same];by_cases f:a=b
  ·subst f;simp only[decide_true];refine⟨some (i,u),rfl,λj v g=>?_,λh=>by cases h⟩;cases g;refine⟨Qw _,by simp,?_,?_⟩
   ·rw[Fg];simp[dF]
   ·simp[dF]
  ·simp only[f,decide_false];obtain⟨r,l,n,o⟩:=cQB k a m bs (i+1) (by simpa using h);refine⟨r,l,λj v g=>?_,λq=>by simp[dF,f,o q]⟩;obtain⟨t,w,p,x⟩:=n j v g;refine⟨ω,by simp;omega,?_,by simp[dF,f];omega⟩;rw[show j-i=(j-(i+1))+1 by omega];simp only[List.eraseIdx_cons_succ,p,dF,f,if_false];rfl
theorem mQl {α:Type} [DecidableEq α]{kv:α->τ}{c:Cx}{o:Oper}{S:Env}{w:θ}{K:Env->θ->Prop}{Q:ZD}{t A f e:Nat}{r g:TyRow}{x y:Operand}{q:Nat}{m:χ (α×τ)}{a:α}(h:c.g.Ok)(G:o.op= .call ⟨.builtin .delete, #[x,y], #[t,A]⟩) (H:o.dst=none) (l:Q8 c.g.tys t=some r) (z:r.d= .map f e) (B:Q8 c.g.tys f=some g) (n:KeyV g.d kv)(I:S.ev x=some (.map (some q))) (J:S.ev y=some (kv a)) (C:MapAt kv w q m)(k:∀d,Mod (·=q) w d->d.heap.size=w.heap.size->MapAt kv d q (dF a m)->K S d):Zv c o S w K Q:=by
 have s:=(h.row l).1;rw[z] at s;have g:=(h.row B).1;obtain⟨h,l,B,d⟩:=C.ex;have L:q<w.heap.size:=(mQ.1 d).1;obtain⟨z,C,M,D⟩:=cQB n a m h 0 B;have E:(getObj q).run c.g.P w= .ok (.map (Zw kv m h).toArray l) w:=by simp[getObj,Sem.run,d]
 have F:∀f,(setObj q f).run c.g.P w= .ok () {w with heap:=w.heap.setIfInBounds q f}:=λf=>by simp[setObj,Sem.run,d]
 have d:∃f,f.length=(dF a m).length/\(Builtin.delete_ #[t,A] o.type #[.map (some q),kv a]).run c.g.P w= .ok (.tuple #[]) {w with heap:=w.heap.setIfInBounds q (.map (Zw kv (dF a m) f).toArray l)}:=by cases z with|none=>refine⟨h,by rw[D rfl];exact B,?_⟩;rw[D rfl];simp only[Builtin.delete_];simp[JB s,E,Bm g n.plain,Instr.findKey,JB g,C,F]|some p=>obtain⟨j,u⟩:=p;obtain⟨_,A,z,B⟩:=M j u rfl;simp only[Nat.sub_zero] at A z;refine⟨h.eraseIdx j,by rw[List.length_eraseIdx_of_lt ω];omega,?_⟩;simp only[Builtin.delete_];simp[JB s,E,Bm g n.plain,Instr.findKey,JB g,C,F];rw[z]
 obtain⟨f,g,h⟩:=d;unfold Zv;intro b d;have n:=d.ev I;have s:=d.ev J;refine eZ (v:=.tuple #[]) (w':={w with heap:=w.heap.setIfInBounds q (.map (Zw kv (dF a m) f).toArray l)}) ?_ ⟨S,by rw[H];simpa [Act.put] using d,k _ ⟨rfl,rfl,rfl,by simp,λi _ z=>?_⟩ (by simp) ⟨f,l,g,by simp[L]⟩⟩;simp only[execOp,G,resolve,invoke,builtin];simp[n,s,h];simp only[Mt];rw[φ λe=>z e.symm]
theorem Own.kind {w:θ}{a e d n c i:Nat}{A:Θ}{f:χ τ}(h:Own w a e d A n c f)(j:Qj A i):∃b,w.heap[i]? =some (.cells b e (0,0)):=by obtain⟨a,rfl,rfl⟩:=j;obtain⟨a,_⟩|⟨g,d,b,a,_,f,_⟩:=h.row.2;cases a;cases a;exact⟨b,f⟩
theorem Own.apart {w:θ}{b g e f j a n k c l i:Nat}{A B:Θ}{m d:χ τ}(h:Own w b e j A n c m)(o:Own w g f a B k l d)(p:e≠f)(q:Qj A i):¬Qj B i:=λd=>by obtain⟨a,f⟩:=h.kind q;obtain⟨g,a⟩:=o.kind d;rw[f] at a;simp only[Option.some.injEq,Obj.cells.injEq] at a;exact p a.2.1
theorem Blk.apart {w:θ}{b e d n c g t:Nat}{A:Θ}{f a:χ τ}(h:Blk w g t f)(i:Own w b e d A n c a)(j:t≠e):¬Qj A g:=λd=>by obtain⟨f,a⟩:=i.kind d;rw[show w.heap[g]? =_ from h] at a;simp only[Option.some.injEq,Obj.cells.injEq] at a;exact j a.2.1
theorem MapAt.apart {α:Type}{d:α->τ}{w:θ}{b e f n c q:Nat}{A:Θ}{a:χ τ}{m:χ (α×τ)}(h:MapAt d w q m)(g:Own w b e f A n c a):¬Qj A q:=λd=>by obtain⟨f,a⟩:=g.kind d;obtain⟨f,g,_,d⟩:=h.ex;rw[d] at a;cases a
structure DgO (w:World) (S:Nat->Prop) (k:Nat) (x:DV) (o:BF):Prop where
 sb:SB w x.A x.n x.c x.nd
 st:Set1 k x.nd x.r o
 off:∀ad,x.A=some ad->0<x.n->¬S ad.block
theorem SB.modo {S:Nat->Prop}{w b:θ}{A:Θ}{n c:Nat}{nd:χ Br}(h:SB w A n c nd)(d:Mod S w b)(f:∀a,A=some a->0<n->¬S a.block):SB b A n c nd:=
 ⟨h.1.modS d (λb i g=>by obtain⟨a,e,rfl⟩:=g;exact f a e b),h.2⟩
theorem DgO.step {w w':θ}{S S':Nat->Prop}{k:Nat}{x:DV}{o:BF}(h:DgO w S k x o)(c:Mod S w w')(d:∀i,S' i->S i∨w.heap.size<=i):DgO w' S' k x o:=
 ⟨h.sb.modo c h.off,h.st,λa e b f=>by
  obtain c|c:=d _ f;exact h.off a e b c;have:=SB.lt h.sb a e b;omega⟩
theorem DgO.keep {w a:θ}{S T:Nat->Prop}{k:Nat}{x:DV}{o:BF}(h:DgO w S k x o)(b:Mod T w a)(c:∀i,T i->S i∨w.heap.size<=i):DgO a S k x o:=
 ⟨h.sb.modo (b.mono c) h.off,h.st,h.off⟩
theorem DgO.ext {w a:θ}{S:Nat->Prop}{k:Nat}{x:DV}{o:BF}(h:DgO w S k x o)(b:Ext w a):DgO a S k x o:=⟨h.sb.ext b,h.st,h.off⟩
theorem DgO.new {w b:θ}{S:Nat->Prop}{k:Nat}{A:Θ}{n c:Nat}{a:χ Br}{r:Int}{o:BF}(d:SB b A n c a)(f:Set1 k a r o)(g:∀i,Qj A i->w.heap.size<=i)(j:∀i,S i->i<w.heap.size):DgO b S k ⟨A,n,c,a,r⟩ o:=
 ⟨d,f,λa e _ h=>by have:=g a.block ⟨a,e,rfl⟩;have:=j _ h;omega⟩
end
section
def lg (c:Nat)(l:Γ):Int:=if c∈l then((l.takeWhile λb=>b !=c).length:Nat)else -1
theorem cQC {b c:Nat}(a:b<256)(d:c<256):(UInt8.ofNat b==UInt8.ofNat c)=(b==c):=by rw[mN];simp only[beq_iff_eq];constructor;intro h;have:=QG UInt8.toNat h;simpa [mR a,mR d] using this;intro h;rw[h]
theorem GE {c:Nat}(a:c<256):∀{l:Γ},(∀x∈l,x<256)->Lib.indexByte (l.map UInt8.ofNat) (UInt8.ofNat c)=lg c l
 |[],_=>rfl
 |b::l,h=>by
  have d:=GE a (l:=l) λx f=>h x (by simp[f]);have f:b<256:=h b (by simp);rw[YD,Lib.indexByte,cQC f a,d];unfold lg;by_cases a:b=c;subst a;simp;have d:(b==c)=false:=by simpa using a
  rw[d];by_cases f:c∈l;have d:¬c=b:=λe=>a e.symm;simp[f,a,d]
  have d:¬c=b:=λe=>a e.symm;simp[f,d]
theorem Cm (l:Γ):(Qb l).data.toList=l.map UInt8.ofNat:=by simp[Qb]
theorem Co {P:Program}{f:FuncId}{l:χ τ}{w:θ}{v:τ}(h:Calls P f l.toArray w λe a=>e= .returned v/\a=w):Fn P f l w (λu a=>u=v/\w=a):=by unfold Fn;exact h.mono λe a b=>by obtain⟨rfl,rfl⟩:=b;exact⟨rfl,rfl⟩
theorem Oh (l:Γ)(c:Nat)(w:θ)(a:∀x∈l,x<256)(b:c<256):Fn ψ 94 [.string (Qb l),.int .u8 c] w (λv d=>v= .int .i64 (lg c l)/\w=d):=by have h:=Tryz.strings_IndexByte (Qb l) (c:Int) w;have e:((c:Int).toNat.toUInt8)=UInt8.ofNat c:=rfl;rw[Cm,e,GE b a] at h;exact Co h
theorem cQD (l:Γ)(c:Nat)(w:θ)(a:∀x∈l,x<256)(d:c<256):Fn ψ 204 [.string (Qb l),.string (Qb [c])] w (λv f=>v= .int .i64 (l.count c)/\w=f):=by
 have h:=Tryz.strings_Count_one (Qb l) (UInt8.ofNat c) w;have e:Lib.countByte (Qb l).data.toList (UInt8.ofNat c)=l.count c:=by rw[Cm];unfold Lib.countByte;clear h;induction l with|nil=>rfl|cons b l f=>rw[YD,AM,AM,f λx g=>a x (by simp[g]),cQC (a b (by simp)) d]
 rw[e] at h;exact Co h
def KJ (l:Γ):Γ:=l.takeWhile λb=>b !=32
def YK (l:Γ):Γ:=l.drop ((KJ l).length+1)
theorem mQm (l:Γ):l.take (KJ l).length=KJ l:=(List.prefix_iff_eq_take.1 (U6 _)).symm
theorem cQE {l:Γ}:(KJ l).length<l.length↔32∈l:=by
 unfold KJ;induction l with|nil=>simp|cons b l c=>
  by_cases a:b=32;subst a;simp;have:(b !=32)=true:=by simpa using a
  rw[cI,Qf this];simp only[Xa,Nat.add_lt_add_iff_right,c,XI];constructor
  exactλh=>.inr h
  rintro(h|h);exact Xg h.symm a;exact h
theorem mQn {l:Γ}(h:32∈l):l=KJ l++32::YK l:=by
 unfold YK KJ;induction l with|nil=>simp at h|cons b l c=>
  by_cases a:b=32;subst a;simp;have d:(b !=32)=true:=by simpa using a
  rw[cI,Qf d];simp only[Xa,U5,dZ];congr 1;refine c ?_;simp only[XI] at h;obtain h|h:=h;exact Xg h.symm a;exact h
theorem Oi {l:Γ}(h:32∉l):KJ l=l:=by
 unfold KJ;induction l with|nil=>rfl|cons b l a=>
  simp only[XI,not_or] at h;have c:(b !=32)=true:=by simpa using λe=>h.1 e.symm
  rw[cI,Qf c,a h.2]
theorem mQo {l:Γ}(h:32∈l):((l.takeWhile λb=>b !=32).length:Nat)<l.length:=cQE.2 h
theorem mQp (l:Γ)(w:θ)(a:∀x∈l,x<256)(d:l.length<=1000000000000):Fn ψ 201 [.string (Qb l),.string (Qb [32])] w (λv b=>(v=if 32∈l then .tuple #[.string (Qb (KJ l)),.string (Qb (YK l)),.bool true] else .tuple #[.string (Qb l),.string (Qb []),.bool false])/\Ext w b):=by
 refine KS (c:=jQO) Qe Tryz.func201 rfl rfl rfl ?_;have h:=Tryz.stringslite_Index_one (Qb l) (UInt8.ofNat 32) w;rw[Cm,GE δ a] at h;refine call (Co h) ?_;rintro _ _ ⟨rfl,rfl⟩;unfold lg;by_cases a:32∈l;rw[Qf a,Qf a];have d:=mQo a;refine Zm (by show(0:Int)<=_;omega) (Bh Qe κ (XF (v':=.string (Qb (KJ l))) ⟨rB _,ω,by rw[QZ];omega⟩ ?_ ?_));rw[Kj];exact QG (λx=>Value.string (Qb x)) (mQm l);refine Ky (((KJ l).length+1:Nat):Int) (by rw[QZ];show((_:Nat):Int)+1=_;unfold KJ;omega) (by unfold KJ;omega) (XF (v':=.string (Qb (YK l))) ⟨ω,by rw[QZ];unfold KJ;omega,by rw[QZ];omega⟩ ?_ ?_);rw[Kj];unfold YK;rw[QZ];show Value.string (Qb ((l.take l.length).drop _))=_;rw[ZJ (Qw _)]<;>rfl
 exactλb d=>⟨rfl,d⟩
 rw[φ a,φ a];refine XB δ ?_;exact⟨rfl,Ext.refl _⟩
theorem mQq (l:Γ)(w:θ)(a:∀x∈l,x<256)(b:l.length<=1000000000000):Fn ψ 143 [.string (Qb l),.string (Qb [32])] w (λv d=>(v=if 32∈l then .tuple #[.string (Qb (KJ l)),.string (Qb (YK l)),.bool true] else .tuple #[.string (Qb l),.string (Qb []),.bool false])/\Ext w d):=by refine KS (c:=iQ0) Qe Tryz.func143 rfl rfl rfl ?_;refine call (mQp l w a b) ?_;rintro v b ⟨rfl,a⟩;by_cases b:32∈l;rw[Qf b];exact⟨rfl,a⟩;rw[φ b];exact⟨rfl,a⟩
theorem pF {kw s:Γ}(a:32∉kw):(kw++ [32]).isPrefixOf s=true↔KJ s=kw/\32∈s:=by rw[xS];constructor;rintro⟨r,rfl⟩;refine⟨?_,by simp⟩;unfold KJ;rw[WW,List.takeWhile_append_of_pos λx b=>by simpa using λe=>a (by rw[<-e];exact b)];simp;rintro⟨a,b⟩;have:=mQn b;rw[a] at this;exact⟨YK s,by rw[WW];exact this.symm⟩
theorem Oj {a s:Γ}(h:KJ s=a):s.drop (a.length+1)=YK s:=by unfold YK;rw[h]
def rY:Γ:=[35,105,102]
def yK:Γ:=[35,101,108,105,102]
def vk:Γ:=[35,105,110,99,108,117,100,101]
theorem mQr {s:Γ}(h:KJ s=rY)(a:32∈s):X3 s= .ifd (YK s):=by unfold X3;rw[Qf (show Zd.isPrefixOf s=true from (pF (kw:=rY) δ).2 ⟨h,a⟩),<-Oj h]<;>rfl
theorem mQs {s:Γ}(h:KJ s=vk)(a:32∈s):X3 s= .inc (YK s):=by unfold X3;rw[φ (λb=>by have:=((pF (kw:=rY) δ).1 b).1;rw[h] at this;cases this),Qf (show pInc.isPrefixOf s=true from (pF (kw:=vk) δ).2 ⟨h,a⟩),<-Oj h];rfl
theorem mQt {s:Γ}(h:KJ s=yK)(b:32∈s):X3 s= .elif (YK s):=by
 unfold X3;rw[φ (λa=>by have:=((pF (kw:=rY) δ).1 a).1;rw[h] at this;cases this),φ (λa=>by have:=((pF (kw:=vk) δ).1 a).1;rw[h] at this;cases this),
  Qf (show pElif.isPrefixOf s=true from (pF (kw:=yK) δ).2 ⟨h,b⟩),<-Oj h];rfl
theorem mQu {s:Γ}(b:¬(KJ s=rY/\32∈s))(c:¬(KJ s=vk/\32∈s))(d:¬(KJ s=yK/\32∈s)):X3 s=if s=J6 then .els else if s=X5 then .en else .txt:=by unfold X3;rw[φ λ(a:Zd.isPrefixOf s=true)=>b ((pF (kw:=rY) δ).1 a),φ λ(a:pInc.isPrefixOf s=true)=>c ((pF (kw:=vk) δ).1 a),φ λ(a:pElif.isPrefixOf s=true)=>d ((pF (kw:=yK) δ).1 a)]
end
section
section
variable {P:Program} {ops:Array Oper} {md:Region.Mode} {C:World->Prop} {Q:Exit->Act->World->Prop}
def PanW (N:Slots)(b:χ PanicEntry->θ->Prop)(Q:Exit->Act->θ->Prop):Exit->Act->θ->Prop|.panic c,a,w=>a.tmps.size=N.n/\a.defers=N.ds/\b c w|e,a,w=>Q e a w
theorem PanW.put {N:Slots}{b:χ PanicEntry->θ->Prop}{Q:Exit->Act->θ->Prop}{c:χ PanicEntry}{a:Act}{d:Option Tmp}{v:τ}{w:θ}(h:PanW N b Q (.panic c) (a.put d v) w):PanW N b Q (.panic c) a w:=by obtain⟨b,c,e⟩:=h;cases d with|none=>exact⟨b,c,e⟩|some d=>exact⟨by simpa [Act.put] using b,by simpa [Act.put] using c,e⟩
theorem PanW.imp {c:Cx}{b:χ PanicEntry->θ->Prop}{Q:ZD}(f:∀d S w,b d w->Q (.panic d) S w):∀(e:Exit)(a:Act)(w:θ),PanW c.N b (Up c Q) e a w->Up c Q e a w:=λe a w h=>by cases e<;>first|exact h|(obtain⟨b,d,g⟩:=h;exact⟨[],⟨b,d,λk x i=>by simp[Env.ent] at i⟩,f _ _ _ g⟩)
theorem mQv {N:Slots}{d:χ PanicEntry->θ->Prop}{n i:Nat}{r:Oper}{v:τ}{L:Array Bool->Act->θ->Prop}(z:ops[i]? =some r)(D:∀(j:Nat)(o:Oper) s b,ops[j]? =some o->o.op≠ .select s b)(y:ni md ops n) (A:i<n) (B:∀c a w,L c a w->∀j∈Region.ready md ops c,n<=j):∀(f:Nat) (c:Array Bool) (a:Act) (w:θ),HeadInv md ops n c->(∀j m,ops[j]? =some m->j≠i->c.getD j true=false->(∀e∈m.after,Region.binds md e=true->e.on≠i)->r.apart ops m=true)->i∈Region.ready md ops c->YieldsIf P ops C r v a->C w->WB P md ops (PanW N d Q) C n L f (c.setIfInBounds i true) (a.put r.dst v) w->WB P md ops (PanW N d Q) C n L (f+1) c a w:=by
 intro f;induction f with|zero=>intro c a w d _ g u t H;have p:=(mem_ready.1 g).1;refine⟨λh=>(by rw[h] at g;cases g),λj q=>?_⟩;have x:=yj y d A p j q;refine⟨x,?_⟩;by_cases l:j=i;subst l;exact u.wpOp z t ⟨t,H⟩;have:=B _ _ _ H j (ready_mono q l);omega|succ f G=>
  intro c a w d E g u t H;have p:=(mem_ready.1 g).1;refine⟨λh=>(by rw[h] at g;cases g),λj q=>?_⟩;have x:=yj y d A p j q;refine⟨x,?_⟩;by_cases l:j=i;subst l;exact u.wpOp z t ⟨t,H⟩;have y:=(H.2 j (ready_mono q l)).2;obtain⟨F,m,A,t⟩:=mem_ready.1 q;have I:∀e∈m.after,Region.binds md e=true->e.on≠i:=λe J K B=>by have y:=t e J K;rw[B,getD_both p] at y;cases y
  have t:=wpOp_putIf A (E j m A l F I) (λs b=>D i r s b z) (λs b=>D j m s b A) (λ_ _ _ h=>PanW.put h) u y;have s:∀k ok,ops[k]? =some ok->k≠i->(c.setIfInBounds j true).getD k true=false->
    (∀e∈ok.after,Region.binds md e=true->e.on≠i)->r.apart ops ok=true:=λk ok m r p u=>by
   refine E k ok m r ?_ u;by_cases m:j=k;subst m;exact F;rw[getD_set_ne true m] at p;exact p
  refine wpOp_mono (λp r m=>⟨m.2.1,G (c.setIfInBounds j true) p r (d.set q x) s (ready_mono g (Ne.symm l)) m.1 m.2.1 ?_⟩) t;rw[hQn _ _ l];exact m.2.2
end
section
variable {c:Cx} {S:Env} {a:Act}
def pG (c:Cx)(b:χ PanicEntry->θ->Prop)(a:χ Oper)(C:θ->Prop):χ (Bool×Nat)->Env->θ->(Env->θ->Prop)->Prop
 |[],S,w,K=>K S w|(true,k)::l,S,w,K=>match V9 a k with
  |some o=>jS a o S (λS=>uQ c o S C λS=>pG c b a C l S w K) λS=>XD c S o.dst (.v undef) λS=>pG c b a C l S w K
  |none=>False
 |(false,k)::l,S,w,K=>match V9 a k with
  |some o=>jS a o S (λS=>gF c o S w (λS w=>C w/\pG c b a C l S w K) (λe _ w=>match e with
   |.panic d=>b d w
   |_=>False)) λS=>XD c S o.dst (.v undef) λS=>pG c b a C l S w K
  |none=>False
theorem GF (D:c.g.Ok){p:Region.Mode}{b:χ Oper}{C:θ->Prop}{Q:Exit->Act->θ->Prop}{n:Nat}(H:Region.noSelect b.toArray=true)(I:ni p b.toArray n){K:Env->θ->Prop}{J:χ PanicEntry->θ->Prop}:∀(l:χ (Bool×Nat)) (listed:Array Bool) (S:Env) (a:Act) (w:θ),HeadInv p b.toArray n listed->fR p b.toArray n l listed=true->pG c J b C l S w K->Fits c.N S a->C w->WB c.g.P p b.toArray (PanW c.N J Q) C n (λL q g=>Region.seqB p b.toArray (b.toArray.size-n) n L=true/\∃d,Fits c.N d q/\K d g) l.length listed a w
 |[],listed,S,a,w,j,s,h,E,z=>⟨s,S,E,h⟩|(true,k)::l,listed,S,a,w,j,s,h,E,z=>by
  simp only[fR,Z4] at s;obtain⟨⟨⟨m,F⟩,U⟩,M⟩:=s;have m:k<n:=by rw[kQ] at m;exact m
  have A:k∈Region.ready p b.toArray listed:=by simpa using F
  obtain⟨_,o,B,_⟩:=mem_ready.1 A;have N:V9 b k=some o:=by rw[jR];simpa using B
  simp only[pG,N] at h;have O:∃v,YieldsIf c.g.P b.toArray C o v a/\∃d,Fits c.N d (a.put o.dst v)/\pG c J b C l d w K:=by obtain⟨t,P,u,y⟩|⟨t,P,u,y⟩:=np h E;obtain⟨v,R,f⟩:=Bj D y u;exact⟨v,.inl ⟨t,R⟩,f⟩;exact⟨undef,.inr ⟨t,rfl⟩,Jf (e:=.v undef) y u⟩
  obtain⟨v,V,d,G,T⟩:=O;exact mQv B (Region.noSelect_spec H) I m (λL q g O=>seqB_ready O.1) l.length listed a w j (Region.free_spec B U) A V z
   (GF D H I l _ d _ w (j.set A m) M T G z)
 |(false,k)::l,listed,S,a,w,j,s,h,E,z=>by
  simp only[fR,Z4,YX] at s;obtain⟨⟨m,F⟩,M⟩:=s;have m:k<n:=by rw[kQ] at m;exact m
  have A:k∈Region.ready p b.toArray listed:=by rw[F];simp
  obtain⟨_,o,B,_⟩:=mem_ready.1 A;have N:V9 b k=some o:=by rw[jR];simpa using B
  simp only[pG,N] at h;have s:=j.set A m;refine⟨λj=>(by rw[F] at j;cases j),λi A=>?_⟩;rw[F] at A;have j:i=k:=by simpa using A
  subst j;refine⟨m,?_⟩;unfold wpOp;simp only[B];obtain⟨t,P,u,y⟩|⟨t,P,u,y⟩:=np h E;rw[Qf t];refine .inl ?_;have R:=uI D y u;have f:=Oper.wp_mono (K':=λq g=>C g/\WB c.g.P p b.toArray (PanW c.N J Q) C n (λL q g=>Region.seqB p b.toArray (b.toArray.size-n) n L=true/\∃d,Fits c.N d q/\K d g) l.length (listed.setIfInBounds i true) q g)
   (λq g ⟨d,G,b,j⟩=>⟨b,GF D H I l _ d q g s M j G b⟩) R
  unfold Oper.wp at f ⊢;generalize (execOp a.eval o).run c.g.P w=r at*;cases r with
  |ok nx g=>
   cases nx<;>simp only[Oper.upon] at f ⊢ <;> try exact f
   exact f.mono λe b j=>by
    cases e with
    |returned v=>exact j
    |panicked b=>obtain⟨_,b,j⟩:=j;exact⟨b.size,b.defers,j⟩
    |outgrown=>obtain⟨_,_,_,_,j⟩:=j;exact j.elim
  |halt x g=>cases x<;>simp only[Oper.upon] at f ⊢ <;> first|exact f|(obtain⟨_,b,f⟩:=f;exact⟨b.size,b.defers,f⟩)|(obtain⟨_,_,f⟩:=f;exact f.elim)
  rw[φ (by rw[t];decide)];obtain⟨d,G,T⟩:=Jf (e:=.v undef) y u;exact⟨z,GF D H I l _ d _ w s M T G z⟩
theorem mQw (l:c.g.Ok){id:Nat}{ops:χ Oper}{w:θ}{Q:ZD}(i:χ PanicEntry->θ->Prop)(m:∀k S w,i k w->Q (.panic k) S w)(C:θ->Prop)(n:Nat)(b:χ (Bool×Nat))
  (hB:(Region.noSelect ops.toArray&&Nat.beq b.length n&&rM .any ops.toArray n&&fR .any ops.toArray n b (Array.replicate ops.toArray.size false))=true) (hC:C w.drew)
  (h:pG {c with named:=1000000} i ops C b S w.drew λS w=>WA c ops (ops.drop n) S w (λS w=>Q .normal S w) λe _ w=>match e with|.panic k=>i k w|_=>False):bf c id ops S w Q:=by
 unfold bf;intro a o;simp only[Z4] at hB;obtain⟨⟨⟨p,d⟩,q⟩,r⟩:=hB;have d:=YV d;have f:=Bi q;have q:n<=ops.length:=by obtain f|f:=f;rw[f];simp;have:=f.1;simp at this;omega
 refine Code.wp_mono (PanW.imp m) (wp_region_any l.mixed ?_);have m:HeadInv .any ops.toArray n (Array.replicate ops.toArray.size false):=
  ⟨by simp,λj q _ d=>(by rw[getD_replicate_false] at d;cases d),λt _ q=>getD_in (by simpa using q) (getD_replicate_false _ _)⟩
 have H:=GF (c:={c with named:=1000000}) l (Q:=Up c Q) p f b _ S a _ m r h o hC;have m:(ops.drop n).length=ops.toArray.size-n:=by simp
 have o:=yi (Q:=PanW c.N i (Up c Q)) (g:=ops.toArray.size-n) (λf p q r=>by
  obtain⟨b,v,s,u⟩:=r;have r:=m7 (c:=c) l ops _ _ _ _ u s;have:=wpAny_of_seq (P:=c.g.P) (md:=.any) (ops:=ops.toArray) (Q':=PanW c.N i (Up c Q)) (ops.drop n) n f p q (λj=>by simp) (by rw[m];exact b) (pm (λe a w b=>by
   cases e with|normal=>exact b|panic k=>obtain⟨_,f,h⟩:=b;exact⟨f.size,f.defers,h⟩|_=>exact Xg b (by rintro⟨_,_,h⟩;exact h)) r)
  rwa [m] at this) _ _ _ _ H
 rw[d,show n+(ops.toArray.size-n)=ops.toArray.size by simp;omega] at o;exact o
end
end
end
section
def Vn (l:Γ):Int:=if Zd.isPrefixOf l then 1 else if l=X5 then -1 else 0
def dp (a:Λ):Int:=(a.map Vn).sum
theorem GG (l:Γ)(ls:Λ):dp (l::ls)=Vn l+dp ls:=by simp[dp]
theorem cQF (a b:Λ):dp (a++b)=dp a+dp b:=by simp[dp]
theorem Ol (a:Λ):dp a.reverse=dp a:=by induction a with|nil=>rfl|cons x a b=>rw[ut,cQF,b,GG,GG];simp[dp];omega
def pH:Λ->Λ->Nat->Nat->Int->Nat
 |x::a,y::b,k,c,o=>if x=y then pH a b (k+1) (if o+Vn x=0 then k+1 else c) (o+Vn x)else c
 |_,_,_,c,_=>c
def pI (a b:Λ)(o:Int)(q:Nat):Prop:=1<=q/\q<=a.length/\q<=b.length/\a.take q=b.take q/\o+dp (a.take q)=0
theorem Om {x y:Γ}{a b:Λ}{o:Int}{q:Nat}(d:1<=q):pI (x::a) (y::b) o (q+1)↔x=y/\pI a b (o+Vn x) q:=by unfold pI;simp only[Xa,xQ,List.cons.injEq,GG];constructor;rintro⟨_,e,f,⟨rfl,c⟩,g⟩;exact⟨rfl,d,ω,ω,c,ω⟩;rintro⟨rfl,_,e,f,c,g⟩;exact⟨ω,ω,ω,⟨rfl,c⟩,ω⟩
theorem cQG:∀(a b:Λ)(k c:Nat)(o:Int),((∀q,¬pI a b o q)/\pH a b k c o=c)∨∃p,pI a b o p/\(∀q,pI a b o q->q<=p)/\pH a b k c o=k+p
 |[],b,k,c,o=>.inl ⟨λq h=>by have:=h.1;have:=h.2.1;simp at this;omega,by cases b<;>rfl⟩|x::a,[],k,c,o=>.inl ⟨λq h=>by have:=h.1;have:=h.2.2.1;simp at this;omega,rfl⟩
 |x::a,y::b,k,c,o=>by
  rw[pH];by_cases e:x=y;rw[Qf e];have f:pI (x::a) (y::b) o 1↔o+Vn x=0:=by unfold pI;simp[e,dp]
  obtain⟨i,d⟩|⟨p,i,d,l⟩:=cQG a b (k+1) (if o+Vn x=0 then k+1 else c) (o+Vn x);have g:∀q,pI (x::a) (y::b) o q->q=1:=λq c=>by have:=c.1;match q,c with|1,_=>rfl|q+2,c=>exact Xg ((Om ω).1 c).2 (i _)
  by_cases j:o+Vn x=0;rw[Qf j] at d ⊢;exact .inr ⟨1,f.2 j,λq c=>by rw[g q c];exact Qw _,d⟩;rw[φ j] at d ⊢;exact .inl ⟨λq c=>by have:=g q c;subst this;exact j (f.1 c),d⟩;refine .inr ⟨p+1,(Om i.1).2 ⟨e,i⟩,λq c=>?_,by rw[l];omega⟩;match q,c with|0,_=>omega|1,_=>omega|q+2,c=>have:=d _ ((Om ω).1 c).2;omega
  rw[φ e];refine .inl ⟨λq c=>?_,rfl⟩;match q,c with|0,c=>exact Xg c.1 ω|q+1,c=>have:=c.2.2.2.1;simp at this;exact e this.1
def YL (a b:Λ):Nat:=pH a b 0 0 0
theorem Cp (a b:Λ):YL a b<=a.length/\YL a b<=b.length/\a.take (YL a b)=b.take (YL a b)/\dp (a.take (YL a b))=0/\∀q,q<=a.length->q<=b.length->a.take q=b.take q->dp (a.take q)=0->q<=YL a b:=by unfold YL;obtain⟨c,d⟩|⟨p,c,d,h⟩:=cQG a b 0 0 0;rw[d];refine⟨Q9 _,Q9 _,rfl,rfl,λq e f g i=>?_⟩;by_cases j:q=0;omega;exact Xg ⟨ω,e,f,g,ω⟩ (c q);rw[h,YW];obtain⟨m,h,k,l,n⟩:=c;refine⟨h,k,l,ω,λq e f g i=>?_⟩;by_cases j:q=0;omega;exact d q ⟨ω,e,f,g,ω⟩
def fX (a b:Λ):Nat:=YL a.reverse b.reverse
theorem vl {α:Type}(a:χ α)(q:Nat)(h:q<=a.length):a.reverse.take q=(a.drop (a.length-q)).reverse:=by rw[List.take_reverse]
theorem Oo (a b:Λ):fX a b<=a.length/\fX a b<=b.length/\a.drop (a.length-fX a b)=b.drop (b.length-fX a b)/\dp (a.drop (a.length-fX a b))=0/\∀q,q<=a.length->q<=b.length->a.drop (a.length-q)=b.drop (b.length-q)->dp (a.drop (a.length-q))=0->q<=fX a b:=by obtain⟨c,d,f,g,i⟩:=Cp a.reverse b.reverse;rw[U8] at c d;unfold fX;rw[vl _ _ c,vl _ _ d] at f;rw[vl _ _ c,Ol] at g;refine⟨c,d,by simpa using f,g,λq e h j k=>i q (by simpa using e) (by simpa using h) ?_ ?_⟩;rw[vl _ _ e,vl _ _ h,j];rw[vl _ _ e,Ol];exact k
def KK (a:Λ)(v:Nat)(b:Bool):Γ:=Zd++((if b then [33] else [])++(a[v]?).getD [])
def W3 (d:Λ)(v:Nat)(h l:Λ):Λ:=
 let p:=YL h l
 let a:=h.drop p
 let b:=l.drop p
 let s:=fX a b
 let e:=a.take (a.length-s)
 let c:=b.take (b.length-s)
 h.take p++((if e=[] then KK d v true::c else KK d v false::(e++if c=[] then [] else J6::c))++X5::a.drop (a.length-s))
inductive Tr where
 |nil
 |ln (s:Γ) (r:Tr)
 |sc (v:Nat) (ng:Bool) (h l r:Tr)
def fl (a:Λ):Tr->Λ
 |.nil=>[]|.ln s r=>s::fl a r|.sc v ng h .nil r=>KK a v ng::(fl a h++X5::fl a r)
 |.sc v ng h l r=>KK a v ng::(fl a h++J6::(fl a l++X5::fl a r))
deriving instance DecidableEq for Dir
def ZT:Γ->Λ|[]=>[[]]|b::l=>if b=10 then [10]::ZT l else match ZT l with|[]=>[[b]]|s::ls=>(b::s)::ls
theorem yL:∀l,ZT l≠ []|[]=>by simp[ZT]|b::l=>by unfold ZT;split;simp;split<;>simp
theorem yM:∀l,(ZT l).length=l.count 10+1|[]=>rfl|b::l=>by have a:=yM l;unfold ZT;split;rename_i h;subst h;simp[a];rename_i h;rw[U4 h];split;rename_i e;exact Xg e (yL l);rename_i e;rw[e] at a;exact a
theorem Cq:∀{l},10∉l->ZT l=[l]|[],_=>rfl|b::l,h=>by simp only[XI,not_or] at h;unfold ZT;rw[φ λe=>h.1 e.symm,Cq h.2]
def cM (l:Γ):Γ:=l.takeWhile λb=>b !=10
theorem mQx {l:Γ}(h:10∈l):(cM l).length<l.length:=by
 unfold cM;induction l with
 |nil=>cases h
 |cons b l c=>
  by_cases a:b=10;subst a;simp;have d:(b !=10)=true:=by simpa using a
  rw[cI,Qf d];simp only[Xa,Nat.add_lt_add_iff_right];exact c ((XI.1 h).resolve_left λe=>a e.symm)
theorem Oq:∀{l},10∈l->ZT l=l.take ((cM l).length+1)::ZT (l.drop ((cM l).length+1))
 |[],h=>by cases h
 |b::l,h=>by
  by_cases a:b=10;subst a;rw[ZT,Qf rfl];have e:cM (10::l)=[]:=by simp[cM]
  rw[e]<;>rfl
  have c:(b !=10)=true:=by simpa using a
  have e:cM (b::l)=b::cM l:=by unfold cM;rw[cI,Qf c]
  have c:=Oq ((XI.1 h).resolve_left λe=>a e.symm);rw[ZT,φ a,c,e]<;>rfl
theorem GH:∀{l},(∀x∈l,x<256)->∀s∈ZT l,(∀x∈s,x<256)/\s.length<=l.length
 |[],_,s,a=>by
  have:s=[]:=by simpa [ZT] using a
  subst this;exact⟨(λx c=>by cases c),Qw _⟩
 |b::l,h,s,a=>by have d:=GH (l:=l) λx c=>h x (by simp[c]);unfold ZT at a;split at a;obtain rfl|a:=XI.1 a;exact⟨δ,by simp⟩;exact⟨(d s a).1,Nat.le_succ_of_le (d s a).2⟩;split at a;rename_i e;exact Xg e (yL l);rename_i t f e;rw[e] at d;obtain rfl|a:=XI.1 a;have:=d t (by simp);exact⟨λx c=>(XI.1 c).elim (λe=>e▸h b (by simp)) (this.1 x),by simp;exact this.2⟩;have:=d s (by simp[a]);exact⟨this.1,Nat.le_succ_of_le this.2⟩
def Vo (l:Γ):Λ:=if(ZT l).getLast? =some [] then(ZT l).dropLast else ZT l
theorem cQH:∀{l},Y1 l->ZT l=(QN l).map (·++ [10])++ [[]]
 |[],_=>rfl
 |b::l,h=>by
  have d:Y1 l:=by cases l with|nil=>exact .inl rfl|cons c l=>right;obtain h|h:=h;cases h;simpa using h
  have e:=cQH d;unfold ZT QN;by_cases a:b=10;subst a;rw[Qf rfl,Qf rfl,e]<;>rfl
  rw[φ a,φ a,e];cases e:QN l with|nil=>have:=Wh d;rw[e] at this;have:l=[]:=this.symm;subst this;obtain h|h:=h;cases h;simp at h;exact Xg h a|cons t d=>rfl
theorem nG {l:Γ}(h:Y1 l):Vo l=(QN l).map (·++ [10]):=by unfold Vo;rw[cQH h,Qf (by simp)];simp
def W4 (s:Γ):Bool:=Zd.isPrefixOf s||pElif.isPrefixOf s||pInc.isPrefixOf s||decide (s=J6++ [10])||decide (s=X5++ [10])
theorem Cr:∀{p r:Γ},10∉p->p.isPrefixOf (r++ [10])=p.isPrefixOf r
 |[],r,_=>by simp|a::p,[],h=>by
  simp only[XI,not_or] at h;have:(a==10)=false:=by simpa using λe:a=10=>h.1 e.symm
  simp[List.isPrefixOf,this]
 |a::p,b::r,h=>by simp only[XI,not_or] at h;simp only[dZ,List.isPrefixOf,Cr h.2]
theorem vm (r:Γ):W4 (r++ [10])=decide (X3 r≠ .txt):=by
 unfold W4;rw[Cr δ,Cr δ,Cr δ];have a:∀k:Γ,decide (r++ [10]=k++ [10])=decide (r=k):=λk=>by simp
 rw[a,a];unfold X3;by_cases a:Zd.isPrefixOf r=true;rw[Qf a,a];simp;by_cases b:pInc.isPrefixOf r=true;rw[φ a,Qf b,b];simp;by_cases c:pElif.isPrefixOf r=true;rw[φ a,φ b,Qf c,c];simp;by_cases d:r=J6;rw[φ a,φ b,φ c,Qf d,Zg d];simp;by_cases e:r=X5;rw[φ a,φ b,φ c,φ d,Qf e,Zg e];simp;rw[φ a,φ b,φ c,φ d,φ e,dt.2 a,dt.2 b,dt.2 c,XZ d,XZ e];simp
def Ve (l:Γ):Bool:=bB l&&(QN l).all λs=>decide (X3 s= .txt)
theorem mQy (ls:Λ):((ls.map (·++ [10])).any W4)= !(ls.all λs=>decide (X3 s= .txt)):=by induction ls with|nil=>rfl|cons s ls a=>rw[YD,List.any_cons,xT,a,vm,Bool.not_and];congr 1;by_cases h:X3 s= .txt<;>simp[h]
theorem Ot (r:Γ):Zd.isPrefixOf (r++ [10])=Zd.isPrefixOf r:=Cr δ
theorem mQz (l:Γ)(w:θ)(a:∀x∈l,x<256):Fn ψ 209 [.string (Qb l),.string (Qb [10])] w (λv b=>v= .int .i64 (lg 10 l)/\w=b):=by refine KS (c:=jQT) Qe Tryz.func209 rfl rfl rfl ?_;have h:=Tryz.stringslite_Index_one (Qb l) (UInt8.ofNat 10) w;rw[Cm,GE δ a] at h;refine call (Co h) ?_;rintro _ _ ⟨rfl,rfl⟩;exact⟨rfl,rfl⟩
theorem Ou (l p:Γ)(w:θ)(a:∀x∈l,x<256)(b:∀x∈p,x<256):Fn ψ 96 [.string (Qb l),.string (Qb p)] w (λv d=>v= .bool (p.isPrefixOf l)/\w=d):=by refine KS (c:=c96) Qe Tryz.func96 rfl rfl rfl ?_;refine call (aQT l p w a b) ?_;rintro _ _ ⟨rfl,rfl⟩;exact⟨rfl,rfl⟩
theorem cQI (a:Λ)(n i:Nat)(s:Γ)(b:a.length=i)(c:i<n):(Xb a++List.replicate (n-i) (Value.string ⟨#[]⟩)).set i (.string (Qb s))=Xb (a++ [s])++List.replicate (n-(i+1)) (Value.string ⟨#[]⟩):=by
 have c:(Xb a).length=i:=by rw[az,b]
 rw[Fs _ _ ω,c,Fg,show n-i=(n-(i+1))+1 by omega,UV,U0];simp[Xb]
def Sn (w:θ)(A:Θ)(n c:Nat)(a:χ τ):Prop:=Sl w 1 A n c a/\(0<n->∃g o,A=some ⟨g,o,none⟩)
theorem Sn.ext {w a:θ}{A:Θ}{n c:Nat}{cs:χ τ}(h:Sn w A n c cs)(k:Ext w a):Sn a A n c cs:=⟨h.1.ext k,h.2⟩
theorem mQA (l:Γ)(w:θ)(C:∀x∈l,x<256)(T:l.length<=1000000000):Fn ψ 153 [.string (Qb l),.string (Qb [10]),.int .i64 1,.int .i64 (-1)] w (λu d=>∃A c,u= .slice A (ZT l).length c/\Ext w d/\Sn d A (ZT l).length c (Xb (ZT l))):=by
 have k:=yM l;have U:l.count 10<=l.length:=Fk;have G:=QZ l;refine QK iQ8 [] Tryz.func153 ?_;refine X6 δ (QX rfl (Zm δ (call (cQD l 10 w C δ) ?_)));rintro _ _ ⟨rfl,rfl⟩;refine Qz ((l.count 10+1:Nat):Int) ?_ (hm:=by show((_:Nat):Int)+1=_;omega);refine Qz ((l.length+1:Nat):Int) ?_ (hm:=by rw[G];omega);refine norm (m:=((l.count 10+1:Nat):Int)) (by split<;>omega) (yg Qe rfl rfl rfl rfl rfl rfl rfl rfl (by show 16*(l.count 10+1)<=_;omega) (by unfold maxLen;omega) λN E R F=>?_);refine Qz ((l.count 10:Nat):Int) ?_;generalize S:l.count 10=cn at*;refine loop Qe [10,0] (λs:Nat×Λ×Γ=>[.int .i64 s.1,.string (Qb s.2.2)]) (λs d=>Mod (·=w.heap.size) N d/\s.1<=cn/\s.2.1.length=s.1/\ZT l=s.2.1++ZT s.2.2/\(∀x∈s.2.2,x<256)/\s.2.2.length<=l.length/\Blk d w.heap.size 9 (Xb s.2.1++List.replicate (cn+1-s.1) (Value.string ⟨#[]⟩))) (λs _=>cn-s.1) (0,[],l) rfl ⟨Mod.refl _ _,Q9 _,rfl,rfl,C,Qw _,F⟩ ?_;rintro⟨i,g,r⟩ O ⟨D,B,a,f,v,M,p⟩;simp only at B a f v M p;have e:=QZ r;have h:=QG List.length f;rw[Qy,k,a] at h;refine Ql (λt=>?_) λt=>?_;have o:i<cn:=by simp only at t;omega
 have hm:10∈r:=Classical.byContradiction (λK=>by rw[Cq K] at h;simp at h;omega);have Q:=mQx hm;have I:lg 10 r=((cM r).length:Nat):=by unfold lg cM;rw[Qf hm]
 have z:=mQz r O v;rw[I] at z;refine call z ?_;rintro _ _ ⟨rfl,rfl⟩;refine XB ω (Qz (((cM r).length+1:Nat):Int) (XF (v':=.string (Qb (r.take ((cM r).length+1)))) ⟨ω,ω,by rw[e];omega⟩ (by rw[Kj];rfl) (index (j:=i) ω (Xv p (by rw[Qy,az,List.length_replicate];omega) λP q b=>?_))));rw[cQI g (cn+1) i _ a ω] at b;refine Qz (((cM r).length+1:Nat):Int) ?_ (hm:=by have:(Qb [10]).size=1:=rfl;omega);refine XF (v':=.string (Qb (r.drop ((cM r).length+1)))) ⟨ω,by rw[e];omega,by rw[e];omega⟩ (by
  rw[Kj,e];show Value.string (Qb ((r.take r.length).drop _))=_;rw[ZJ (Qw _)];rfl) ?_
 refine QF i ?_;refine⟨(i+1,g++ [r.take ((cM r).length+1)],r.drop ((cM r).length+1)),rfl,⟨D.trans q λ_=>.inl,o,by simp[a],?_,λx L=>v x (a8 L),by simp only[Wz];omega,b⟩,QL⟩;simp only;rw[f,Oq hm];simp;have o:i=cn:=by simp only at t;omega
 subst o;have H:10∉r:=λhm=>by have V:=yM r;have:=UZ.2 hm;omega
 refine index (j:=i) ω (Xv p (by rw[Qy,az,List.length_replicate];omega) λP q b=>?_);rw[cQI g (i+1) i _ a ω] at b;refine QF i (bm Qe rfl rfl rfl rfl rfl rfl (Qw _) ?_);have J:ZT l=g++ [r]:=by rw[f,Cq H]
 have y:=Sl.own (sz:=1) (n:=i+1) (c:=i+1) b (Qw _) (by unfold maxLen;omega) (by rw[Qy,az,Qy,a];simp);rw[Fg,List.replicate_zero,YE,VC,ZJ (by rw[az,Qy,a];simp)] at y;refine⟨_,_,by rw[k],(D.trans q λ_=>.inl).ext E λi B=>ω,?_⟩;rw[k,J];exact⟨y,λ_=>⟨_,_,rfl⟩⟩
theorem mQB (l:Γ)(w:θ)(b:∀x∈l,x<256)(d:l.length<=1000000000):Fn ψ 95 [.string (Qb l),.string (Qb [10])] w (λu a=>∃A c,u= .slice A (ZT l).length c/\Ext w a/\Sn a A (ZT l).length c (Xb (ZT l))):=by refine QK c95 [] Tryz.func95 ?_;refine call (mQA l w b d) ?_;rintro _ d ⟨A,c,rfl,a,b⟩;exact⟨A,c,rfl,a,b⟩
def nH (w:θ)(u:τ)(a:Λ)(b:θ):Prop:=∃A c,u= .slice A a.length c/\Ext w b/\Sn b A a.length c (Xb a)
theorem GI (l:Γ)(w:θ)(b:∀x∈l,x<256)(a:l.length<=1000000000):Fn ψ 46 [.string (Qb l)] w (λu d=>nH w u (Vo l) d):=by
 have d:=yM l;have d:l.count 10<=l.length:=Fk;refine QK c46 [] Tryz.func46 ?_;refine call (mQB l w b a) ?_;rintro _ d ⟨A,c,rfl,f,a⟩;have d:=a.1.le;refine Qz (((ZT l).length-1:Nat):Int) ?_;obtain⟨z,d⟩:∃z,(ZT l).getLast? =some z:=⟨_,List.getLast?_eq_some_getLast (yL l)⟩
 have g:(ZT l)[(ZT l).length-1]? =some z:=by rw[<-oW];exact d
 refine Zq a.1 ω λj u k h i=>?_;rw[dw g] at h;cases h;refine load i ?_;have h:=(GH b z (Xd g)).1;by_cases b:z=[]
 subst b;refine Q3 rfl (Qz (((ZT l).length-1:Nat):Int) (bm Qe rfl rfl rfl rfl rfl rfl ω ?_));have e:Vo l=(ZT l).dropLast:=by unfold Vo;rw[Qf d]
 have g:=a.1.take (m:=(ZT l).length-1) ω;refine⟨A,c,by rw[e,List.length_dropLast],f,?_⟩;rw[e,List.length_dropLast];have i:Xb (ZT l).dropLast=(Xb (ZT l)).take (((ZT l).length-1)*1):=by rw[VC,List.dropLast_eq_take];simp[Xb,List.map_take]
 rw[i];exact⟨g,λb=>a.2 ω⟩;refine XB (λe=>b (Jl h (by simp) e)) ?_;have e:Vo l=ZT l:=by unfold Vo;rw[φ λg=>b (Option.some.inj (d.symm.trans g))]
 exact⟨A,c,by rw[e],f,by rw[e];exact a⟩
end
section
section
structure RP where
 r:Nat
 q:Nat
 nq:Nat
 NA:Θ
 nn:Nat
 nc:Nat
 nm:Λ
 FA:Θ
 nf:Nat
 cf:Nat
 fs:List (Γ×Γ)
def ci (x:Γ×Γ):χ τ:=[.string (Qb x.1),.string (Qb x.2)]
theorem gU (x:Γ×Γ):(ci x).length=2:=rfl
structure FileOk (x:Γ×Γ):Prop where
 n8:∀b∈x.1,b<256
 t8:∀b∈x.2,b<256
 nl:x.1.length<=9223372036854775807
 tl:x.2.length<=1048576
 ok:Y1 x.2
structure RPok (w0:World) (p:RP):Prop where
 nms:Sl w0 1 p.NA p.nn p.nc (Xb p.nm)
 nmb:KH p.nm
 nmk:p.nm.length<=12
 fls:SlS ci 2 w0 p.FA p.nf p.cf p.fs
 flb:∀x∈p.fs,FileOk x
 nqm:MapAt WE w0 p.nq (aB (p.fs.map (·.1)) 0 [])
structure RM where
 OA:Θ
 oc:Nat
 BA:Θ
 bc:Nat
 L:List DV
 pa:Value
 T:Nat->Prop
structure RV where
 d:Nat
 fl:Nat
 ln:Nat
 rd:Γ
 g:Gs
def lh (x:Sg×DV):χ τ:=[.int .i64 x.1.f,.int .i64 x.1.t,.int .i64 x.1.fl,.int .i64 x.1.at_,.slice x.2.A x.2.n x.2.c,.int .i64 x.2.r]
theorem mQC (x:Sg×DV):(lh x).length=6:=rfl
def cN (l:χ Sg)(L:χ DV):χ τ:=(l.zip L).flatMap lh
abbrev pJ (p:RP)(m:RM)(v:RV):List Value:=[.slice p.NA p.nn p.nc,.slice p.FA p.nf p.cf,.map (some p.nq),.map (some p.q),.int .i64 v.d,m.pa,.slice m.BA v.g.tx.length m.bc,.slice m.OA v.g.sg.length m.oc,.bool v.g.fr,.int .i64 v.fl,.int .i64 v.ln]
def RS (p:RP)(m:RM):Nat->Prop:=λk=>k=p.r∨k=p.q∨Qj m.OA k∨Qj m.BA k
def TS (p:RP)(m:RM):Nat->Prop:=λk=>RS p m k∨m.T k
structure Rr (w0 w:World) (base:Nat) (p:RP) (m:RM) (v:RV):Prop where
 e0:Ext w0 w
 lor:w0.heap.size<=p.r
 loq:w0.heap.size<=p.q
 rb:p.r<base
 qb:p.q<base
 ne:p.r≠p.q
 top:base<=w.heap.size
 pa:m.pa= .pointer none∨m.pa= .pointer (some (KV p.r 5))
 blk:Blk w p.r 157 (pJ p m v)
 txt:Own w base 5 1 m.BA v.g.tx.length m.bc (YH v.g.tx)
 out:Own w base 48 6 m.OA v.g.sg.length m.oc (cN v.g.sg m.L)
 len:m.L.length=v.g.sg.length
 dgs:∀(j:Nat) (s:Sg) (x:DV),v.g.sg[j]? =some s->m.L[j]? =some x->DgO w (TS p m) p.nm.length x s.o
 rdm:∃mp,MapAt d9 w p.q mp/\(mp.map (·.1)).Nodup/\∀n:Nat,Zc (n:Int) mp=if n∈v.rd then some (.bool true)else none
 tl:v.g.tx.length<=1048576
 sl:v.g.sg.length<=65536
 b8:∀x∈v.g.tx,x<256
 nf:v.g.fr=false->v.g.sg≠ []∨v.rd=[]
 tt:∀i,m.T i->i<w.heap.size
section
variable {w0 w w':World} {base:Nat} {p:RP} {m:RM} {v:RV}
theorem Rr.lo (h:Rr w0 w base p m v):∀i,RS p m i->w0.heap.size<=i:=λi a=>by have:=h.lor;have:=h.loq;have:=h.rb;obtain rfl|rfl|a|a:=a;assumption;assumption;have:=(h.out.rows i a).1;omega;have:=(h.txt.rows i a).1;omega
theorem Rr.hi (h:Rr w0 w base p m v):∀i,RS p m i->i<w.heap.size:=λi a=>by have:=h.rb;have:=h.qb;have:=h.top;obtain rfl|rfl|a|a:=a;omega;omega;exact(h.out.rows i a).2;exact(h.txt.rows i a).2
theorem Rr.ext (h:Rr w0 w base p m v)(k:Ext w w'):Rr w0 w' base p m v:=
 ⟨h.e0.trans k,h.lor,h.loq,h.rb,h.qb,h.ne,XU h.top k.size,h.pa,h.blk.ext k,h.txt.ext k,h.out.ext k,h.len,λj s x a b=>(h.dgs j s x a b).ext k,let ⟨c,a,b⟩:=h.rdm;⟨c,a.ext k,b⟩,h.tl,h.sl,h.b8,h.nf,λi d=>JZ (h.tt i d) k.size⟩
theorem RS.moved {m':RM}(b:Moved w m.OA m'.OA)(c:Moved w m.BA m'.BA):∀k,RS p m' k->RS p m k∨w.heap.size<=k:=by rintro k (rfl|rfl|a|a);exact .inl (.inl rfl);exact .inl (.inr (.inl rfl));obtain h|h:=b.rows k a;exact .inl (.inr (.inr (.inl h)));exact .inr h;obtain h|h:=c.rows k a;exact .inl (.inr (.inr (.inr h)));exact .inr h
theorem TS.moved {m':RM}(b:m'.T=m.T)(c:Moved w m.OA m'.OA)(d:Moved w m.BA m'.BA):∀k,TS p m' k->TS p m k∨w.heap.size<=k:=by rintro k (a|a);obtain h|h:=RS.moved (p:=p) c d k a;exact .inl (.inl h);exact .inr h;exact .inl (.inr (by rw[<-b];exact a))
theorem Rr.hiT (h:Rr w0 w base p m v):∀i,TS p m i->i<w.heap.size:=λi a=>a.elim (h.hi i) (h.tt i)
theorem Rr.nrow (h:Rr w0 w base p m v):¬Qj m.OA p.r/\¬Qj m.BA p.r:=by have:=h.rb;exact⟨λa=>by have:=(h.out.rows _ a).1;omega,λa=>by have:=(h.txt.rows _ a).1;omega⟩
theorem Rr.put (h:Rr w0 w base p m v){v':RV}(b:Mod (·=p.r) w w')(f:Blk w' p.r 157 (pJ p m v'))(d:v'.g.tx=v.g.tx)(c:v'.g.sg=v.g.sg)(g:v'.rd=v.rd)(k:v'.g.fr=false->v'.g.sg≠ []∨v'.rd=[]):Rr w0 w' base p m v':=by have l:=b.ext h.e0 (λi a=>by subst a;exact h.lor);refine⟨l,h.lor,h.loq,h.rb,h.qb,h.ne,XU h.top b.size,h.pa,f,?_,?_,by rw[c];exact h.len,λj s x f l=>?_,?_,by rw[d];exact h.tl,by rw[c];exact h.sl,by rw[d];exact h.b8,k,λi a=>JZ (h.tt i a) b.size⟩;rw[d];exact h.txt.mod b (λi a e=>by subst e;exact h.nrow.2 a);rw[c];exact h.out.mod b (λi a e=>by subst e;exact h.nrow.1 a);rw[c] at f;exact(h.dgs j s x f l).keep b λi a=>.inl (.inl (.inl a));obtain⟨a,c,d⟩:=h.rdm;rw[g];exact⟨a,c.mod b λe=>h.ne e.symm,d⟩
end
def Ov (d w:θ)(a:Nat)(p:RP)(m:RM)(v:RV)(c:θ):Prop:=∃b,b.T=m.T/\Rr d c a p b v/\Mod (RS p m) w c/\Moved w m.OA b.OA/\Moved w m.BA b.BA
def jZ (e f l:Int):χ PanicEntry:=[{v:=.iface 160 (.agg #[.int .i64 e,.int .i64 f,.int .i64 l]),recovered:=false}]
section
variable {w0:World} {base:Nat} {p:RP} {m:RM} {v:RV}
theorem dG (e:Int)(w:θ)(h:Rr w0 w base p m v):FnP ψ 148 [.pointer (some ⟨p.r,0,none⟩),.int .i64 e] w (λ_ _=>False) (λb a=>b=jZ e v.fl v.ln/\Ext w a):=by refine d7 (c:={iQ5 with cuts:=[]}) Qe Tryz.func148 rfl rfl rfl ?_;have d:=h.blk;refine rL Qe 12 κ ?_;refine Qx (v:=.int .i64 v.fl) (λa b=>by subst b;rw[(d.ext (Ext.drew w)).cell];rfl) ?_;refine Qx (v:=.int .i64 v.ln) (λa b=>by subst b;rw[(d.ext (Ext.drew w)).cell];rfl) ?_;exact uV rfl rfl ⟨rfl,Ext.drew w⟩
theorem GJ (x:DV)(w:θ):Fn ψ 202 [.pointer (some ⟨p.r,0,none⟩),Q5 x.A x.n x.c x.r,.int .i64 0] w (λu a=>u=Q5 x.A x.n x.c x.r/\Ext w a):=by refine QK jQP [] Tryz.func202 ?_;refine new λc d a e=>?_;refine new λf a g b=>?_;refine KT rfl ?_;refine Qm (e.ext a) ?_;refine Qo b λw3 e _ f=>?_;have g:Ext c w3:=X1 a b e;refine Qm f ?_;exact⟨rfl,d.trans g⟩
def DgF (w:θ)(k:Nat)(o:BF)(u:τ)(a:θ):Prop:=∃x:DV,u=Q5 x.A x.n x.c x.r/\Ext w a/\SB a x.A x.n x.c x.nd/\Set1 k x.nd x.r o/\∀i,Qj x.A i->w.heap.size<=i
theorem cQJ (s:Γ)(w:θ)(a:RPok w0 p)(h:Rr w0 w base p m v)(f:∀x∈s,x<256)(j:s.length<=1000000000000):FnP ψ 144 [.pointer (some ⟨p.r,0,none⟩),.string (Qb s)] w (λu b=>∃o,Jn p.nm s= .ok o/\DgF w p.nm.length o u b) (λg b=>∃e,Jn p.nm s= .error e/\g=jZ e v.fl v.ln/\Ext w b):=by
 refine d7 (c:={iQ1 with cuts:=[]}) Qe Tryz.func144 rfl rfl rfl ?_;refine new λb d l k=>?_;refine QQ (h.blk.ext d) rfl (call (bQe p.nm p.NA p.nn p.nc s b ((a.nms.ext h.e0).ext d) a.nmb f j) ?_);rw[cQg];have b:Jn p.nm s=match gT p.nm s with|.ok t=>.ok (evF t)|.error e=>.error (if e=2 then 2 else 71):=rfl
 cases l:gT p.nm s with|ok t=>rw[l] at b;obtain⟨f,j,k3⟩:=cQk l;rintro _ f ⟨G,q,y,rfl,n,z⟩;have A:=a.nmk;refine JF rfl (call (mQg G q y _ p.nm.length A f z (bQZ (j.mono ω) k3) (ve t _ 0 j)) ?_);rintro _ j ⟨D,A,B,C,r,rfl,a,K,E,F⟩;rw[bQY] at E;refine call (GJ ⟨D,A,B,C,r⟩ j) ?_;rintro _ L ⟨rfl,H⟩;have I:=(n.trans a).trans H;refine Qo (k.ext I) λw5 M _ N=>?_;have J:Mod (·=w.heap.size) L w5:=vQB M rfl;refine Qm N ?_;have k:=n.size;exact⟨_,b,⟨D,A,B,C,r⟩,rfl,J.ext (d.trans I) λi k=>ω,SB.mod (K.ext H) J (λi k e=>by have:=F i k;omega),E,λi k=>by have:=F i k;omega⟩|error e=>rw[l] at b;rintro _ f ⟨G,q,y,rfl,n,z⟩;have k:=d.trans n;have n:=h.ext k;obtain rfl|rfl|rfl|rfl:=cQl l;refine X6 δ (X6 δ (Zl (dG 71 f n) (λ_ _ d=>d.elim) ?_));rintro g j ⟨rfl,a⟩;exact⟨_,b,rfl,k.trans a⟩;refine X6 δ (JF rfl (Zl (dG 2 f n) (λ_ _ d=>d.elim) ?_));rintro g j ⟨rfl,a⟩;exact⟨_,b,rfl,k.trans a⟩;refine X6 δ (X6 δ (Zl (dG 71 f n) (λ_ _ d=>d.elim) ?_));rintro g j ⟨rfl,a⟩;exact⟨_,b,rfl,k.trans a⟩;refine X6 δ (X6 δ (Zl (dG 71 f n) (λ_ _ d=>d.elim) ?_));rintro g j ⟨rfl,a⟩;exact⟨_,b,rfl,k.trans a⟩
theorem cQK (k:Nat)(t:k<=12)(x y:DV)(o n:BF)(w:θ)(N:SB w x.A x.n x.c x.nd)(g:Set1 k x.nd x.r o)(K:SB w y.A y.n y.c y.nd)(s:Set1 k y.nd y.r n):Fn ψ 146 [.pointer (some ⟨p.r,0,none⟩),Q5 x.A x.n x.c x.r,Q5 y.A y.n y.c y.r] w (λu d=>∃a b:DV,u= .tuple #[Q5 a.A a.n a.c a.r,Q5 b.A b.n b.c b.r]/\Ext w d/\SB d a.A a.n a.c a.nd/\Set1 k a.nd a.r (Jw o n)/\(∀i,Qj a.A i->w.heap.size<=i)/\SB d b.A b.n b.c b.nd/\Set1 k b.nd b.r (Vm o n)/\∀i,Qj b.A i->w.heap.size<=i):=by
 refine QK iQ3 [] Tryz.func146 ?_;refine new λO c f L=>?_;refine new λf q h M=>?_;refine new λh m l I=>?_;refine new λz r l Q=>?_;have l:=m.trans r;have m:=q.trans l;have v:=c.trans m;refine Qm (L.ext m) (Qm (M.ext l) ?_);have c:=N.ext v;have q:=K.ext v;refine call (Cj x.A x.n x.c x.nd x.r y.A y.n y.c y.nd y.r z c q) ?_;rw[i9 t g s 0];have V:Set1 k _ _ (Jw o n):=(fj g s 0).congr (λe=>by simp[J5]);generalize Wg x.nd x.r y.nd y.r 0=D at*;obtain⟨z,A⟩:=D;rintro _ c ⟨B,C,E,rfl,J,R,H⟩;refine call (GJ ⟨B,C,E,z,A⟩ c) ?_;rintro _ c ⟨rfl,P⟩;have q:=J.trans P;refine Qo ((I.ext r).ext q) λw7 J _ W=>?_;have r:Mod (·=f.heap.size) c w7:=vQB J rfl;have J:=v.trans q;have I:Ext w w7:=r.ext J λi c=>ω;have J:¬w.heap.size=f.heap.size:=by omega
 have S:¬O.heap.size=f.heap.size:=by omega
 have T:=((L.ext m).ext q).mod r J;have J:=((M.ext l).ext q).mod r S;have O:=(Q.ext q).mod r (by show¬h.heap.size=f.heap.size;omega);have X:=SB.mod (R.ext P) r (λi c e=>by have:=H i c;omega);refine Xw (Ext w7) 12 (oz 4 0 [(false,4),(true,5),(true,6),(false,7),(false,8),(true,9),(true,10),(false,11)]) (Ext.drew w7) (Xe (vs:=x.cells) rfl (λd l j u m=>by rw[(T.ext l).cell];exact m) (Xe (vs:=y.cells) rfl (λd l j u m=>by rw[(J.ext l).cell];exact m) ?_));have J:=Ext.drew w7;refine call (N7 y.A y.n y.c y.nd y.r _ ((K.ext I).ext J)) ?_;have K:Set1 k [] 0 (λ_=>false):=Y0 k false;rw[i9 t s K 3];have P:Set1 k _ _ (λe=> !n e):=(fj s K 3).congr (λe=>by simp[J5]);generalize Wg y.nd y.r [] 0 3=F at*;obtain⟨K,L⟩:=F;rintro _ s ⟨Q,R,S,rfl,T,M,U⟩;refine⟨J.trans T,?_⟩;refine call (GJ ⟨Q,R,S,K,L⟩ s) ?_;rintro _ Y ⟨rfl,U⟩;have s:=(J.trans T).trans U;refine⟨s,?_⟩;refine call (Cj x.A x.n x.c x.nd x.r Q R S K L Y ((N.ext I).ext s) (M.ext U)) ?_;rw[i9 t g P 0];have S:Set1 k _ _ (Vm o n):=(fj g P 0).congr (λe=>by simp[J5]);generalize Wg x.nd x.r K L 0=G at*;obtain⟨J,K⟩:=G;rintro _ g ⟨L,M,N,rfl,n,T,P⟩;refine⟨s.trans n,?_⟩;refine call (GJ ⟨L,M,N,J,K⟩ g) ?_;rintro _ t ⟨rfl,Q⟩;have g:=(s.trans n).trans Q;refine⟨g,?_⟩;refine Qo (O.ext g) λXk U _ R=>?_;have n:Mod (·=h.heap.size) t Xk:=vQB U rfl;have O:Ext w Xk:=n.ext (I.trans g) λi c=>ω;have t:=(W.ext g).mod n (by show¬f.heap.size=h.heap.size;omega);have U:=I.size;have I:=s.size;have s:=n.size;have s:=g.size;have s:=q.size;have q:=r.size;have q:=SB.mod (X.ext g) n (λi c e=>by have:=H i c;omega);have s:=SB.mod (T.ext Q) n (λi c e=>by have:=P i c;omega);have g:=Ext.drew Xk;have n:¬h.heap.size=f.heap.size:=by omega
 refine Xw (λd=>Mod (λi=>i=f.heap.size∨i=h.heap.size) Xk d/\Blk d f.heap.size 32 (⟨B,C,E,z,A⟩:DV).cells/\Blk d h.heap.size 32 (⟨L,M,N,J,K⟩:DV).cells) 4 [(true,0),(true,1),(false,2),(false,3)] ⟨Mod.of_ext _ g,t.ext g,R.ext g⟩ (Xe (vs:=(⟨B,C,E,z,A⟩:DV).cells) rfl (λd l j u m=>by rw[l.2.1.cell];exact m) (Xe (vs:=(⟨L,M,N,J,K⟩:DV).cells) rfl (λd l j u m=>by rw[l.2.2.cell];exact m) (Qo (t.ext g) λZy d _ l=>?_)));have m:Mod (·=f.heap.size) Xk.drew Zy:=vQB d rfl;have d:Mod (λi=>i=f.heap.size∨i=h.heap.size) Xk Zy:=(Mod.of_ext _ g).trans m λi c=>.inl (.inl c);have f:=(R.ext g).mod m n;refine⟨⟨d,l,f⟩,?_⟩;refine Qo f λZe g _ m=>?_;have r:Mod (·=h.heap.size) Zy Ze:=vQB g rfl;have f:=l.mod r λe=>n e.symm;have g:=d.trans r λi c=>.inl (.inr c);refine⟨⟨g,f,m⟩,?_⟩;refine Qm f (Qm m ?_);have d:Ext w Ze:=g.ext O (λi c=>by obtain rfl|rfl:=c <;>omega);exact⟨⟨B,C,E,z,A⟩,⟨L,M,N,J,K⟩,rfl,d,SB.mod q g (λi c e=>by have:=H i c;omega),V,λi c=>by have:=H i c;have:=v.size;omega,
  SB.mod s g (λi c e=>by have:=P i c;omega),S,λi c=>by have:=P i c;omega⟩
theorem cQL (w:θ)(h:Rr w0 w base p m v)(a:v.d<=64):
  FnP ψ 145 [.pointer (some ⟨p.r,0,none⟩)] w (λ_ a=>v.d≠64/\Rr w0 a base p m {v with d:=v.d+1}/\Mod (·=p.r) w a) (λb a=>v.d=64/\b=jZ 2 v.fl v.ln/\Ext w a):=by
 refine d7 (c:={iQ2 with cuts:=[]}) Qe Tryz.func145 rfl rfl rfl ?_;refine Qp h.blk rfl (X0 (λa=>?_) λa=>?_);refine Zl (dG 2 w h) (λ_ _ f=>f.elim) ?_;rintro b f ⟨rfl,g⟩;exact⟨ω,rfl,g⟩;refine Qp h.blk rfl (QF (v.d) (Xv h.blk (show 4<11 by decide) λf b g=>?_));exact⟨λe=>a ω,h.put b g rfl rfl rfl h.nf,b⟩
theorem cQM (a:Γ->Option Nat)(b s:Γ):eo a b s=if s.length<2∨s.head? ≠some 34∨s.getLast? ≠some 34∨s.count 34≠2 then .error 71 else match a ((s.drop 1).take (s.length-2))with|none=>.error 73|some n=>if n∈b then .error 73 else .ok n:=rfl
theorem Cs {a:Γ->Option Nat}{b s:Γ}(h:s.length<2∨s.head? ≠some 34∨s.getLast? ≠some 34∨s.count 34≠2):eo a b s= .error 71:=Qf h
theorem mQD {p:RP}(a:RPok w0 p):KH (p.fs.map (·.1)):=λs c=>by obtain⟨x,b,rfl⟩:=Z5.1 c;exact⟨(a.flb x b).n8,(a.flb x b).nl⟩
theorem mQE {α:Type} [DecidableEq α]{kv:α->τ}{c:Cx}{o:Oper}{S:Env}{t g e:Nat}{r h f:TyRow}{x y:Operand}{q:Nat}{d:χ (α×τ)}{a:α}{C:θ->Prop}{K:Env->Prop}(i:c.g.Ok)(j:o.op= .lookup t x y true)(l:Q8 c.g.tys t=some r)(m:r.d= .map g e)(n:Q8 c.g.tys g=some h)(p:Q8 c.g.tys e=some f)(s:KeyV h.d kv)(u:S.ev x=some (.map (some q))) (z:S.ev y=some (kv a)) (A:∀w,C w->MapAt kv w q d) {v':τ} {b:Bool} (B:(Zc a d).getD f.z=v') (D:(Zc a d).isSome=b) (k:XD c S o.dst (.v (.tuple #[v',.bool b])) K):fa c o S C K:=by subst B D;refine aQD (v:=.tuple #[(Zc a d).getD f.z,.bool (Zc a d).isSome]) (λb w g h=>?_) k;have f:=g.ev u;have u:=g.ev z;have:=M8 (w:=w) (a:=a) i l m n p s (A w h) true;simp only[execOp,j,f,u];simp only[Sem.run_bind,this,Result.andThen_ok];cases Zc a d<;>simp
theorem mQF (s:Γ)(w:θ)(L:RPok w0 p)(h:Rr w0 w base p m v)(C:∀x∈s,x<256)(X:s.length<=1000000000000):FnP ψ 147 [.pointer (some ⟨p.r,0,none⟩),.string (Qb s)] w (λu q=>∃n:Nat,eo (ZS (p.fs.map (·.1))) v.rd s= .ok n/\u= .int .i64 n/\Ext w q) (λi q=>∃e,eo (ZS (p.fs.map (·.1))) v.rd s= .error e/\i=jZ e v.fl v.ln/\Ext w q):=by
 refine d7 (c:={iQ4 with cuts:=[]}) Qe Tryz.func147 rfl rfl rfl ?_;have o:=QZ s;have G:=We C;refine Ql (λB=>?_) λB=>?_;have D:s.length<2:=by rw[o] at B;omega
 refine Zl (dG 71 w h) (λ_ _ f=>f.elim) ?_;rintro i r ⟨rfl,d⟩;exact⟨_,Cs (.inl D),rfl,d⟩;have D:¬s.length<2:=by rw[o] at B;omega
 refine Wd (j:=0) ω λx M W=>?_;rw[G] at M;have E:s.head? =some x:=by rw[List.head?_eq_getElem?];exact M
 refine Ya (λJ=>?_) λJ=>?_;refine Zl (dG 71 w h) (λ_ _ f=>f.elim) ?_;rintro i r ⟨rfl,d⟩;exact⟨_,Cs (.inr (.inl (by rw[E];intro e;cases e;exact J rfl))),rfl,d⟩;have P:x=34:=by omega
 refine Qz ((s.length-1:Nat):Int) ?_ (hm:=by rw[o];omega);refine Wd (j:=s.length-1) ω λy N V=>?_;rw[G] at N;have I:s.getLast? =some y:=by rw[oW];exact N
 refine Ya (λK=>?_) λK=>?_;refine Zl (dG 71 w h) (λ_ _ f=>f.elim) ?_;rintro i r ⟨rfl,d⟩;exact⟨_,Cs (.inr (.inr (.inl (by rw[I];intro e;cases e;exact K rfl)))),rfl,d⟩;have Q:y=34:=by omega
 refine call (cQD s 34 w C δ) ?_;rintro _ _ ⟨rfl,rfl⟩;refine Ya (λR=>?_) λR=>?_;refine Zl (dG 71 w h) (λ_ _ f=>f.elim) ?_;rintro i r ⟨rfl,d⟩;exact⟨_,Cs (.inr (.inr (.inr ω))),rfl,d⟩;have k:¬(s.length<2∨s.head? ≠some 34∨s.getLast? ≠some 34∨s.count 34≠2):=by rintro(h|h|h|h);exact D h;rw[E,P] at h;exact h rfl;rw[I,Q] at h;exact h rfl;omega
 have g:eo (ZS (p.fs.map (·.1))) v.rd s=match ZS (p.fs.map (·.1)) ((s.drop 1).take (s.length-2))with|none=>.error 73|some n=>if n∈v.rd then .error 73 else .ok n:=φ k
 have O:∀b∈(s.drop 1).take (s.length-2),b<256:=λb T=>C b (a8 (aw T));have H:=Ns (mQD L) _ O;have S:=h.blk;refine Xw (Ext w) 15 (oz 15 0 []) (Ext.drew w) (Qx (v:=.map (some p.nq)) (λq z=>by rw[(S.ext z).cell];rfl) (Qz ((s.length-1:Nat):Int) ?_ (hm:=by rw[o];omega)));refine XF (v':=.string (Qb ((s.drop 1).take (s.length-2)))) ⟨ω,ω,by rw[o];omega⟩ ?_ ?_
 rw[Kj];simp only[WX,Int.toNat_one];rw[dm];congr 3;generalize Z:(s.drop 1).take (s.length-2)=l at*;refine mQE (kv:=WE) (a:=Qb l) (v':=.int .i64 ((ZS (p.fs.map (·.1)) l).getD 0:Nat)) (b:=(ZS (p.fs.map (·.1)) l).isSome) Qe rfl rfl rfl rfl rfl vQD rfl rfl (λq z=>(L.nqm.ext h.e0).ext z) (by rw[H];cases ZS (p.fs.map (·.1)) l<;>rfl) (by rw[H];cases ZS (p.fs.map (·.1)) l<;>rfl) ?_;have d:=Ext.drew w;have t:=h.ext d;obtain⟨mp,U,Y,k3⟩:=t.rdm;cases F:ZS (p.fs.map (·.1)) l with|none=>rw[F] at g;refine Q3 rfl (Zl (dG 73 _ t) (λ_ _ f=>f.elim) ?_);rintro i r ⟨rfl,A⟩;exact⟨_,g,rfl,d.trans A⟩|some n=>rw[F] at g;simp only at g;refine QX rfl (Qp t.blk rfl ?_);refine Ny (kv:=d9) (a:=(n:Int)) (v:=.bool (decide (n∈v.rd))) Qe rfl rfl rfl rfl rfl (KeyV.int .i64) rfl rfl U (by rw[k3 n];by_cases hm:n∈v.rd<;>simp[hm]) ?_;by_cases hm:n∈v.rd;rw[Qf hm] at g;refine Zm hm (Zl (dG 73 _ t) (λ_ _ f=>f.elim) ?_);rintro i r ⟨rfl,A⟩;exact⟨_,g,rfl,d.trans A⟩;rw[φ hm] at g;refine XB hm ?_;exact⟨n,g,rfl,d⟩
end
end
section
theorem vn {α:Type}{f:α->χ τ}(a:∀x,∀u∈f x,Kb u=true)(l:χ α):∀u∈l.flatMap f,Kb u=true:=λu b=>by obtain⟨x,_,c⟩:=ay.1 b;exact a x u c
theorem mQG (x:Br):∀u∈x.cells,Kb u=true:=sc rfl
theorem mQH (k:Nat)(a:k<=12)(x:DV)(o:BF)(w:θ)(g:SB w x.A x.n x.c x.nd)(h:Set1 k x.nd x.r o):Fn ψ 206 [Q5 x.A x.n x.c x.r] w (DgF w k o):=by
 have c:=g.2;have c:=h.len a;refine QK jQS [] Tryz.func206 ?_;refine new λm f a j=>?_;refine new λc a d n=>?_;have d:=f.trans a;have f:=j.ext a;refine Xw (Ext c) 6 [(true,0),(true,1),(true,3),(true,4),(false,2),(true,5)] (Ext.drew c) (Qx (v:=.slice x.A x.n x.c) (λj a=>by rw[(f.ext a).cell];rfl) (Qx (v:=.int .i64 x.r) (λj a=>by rw[(f.ext a).cell];rfl) ?_));have f:=Ext.drew c;have a:=f.size;refine XV (base:=c.drew.heap.size) (Own.nil _ _ _ _) ((g.ext d).ext f).1 (vn mQG _) (by unfold maxLen;omega) (Qw _) ?_ (b:=(by show(0+x.n)*24<=_;omega));intro j p w3 q l a;have g:Ext c w3:=q.ext f (λi a=>by obtain⟨_,e,_⟩:=a;cases e);refine⟨g,?_⟩;refine Qo (n.ext g) λw4 q _ r=>?_;have f:Mod (·=m.heap.size) w3 w4:=vQB q rfl;refine Qm r ?_;have m:∀i,Qj j i->c.heap.size<=i:=λi a=>by have:=(l.rows i a).1;omega
 refine⟨⟨j,0+x.n,p,x.nd,x.r⟩,rfl,f.ext (d.trans g) λi a=>ω,?_,h,λi a=>by have:=m i a;have:=d.size;omega⟩;refine SB.mod ⟨?_,by show x.nd.length=0+x.n;omega⟩ f (λi a e=>by have:=m i a;omega);simpa using l.sl
theorem GK {l:χ Sg}{L:χ DV}(h:L.length=l.length)(s:Sg)(x:DV):cN (l++ [s]) (L++ [x])=cN l L++lh (s,x):=by unfold cN;rw[List.zip_append h.symm];simp
theorem cQN {l:χ Sg}{L:χ DV}(h:L.length=l.length):(cN l L).length=l.length*6:=by unfold cN;rw[gJ mQC];simp[h]
theorem cQO (x:Sg×DV):∀u∈lh x,Kb u=true:=sc rfl
theorem GL {w:θ}{b e sz n c j:Nat}{a:Addr}{xs:χ τ}{v:τ}{K:θ->Prop}(h:Own w b e sz (some a) n c xs)(f:0<n)(l:j<n*sz)(k:∀d,Mod (Qj (some a)) w d->Own d b e sz (some a) n c (xs.set j v)->K d):eY w (a.add j) v K:=by
 have _:=f;have l:=h.row;have p:=l.1;obtain⟨f,_⟩|⟨g,q,b,f,r,s,m,t,o,u⟩:=l.2;cases f;cases f;have l:Blk w g e b.toList:=by unfold Blk;rw[s]
 have f:j<b.toList.length:=by have:b.size=c*sz:=o;have q:n*sz<=c*sz:=aY _ m;simp only[Array.length_toList];omega
 refine Xv l f λd q s=>k d (q.mono λi f=>.inl ⟨_,rfl,f.symm⟩) ⟨⟨by rw[jL];exact p,.inr ⟨g,c,(b.toList.set j v).toArray,rfl,r,s,m,t,by simpa using o,?_⟩⟩⟩;have d:b.toList.take (n*sz)=xs:=u;show((b.toList.set j v).toArray.toList).take (n*sz)=xs.set j v;rw[<-d];simp only[List.take_set]
theorem cQP {l:χ Sg}{L:χ DV}(h:L.length=l.length)(s:Sg)(x:DV)(t:Nat):(cN (l++ [s]) (L++ [x])).set (l.length*6+1) (.int .i64 t)=cN (l++ [{s with t:=t}]) (L++ [x]):=by rw[GK h,GK h,Fs _ _ (by rw[cQN h];omega),cQN h];congr 1;rw[show l.length*6+1-l.length*6=1 by omega]<;>rfl
theorem yN {a b:Γ}(c:∀x∈a,x<256)(d:∀x∈b,x<256):∀x∈a++b,x<256:=λx e=>by obtain h|h:=X2.1 e;exact c x h;exact d x h
section
variable {w0:World} {base:Nat} {p:RP}
theorem GN {s:Γ}{fl a:Nat}{k:BF}{g:Gs}(h:1048576<g.tx.length+s.length∨(g.fr=true/\g.sg.length=65536)):Yo s fl a k g=none:=Qf h
theorem cQQ {s:Γ}{fl at_:Nat}{k:BF}{g:Gs}(h:¬(1048576<g.tx.length+s.length∨(g.fr=true/\g.sg.length=65536))):Yo s fl at_ k g=some ⟨g.tx++s,lf (g.tx.length+s.length) (if g.fr then g.sg++ [⟨g.tx.length,0,fl,at_,k⟩] else g.sg),false⟩:=φ h
theorem mQI:Ck 157 11 5:=by unfold Ck;kernel_rfl
theorem Rr.app {m:RM}{v v':RV}{w d w2:θ}(h:Rr w0 w base p m v)(s:Sg)(x:DV){b:Θ}{a:Nat}(g:Mod (Qj m.OA) w d)(f:Own d base 48 6 b (v.g.sg.length+1) a (cN v.g.sg m.L++lh (s,x)))(k:Moved w m.OA b)(c:Mod (·=p.r) d w2)
  (hx:DgO w (TS p m) p.nm.length x s.o) (hl:v.g.sg.length<65536) (e1:v'.g.tx=v.g.tx) (e2:v'.g.sg=v.g.sg++ [s]) (e3:v'.rd=v.rd) (hB:Blk w2 p.r 157 (pJ p {m with OA:=b,oc:=a,L:=m.L++ [x]} v')):Rr w0 w2 base p {m with OA:=b,oc:=a,L:=m.L++ [x]} v':=by
 have l:=TS.moved (p:=p) (m:=m) (m':={m with OA:=b,oc:=a,L:=m.L++ [x]}) rfl k (Moved.refl w m.BA);have k:Mod (RS p m) w w2:=(g.mono (S':=RS p m) λi a=>.inl (.inr (.inr (.inl a)))).trans c λi a=>.inl (.inl a);have n:∀i,Qj b i->¬i=p.r:=λi a e=>by subst e;have:=(f.rows _ a).1;have:=h.rb;omega
 have b:=h.top;have b:=g.size;have b:=c.size;refine⟨k.ext h.e0 h.lo,h.lor,h.loq,h.rb,h.qb,h.ne,ω,h.pa,hB,?_,?_,?_,?_,?_,by rw[e1];exact h.tl,?_,by rw[e1];exact h.b8,λ_=>.inl (by rw[e2];simp),λi a=>JZ (h.tt i a) ω⟩;rw[e1];exact(h.txt.mod g λi a d=>h.txt.apart h.out δ a d).mod c (λi a e=>by subst e;exact h.nrow.2 a);rw[e2];have:=f.mod c n;rw[GK h.len,Qy];exact this;rw[e2];show(m.L++ [x]).length=_;rw[Qy,Qy,h.len]<;>rfl
 rw[e2];intro j n x1 f b;have b:(m.L++ [x])[j]? =some x1:=b;obtain⟨d,f⟩|⟨d,f⟩:=nD f;rw[eW (by rw[h.len];exact d)] at b;exact(h.dgs j n x1 f b).step (k.mono λi a=>.inl (.inl a)) l;rw[aZ (by rw[h.len];exact d),h.len] at b;obtain⟨d,rfl⟩:=i7 f;obtain⟨_,rfl⟩:=i7 b;exact hx.step (k.mono λi a=>.inl (.inl a)) l;obtain⟨b,a,d⟩:=h.rdm;rw[e3];exact⟨b,(a.mod g (a.apart h.out)).mod c λe=>h.ne e.symm,d⟩;rw[e2,Qy];simp;omega
theorem cQR {l:χ Sg}{L:χ DV}(h:L.length=l.length)(c:l≠ []):∃a s b x,l=a++ [s]/\L=b++ [x]/\b.length=a.length:=by obtain rfl|⟨a,s,rfl⟩:=kS l;exact Xg rfl c;obtain rfl|⟨b,x,rfl⟩:=kS L;simp at h;exact⟨a,s,b,x,by simp,by simp,by simpa using h⟩
theorem add_fn (m:RM)(v:RV)(s:Γ)(at_:Nat)(k:DV)(o:BF)(w:θ)(hP:RPok w0 p)(h:Rr w0 w base p m v)(hk:DgO w (RS p m) p.nm.length k o)(h8:∀x∈s,x<256)(me:s.length<=1048577)(T3:v.rd≠ []):
  FnP ψ 150 [.pointer (some ⟨p.r,0,none⟩),.string (Qb s),.int .i64 at_,Q5 k.A k.n k.c k.r] w (λ_ H=>∃g',Yo s v.fl at_ o v.g=some g'/\Ov w0 w base p m {v with g:=g'} H) (λch H=>Yo s v.fl at_ o v.g=none/\ch=jZ 2 v.fl v.ln/\Ext w H):=by
 have X:=QZ s;have VR:=h.tl;have tQn:=h.sl;refine d7 (c:={iQ7 with cuts:=[2,4]}) Qe Tryz.func150 rfl rfl rfl ?_;refine new λE G Q0 Qh=>?_;have A:=h.ext G;refine call (mQj p.r 157 5 (pJ p m v) m.BA m.bc v.g.tx.length E A.blk rfl) ?_;rintro _ _ ⟨rfl,rfl⟩;refine M5 [] Qe (λF=>E=F/\¬(1048576<v.g.tx.length+s.length∨(v.g.fr=true/\v.g.sg.length=65536))) ?_ ?_;refine Qz ((v.g.tx.length+s.length:Nat):Int) ?_ (hm:=by rw[X];omega);refine Ql (λc1=>?_) λc1=>?_;refine Zl (dG 2 E A) (λ_ _ hf=>hf.elim) ?_;rintro ch F ⟨rfl,P⟩;exact⟨GN (.inl ω),rfl,G.trans P⟩;refine Qp A.blk rfl (Z0 (λz=>?_) λz=>?_);refine Qp A.blk rfl (X0 (λc2=>?_) λc2=>?_);refine Zl (dG 2 E A) (λ_ _ hf=>hf.elim) ?_;rintro ch F ⟨rfl,P⟩;exact⟨GN (.inr ⟨z,ω⟩),rfl,G.trans P⟩;exact⟨rfl,rfl,ω⟩;exact⟨rfl,rfl,by rw[z];intro y;obtain y|⟨y,_⟩:=y;omega;cases y⟩;rintro _ ⟨rfl,dW⟩;have T4:=cQQ (s:=s) (fl:=v.fl) (at_:=at_) (k:=o) (g:=v.g) dW;refine M5 [] Qe (Ov w0 E base p m {v with g:=⟨v.g.tx,if v.g.fr then v.g.sg++ [⟨v.g.tx.length,0,v.fl,at_,o⟩] else v.g.sg,false⟩}) ?_ ?_;refine Qp A.blk rfl (Z0 (λz=>?_) λz=>?_);have z:v.g.fr=true:=z;have cC:v.g.sg.length<65536:=by obtain y|y:=Nat.lt_or_ge v.g.sg.length 65536;exact y;exact Xg (Or.inr ⟨z,ω⟩) dW
 have qT:=h.hi;have jC:¬RS p m w.heap.size:=λy=>by have:=qT _ y;omega
 have C:=h.nrow;refine Xw (Mod (Qj m.OA) E) 18 (oz 12 0 [(false,12),(true,13),(false,14),(false,15),(true,16),(true,17)]) (Mod.of_ext _ (Ext.drew E)) (Qx (v:=.slice m.OA v.g.sg.length m.oc) (λH D=>by rw[(A.blk.mod D C.1).cell];rfl) (Qx (v:=.int .i64 v.fl) (λH D=>by rw[(A.blk.mod D C.1).cell];rfl) (Xe (vs:=k.cells) rfl (λH D j u t=>by rw[(Qh.mod D λy=>jC (.inr (.inr (.inl y)))).cell];exact t) ?_)));have I:=Ext.drew E;have qm:=hk.ext G;refine call (mQH p.nm.length hP.nmk k o E.drew (qm.sb.ext I) qm.st) ?_;rintro _ F ⟨x,rfl,P,vH,hxs,LV⟩;have XS:=I.trans P;refine⟨Mod.of_ext _ XS,?_⟩;refine XM (lh (⟨v.g.tx.length,0,v.fl,at_,o⟩,x)) ?_;intro J Qi JI Q;have R:=XS.trans Qi;refine⟨Mod.of_ext _ R,?_⟩;have h3:=A.ext R;have qg:Sl J 6 (some ⟨F.heap.size,0,none⟩) 1 1 (lh (⟨v.g.tx.length,0,v.fl,at_,o⟩,x)):=Sl.own (sz:=6) (n:=1) Q (Qw _) δ (by simp[lh]);refine XV h3.out qg (cQO _) (by unfold maxLen;omega) h3.top ?_ (b:=(by show(v.g.sg.length+1)*64<=_;omega));intro A' c' w4 M qh vT;refine⟨(Mod.of_ext (Qj m.OA) R).trans M λ_=>.inl,?_⟩;refine Xv (h3.blk.mod M C.1) (show 7<11 by decide) λw5 Jb QC=>?_;refine Xv QC (show 8<11 by decide) λw6 Kz Xi=>?_;have U:Mod (·=p.r) w4 w6:=Jb.trans Kz λ_=>.inl;have rQA:=A.hiT;have hxo:DgO J (TS p m) p.nm.length x o:=(DgO.new (S:=TS p m) vH hxs LV λi q=>by have:=rQA i q;have:=I.size;omega).ext Qi;have Dn:DgO J (TS p m) p.nm.length x (⟨v.g.tx.length,0,v.fl,at_,o⟩:Sg).o:=hxo;rw[z,Qf rfl];refine⟨rfl,⟨{m with OA:=A',oc:=c',L:=m.L++ [x]},rfl,h3.app ⟨v.g.tx.length,0,v.fl,at_,o⟩ x M qh vT U Dn cC rfl rfl rfl ?_,?_,vT.back R.size,Moved.refl _ _⟩⟩;have e:(v.g.sg++ [(⟨v.g.tx.length,0,v.fl,at_,o⟩:Sg)]).length=v.g.sg.length+1:=by simp
 show Blk w6 p.r 157 [.slice p.NA p.nn p.nc,.slice p.FA p.nf p.cf,.map (some p.nq),.map (some p.q),.int .i64 v.d,m.pa,.slice m.BA v.g.tx.length m.bc,.slice A' (v.g.sg++ [(⟨v.g.tx.length,0,v.fl,at_,o⟩:Sg)]).length c',.bool false,.int .i64 v.fl,.int .i64 v.ln];rw[e];exact Xi;exact((Mod.of_ext (RS p m) R).trans M λi q=>.inl (.inr (.inr (.inl q)))).trans U λi q=>.inl (.inl q);have z:v.g.fr=false:=z;have e:({v with g:=⟨v.g.tx,if v.g.fr then v.g.sg++ [⟨v.g.tx.length,0,v.fl,at_,o⟩] else v.g.sg,false⟩}:RV)=v:=by obtain⟨d,fl,ln,rd,⟨tx,sg,fr⟩⟩:=v;simp only at z;subst z;rfl
 rw[e];exact⟨rfl,m,rfl,A,Mod.refl _ _,Moved.refl _ _,Moved.refl _ _⟩;rintro F ⟨f,Ys,a,XO,YP,vD⟩;generalize rQB:(if v.g.fr then v.g.sg++ [(⟨v.g.tx.length,0,v.fl,at_,o⟩:Sg)] else v.g.sg)=r at*;have QR:r≠ []:=(a.nf rfl).resolve_right T3;have Km:=a.sl;simp only at Km;obtain⟨l',s0,L',x0,T,e2,e3⟩:=cQR (l:=r) a.len QR;have im:0<r.length:=mU.2 QR;obtain⟨oa,N,_⟩:=a.out.sl.at_ im;have N:f.OA=some oa:=N;have tQo:Ck 157 (pJ p f {v with g:=⟨v.g.tx,r,false⟩}).length 5:=by rw[show(pJ p f {v with g:=⟨v.g.tx,r,false⟩}).length=11 from rfl];exact mQI
 refine call (mQi base p.r 157 5 f.pa (pJ p f {v with g:=⟨v.g.tx,r,false⟩}) f.BA f.bc v.g.tx (Qb s) F tQo (show 6<11 by decide) a.pa a.blk rfl rfl a.txt a.rb a.top (by rw[X];omega)) ?_;rintro _ J ⟨Z,b',Q,Do,XL,zl⟩;rw[X,We h8] at Do;rw[X] at Q;have zD:=a.nrow;have V:Own J base 48 6 f.OA r.length f.oc (cN r f.L):=a.out.mod XL (λi q t=>by
  obtain rfl|t:=t;exact zD.1 q;exact a.out.apart a.txt δ q t)
 have I:=Ext.drew J;have W:=Q.ext I;refine rL Qe 16 κ (Qx (v:=.slice f.OA r.length f.oc) (λH D=>by subst D;rw[W.cell];rfl) (Qx (v:=.slice f.OA r.length f.oc) (λH D=>by subst D;rw[W.cell];rfl) (Qz ((r.length-1:Nat):Int) (Qz ((v.g.tx.length+s.length:Nat):Int) ?_ (hm:=by rw[X];omega)))));rw[N];refine KU (j:=r.length-1) ω ?_;have H7:=V.ext I;rw[N] at H7;have ZU:r.length=l'.length+1:=by rw[T];simp
 show eY _ ((oa.add ((r.length-1)*6)).add 1) _ _;rw[add_add];refine GL H7 im ω λw4 M sT=>?_;have QO:(cN r f.L).set ((r.length-1)*6+1) (.int .i64 ((v.g.tx.length+s.length:Nat):Int))=cN (lf (v.g.tx.length+s.length) r) f.L:=by
  have e:(l'++ [s0]).length-1=l'.length:=by simp
  rw[T,e2,jW,e,cQP e3]
 rw[QO] at sT;have Y:(lf (v.g.tx.length+s.length) r).length=r.length:=by rw[T,jW];simp
 have O:Mod (Qj f.OA) J w4:=by rw[N];exact(Mod.of_ext _ I).trans M λ_=>.inl
 have tQp:∀i,Qj Z i->¬Qj f.OA i:=λi q t=>V.apart Do δ t q;have B:Mod (RS p f) F w4:=(XL.mono (S':=RS p f) (λi q=>by
   obtain rfl|q:=q;exact .inl (.inl rfl);exact .inl (.inr (.inr (.inr q))))).trans O λi q=>.inl (.inr (.inr (.inl q)))
 have JI:=XL.size;have Ku:=O.size;have rQC:=a.top;refine⟨_,T4,{f with BA:=Z,bc:=b',pa:=.pointer (some (KV p.r 5))},Ys,⟨B.ext a.e0 a.lo,a.lor,a.loq,a.rb,a.qb,a.ne,ω,.inr rfl,?_,?_,?_,?_,?_,?_,?_,?_,?_,λ_=>?_,λi q=>JZ (a.tt i q) ω⟩,?_,?_,?_⟩
 all_goals try simp only
 have e:(v.g.tx++s).length=v.g.tx.length+s.length:=by simp
 show Blk w4 p.r 157 [.slice p.NA p.nn p.nc,.slice p.FA p.nf p.cf,.map (some p.nq),.map (some p.q),.int .i64 v.d,.pointer (some (KV p.r 5)),.slice Z (v.g.tx++s).length b',.slice f.OA (lf (v.g.tx.length+s.length) r).length f.oc,.bool false,.int .i64 v.fl,.int .i64 v.ln];rw[e,Y];exact Q.mod O zD.1;rw[Qy];exact Do.mod O tQp;rw[Y];rw[<-N] at sT;exact sT;rw[Y];exact a.len;intro j s1 x1 K Yq;have QE:=TS.moved (p:=p) (m:=f) (m':={f with BA:=Z,bc:=b',pa:=.pointer (some (KV p.r 5))}) rfl (Moved.refl F f.OA) zl;have key:∃s2,r[j]? =some s2/\s2.o=s1.o:=by rw[T,jW] at K;rw[T];obtain⟨t,K⟩|⟨t,K⟩:=nD K;exact⟨s1,by rw[eW t];exact K,rfl⟩;obtain⟨h0,rfl⟩:=i7 K;exact⟨s0,by rw[aZ t,h0];rfl,rfl⟩
 obtain⟨s2,cR,Vz⟩:=key;rw[<-Vz];exact(a.dgs j s2 x1 cR Yq).step (B.mono λi q=>.inl (.inl q)) QE;obtain⟨mp,k1,k2⟩:=a.rdm;refine⟨mp,(k1.mod XL λt=>?_).mod O (k1.apart a.out),k2⟩;obtain e|t:=t;exact a.ne e.symm;exact k1.apart a.txt t;rw[Qy];omega;rw[Y];exact Km;exact yN h.b8 h8;exact .inl (by rw[<-mU,Y];exact im);exact(((Mod.of_ext (RS p m) G).trans XO λ_=>.inl).trans B (λi q=>by
  obtain y|y:=RS.moved (p:=p) YP vD i q;exact .inl y;exact .inr (by have:=G.size;omega)))
 exact YP.back G.size;exact(vD.trans zl XO.size).back G.size
end
end
section
theorem Rr.modT {c w e:θ}{a:Nat}{p:RP}{m:RM}{v:RV}{U T':Nat->Prop}(h:Rr c w a p m v)(b:Mod U w e)(g:∀i,U i->m.T i)(d:∀i,U i->¬RS p m i)(f:∀i,U i->c.heap.size<=i)(k:∀i,T' i->m.T i∨w.heap.size<=i)(l:∀i,T' i->i<e.heap.size):
  Rr c e a p {m with T:=T'} v:=
 ⟨b.ext h.e0 f,h.lor,h.loq,h.rb,h.qb,h.ne,XU h.top b.size,h.pa,h.blk.mod b λa=>d _ a (.inl rfl),h.txt.mod b λi c a=>d _ a (.inr (.inr (.inr c))),h.out.mod b λi c a=>d _ a (.inr (.inr (.inl c))),h.len,
  λj s x e f=>(h.dgs j s x e f).step (b.mono λi c=>.inl (.inr (g i c))) λi c=>c.elim (λg=>.inl (.inl g)) λc=>(k i c).elim (λh=>.inl (.inr h)) .inr,
  let ⟨c,e,f⟩:=h.rdm;⟨c,e.mod b λa=>d _ a (.inr (.inl rfl)),f⟩,h.tl,h.sl,h.b8,h.nf,l⟩
theorem mQJ {j m:Nat}{a l:χ τ}(h:j+a.length<=m)(b:m<=l.length):(Ym j a l).take m=Ym j a (l.take m):=by
 have b:(l.take m).length=m:=by rw[KR];omega
 rw[nv j a l ω,nv j a (l.take m) ω];rw[Mq,Mq,Qy,KR];rw[MB,ZJ (l:=a) ω,MB];rw[show min m j=j by omega,show min j m=j by omega,dm];congr 2;omega
theorem cQS {P:Program}{w:θ}{b e sz n c j:Nat}{a:Addr}{xs d:χ τ}{K:θ->Prop}(h:Own w b e sz (some a) n c xs)(o:j+d.length<=n*sz)(p:∀u∈d,Kb u=true)(k:∀f,Mod (Qj (some a)) w f->Own f b e sz (some a) n c (Ym j d xs)->K f):o6 P w (a.add j) d K:=by
 have l:=h.row;have q:=l.1;obtain⟨i,_⟩|⟨g,r,b,i,s,t,m,v,x,y⟩:=l.2;cases i;cases i;have i:Blk w g e b.toList:=by unfold Blk;rw[t]
 have l:b.toList.length=c*sz:=by simpa using x
 have l:n*sz<=c*sz:=aY _ m;refine iY i ω p λf l _ r=>k f (vQB l ⟨_,rfl,rfl⟩) ⟨⟨by rw[aQF _ _ _ ω];exact q,.inr ⟨g,c,(Ym j d b.toList).toArray,rfl,s,r,m,v,?_,?_⟩⟩⟩;have:=aQF j d b.toList ω;simp only[List.size_toArray];omega;have f:b.toList.take (n*sz)=xs:=y;show((Ym j d b.toList).toArray.toList).take (n*sz)=_;rw[<-f,<-mQJ o ω]
theorem GO {w:θ}{b e f n c o i:Nat}{a:Addr}{d:χ τ}{u:τ}{K:τ->Prop}(h:Own w b e f (some a) n c d)(g:0<n)(j:d[o+i]? =some u)(k:K u):kT w ((a.add o).add i) K:=by obtain⟨f,b,d⟩:=h.sl.at_ g;cases b;exact load (by rw[add_add];exact d _ _ j) k
theorem GP {w:θ}{b e f n c o i:Nat}{a:Addr}{d:χ τ}{u:τ}(h:Own w b e f (some a) n c d)(g:0<n)(j:d[o+i]? =some u):w.cell? ((a.add o).add i)=some u:=by obtain⟨f,b,d⟩:=h.sl.at_ g;cases b;rw[add_add];exact d _ _ j
structure SeV where
 s:Se
 x:DV
 y:DV
def SeV.cells (z:SeV):χ τ:=[.slice z.x.A z.x.n z.x.c,.int .i64 z.x.r,.slice z.y.A z.y.n z.y.c,.int .i64 z.y.r,.bool z.s.ot,.int .i64 z.s.ln]
theorem mQK (z:SeV):z.cells.length=6:=rfl
theorem gV (z:SeV):∀u∈z.cells,Kb u=true:=sc rfl
abbrev cO:TypeId:=232
theorem lj {a:χ τ}{z:SeV}{i:Nat}{u:τ}(h:z.cells[i]? =some u):(a++z.cells)[a.length+i]? =some u:=by rw[aZ ω];rw[show a.length+i-a.length=i by omega];exact h
theorem mQL {a:χ τ}{z:SeV}{i:Nat}{u:τ}:(a++z.cells).set (a.length+i) u=a++z.cells.set i u:=by rw[Fs _ _ ω];rw[show a.length+i-a.length=i by omega]
theorem cQT (c:χ τ)(i:Nat)(z:χ τ):∀(b:χ τ),Ym (b.length+i) c (b++z)=b++Ym i c z|[]=>by simp|a::b=>by rw[Xa,show b.length+1+i=(b.length+i)+1 by omega];show a::Ym (b.length+i) c (b++z)=_;rw[cQT c i z b]<;>rfl
section
variable {w0:World} {base:Nat} {p:RP}
def mQM (w:θ)(k:Nat)(h:Λ)(e n c:Nat)(a:Addr)(g:χ τ)(z:SeV)(j:Bool)(s:Γ)(u:τ)(f:θ):Prop:=
 z.s.ot=false/\Mod (Qj (some a)) w f/\if j then u=Q5 z.y.A z.y.n z.y.c z.y.r/\Own f e cO 6 (some a) n c (g++(⟨{z.s with ot:=true},z.x,z.y⟩:SeV).cells)
  else∃(o:BF) (b d:DV),Jn h s= .ok o/\u=Q5 b.A b.n b.c b.r/\SB f b.A b.n b.c b.nd/\Set1 k b.nd b.r (Jw z.s.re o)/\(∀i,Qj b.A i->w.heap.size<=i)/\SB f d.A d.n d.c d.nd/\Set1 k d.nd d.r (Vm z.s.re o)/\(∀i,Qj d.A i->w.heap.size<=i)/\
   Own f e cO 6 (some a) n c (g++(⟨{z.s with re:=Vm z.s.re o},z.x,d⟩:SeV).cells)
theorem cQU (m:RM)(v:RV)(a:Addr)(n c:Nat)(g:χ τ)(z:SeV)(D:Bool)(s:Γ)(w:θ)(K:RPok w0 p)(h:Rr w0 w base p m v)(r:Own w base cO 6 (some a) n c (g++z.cells))(L:∀i,Qj (some a) i->m.T i)(f:g.length+6=n*6)
  (hy:DgO w (TS p m) p.nm.length z.y z.s.re) (h8:∀x∈s,x<256) (hl:s.length<=1000000000000) (Wo:w0.heap.size<=base):
  FnP ψ 149 [.pointer (some ⟨p.r,0,none⟩),.pointer (some (a.add g.length)),.bool D,.string (Qb s)] w (mQM w p.nm.length p.nm base n c a g z D s)
   (λC j=>∃e,(z.s.ot=true/\e=71∨z.s.ot=false/\D=false/\Jn p.nm s= .error e)/\C=jZ e v.fl v.ln/\Mod (Qj (some a)) w j):=by
 have G:0<n:=by omega
 have f:Qj (some a) a.block:=⟨a,rfl,rfl⟩
 have N:∀i,Qj (some a) i->¬RS p m i:=λi f k=>by
  have l:=(r.rows i f).1;have:=h.rb;have:=h.qb;rcases k with rfl | rfl | k | k
  ·omega
  ·omega
  ·exact r.apart h.out δ f k
  ·exact r.apart h.txt δ f k
 have O:∀i,Qj (some a) i->w0.heap.size<=i:=λi f=>by have:=(r.rows i f).1;omega
 refine d7 (c:={iQ6 with cuts:=[]}) Qe Tryz.func149 rfl rfl rfl ?_;refine new (λl H q P=>?_);have F:=r.ext H;have I:=h.ext H;refine GO F G (lj (i:=4) (u:=.bool z.s.ot) rfl) ?_;refine Z0 (λq=>?_) (λq=>?_)
 ·refine Zl (dG 71 l I) (λ_ _ A=>A.elim) ?_;rintro C E ⟨rfl,B⟩;exact⟨71,.inl ⟨q,rfl⟩,rfl,Mod.of_ext _ (H.trans B)⟩
 have q:z.s.ot=false:=q;have A:∀(i:Nat) (u:τ),z.y.cells[i]? =some u->z.cells[2+i]? =some u:=λi u f=>match i,f with
  | 0,f=>f
  | 1,f=>f
  | _+2,f=>nomatch f
 refine Jm (vs:=z.y.cells) rfl (λi u f=>?_) ?_
 ·show l.cell? (((a.add g.length).add 2).add i)=some u;rw[add_add];exact GP F G (lj (A i u f))
 refine new (λE B M J=>?_);have E:=F.ext B;have E:=I.ext B;refine Qo J (λw3 M E Q=>?_);have E:Ext l w3:=X1 B J M;have M:=F.ext E;have J:=I.ext E;show eY w3 ((a.add g.length).add 4) _ _;rw[add_add];refine GL M G ω (λw4 B F=>?_);rw[mQL] at F;have F:Own w4 base cO 6 (some a) n c (g++(⟨{z.s with ot:=D},z.x,z.y⟩:SeV).cells):=F;have M:=H.trans E;have H:Mod (Qj (some a)) w w4:=(Mod.of_ext _ M).trans B (λ_=>.inl);have R:Rr w0 w4 base p m v:=J.modT B L N O (λ_=>.inl) (λi f=>JZ (J.tt i f) B.size);have I:¬Qj (some a) w.heap.size:=λf=>by have:=(r.rows _ f).2;omega
 have J:¬Qj (some a) l.heap.size:=λf=>by have:=(r.rows _ f).2;omega
 have N:=E.size;have N:=(P.ext E).mod B I;have O:=Q.mod B J;have E:=B.size;cases D with
 | true=>
  refine QX rfl (Qm O (Qo N (λw5 E _ P=>?_)));have D:Mod (·=w.heap.size) w4 w5:=vQB E rfl;refine Qm P ?_;exact⟨q,H.trans D (λi f=>.inr ω),rfl,F.mod D (λi f e=>by subst e;exact I f)⟩
 | false=>
  refine Q3 rfl ?_;have P:z.cells=(⟨{z.s with ot:=false},z.x,z.y⟩:SeV).cells:=by
   obtain⟨⟨D,re,ot,E⟩,x,y⟩:=z;simp only at q;subst q;rfl
  have D:∀j,Mod (·=l.heap.size) w4 j->Own j base cO 6 (some a) n c (g++z.cells):=λj E=>by
   rw[P];exact F.mod E (λi f e=>by subst e;exact J f)
  refine mQw Qe (λC j=>∃e,(z.s.ot=true/\e=71∨z.s.ot=false/\false=false/\Jn p.nm s= .error e)/\C=jZ e v.fl v.ln/\Mod (Qj (some a)) w j) (λC S j F=>F) (Mod (·=l.heap.size) w4) 14 (oz 8 0 [(false,8),(false,9),(true,10),(true,11),(true,12),(false,13)]) κ (Mod.of_ext _ (Ext.drew w4)) ?_;refine Xe (vs:=z.y.cells) rfl (λj E i u f=>?_) ?_
  ·show j.cell? (((a.add g.length).add 2).add i)=some u;rw[add_add];exact GP (D j E) G (lj (A i u f))
  have j:=Ext.drew w4;refine Zl (cQJ s w4.drew K (R.ext j) h8 hl) ?_ ?_
  rotate_left
  ·rintro C w5 ⟨e,E,rfl,F⟩;exact⟨e,.inr ⟨q,rfl,E⟩,rfl,H.trans (Mod.of_ext _ (j.trans F)) (λ_=>.inl)⟩
  rintro _ w5 ⟨o,E,t,rfl,F,C,G,A⟩;have A:=j.trans F;have j:SB w4 z.y.A z.y.n z.y.c z.y.nd:=SB.modo (hy.sb.ext M) B (λF e P f=>hy.off F e P (.inr (L _ f)));refine⟨Mod.of_ext _ A,?_⟩;refine call (cQK p.nm.length K.nmk z.y t z.s.re o w5 (j.ext A) hy.st C G) ?_;rintro _ K ⟨b,d,rfl,B,C,P,L,Q,R,M⟩;have j:=A.trans B;have B:=j.size;have B:=A.size;refine⟨Mod.of_ext _ j,?_⟩;refine Qo (O.ext j) (λw7 A _ T=>?_);have F:Mod (·=l.heap.size) K w7:=vQB A rfl;have G:Mod (·=l.heap.size) w4 w7:=(Mod.of_ext _ j).trans F (λ_=>.inl);refine⟨G,?_⟩;have A:=D w7 G;show o6 _ w7 ((a.add g.length).add 2) _ _;rw[add_add];refine cQS A (by show g.length+2+2<=_;omega) (sc rfl) (λD A B=>?_);rw[cQT] at B;have B:Own D base cO 6 (some a) n c (g++(⟨{z.s with re:=Vm z.s.re o},z.x,d⟩:SeV).cells):=B;have g:=T.mod A J;refine Qm g ?_;have g:=((N.ext j).mod F (by show¬w.heap.size=l.heap.size;omega)).mod A I;refine Qo g (λw9 j _ J=>?_);have l:Mod (·=w.heap.size) D w9:=vQB j rfl;refine Qm J ?_;have g:=H.size;have g:∀x:DV,(∀i,Qj x.A i->w5.heap.size<=i)->SB K x.A x.n x.c x.nd->SB w9 x.A x.n x.c x.nd:=λx k j=>
   SB.mod (SB.mod (SB.mod j F (λi f e=>by have:=k i f;omega)) A (λi f j=>by have:=k i f;have:=(r.rows i j).2;omega)) l (λi f e=>by have:=k i f;omega)
  have j:Mod (Qj (some a)) w w9:=((H.trans G (λi f=>.inr ω)).trans A (λ_=>.inl)).trans l (λi f=>.inr ω);refine⟨q,j,o,b,d,E,rfl,g b L C,P,λi f=>by have:=L i f;omega,g d M Q,R,λi f=>by have:=M i f;omega,B.mod l (λi f e=>by subst e;exact I f)⟩
end
end
end
section
section
theorem mQN (l:Γ)(w:θ)(b:∀x∈l,x<256)(c:l.length<=1000000000000):Fn ψ 143 [.string (Qb l),.string (Qb [32])] w (λv a=>v= .tuple #[.string (Qb (KJ l)),.string (Qb (if 32∈l then YK l else [])),.bool (decide (32∈l))]/\Ext w a):=
 (mQq l w b c).mono λv a h=>by obtain⟨a,b⟩:=h;refine⟨?_,b⟩;rw[a];by_cases a:32∈l;rw[Qf a,Qf a,Zg a];rw[φ a,φ a,XZ a,Oi a]
section
variable {nm:List (List Nat)} {fl d0:Nat} {inc:List Nat->Nat->Nat->BF->Gs->Except Pl Gs} {s:List Nat} {ls:List (List Nat)} {ln at_:Nat} {k:BF} {op:List Se} {g:Gs} {r:List Nat}
theorem GQ (h:X3 s= .ifd r):Z9 nm fl d0 inc (s::ls) ln at_ k op g=match Jn nm r with|.error e=>.error ⟨e,fl,((ln+1:Nat):Int)⟩|.ok d=>if d0+op.length=64 then .error ⟨2,fl,((ln+1:Nat):Int)⟩else Z9 nm fl d0 inc ls (ln+1) (at_+s.length+1) (Jw k d) (⟨k,Vm k d,false,ln+1⟩::op) {g with fr:=true}:=by rw[Z9.eq_def];simp only[h]<;>rfl
theorem Ct (h:X3 s= .inc r):Z9 nm fl d0 inc (s::ls) ln at_ k op g=match inc r (ln+1) (d0+op.length) k g with|.error p=>.error p|.ok a=>Z9 nm fl d0 inc ls (ln+1) (at_+s.length+1) k op {a with fr:=true}:=by rw[Z9.eq_def];simp only[h]<;>rfl
theorem yO (h:X3 s= .elif r):Z9 nm fl d0 inc (s::ls) ln at_ k op g=match op with|[]=>.error ⟨72,fl,((ln+1:Nat):Int)⟩|x::X8=>if x.ot then .error ⟨71,fl,((ln+1:Nat):Int)⟩else match Jn nm r with|.error e=>.error ⟨e,fl,((ln+1:Nat):Int)⟩|.ok d=>Z9 nm fl d0 inc ls (ln+1) (at_+s.length+1) (Jw x.re d) ({x with re:=Vm x.re d}::X8) {g with fr:=true}:=by rw[Z9.eq_def];simp only[h]<;>rfl
theorem yP (h:X3 s= .els):Z9 nm fl d0 inc (s::ls) ln at_ k op g=match op with|[]=>.error ⟨72,fl,((ln+1:Nat):Int)⟩|x::X8=>if x.ot then .error ⟨71,fl,((ln+1:Nat):Int)⟩else Z9 nm fl d0 inc ls (ln+1) (at_+s.length+1) x.re ({x with ot:=true}::X8) {g with fr:=true}:=by rw[Z9.eq_def];simp only[h]<;>rfl
theorem GR (h:X3 s= .en):Z9 nm fl d0 inc (s::ls) ln at_ k op g=match op with|[]=>.error ⟨72,fl,((ln+1:Nat):Int)⟩|x::X8=>Z9 nm fl d0 inc ls (ln+1) (at_+s.length+1) x.ou X8 {g with fr:=true}:=by rw[Z9.eq_def];simp only[h]<;>rfl
theorem pK (h:X3 s= .txt):Z9 nm fl d0 inc (s::ls) ln at_ k op g=match Yo (s++ [10]) fl at_ k g with|none=>.error ⟨2,fl,((ln+1:Nat):Int)⟩|some g'=>Z9 nm fl d0 inc ls (ln+1) (at_+s.length+1) k op g':=by rw[Z9.eq_def];simp only[h]<;>rfl
end
theorem Own.take {w:θ}{a e sz n c k:Nat}{A:Θ}{cs:χ τ}(h:Own w a e sz A n c cs)(d:k<=n):Own w a e sz A k c (cs.take (k*sz)):=by
 have b:=h.row;have a:=b.1;have f:k*sz<=n*sz:=aY _ d;refine⟨⟨by rw[KR];omega,?_⟩⟩;obtain⟨a,q⟩|⟨g,i,d,a,j,l,r,m,o,p⟩:=b.2;cases a;obtain rfl:k=0:=by omega
 exact .inl ⟨rfl,by simp⟩;cases a;refine .inr ⟨g,c,d,rfl,j,l,ω,m,o,?_⟩;have a:d.toList.take (n*sz)=cs:=p;rw[<-a,MB,oV f]
theorem Ow {a:Γ->Option Nat}{b s:Γ}{n:Nat}(h:eo a b s= .ok n):n∉b/\∃t,a t=some n:=by unfold eo at h;split at h;cases h;split at h;cases h;rename_i m c;split at h;cases h;rename_i d;cases h;exact⟨d,_,c⟩
structure LS where
 k:DV
 o:BF
 z:List SeV
 m:RM
 g:Gs
 ln:Nat
 at_:Nat
 ls:Λ
 A:Θ
 c:Nat
def Z2 (z:χ SeV):χ τ:=z.flatMap SeV.cells
theorem lk (z:χ SeV):(Z2 z).length=z.length*6:=gJ mQK z
theorem ep (z:χ SeV)(x:SeV):Z2 (z++ [x])=Z2 z++x.cells:=by simp[Z2]
def Kl (p:RP)(m:RM)(A:Θ)(a:Nat):Nat->Prop:=λi=>RS p m i∨Qj A i∨i=a
abbrev lm:=Γ->Nat->Nat->BF->Gs->Except Pl Gs
structure FrI (w0 w:World) (base:Nat) (p:RP) (m:RM) (v:RV) (n bk:Nat) (text:Γ) (inc:lm) (res:Except Pl Gs) (s:LS) (w':World):Prop where
 rr:Rr w0 w' base p s.m ⟨v.d+s.z.length,n,s.ln,n::v.rd,s.g⟩
 tt:s.m.T=λi=>m.T i∨Qj s.A i∨i=bk
 kb:Blk w' bk 32 s.k.cells
 kd:DgO w' (TS p s.m) p.nm.length s.k s.o
 ow:Own w' base cO 6 s.A s.z.length s.c (Z2 s.z)
 zx:∀z∈s.z,DgO w' (TS p s.m) p.nm.length z.x z.s.ou
 zy:∀z∈s.z,DgO w' (TS p s.m) p.nm.length z.y z.s.re
 dr:text.drop s.at_=Qk s.ls
 al:s.at_+(Qk s.ls).length=text.length
 li:pE s.ls
 rs:Z9 p.nm n v.d inc s.ls s.ln s.at_ s.o (s.z.reverse.map (·.s)) s.g=res
 mw:Mod (RS p m) w w'
 ma:Moved w m.OA s.m.OA
 mb:Moved w m.BA s.m.BA
 nw:∀i,Qj s.A i->w.heap.size<=i
 dl:v.d+s.z.length<=64
 lb:s.ln+s.ls.length<=1048576
section
variable {w0 w w' Z8:World} {base:Nat} {p:RP} {m:RM} {v:RV} {n bk:Nat} {text:List Nat} {inc:lm} {res:Except Pl Gs} {s s':LS}
theorem FrI.sub (h:FrI w0 w base p m v n bk text inc res s w'):∀i,Kl p s.m s.A bk i->TS p s.m i:=λi a=>by obtain a|a|a:=a;exact .inl a;exact .inr (by rw[h.tt];exact .inr (.inl a));exact .inr (by rw[h.tt];exact .inr (.inr a))
theorem FrI.kp (h:FrI w0 w base p m v n bk text inc res s w')(b:Mod (Kl p s.m s.A bk) w' Z8)(c:s'.m.T=λi=>m.T i∨Qj s'.A i∨i=bk)(d:Moved w' s.A s'.A)(e:Moved w' s.m.OA s'.m.OA)(f:Moved w' s.m.BA s'.m.BA){x:DV}{o:BF}(g:DgO w' (TS p s.m) p.nm.length x o):DgO Z8 (TS p s'.m) p.nm.length x o:=
 g.step (b.mono λi a=>.inl (h.sub i a)) (λi a=>by
  obtain a|a:=a;obtain b|b:=RS.moved (p:=p) e f i a;exact .inl (.inl b);exact .inr b;rw[c] at a;obtain a|a|a:=a;exact .inl (.inr (by rw[h.tt];exact .inl a));obtain b|b:=d.rows i a;exact .inl (.inr (by rw[h.tt];exact .inr (.inl b)));exact .inr b;exact .inl (.inr (by rw[h.tt];exact .inr (.inr a))))
theorem FrI.mw' (h:FrI w0 w base p m v n bk text inc res s w')(a:w.heap.size<=bk)(b:Mod (Kl p s.m s.A bk) w' Z8):Mod (RS p m) w Z8:=
 h.mw.trans b (λi a=>by
  obtain a|a|a:=a;exact RS.moved (p:=p) h.ma h.mb i a;exact .inr (h.nw i a);exact .inr ω)
theorem FrI.go (h:FrI w0 w base p m v n bk text inc res s w')(g:w.heap.size<=bk)(j:Mod (Kl p s.m s.A bk) w' Z8)(k:Rr w0 Z8 base p s'.m ⟨v.d+s'.z.length,n,s'.ln,n::v.rd,s'.g⟩)(o:s'.m.T=λi=>m.T i∨Qj s'.A i∨i=bk)(q:Moved w' s.A s'.A)(r:Moved w' s.m.OA s'.m.OA)(u:Moved w' s.m.BA s'.m.BA)(x:Blk Z8 bk 32 s'.k.cells) (y:DgO Z8 (TS p s'.m) p.nm.length s'.k s'.o) (A:Own Z8 base cO 6 s'.A s'.z.length s'.c (Z2 s'.z)) (B:∀z∈s'.z,DgO Z8 (TS p s'.m) p.nm.length z.x z.s.ou) (C:∀z∈s'.z,DgO Z8 (TS p s'.m) p.nm.length z.y z.s.re){l:Γ} (a:s.ls=l::s'.ls) (b:s'.at_=s.at_+l.length+1) (D:Z9 p.nm n v.d inc s'.ls s'.ln s'.at_ s'.o (s'.z.reverse.map (·.s)) s'.g=res) (E:v.d+s'.z.length<=64) (F:s'.ln=s.ln+1):FrI w0 w base p m v n bk text inc res s' Z8:=by
 have c:=h.dr;have d:=h.al;have e:=h.lb;have f:=h.li;rw[a,YJ] at c d;rw[a] at e f;have a:=h.mw.size;refine⟨k,o,x,y,A,B,C,?_,?_,λt G=>f t (by simp[G]),D,h.mw' g j,h.ma.trans r a,h.mb.trans u a,λi k=>?_,E,?_⟩;rw[b,show s.at_+l.length+1=s.at_+(l.length+1) by omega,<-mP,c,<-mP,List.drop_left' rfl]<;>rfl
 rw[b];simp only[Qy,Xa] at d;omega;obtain a|a:=q.rows i k;exact h.nw i a;omega;rw[F];simp only[Xa] at e;omega
theorem FrI.line (h:FrI w0 w base p m v n bk text inc res s w')(f:text.length<=1048576){l:Γ}{a:Λ}(c:s.ls=l::a):10∉l/\s.at_+l.length+1<=text.length/\text.drop s.at_=l++10::Qk a/\(text.drop s.at_).take l.length=l/\(text.drop s.at_).take (l.length+1)=l++ [10]:=by have b:=h.dr;have d:=h.al;have e:=h.li;have _:=f;rw[c,YJ] at b d;rw[c] at e;simp only[Qy,Xa] at d;refine⟨e l (by simp),ω,b,by rw[b];exact uw rfl,?_⟩;rw[b,show l++10::Qk a=(l++ [10])++Qk a by simp];exact uw (by simp)
theorem Rr.putq (h:Rr w0 w base p m v){v':RV}(b:Mod (λi=>i=p.r∨i=p.q) w w')(f:Blk w' p.r 157 (pJ p m v'))(d:v'.g.tx=v.g.tx)(c:v'.g.sg=v.g.sg)(g:v'.g.fr=false->v'.g.sg≠ []∨v'.rd=[])(k:∃a,MapAt d9 w' p.q a/\(a.map (·.1)).Nodup/\∀n:Nat,Zc (n:Int) a=if n∈v'.rd then some (.bool true)else none):Rr w0 w' base p m v':=by have l:=b.ext h.e0 (λi a=>by obtain rfl|rfl:=a;exact h.lor;exact h.loq);have o:=h.rb;have o:=h.qb;refine⟨l,h.lor,h.loq,h.rb,h.qb,h.ne,XU h.top b.size,h.pa,f,?_,?_,by rw[c];exact h.len,λj s x f l=>?_,k,by rw[d];exact h.tl,by rw[c];exact h.sl,by rw[d];exact h.b8,g,λi a=>JZ (h.tt i a) b.size⟩;rw[d];exact h.txt.mod b (λi a e=>by have:=(h.txt.rows i a).1;obtain rfl|rfl:=e <;>omega);rw[c];exact h.out.mod b (λi a e=>by have:=(h.out.rows i a).1;obtain rfl|rfl:=e <;>omega);rw[c] at f;exact(h.dgs j s x f l).keep b λi a=>.inl (.inl (a.elim .inl λe=>.inr (.inl e)))
end
end
section
def rZ (p:RP)(f n:Nat)(a:Γ):lm:=λr b d k g=>match eo (ZS (p.fs.map (·.1))) (n::a) r with|.error e=>.error ⟨e,n,b⟩|.ok m=>if d=64 then .error ⟨2,n,b⟩else Yc p.nm p.fs f (n::a) (d+1) m k g
def mQO (c:θ)(a:Nat)(p:RP)(f:Nat):Prop:=∀(m:RM)(v:RV)(n:Nat)(k:DV)(o:BF)(w:θ),Rr c w a p m v->DgO w (TS p m) p.nm.length k o->n<p.fs.length->n∉v.rd->v.d<=64->65<=f+v.d->
 FnP Tryz.prog 92 [.pointer (some ⟨p.r,0,none⟩),.int .i64 n,Q5 k.A k.n k.c k.r] w (λ_ b=>∃d,Yc p.nm p.fs f v.rd v.d n o v.g= .ok d/\Ov c w a p m {v with g:=d} b) λa b=>∃q,Yc p.nm p.fs f v.rd v.d n o v.g= .error q/\a=jZ q.e q.f q.l/\Mod (RS p m) w b
set_option maxRecDepth 2000 in
theorem cQV (I:θ)(r:Nat)(p:RP)(hP:RPok I p)(Wo:I.heap.size<=r):∀f,mQO I r p f
 |0=>λm v n k o w h M g V hd hf=>Xg hf ω
 |f+1=>λm v n k o w h M g V hd hf=>by
  have ih:=cQV I r p hP Wo f;have C:p.fs[n]? =some p.fs[n]:=Q6 g;have y:=hP.flb _ (Fp g);have Q:Yc p.nm p.fs (f+1) v.rd v.d n o v.g=Z9 p.nm n v.d (rZ p f n v.rd) (QN (p.fs[n].2)) 0 0 o [] {v.g with fr:=true}:=by rw[Yc,C]<;>rfl
  generalize JY:Yc p.nm p.fs (f+1) v.rd v.d n o v.g=K at*;generalize D:p.fs[n].2=text at*;have X:∀x∈text,x<256:=by rw[<-D];exact y.t8
  have VR:text.length<=1048576:=by rw[<-D];exact y.tl
  have G:Qk (QN text)=text:=Wh (by rw[<-D];exact y.ok);have g:=hP.fls.2;refine d7 (c:={c92 with cuts:=[]}) Qe Tryz.func92 rfl rfl rfl ?_;refine new λy H g B=>?_;let A:RM:={m with T:=λi=>m.T i∨Qj (none:Θ) i∨i=w.heap.size}
  have kC:=h.tt;have h1:Rr I y r p A v:=h.modT (U:=λ_=>False) (Mod.of_ext _ H) (λi g=>g.elim) (λi g=>g.elim) (λi g=>g.elim) (λi g=>by
    obtain g|g|g:=g;exact .inl g;obtain⟨_,e,_⟩:=g;cases e;exact .inr ω) (λi g=>by
    obtain g|g|g:=g;have:=kC i g;omega;obtain⟨_,e,_⟩:=g;cases e;omega)
  refine Xw (Ext y) 10 (oz 10 0 []) (Ext.drew y) (Qx (v:=.int .i64 v.fl) (λw' Qa=>by rw[(h1.blk.ext Qa).cell];rfl) (Qx (v:=.int .i64 v.ln) (λw' Qa=>by rw[(h1.blk.ext Qa).cell];rfl) ?_));have E:=Ext.drew y;have h2:=h1.ext E;have S:=B.ext E;generalize y.drew=N at*;obtain⟨F,J,B,P⟩:=h2.rdm;refine Qp h2.blk rfl (po (kv:=d9) (a:=(n:Int)) Qe rfl rfl rfl rfl rfl (KeyV.int .i64) rfl rfl rfl J λw3 L O W=>?_);have O:Mod (·=p.q) N w3:=vQB L rfl;have J:((ZP (n:Int) (Value.bool true) F).map (·.1)).Nodup:=(cQA _ _ _ B).1;have L:∀j:Nat,Zc (j:Int) (ZP (n:Int) (Value.bool true) F)=if j∈n::v.rd then some (.bool true)else none:=λj=>by rw[fc];by_cases Y:j=n;subst Y;simp;rw[φ λe=>Y ω,P j];simp[Y]
  have jF:=h2.blk.mod O h2.ne;refine Xv jF (show 9<11 by decide) λP F B=>?_;refine Xv B (show 10<11 by decide) λP Z QC=>?_;refine Xv QC (show 8<11 by decide) λw6 Kz P=>?_;have B:Mod (·=p.r) w3 w6:=(F.trans Z λ_=>.inl).trans Kz λ_=>.inl;have F:Mod (λi=>i=p.r∨i=p.q) N w6:=(O.mono (S':=λi=>i=p.r∨i=p.q) λi g=>.inl (.inr g)).trans B λi g=>.inl (.inl g);have N:Rr I w6 r p A ⟨v.d,n,0,n::v.rd,{v.g with fr:=true}⟩:=h2.putq F P rfl rfl (λe=>by cases e) ⟨_,W.mod B λe=>h2.ne e.symm,J,L⟩;have gv:¬(w.heap.size=p.r∨w.heap.size=p.q):=λe=>by have:=h.rb;have:=h.qb;have:=h.top;obtain e|e:=e <;>omega
  have J:=S.mod F gv;have L:Mod (RS p m) w w6:=((Mod.of_ext (RS p m) H).trans (Mod.of_ext (RS p m) E) λ_=>.inl).trans (F.mono (S':=RS p m) λi g=>.inl (g.elim .inl λe=>.inr (.inl e))) λ_=>.inl;refine Qp P rfl (XG gU (hP.fls.ext N.e0) rfl ω λO x JQ B=>?_);obtain rfl:p.fs[n]=x:=Option.some.inj (C.symm.trans JQ);refine load (B 1 _ rfl) ?_;rw[D];have B:DgO y (TS p A) p.nm.length k o:=M.step (Mod.of_ext _ H) (λi g=>by
   obtain g|g|g|g:=g;exact .inl (.inl g);exact .inl (.inr g);obtain⟨_,e,_⟩:=g;cases e;exact .inr ω)
  have y:DgO w6 (TS p A) p.nm.length k o:=(B.ext E).keep F λi g=>.inl (.inl (g.elim .inl λe=>.inr (.inl e)));have B:(QN text).length<=text.length:=by have:=pD (QN text);rw[G] at this;exact this
  refine loop Qe [8,10] (λs:LS=>[.slice s.A s.z.length s.c,.int .i64 s.at_]) (λs w'=>FrI I w r p m v n w.heap.size text (rZ p f n v.rd) K s w') (λs _=>s.ls.length) ⟨k,o,[],A,{v.g with fr:=true},0,0,QN text,none,0⟩ rfl
   ⟨N,rfl,J,y,Own.nil _ _ _ _,(λz B=>by cases B),(λz B=>by cases B),(by rw[G];rfl),(by rw[G];simp),nE text,Q.symm,L,Moved.refl _ _,Moved.refl _ _,(λi g=>by obtain⟨_,e,_⟩:=g;cases e),hd,(by show 0+(QN text).length<=_;omega)⟩ ?_
  rintro s F y;have E:=y.rr;have JM:=y.al;refine Ql (λA=>?_) λA=>?_;rotate_left;have ZF:s.ls=[]:=by have hs:=QZ text;have:=pD s.ls;exact VT ω
  have A:=y.rr;have D:=y.rs;rw[ZF] at D;refine Ql (λB=>?_) λB=>?_;obtain⟨A,x,Q⟩:∃A x,s.z=A++ [x]:=by obtain S|⟨A,x,S⟩:=kS s.z;rw[S] at B;exact Xg B δ;exact⟨A,x,by rw[S];simp⟩
  have YB:s.z.length=A.length+1:=by rw[Q];simp
  have bQ:s.z.reverse.map (·.s)=x.s::A.reverse.map (·.s):=by rw[Q];simp
  obtain⟨oa,Z,_⟩:=y.ow.sl.at_ (by omega:0<s.z.length);have G:Own F r cO 6 (some oa) s.z.length s.c (Z2 A++x.cells):=by rw[<-Z,<-ep,<-Q];exact y.ow
  have Kw:=y.dl;refine Qz ((A.length:Nat):Int) ?_;rw[Z];refine KU (j:=A.length) ω ?_;rw[show A.length*6=(Z2 A).length from (lk A).symm];refine GO G ω (lj (i:=5) (u:=.int .i64 x.s.ln) rfl) (Xv E.blk (show 10<11 by decide) λH J N=>?_);have O:Rr I H r p s.m ⟨v.d+s.z.length,n,x.s.ln,n::v.rd,s.g⟩:=E.put J N rfl rfl rfl E.nf;refine Zl (dG 72 H O) (λ_ _ hf=>hf.elim) ?_;rintro ch w9 ⟨rfl,M⟩;refine⟨⟨72,n,x.s.ln⟩,?_,rfl,y.mw' (Qw _) ((J.mono (S':=Kl p s.m s.A w.heap.size) λi g=>.inl (.inl (.inl g))).trans (Mod.of_ext _ M) λ_=>.inl)⟩;rw[<-D,Z9.eq_def,bQ];have VM:s.z=[]:=VT ω;obtain⟨mq,G,k2,k3⟩:=E.rdm;refine Qp E.blk rfl (mQl (kv:=d9) (a:=(n:Int)) Qe rfl rfl rfl rfl rfl (KeyV.int .i64) rfl rfl G λH W L J=>?_);refine Xv (E.blk.mod W E.ne) (show 9<11 by decide) λw9 P L=>?_;refine Xv L (show 10<11 by decide) λQu G Zo=>?_;refine Xv Zo (show 8<11 by decide) λQJ Wp ZC=>?_;have L:Mod (·=p.r) H QJ:=(P.trans G λ_=>.inl).trans Wp λ_=>.inl;have P:Mod (λi=>i=p.r∨i=p.q) F QJ:=(W.mono (S':=λi=>i=p.r∨i=p.q) λi g=>.inl (.inr g)).trans L λi g=>.inl (.inl g);have W:v.d+s.z.length=v.d:=by rw[VM]<;>rfl
  rw[W] at ZC;have ZY:Rr I QJ r p s.m ⟨v.d,v.fl,v.ln,v.rd,{s.g with fr:=true}⟩:=E.putq P ZC rfl rfl (λe=>by cases e) ⟨_,J.mod L λe=>E.ne e.symm,(k2.sublist ((cQx (n:Int) mq).map _)),λj=>by
   rw[cQz _ _ _ k2];by_cases Y:j=n;subst Y;rw[Qf rfl,φ V];rw[φ λe=>Y ω,k3 j];simp[Y]⟩
  have Zp:Rr I QJ r p {s.m with T:=m.T} ⟨v.d,v.fl,v.ln,v.rd,{s.g with fr:=true}⟩:=ZY.modT (U:=λ_=>False) (Mod.refl _ _) (λi g=>g.elim) (λi g=>g.elim) (λi g=>g.elim) (λi g=>.inl (by rw[y.tt];exact .inl g)) (λi g=>by
   have:=kC i g;have:=y.mw.size;have:=P.size;omega)
  refine⟨{s.g with fr:=true},?_,{s.m with T:=m.T},rfl,Zp,y.mw' (Qw _) (P.mono λi g=>.inl (.inl (g.elim .inl λe=>.inr (.inl e)))),y.ma,y.mb⟩;rw[<-D,Z9.eq_def,VM]<;>rfl
  ·cases ZF:s.ls with|nil=>have hs:=QZ text;rw[ZF] at JM;have:(Qk ([]:Λ)).length=0:=rfl;omega|cons l L=>
    obtain⟨W,l2,P,l4,l5⟩:=y.line VR ZF;have XC:=QZ text;have K7:∀x∈l,x<256:=λx C=>X x (a8 (by rw[P];simp[C]:x∈text.drop s.at_));have mo:=y.lb;refine XF (v':=.string (Qb (text.drop s.at_))) ⟨ω,by rw[XC];omega,by rw[XC];omega⟩ ?_ ?_
    rw[Kj,XC];simp only[WX];rw[ZJ (Qw _)];refine call (Oh (text.drop s.at_) 10 F (λx C=>X x (a8 C)) δ) ?_;rintro _ _ ⟨rfl,rfl⟩;have X:lg 10 (text.drop s.at_)=(l.length:Nat):=by unfold lg;rw[Qf (by rw[P];simp),P,List.takeWhile_append_of_pos λx C=>by simpa using λe=>W (by rw[<-e];exact C)];simp
    rw[X];refine Qz ((s.at_+l.length:Nat):Int) ?_ (hm:=by show((s.at_:Nat):Int)+_=_;omega);refine Qz ((s.at_+l.length+1:Nat):Int) (Qz ((s.at_+l.length:Nat):Int) (XF (v':=.string (Qb l)) ⟨ω,ω,by rw[XC];omega⟩ ?_ ?_));rw[Kj];simp only[WX];rw[dm,show s.at_+l.length-s.at_=l.length by omega,l4];refine Qp E.blk rfl (QF (s.ln) (Xv E.blk (show 10<11 by decide) λH J N=>?_));have O:Rr I H r p s.m ⟨v.d+s.z.length,n,s.ln+1,n::v.rd,s.g⟩:=E.put J N rfl rfl rfl E.nf;refine call (mQN l H K7 ω) ?_;rintro _ w9 ⟨rfl,M⟩;have H:=O.ext M;have Wv:w.heap.size<=w.heap.size:=Qw _;have Yh:Mod (Kl p s.m s.A w.heap.size) F w9:=(J.mono (S':=Kl p s.m s.A w.heap.size) λi g=>.inl (.inl (.inl g))).trans (Mod.of_ext _ M) λ_=>.inl;have npr:¬w.heap.size=p.r:=λe=>gv (.inl e);have fC:Blk w9 w.heap.size 32 s.k.cells:=(y.kb.mod J npr).ext M;have vU:∀{x:DV} {o:BF},DgO F (TS p s.m) p.nm.length x o->DgO w9 (TS p s.m) p.nm.length x o:=λC=>y.kp Yh y.tt (Moved.refl _ _) (Moved.refl _ _) (Moved.refl _ _) C
    have iz:=vU y.kd;have O:∀i,Qj s.A i->¬i=p.r:=λi g e=>by have:=(y.ow.rows i g).1;have:=E.rb;omega
    have W:Own w9 r cO 6 s.A s.z.length s.c (Z2 s.z):=(y.ow.mod J O).ext M;have D:=y.rs;rw[ZF] at D;have tT:(((Qb (KJ l)).size:Int)<(Qb l).size)↔32∈l:=by rw[QZ,QZ,<-cQE];omega
    have Kw:=y.dl;have E:l.length<=1048576:=by omega
    have E:=Yh.size;have E:=y.mw.size;have XK:∀(q:Pl) (ch:χ PanicEntry) (w':θ),K= .error q->ch=jZ q.e q.f q.l->Mod (Kl p s.m s.A w.heap.size) w9 w'->∃q,K= .error q/\ch=jZ q.e q.f q.l/\Mod (RS p m) w w':=λq ch w' h1 h2 h3=>⟨q,h1,h2,y.mw' Wv (Yh.trans h3 λ_=>.inl)⟩
    have EN:∀i,Qj s.A i->I.heap.size<=i:=λi g=>by have:=(W.rows i g).1;omega
    have kH:∀i,Qj s.A i->¬RS p s.m i:=λi g V=>by have E:=(W.rows i g).1;have:=H.rb;have:=H.qb;obtain rfl|rfl|V|V:=V;omega;omega;exact W.apart H.out δ g V;exact W.apart H.txt δ g V
    have qW:∀i,Qj s.A i->s.m.T i:=λi g=>by rw[y.tt];exact .inr (.inl g)
    have nbk:¬RS p s.m w.heap.size:=λV=>by have:=h.rb;have:=h.qb;have:=h.top;obtain e|e|V|V:=V;omega;omega;exact fC.apart H.out δ V;exact fC.apart H.txt δ V
    have hhA:∀i,Qj s.A i->i<w9.heap.size:=λi g=>(W.rows i g).2;have nbA:¬Qj s.A w.heap.size:=fC.apart W δ;have J:¬Qj s.A p.r:=λg=>O _ g rfl
    by_cases P1:KJ l=rY/\32∈l
    ·have K:=mQr P1.1 P1.2;rw[Qf P1.2];have cr:∀x∈YK l,x<256:=λx C=>K7 x (a8 C);have kF:(YK l).length<=1000000000000:=by unfold YK;rw[Wz];omega
     refine Zm (by rw[P1.1];rfl) (Zm (tT.2 P1.2) (Zl (cQJ (YK l) w9 hP H cr kF) ?_ ?_));rotate_left;rintro ch Qu ⟨e,he,rfl,M⟩;refine XK ⟨e,n,((s.ln+1:Nat):Int)⟩ _ Qu ?_ rfl (Mod.of_ext _ M);rw[<-D,GQ K,he];rintro _ Qu ⟨d,he,t,rfl,M,RE,Yv,mj⟩;refine new λQJ Zf E ZC=>?_;refine Qo ZC λXk E _ Kn=>?_;have zF:Ext Qu Xk:=X1 Zf ZC E;have E:=M.trans zF;have Zp:=H.ext E;have N:=E.size;have N:=M.size;refine Zl (cQL Xk Zp Kw) ?_ ?_;rotate_left;rintro ch Zy ⟨P,rfl,N⟩;refine XK ⟨2,n,((s.ln+1:Nat):Int)⟩ _ Zy ?_ rfl (Mod.of_ext _ (E.trans N));have P:v.d+(s.z.reverse.map (·.s)).length=64:=by simpa using P
     rw[<-D,GQ K,he];simp only[Qf P];rintro _ Zy ⟨vV,V4,fD⟩;have vV:¬v.d+s.z.length=64:=vV;have X:=(fC.ext E).mod fD npr;have N:¬Qu.heap.size=p.r:=λe=>by have:=H.rb;have:=H.top;omega
     have rQH:=Kn.mod fD N;refine Qm X (Qm rQH ?_);have RF:=(iz.ext E).keep fD λi g=>.inl (.inl (.inl g));have N:SB Zy t.A t.n t.c t.nd:=SB.mod (RE.ext zF) fD (λi g e=>by have:=mj i g;have:=H.rb;have:=H.top;omega);refine call (cQK p.nm.length hP.nmk s.k t s.o d Zy RF.sb RF.st N Yv) ?_;rintro _ Ze ⟨a,b,rfl,J1,rQJ,has,EC,rQK,qU,jF⟩;refine new λJu Zi N kn=>?_;refine new λKC N Ds Yt=>?_;have vW:=Zi.trans N;refine Qo (kn.ext N) λJO vX _ fB=>?_;have N:Mod (·=Ze.heap.size) KC JO:=vQB vX rfl;have sW:Ext Ze JO:=N.ext vW λi g=>ω;refine Qo (Yt.mod N (by show¬Ju.heap.size=Ze.heap.size;omega)) λKO N _ gj=>?_;have Dt:Mod (·=Ju.heap.size) JO KO:=vQB N rfl;have fQY:Ext Ze KO:=Dt.ext sW λi g=>ω;have rQM:=fB.mod Dt (by show¬Ze.heap.size=Ju.heap.size;omega);have N:=J1.trans fQY;have dQ:=V4.ext N;have Ic:=X.ext N;have X:=RF.ext N;have X:=(W.ext E).mod fD O;have rQO:=X.ext N;have hd:=Ext.drew KO;have X:=N.size;have X:=fD.size;have X:=J1.size;have X:=vW.size;have X:¬Qj s.A Ju.heap.size:=λg=>by have:=hhA _ g;omega
     refine Xw (Mod (Qj s.A) KO) 11 (oz 8 0 [(false,8),(false,9),(true,10)]) (Mod.of_ext _ hd) (Xe (vs:=s.k.cells) rfl (λw' Qa j u Y=>by rw[(Ic.mod Qa nbA).cell];exact Y) (Xe (vs:=b.cells) rfl (λw' Qa j u Y=>by rw[(gj.mod Qa X).cell];exact Y) (Qx (v:=.int .i64 ((s.ln+1:Nat):Int)) (λw' Qa=>by rw[(dQ.blk.mod Qa J).cell];rfl) ?_)));let J:SeV:=⟨⟨s.o,Vm s.o d,false,s.ln+1⟩,s.k,b⟩
     refine XM (J.cells) ?_;intro Yu jr X qr;have X:=hd.trans jr;refine⟨Mod.of_ext _ X,?_⟩;have rQP:Sl Yu 6 (some ⟨KO.drew.heap.size,0,none⟩) 1 1 J.cells:=Sl.own (sz:=6) (n:=1) qr (Qw _) δ (by simp[SeV.cells]);refine XV (rQO.ext X) rQP (gV J) (by unfold maxLen;omega) (dQ.ext X).top ?_ (b:=(by show(s.z.length+1)*80<=_;omega));intro A' c' Jx zG Id Ie;have vZ:Mod (Qj s.A) KO Jx:=(Mod.of_ext (Qj s.A) X).trans zG λ_=>.inl;refine⟨vZ,?_⟩;have n14A:¬Qj s.A Ze.heap.size:=λg=>by have:=hhA _ g;omega
     refine Qm (rQM.mod vZ n14A) (Qo (Ic.mod vZ nbA) λdR Du _ sZ=>?_);have og:Mod (·=w.heap.size) Jx dR:=vQB Du rfl;have rQQ:Mod (Kl p s.m s.A w.heap.size) KO dR:=(vZ.mono (S':=Kl p s.m s.A w.heap.size) λi g=>.inl (.inr (.inl g))).trans og λi g=>.inl (.inr (.inr g));have s6:=vZ.size;have iA:Rr I Jx r p {s.m with T:=λi=>m.T i∨Qj A' i∨i=w.heap.size} ⟨v.d+s.z.length+1,n,s.ln+1,n::v.rd,s.g⟩:=dQ.modT vZ qW kH EN (λi g=>by
       obtain g|g|g:=g;exact .inl (by rw[y.tt];exact .inl g);obtain h1|h1:=Ie.rows i g;exact .inl (by rw[y.tt];exact .inr (.inl h1));exact .inr (by have:=X.size;omega);exact .inl (by rw[y.tt];exact .inr (.inr g))) (λi g=>by
       obtain g|g|g:=g;have:=kC i g;omega;exact(Id.rows i g).2;have:=Ic.lt;omega)
     have js:Rr I dR r p {s.m with T:=λi=>m.T i∨Qj A' i∨i=w.heap.size} ⟨v.d+s.z.length+1,n,s.ln+1,n::v.rd,s.g⟩:=iA.modT og (λi g=>.inr (.inr g)) (λi g=>by subst g;exact nbk) (λi g=>by have:=h.e0.size;omega) (λ_=>.inl) λi g=>JZ (iA.tt i g) og.size;refine Xv js.blk (show 8<11 by decide) λWq If wg=>?_;have om:Rr I Wq r p {s.m with T:=λi=>m.T i∨Qj A' i∨i=w.heap.size} ⟨v.d+s.z.length+1,n,s.ln+1,n::v.rd,{s.g with fr:=true}⟩:=js.put If wg rfl rfl rfl (λe=>by cases e);have gQ2:Mod (Kl p s.m s.A w.heap.size) w9 KO:=((Mod.of_ext _ E).trans (fD.mono (S':=Kl p s.m s.A w.heap.size) λi g=>.inl (.inl (.inl g))) λ_=>.inl).trans (Mod.of_ext _ N) λ_=>.inl;have gQ3:Mod (Kl p s.m s.A w.heap.size) KO Wq:=rQQ.trans If λi g=>.inl (.inl (.inl g));have gQ4:Mod (Kl p s.m s.A w.heap.size) F Wq:=(Yh.trans gQ2 λ_=>.inl).trans gQ3 λ_=>.inl;have gQ5:Moved F s.A A':=Ie.back (by have:=Yh.size;have:=gQ2.size;have:=X.size;omega);have E:(λi=>m.T i∨Qj A' i∨i=w.heap.size)=(λi=>m.T i∨Qj A' i∨i=w.heap.size):=rfl;let s':LS:=⟨a,Jw s.o d,s.z++ [J],{s.m with T:=λi=>m.T i∨Qj A' i∨i=w.heap.size},{s.g with fr:=true},s.ln+1,s.at_+l.length+1,L,A',c'⟩
     have E:∀{x:DV} {o:BF},DgO F (TS p s.m) p.nm.length x o->DgO Wq (TS p s'.m) p.nm.length x o:=λC=>y.kp (s':=s') gQ4 rfl gQ5 (Moved.refl _ _) (Moved.refl _ _) C;have mr:(s.z++ [J]).length=s.z.length+1:=by simp
     have tQr:∀i,TS p s.m i->i<Zy.heap.size:=λi g=>by have:=H.hiT i g;omega
     have N:∀(x:DV) (ox:BF),(∀i,Qj x.A i->Zy.heap.size<=i)->SB Ze x.A x.n x.c x.nd->Set1 p.nm.length x.nd x.r ox->DgO Wq (TS p s'.m) p.nm.length x ox:=λx ox V C hs=>by
      have e1:DgO KO (TS p s.m) p.nm.length x ox:=⟨C.ext fQY,hs,λad e _ hh=>by have:=V _ ⟨ad,e,rfl⟩;have:=tQr _ hh;omega⟩
      exact e1.step (gQ3.mono λi g=>.inl (y.sub i g)) (λi g=>by
       obtain g|g:=g;exact .inl (.inl g);obtain g|g|g:=g;exact .inl (.inr (by rw[y.tt];exact .inl g));obtain h1|h1:=Ie.rows i g;exact .inl (.inr (by rw[y.tt];exact .inr (.inl h1)));exact .inr (by have:=X.size;omega);exact .inl (.inr (by rw[y.tt];exact .inr (.inr g))))
     refine⟨s',?_,?_,?_⟩;show Has _ _;have e:(((s.z++ [J]).length:Nat):Int)=((s.z.length+1:Nat):Int):=by rw[mr]
     simp only[s',mr];rfl;refine y.go (s':=s') Wv gQ4 ?_ rfl gQ5 (Moved.refl _ _) (Moved.refl _ _) ?_ ?_ ?_ ?_ ?_ ZF rfl ?_ ?_ rfl;show Rr I Wq r p _ ⟨v.d+(s.z++ [J]).length,n,s.ln+1,n::v.rd,{s.g with fr:=true}⟩;rw[mr];exact om;exact sZ.mod If npr;exact N a _ EC rQJ has;show Own Wq r cO 6 A' (s.z++ [J]).length c' (Z2 (s.z++ [J]));rw[mr,ep];exact(Id.mod og λi g e=>by subst e;exact(Ic.mod vZ nbA).apart Id δ g).mod If (λi g e=>by subst e;have:=(Id.rows _ g).1;have:=h.rb;omega);intro z B;simp only[s',X2,Xx] at B;obtain B|rfl:=B;exact E (y.zx z B);exact E y.kd;intro z B;simp only[s',X2,Xx] at B;obtain B|rfl:=B;exact E (y.zy z B);exact N b _ jF rQK qU;have P:¬v.d+(s.z.reverse.map (·.s)).length=64:=by simpa using vV
     rw[GQ K,he] at D;simp only[φ P] at D;rw[<-D];simp[s',J];show v.d+(s.z++ [J]).length<=64;rw[mr];omega;show L.length<(l::L).length;simp
    have Je:v.d+(s.z.reverse.map (·.s)).length=v.d+s.z.length:=by simp
    have cr:∀x∈YK l,x<256:=λx C=>K7 x (a8 C);have kF:(YK l).length<=1000000000000:=by unfold YK;rw[Wz];omega
    by_cases P2:KJ l=vk/\32∈l
    ·have K:=mQs P2.1 P2.2;rw[Qf P2.2];refine XB (by rw[P2.1];decide) (Zm (by rw[P2.1];rfl) (Zm (tT.2 P2.2) (Zl (mQF (YK l) w9 hP H cr kF) ?_ ?_)));rotate_left;rintro ch Qu ⟨e,he,rfl,M⟩;refine XK ⟨e,n,((s.ln+1:Nat):Int)⟩ _ Qu ?_ rfl (Mod.of_ext _ M);rw[<-D,Ct K];have g:rZ p f n v.rd (YK l) (s.ln+1) (v.d+(s.z.reverse.map (·.s)).length) s.o s.g= .error ⟨e,n,((s.ln+1:Nat):Int)⟩:=by
      unfold rZ;rw[show eo (ZS (p.fs.map (·.1))) (n::v.rd) (YK l)= .error e from he]
     rw[g];rintro _ Qu ⟨n',he,rfl,M⟩;have he:eo (ZS (p.fs.map (·.1))) (n::v.rd) (YK l)= .ok n':=he;have X:=H.ext M;refine Zl (cQL Qu X Kw) ?_ ?_;rotate_left;rintro ch QJ ⟨P,rfl,Zf⟩;refine XK ⟨2,n,((s.ln+1:Nat):Int)⟩ _ QJ ?_ rfl (Mod.of_ext _ (M.trans Zf));have P:v.d+(s.z.reverse.map (·.s)).length=64:=by simpa using P
     rw[<-D,Ct K];have g:rZ p f n v.rd (YK l) (s.ln+1) (v.d+(s.z.reverse.map (·.s)).length) s.o s.g= .error ⟨2,n,((s.ln+1:Nat):Int)⟩:=by unfold rZ;rw[he];simp only[Qf P]
     rw[g];rintro _ QJ ⟨vV,ZY,Wp⟩;have vV:¬v.d+s.z.length=64:=vV;have P:¬v.d+(s.z.reverse.map (·.s)).length=64:=by simpa using vV
     have zH:=(fC.ext M).mod Wp npr;refine Qm zH ?_;obtain⟨Am,tn,xp⟩:=Ow he;have K8:n'<p.fs.length:=by have:=ld xp;simpa using this
     have Dv:=(iz.ext M).keep Wp λi g=>.inl (.inl (.inl g));have kG:∀R,Yc p.nm p.fs f (n::v.rd) (v.d+s.z.length+1) n' s.o s.g=R->rZ p f n v.rd (YK l) (s.ln+1) (v.d+(s.z.reverse.map (·.s)).length) s.o s.g=R:=λR hR=>by unfold rZ;rw[he];simp only[φ P];rw[Je];exact hR
     have T6:Mod (Kl p s.m s.A w.heap.size) w9 QJ:=(Mod.of_ext _ M).trans (Wp.mono (S':=Kl p s.m s.A w.heap.size) λi g=>.inl (.inl (.inl g))) λ_=>.inl;refine Zl (ih s.m ⟨v.d+s.z.length+1,n,s.ln+1,n::v.rd,s.g⟩ n' s.k s.o QJ ZY Dv K8 Am (by show v.d+s.z.length+1<=64;omega) (by show 65<=f+(v.d+s.z.length+1);omega)) ?_ ?_;rotate_left;rintro ch Xk ⟨q,P,rfl,Y8⟩;refine XK q _ Xk ?_ rfl (T6.trans Y8 λi g=>.inl (.inl g));rw[<-D,Ct K,kG _ P];rintro _ Xk ⟨g',Wb,P,iS,Zp,Y8,rQR,rQS⟩;refine Qp Zp.blk rfl (Qz ((v.d+s.z.length:Nat):Int) ?_ (hm:=by show((v.d+s.z.length+1:Nat):Int)-1=_;omega));refine Xv Zp.blk (show 4<11 by decide) λZy fD KB=>?_;have V4:Rr I Zy r p P ⟨v.d+s.z.length,n,s.ln+1,n::v.rd,g'⟩:=Zp.put fD KB rfl rfl rfl Zp.nf;refine Xv V4.blk (show 8<11 by decide) λZe wh Ko=>?_;have Yi:Rr I Ze r p P ⟨v.d+s.z.length,n,s.ln+1,n::v.rd,{g' with fr:=true}⟩:=V4.put wh Ko rfl rfl rfl (λe=>by cases e);have RH:Mod (·=p.r) Xk Ze:=fD.trans wh λ_=>.inl;have tQs:Mod (Kl p s.m s.A w.heap.size) w9 Ze:=(T6.trans Y8 λi g=>.inl (.inl g)).trans RH λi g=>.inl (.inl (.inl g));have LX:Mod (Kl p s.m s.A w.heap.size) F Ze:=Yh.trans tQs λ_=>.inl;have hzm:=T6.size;have iB:Moved F s.m.OA P.OA:=rQR.back ω;have iC:Moved F s.m.BA P.BA:=rQS.back ω;let s':LS:=⟨s.k,s.o,s.z,P,{g' with fr:=true},s.ln+1,s.at_+l.length+1,L,s.A,s.c⟩
     have Ys:s'.m.T=λi=>m.T i∨Qj s'.A i∨i=w.heap.size:=by show P.T=_;rw[iS,y.tt]
     have E:∀{x:DV} {o:BF},DgO F (TS p s.m) p.nm.length x o->DgO Ze (TS p s'.m) p.nm.length x o:=λC=>y.kp (s':=s') LX Ys (Moved.refl _ _) iB iC C;have rQT:Own Ze r cO 6 s.A s.z.length s.c (Z2 s.z):=((((W.ext M).mod Wp O).mod Y8 kH).mod RH O)
     have Dw:=(zH.mod Y8 nbk).mod RH npr;refine⟨s',rfl,?_,?_⟩;refine y.go (s':=s') Wv LX Yi Ys (Moved.refl _ _) iB iC Dw (E y.kd) rQT (λz B=>E (y.zx z B)) (λz B=>E (y.zy z B)) ZF rfl ?_ Kw rfl;rw[Ct K,kG _ Wb] at D;exact D;show L.length<(l::L).length;simp
    by_cases P3:KJ l=yK/\32∈l
    ·have K:=mQt P3.1 P3.2;rw[Qf P3.2];refine XB (by rw[P3.1];decide) (XB (by rw[P3.1];decide) (Zm (by rw[P3.1];rfl) (Zm (tT.2 P3.2) (X0 (λB=>?_) λB=>?_))));have VM:s.z=[]:=VT ω;refine Zl (dG 72 w9 H) (λ_ _ hf=>hf.elim) ?_;rintro ch Qu ⟨rfl,M⟩;refine XK ⟨72,n,((s.ln+1:Nat):Int)⟩ _ Qu ?_ rfl (Mod.of_ext _ M);rw[<-D,yO K,VM]<;>rfl
     obtain⟨A,x,Q⟩:∃A x,s.z=A++ [x]:=by obtain S|⟨A,x,S⟩:=kS s.z;exact Xg (by rw[S];rfl) B;exact⟨A,x,by rw[S];simp⟩
     have YB:s.z.length=A.length+1:=by rw[Q];simp
     have bQ:s.z.reverse.map (·.s)=x.s::A.reverse.map (·.s):=by rw[Q];simp
     obtain⟨oa,Z,_⟩:=W.sl.at_ (by omega:0<s.z.length);have tY:Qj (some oa)=Qj s.A:=by rw[Z]
     have Dx:Own w9 r cO 6 (some oa) s.z.length s.c (Z2 A++x.cells):=by rw[<-Z,<-ep,<-Q];exact W
     have aW:x∈s.z:=by rw[Q];simp
     have JQ:=vU (y.zx x aW);have XQ:=vU (y.zy x aW);have Jd:=lk A;have LY:∀i,TS p s.m i->i<w9.heap.size:=H.hiT;refine Qz ((A.length:Nat):Int) ?_;rw[Z];refine KU (j:=A.length) ω ?_;rw[show A.length*6=(Z2 A).length from Jd.symm];refine XB (λe=>by have e2:l=X5:=Jl K7 δ e;have:=P3.2;rw[e2] at this;exact Xg this δ) ?_;have EO:decide (Qb l=(⟨#[35,101,108,115,101]⟩:ByteArray))=false:=XZ (λe=>by have e2:l=J6:=Jl K7 δ e;have:=P3.2;rw[e2] at this;exact Xg this δ);refine Zl (cQU s.m ⟨v.d+s.z.length,n,s.ln+1,n::v.rd,s.g⟩ oa s.z.length s.c (Z2 A) x (decide (Qb l=(⟨#[35,101,108,115,101]⟩:ByteArray))) (YK l) w9 hP H Dx (by rw[tY];exact qW) (by rw[Jd];omega) XQ cr kF Wo) ?_ ?_;rotate_left;rintro ch Qu ⟨e,he,rfl,G⟩;refine XK ⟨e,n,((s.ln+1:Nat):Int)⟩ _ Qu ?_ rfl (G.mono λi g=>.inl (.inr (.inl (by rw[<-tY];exact g))));rw[EO] at he;rw[<-D,yO K,bQ];obtain⟨h1,rfl⟩|⟨h1,_,h3⟩:=he;simp only[h1,if_true];simp only[h1,h3];rfl;rintro u Qu ⟨cy,G,JY⟩;rw[EO,φ δ] at JY;obtain⟨o',b,d',fH,rfl,wi,qU,jF,s7,jD,V8,RI⟩:=JY;let J:SeV:=⟨{x.s with re:=Vm x.s.re o'},x.x,d'⟩
     let nk:DV:=b
     let no:BF:=Jw x.s.re o'
     rw[tY] at G;have RJ:=fC.mod G nbA;have X:Rr I Qu r p s.m ⟨v.d+s.z.length,n,s.ln+1,n::v.rd,s.g⟩:=H.modT G qW kH EN (λ_=>.inl) λi g=>JZ (H.tt i g) G.size;refine Qo RJ λQJ dS _ ZC=>?_;have ZH:Mod (·=w.heap.size) Qu QJ:=vQB dS rfl;have ZY:Rr I QJ r p s.m ⟨v.d+s.z.length,n,s.ln+1,n::v.rd,s.g⟩:=X.modT ZH (λi g=>by rw[y.tt];exact .inr (.inr g)) (λi g=>by subst g;exact nbk) (λi g=>by have:=h.e0.size;omega) (λ_=>.inl) λi g=>JZ (X.tt i g) ZH.size;refine Xv ZY.blk (show 8<11 by decide) λXk Y8 Kn=>?_;have Zp:Rr I Xk r p s.m ⟨v.d+s.z.length,n,s.ln+1,n::v.rd,{s.g with fr:=true}⟩:=ZY.put Y8 Kn rfl rfl rfl (λe=>by cases e);have EQ:Mod (Kl p s.m s.A w.heap.size) Qu Xk:=(ZH.mono (S':=Kl p s.m s.A w.heap.size) λi g=>.inl (.inr (.inr g))).trans Y8 λi g=>.inl (.inl (.inl g));have ER:Mod (Kl p s.m s.A w.heap.size) w9 Xk:=(G.mono (S':=Kl p s.m s.A w.heap.size) λi g=>.inl (.inr (.inl g))).trans EQ λ_=>.inl;have tZ:Mod (Kl p s.m s.A w.heap.size) F Xk:=Yh.trans ER λ_=>.inl;have de:(A++ [J]).length=s.z.length:=by rw[YB];simp
     let s':LS:=⟨nk,no,A++ [J],s.m,{s.g with fr:=true},s.ln+1,s.at_+l.length+1,L,s.A,s.c⟩
     have E:∀{x:DV} {o:BF},DgO F (TS p s.m) p.nm.length x o->DgO Xk (TS p s'.m) p.nm.length x o:=λC=>y.kp (s':=s') tZ y.tt (Moved.refl _ _) (Moved.refl _ _) (Moved.refl _ _) C;have N:∀(x:DV) (ox:BF),(∀i,Qj x.A i->w9.heap.size<=i)->SB Qu x.A x.n x.c x.nd->Set1 p.nm.length x.nd x.r ox->DgO Xk (TS p s'.m) p.nm.length x ox:=λx ox V C hs=>by
      have e1:DgO Qu (TS p s.m) p.nm.length x ox:=⟨C,hs,λad e _ hh=>by have:=V _ ⟨ad,e,rfl⟩;have:=LY _ hh;omega⟩
      exact e1.step (EQ.mono λi g=>.inl (y.sub i g)) λ_=>.inl
     refine⟨s',?_,?_,?_⟩;show Has _ _;simp only[s',de];rw[Z]<;>rfl
     refine y.go (s':=s') Wv tZ ?_ y.tt (Moved.refl _ _) (Moved.refl _ _) (Moved.refl _ _) ?_ ?_ ?_ ?_ ?_ ZF rfl ?_ ?_ rfl;show Rr I Xk r p _ ⟨v.d+(A++ [J]).length,n,s.ln+1,n::v.rd,{s.g with fr:=true}⟩;rw[de];exact Zp;exact ZC.mod Y8 npr;exact N b _ jF wi qU;show Own Xk r cO 6 s.A (A++ [J]).length s.c (Z2 (A++ [J]));rw[de,ep];have RK:Own Qu r cO 6 s.A s.z.length s.c (Z2 A++J.cells):=by rw[Z];exact RI
     exact(RK.mod ZH λi g e=>by subst e;exact nbA g).mod Y8 O;intro z B;simp only[s',X2,Xx] at B;obtain B|rfl:=B;exact E (y.zx z (by rw[Q];simp[B]));exact E (y.zx x aW);intro z B;simp only[s',X2,Xx] at B;obtain B|rfl:=B;exact E (y.zy z (by rw[Q];simp[B]));exact N d' _ V8 s7 jD;rw[yO K,bQ] at D;simp only[cy,fH] at D;rw[<-D];simp[s',J,no,cy];show v.d+(A++ [J]).length<=64;rw[de];omega;show L.length<(l::L).length;simp
    have tQt:=mQu P1 P2 P3;by_cases s9:l=J6
    ·have K:X3 l= .els:=by rw[s9]<;>rfl
     have Xo:32∉l:=by rw[s9];decide
     have KE:KJ l=J6:=by rw[Oi Xo,s9]
     rw[φ Xo];refine XB (by rw[KE];decide) (XB (by rw[KE];decide) (XB (by rw[KE];decide) (Zm (by rw[s9];rfl) (X0 (λB=>?_) λB=>?_))));have VM:s.z=[]:=VT ω;refine Zl (dG 72 w9 H) (λ_ _ hf=>hf.elim) ?_;rintro ch Qu ⟨rfl,M⟩;refine XK ⟨72,n,((s.ln+1:Nat):Int)⟩ _ Qu ?_ rfl (Mod.of_ext _ M);rw[<-D,yP K,VM]<;>rfl
     obtain⟨A,x,Q⟩:∃A x,s.z=A++ [x]:=by obtain S|⟨A,x,S⟩:=kS s.z;exact Xg (by rw[S];rfl) B;exact⟨A,x,by rw[S];simp⟩
     have YB:s.z.length=A.length+1:=by rw[Q];simp
     have bQ:s.z.reverse.map (·.s)=x.s::A.reverse.map (·.s):=by rw[Q];simp
     obtain⟨oa,Z,_⟩:=W.sl.at_ (by omega:0<s.z.length);have tY:Qj (some oa)=Qj s.A:=by rw[Z]
     have Dx:Own w9 r cO 6 (some oa) s.z.length s.c (Z2 A++x.cells):=by rw[<-Z,<-ep,<-Q];exact W
     have aW:x∈s.z:=by rw[Q];simp
     have JQ:=vU (y.zx x aW);have XQ:=vU (y.zy x aW);have Jd:=lk A;have LY:∀i,TS p s.m i->i<w9.heap.size:=H.hiT;refine Qz ((A.length:Nat):Int) ?_;rw[Z];refine KU (j:=A.length) ω ?_;rw[show A.length*6=(Z2 A).length from Jd.symm];refine XB (by rw[s9];decide) ?_;have EO:decide (Qb l=(⟨#[35,101,108,115,101]⟩:ByteArray))=true:=Zg (by rw[s9];rfl);refine Zl (cQU s.m ⟨v.d+s.z.length,n,s.ln+1,n::v.rd,s.g⟩ oa s.z.length s.c (Z2 A) x (decide (Qb l=(⟨#[35,101,108,115,101]⟩:ByteArray))) [] w9 hP H Dx (by rw[tY];exact qW) (by rw[Jd];omega) XQ (λx C=>by cases C) δ Wo) ?_ ?_;rotate_left;rintro ch Qu ⟨e,he,rfl,G⟩;refine XK ⟨e,n,((s.ln+1:Nat):Int)⟩ _ Qu ?_ rfl (G.mono λi g=>.inl (.inr (.inl (by rw[<-tY];exact g))));rw[EO] at he;rw[<-D,yP K,bQ];obtain⟨h1,rfl⟩|⟨_,h2,_⟩:=he;simp only[h1,if_true];cases h2;rintro u Qu ⟨cy,G,JY⟩;rw[EO,Qf rfl] at JY;obtain⟨rfl,RI⟩:=JY;let J:SeV:=⟨{x.s with ot:=true},x.x,x.y⟩
     let nk:DV:=x.y
     let no:BF:=x.s.re
     rw[tY] at G;have RJ:=fC.mod G nbA;have X:Rr I Qu r p s.m ⟨v.d+s.z.length,n,s.ln+1,n::v.rd,s.g⟩:=H.modT G qW kH EN (λ_=>.inl) λi g=>JZ (H.tt i g) G.size;refine Qo RJ λQJ dS _ ZC=>?_;have ZH:Mod (·=w.heap.size) Qu QJ:=vQB dS rfl;have ZY:Rr I QJ r p s.m ⟨v.d+s.z.length,n,s.ln+1,n::v.rd,s.g⟩:=X.modT ZH (λi g=>by rw[y.tt];exact .inr (.inr g)) (λi g=>by subst g;exact nbk) (λi g=>by have:=h.e0.size;omega) (λ_=>.inl) λi g=>JZ (X.tt i g) ZH.size;refine Xv ZY.blk (show 8<11 by decide) λXk Y8 Kn=>?_;have Zp:Rr I Xk r p s.m ⟨v.d+s.z.length,n,s.ln+1,n::v.rd,{s.g with fr:=true}⟩:=ZY.put Y8 Kn rfl rfl rfl (λe=>by cases e);have EQ:Mod (Kl p s.m s.A w.heap.size) Qu Xk:=(ZH.mono (S':=Kl p s.m s.A w.heap.size) λi g=>.inl (.inr (.inr g))).trans Y8 λi g=>.inl (.inl (.inl g));have ER:Mod (Kl p s.m s.A w.heap.size) w9 Xk:=(G.mono (S':=Kl p s.m s.A w.heap.size) λi g=>.inl (.inr (.inl g))).trans EQ λ_=>.inl;have tZ:Mod (Kl p s.m s.A w.heap.size) F Xk:=Yh.trans ER λ_=>.inl;have de:(A++ [J]).length=s.z.length:=by rw[YB];simp
     let s':LS:=⟨nk,no,A++ [J],s.m,{s.g with fr:=true},s.ln+1,s.at_+l.length+1,L,s.A,s.c⟩
     have E:∀{x:DV} {o:BF},DgO F (TS p s.m) p.nm.length x o->DgO Xk (TS p s'.m) p.nm.length x o:=λC=>y.kp (s':=s') tZ y.tt (Moved.refl _ _) (Moved.refl _ _) (Moved.refl _ _) C;have N:∀(x:DV) (ox:BF),(∀i,Qj x.A i->w9.heap.size<=i)->SB Qu x.A x.n x.c x.nd->Set1 p.nm.length x.nd x.r ox->DgO Xk (TS p s'.m) p.nm.length x ox:=λx ox V C hs=>by
      have e1:DgO Qu (TS p s.m) p.nm.length x ox:=⟨C,hs,λad e _ hh=>by have:=V _ ⟨ad,e,rfl⟩;have:=LY _ hh;omega⟩
      exact e1.step (EQ.mono λi g=>.inl (y.sub i g)) λ_=>.inl
     refine⟨s',?_,?_,?_⟩;show Has _ _;simp only[s',de];rw[Z]<;>rfl
     refine y.go (s':=s') Wv tZ ?_ y.tt (Moved.refl _ _) (Moved.refl _ _) (Moved.refl _ _) ?_ ?_ ?_ ?_ ?_ ZF rfl ?_ ?_ rfl;show Rr I Xk r p _ ⟨v.d+(A++ [J]).length,n,s.ln+1,n::v.rd,{s.g with fr:=true}⟩;rw[de];exact Zp;exact ZC.mod Y8 npr;exact E (y.zy x aW);show Own Xk r cO 6 s.A (A++ [J]).length s.c (Z2 (A++ [J]));rw[de,ep];have RK:Own Qu r cO 6 s.A s.z.length s.c (Z2 A++J.cells):=by rw[Z];exact RI
     exact(RK.mod ZH λi g e=>by subst e;exact nbA g).mod Y8 O;intro z B;simp only[s',X2,Xx] at B;obtain B|rfl:=B;exact E (y.zx z (by rw[Q];simp[B]));exact E (y.zx x aW);intro z B;simp only[s',X2,Xx] at B;obtain B|rfl:=B;exact E (y.zy z (by rw[Q];simp[B]));exact E (y.zy x aW);rw[yP K,bQ] at D;simp only[cy] at D;rw[<-D];simp[s',J,no];show v.d+(A++ [J]).length<=64;rw[de];omega;show L.length<(l::L).length;simp
    by_cases J:l=X5;have K:X3 l= .en:=by rw[J]<;>rfl
    have Xo:32∉l:=by rw[J];decide
    have KE:KJ l=X5:=by rw[Oi Xo,J]
    refine XB (by rw[KE];decide) (XB (by rw[KE];decide) (XB (by rw[KE];decide) (XB (by rw[J];decide) (Zm (by rw[J];rfl) (X0 (λB=>?_) λB=>?_)))));have VM:s.z=[]:=VT ω;refine Zl (dG 72 w9 H) (λ_ _ hf=>hf.elim) ?_;rintro ch Qu ⟨rfl,M⟩;refine XK ⟨72,n,((s.ln+1:Nat):Int)⟩ _ Qu ?_ rfl (Mod.of_ext _ M);rw[<-D,GR K,VM]<;>rfl
    obtain⟨A,x,Q⟩:∃A x,s.z=A++ [x]:=by obtain S|⟨A,x,S⟩:=kS s.z;exact Xg (by rw[S];rfl) B;exact⟨A,x,by rw[S];simp⟩
    have YB:s.z.length=A.length+1:=by rw[Q];simp
    have bQ:s.z.reverse.map (·.s)=x.s::A.reverse.map (·.s):=by rw[Q];simp
    obtain⟨oa,Z,_⟩:=W.sl.at_ (by omega:0<s.z.length);have tY:Qj (some oa)=Qj s.A:=by rw[Z]
    have Dx:Own w9 r cO 6 (some oa) s.z.length s.c (Z2 A++x.cells):=by rw[<-Z,<-ep,<-Q];exact W
    have aW:x∈s.z:=by rw[Q];simp
    have JQ:=vU (y.zx x aW);have XQ:=vU (y.zy x aW);have Jd:=lk A;have LY:∀i,TS p s.m i->i<w9.heap.size:=H.hiT;refine Qz ((A.length:Nat):Int) ?_;rw[Z];refine KU (j:=A.length) ω ?_;rw[show A.length*6=(Z2 A).length from Jd.symm];refine Zm (by rw[J];rfl) (Jm (vs:=x.x.cells) rfl (λi u g=>?_) ?_);show w9.cell? (((oa.add (Z2 A).length).add 0).add i)=some u;rw[add_add];refine GP Dx ω (lj ?_);match i,g with|0,g=>exact g|1,g=>exact g|_+2,g=>exact nomatch g
    refine Qo fC λQu V _ Zo=>?_;have N:Mod (·=w.heap.size) w9 Qu:=vQB V rfl;have X:Rr I Qu r p s.m ⟨v.d+s.z.length,n,s.ln+1,n::v.rd,s.g⟩:=H.modT N (λi g=>by rw[y.tt];exact .inr (.inr g)) (λi g=>by subst g;exact nbk) (λi g=>by have:=h.e0.size;omega) (λ_=>.inl) λi g=>JZ (H.tt i g) N.size;refine Qz ((A.length:Nat):Int) (bm (h:=A.length) Qe rfl rfl rfl rfl rfl rfl (by have:=W.sl.le;omega) (Qp X.blk rfl (Qz ((v.d+A.length:Nat):Int) ?_ (hm:=by show((v.d+s.z.length:Nat):Int)-1=_;omega))));refine Xv X.blk (show 4<11 by decide) λQJ Wp ZC=>?_;have ZY:Rr I QJ r p s.m ⟨v.d+A.length,n,s.ln+1,n::v.rd,s.g⟩:=X.put Wp ZC rfl rfl rfl X.nf;refine Xv ZY.blk (show 8<11 by decide) λXk Y8 Kn=>?_;have Zp:Rr I Xk r p s.m ⟨v.d+A.length,n,s.ln+1,n::v.rd,{s.g with fr:=true}⟩:=ZY.put Y8 Kn rfl rfl rfl (λe=>by cases e);have r:Mod (·=p.r) Qu Xk:=Wp.trans Y8 λ_=>.inl;have ER:Mod (Kl p s.m s.A w.heap.size) w9 Xk:=(N.mono (S':=Kl p s.m s.A w.heap.size) λi g=>.inl (.inr (.inr g))).trans r λi g=>.inl (.inl (.inl g));have tZ:Mod (Kl p s.m s.A w.heap.size) F Xk:=Yh.trans ER λ_=>.inl;let s':LS:=⟨x.x,x.s.ou,A,s.m,{s.g with fr:=true},s.ln+1,s.at_+l.length+1,L,s.A,s.c⟩
    have E:∀{x:DV} {o:BF},DgO F (TS p s.m) p.nm.length x o->DgO Xk (TS p s'.m) p.nm.length x o:=λC=>y.kp (s':=s') tZ y.tt (Moved.refl _ _) (Moved.refl _ _) (Moved.refl _ _) C;refine⟨s',?_,?_,?_⟩
    show Has _ _;simp only[s'];rw[Z]<;>rfl
    refine y.go (s':=s') Wv tZ Zp y.tt (Moved.refl _ _) (Moved.refl _ _) (Moved.refl _ _) (Zo.mod r npr) (E (y.zx x aW)) ?_ (λz B=>E (y.zx z (by rw[Q];simp[show z∈A from B]))) (λz B=>E (y.zy z (by rw[Q];simp[show z∈A from B]))) ZF rfl ?_ ?_ rfl;have I:=W.take (k:=A.length) ω;rw[Q,ep,uw (by rw[Jd])] at I;exact(I.mod N λi g e=>by subst e;exact nbA g).mod r O;rw[GR K,bQ] at D;rw[<-D];show v.d+A.length<=64;omega;show L.length<(l::L).length;simp;have K:X3 l= .txt:=by rw[tQt,φ s9,φ J]
    have Ig:¬Qb l=(⟨#[35,101,108,115,101]⟩:ByteArray):=λe=>s9 (Jl K7 δ e);have Ih:¬Qb l=(⟨#[35,101,110,100]⟩:ByteArray):=λe=>J (Jl K7 δ e)
    have zI:∀x∈KJ l,x<256:=λx C=>K7 x ((AK _).subset C);by_cases Z:KJ l=rY
    ·refine Zm (by rw[Z];rfl) (XB (λe=>P1 ⟨Z,tT.1 e⟩) (XB (by rw[Z];decide) (XB (by rw[Z];decide) (XB Ig (XB Ih ?_)))));have r:=Ext.drew w9;refine rL Qe 7 κ (XF (v':=.string (Qb (l++ [10]))) ⟨ω,ω,by rw[XC];omega⟩ ?_ ?_);rw[Kj];simp only[WX];rw[dm,show s.at_+l.length+1-s.at_=l.length+1 by omega,l5];refine Xe (vs:=s.k.cells) rfl (λw' Qa j u Y=>by subst Qa;rw[(fC.ext r).cell];exact Y) ?_;have I:=H.ext r;have J:DgO w9.drew (RS p s.m) p.nm.length s.k s.o:=⟨iz.sb.ext r,iz.st,λad e S hh=>iz.off ad e S (.inl hh)⟩
     refine Zl (add_fn s.m ⟨v.d+s.z.length,n,s.ln+1,n::v.rd,s.g⟩ (l++ [10]) s.at_ s.k s.o w9.drew hP I J (λx C=>by
      obtain C|C:=X2.1 C;exact K7 x C;simp only[Xx] at C;omega) (by rw[Qy];simp;omega) (U9 _ _)) ?_ ?_
     rotate_left;rintro ch Qu ⟨N,rfl,M⟩;refine XK ⟨2,n,((s.ln+1:Nat):Int)⟩ _ Qu ?_ rfl (Mod.of_ext _ (r.trans M));rw[<-D,pK K,show Yo (l++ [10]) n s.at_ s.o s.g=none from N];rintro _ Qu ⟨g',Wb,P,iS,X,G,O,Q⟩;have V:Mod (Kl p s.m s.A w.heap.size) w9 Qu:=(Mod.of_ext _ r).trans G λi g=>.inl (.inl g);have A:Mod (Kl p s.m s.A w.heap.size) F Qu:=Yh.trans V λ_=>.inl;have qY:=r.size;have iB:Moved F s.m.OA P.OA:=O.back ω;have iC:Moved F s.m.BA P.BA:=Q.back ω;let s':LS:=⟨s.k,s.o,s.z,P,g',s.ln+1,s.at_+l.length+1,L,s.A,s.c⟩
     have Ys:s'.m.T=λi=>m.T i∨Qj s'.A i∨i=w.heap.size:=by show P.T=_;rw[iS,y.tt]
     have E:∀{x:DV} {o:BF},DgO F (TS p s.m) p.nm.length x o->DgO Qu (TS p s'.m) p.nm.length x o:=λC=>y.kp (s':=s') A Ys (Moved.refl _ _) iB iC C;refine⟨s',rfl,?_,?_⟩
     refine y.go (s':=s') Wv A X Ys (Moved.refl _ _) iB iC ((fC.ext r).mod G nbk) (E y.kd) ((W.ext r).mod G kH) (λz B=>E (y.zx z B)) (λz B=>E (y.zy z B)) ZF rfl ?_ Kw rfl;rw[pK K,show Yo (l++ [10]) n s.at_ s.o s.g=some g' from Wb] at D;exact D;show L.length<(l::L).length;simp
    refine XB (λe=>Z (Jl zI δ e)) ?_;by_cases Z:KJ l=vk
    ·refine Zm (by rw[Z];rfl) (XB (λe=>P2 ⟨Z,tT.1 e⟩) (XB (by rw[Z];decide) (XB Ig (XB Ih ?_))));have r:=Ext.drew w9;refine rL Qe 7 κ (XF (v':=.string (Qb (l++ [10]))) ⟨ω,ω,by rw[XC];omega⟩ ?_ ?_);rw[Kj];simp only[WX];rw[dm,show s.at_+l.length+1-s.at_=l.length+1 by omega,l5];refine Xe (vs:=s.k.cells) rfl (λw' Qa j u Y=>by subst Qa;rw[(fC.ext r).cell];exact Y) ?_;have I:=H.ext r;have J:DgO w9.drew (RS p s.m) p.nm.length s.k s.o:=⟨iz.sb.ext r,iz.st,λad e S hh=>iz.off ad e S (.inl hh)⟩
     refine Zl (add_fn s.m ⟨v.d+s.z.length,n,s.ln+1,n::v.rd,s.g⟩ (l++ [10]) s.at_ s.k s.o w9.drew hP I J (λx C=>by
      obtain C|C:=X2.1 C;exact K7 x C;simp only[Xx] at C;omega) (by rw[Qy];simp;omega) (U9 _ _)) ?_ ?_
     rotate_left;rintro ch Qu ⟨N,rfl,M⟩;refine XK ⟨2,n,((s.ln+1:Nat):Int)⟩ _ Qu ?_ rfl (Mod.of_ext _ (r.trans M));rw[<-D,pK K,show Yo (l++ [10]) n s.at_ s.o s.g=none from N];rintro _ Qu ⟨g',Wb,P,iS,X,G,O,Q⟩;have V:Mod (Kl p s.m s.A w.heap.size) w9 Qu:=(Mod.of_ext _ r).trans G λi g=>.inl (.inl g);have A:Mod (Kl p s.m s.A w.heap.size) F Qu:=Yh.trans V λ_=>.inl;have qY:=r.size;have iB:Moved F s.m.OA P.OA:=O.back ω;have iC:Moved F s.m.BA P.BA:=Q.back ω;let s':LS:=⟨s.k,s.o,s.z,P,g',s.ln+1,s.at_+l.length+1,L,s.A,s.c⟩
     have Ys:s'.m.T=λi=>m.T i∨Qj s'.A i∨i=w.heap.size:=by show P.T=_;rw[iS,y.tt]
     have E:∀{x:DV} {o:BF},DgO F (TS p s.m) p.nm.length x o->DgO Qu (TS p s'.m) p.nm.length x o:=λC=>y.kp (s':=s') A Ys (Moved.refl _ _) iB iC C;refine⟨s',rfl,?_,?_⟩
     refine y.go (s':=s') Wv A X Ys (Moved.refl _ _) iB iC ((fC.ext r).mod G nbk) (E y.kd) ((W.ext r).mod G kH) (λz B=>E (y.zx z B)) (λz B=>E (y.zy z B)) ZF rfl ?_ Kw rfl;rw[pK K,show Yo (l++ [10]) n s.at_ s.o s.g=some g' from Wb] at D;exact D;show L.length<(l::L).length;simp
    refine XB (λe=>Z (Jl zI δ e)) ?_;by_cases Z:KJ l=yK
    ·refine Zm (by rw[Z];rfl) (XB (λe=>P3 ⟨Z,tT.1 e⟩) (XB Ig (XB Ih ?_)));have r:=Ext.drew w9;refine rL Qe 7 κ (XF (v':=.string (Qb (l++ [10]))) ⟨ω,ω,by rw[XC];omega⟩ ?_ ?_);rw[Kj];simp only[WX];rw[dm,show s.at_+l.length+1-s.at_=l.length+1 by omega,l5];refine Xe (vs:=s.k.cells) rfl (λw' Qa j u Y=>by subst Qa;rw[(fC.ext r).cell];exact Y) ?_;have I:=H.ext r;have J:DgO w9.drew (RS p s.m) p.nm.length s.k s.o:=⟨iz.sb.ext r,iz.st,λad e S hh=>iz.off ad e S (.inl hh)⟩
     refine Zl (add_fn s.m ⟨v.d+s.z.length,n,s.ln+1,n::v.rd,s.g⟩ (l++ [10]) s.at_ s.k s.o w9.drew hP I J (λx C=>by
      obtain C|C:=X2.1 C;exact K7 x C;simp only[Xx] at C;omega) (by rw[Qy];simp;omega) (U9 _ _)) ?_ ?_
     rotate_left;rintro ch Qu ⟨N,rfl,M⟩;refine XK ⟨2,n,((s.ln+1:Nat):Int)⟩ _ Qu ?_ rfl (Mod.of_ext _ (r.trans M));rw[<-D,pK K,show Yo (l++ [10]) n s.at_ s.o s.g=none from N];rintro _ Qu ⟨g',Wb,P,iS,X,G,O,Q⟩;have V:Mod (Kl p s.m s.A w.heap.size) w9 Qu:=(Mod.of_ext _ r).trans G λi g=>.inl (.inl g);have A:Mod (Kl p s.m s.A w.heap.size) F Qu:=Yh.trans V λ_=>.inl;have qY:=r.size;have iB:Moved F s.m.OA P.OA:=O.back ω;have iC:Moved F s.m.BA P.BA:=Q.back ω;let s':LS:=⟨s.k,s.o,s.z,P,g',s.ln+1,s.at_+l.length+1,L,s.A,s.c⟩
     have Ys:s'.m.T=λi=>m.T i∨Qj s'.A i∨i=w.heap.size:=by show P.T=_;rw[iS,y.tt]
     have E:∀{x:DV} {o:BF},DgO F (TS p s.m) p.nm.length x o->DgO Qu (TS p s'.m) p.nm.length x o:=λC=>y.kp (s':=s') A Ys (Moved.refl _ _) iB iC C;refine⟨s',rfl,?_,?_⟩
     refine y.go (s':=s') Wv A X Ys (Moved.refl _ _) iB iC ((fC.ext r).mod G nbk) (E y.kd) ((W.ext r).mod G kH) (λz B=>E (y.zx z B)) (λz B=>E (y.zy z B)) ZF rfl ?_ Kw rfl;rw[pK K,show Yo (l++ [10]) n s.at_ s.o s.g=some g' from Wb] at D;exact D;show L.length<(l::L).length;simp
    ·refine XB (λe=>Z (Jl zI δ e)) (XB Ig (XB Ih ?_));have r:=Ext.drew w9;refine rL Qe 7 κ (XF (v':=.string (Qb (l++ [10]))) ⟨ω,ω,by rw[XC];omega⟩ ?_ ?_);rw[Kj];simp only[WX];rw[dm,show s.at_+l.length+1-s.at_=l.length+1 by omega,l5];refine Xe (vs:=s.k.cells) rfl (λw' Qa j u Y=>by subst Qa;rw[(fC.ext r).cell];exact Y) ?_;have I:=H.ext r;have J:DgO w9.drew (RS p s.m) p.nm.length s.k s.o:=⟨iz.sb.ext r,iz.st,λad e S hh=>iz.off ad e S (.inl hh)⟩
     refine Zl (add_fn s.m ⟨v.d+s.z.length,n,s.ln+1,n::v.rd,s.g⟩ (l++ [10]) s.at_ s.k s.o w9.drew hP I J (λx C=>by
      obtain C|C:=X2.1 C;exact K7 x C;simp only[Xx] at C;omega) (by rw[Qy];simp;omega) (U9 _ _)) ?_ ?_
     rotate_left;rintro ch Qu ⟨N,rfl,M⟩;refine XK ⟨2,n,((s.ln+1:Nat):Int)⟩ _ Qu ?_ rfl (Mod.of_ext _ (r.trans M));rw[<-D,pK K,show Yo (l++ [10]) n s.at_ s.o s.g=none from N];rintro _ Qu ⟨g',Wb,P,iS,X,G,O,Q⟩;have V:Mod (Kl p s.m s.A w.heap.size) w9 Qu:=(Mod.of_ext _ r).trans G λi g=>.inl (.inl g);have A:Mod (Kl p s.m s.A w.heap.size) F Qu:=Yh.trans V λ_=>.inl;have qY:=r.size;have iB:Moved F s.m.OA P.OA:=O.back ω;have iC:Moved F s.m.BA P.BA:=Q.back ω;let s':LS:=⟨s.k,s.o,s.z,P,g',s.ln+1,s.at_+l.length+1,L,s.A,s.c⟩
     have Ys:s'.m.T=λi=>m.T i∨Qj s'.A i∨i=w.heap.size:=by show P.T=_;rw[iS,y.tt]
     have E:∀{x:DV} {o:BF},DgO F (TS p s.m) p.nm.length x o->DgO Qu (TS p s'.m) p.nm.length x o:=λC=>y.kp (s':=s') A Ys (Moved.refl _ _) iB iC C;refine⟨s',rfl,?_,?_⟩
     refine y.go (s':=s') Wv A X Ys (Moved.refl _ _) iB iC ((fC.ext r).mod G nbk) (E y.kd) ((W.ext r).mod G kH) (λz B=>E (y.zx z B)) (λz B=>E (y.zy z B)) ZF rfl ?_ Kw rfl;rw[pK K,show Yo (l++ [10]) n s.at_ s.o s.g=some g' from Wb] at D;exact D;show L.length<(l::L).length;simp
end
end
end Go.Proofs.YtjabbbcdgmlojaaGreatDoor
