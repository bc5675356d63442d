/-
  What PPatchWeavesLikeReference rests on, part 3 (wip/shake.py).
  Conditions: none.
-/
import Derived.Test.YtjabbbcdgmlojaaGreatDoorQPPatchWeavesLikeReferenceb
set_option linter.all false
set_option linter.deprecated false
set_option maxHeartbeats 12800000
namespace Go.Proofs.YtjabbbcdgmlojaaGreatDoor
open Go Go.RowKit
section
section
theorem F5 {w1 w2 w:World}{g:Nat}{r:(List Br×Int)×Int}{A:Option Addr}{n c:Nat}(hE:Ext w w1)(hM:Mod (·=g) w1 w2)(hg:w.heap.size<=g)(hs:SB w1 A n c r.1.1)(hr:∀i,Qk A i->g<i):
  Ext w w2/\SB w2 A n c r.1.1/\∀i,Qk A i->w.heap.size<=i:=
 ⟨hM.ext hE (λi hi=>by omega),⟨hs.1.modS hM (λ_ i hi e=>by have:=hr i hi;omega),hs.2⟩,λi hi=>by have:=hr i hi;omega⟩
end
section
theorem fQQ {names:List (List Nat)}(h:names.all (λs=>s.all (λx=>decide (x<256))&&decide (s.length<=100))=true):Jy names:=λs hs=>by
 have:=VT.1 h s hs;rw[Jv,Vb] at this;exact⟨λx hx=>by have:=VT.1 this.1 x hx;simpa using this,by omega⟩
theorem fQR {k:Int}(h0:0<=k)(h1:k<=63):Rd0 [⟨k,0,1⟩]:=λj b hb=>by
 obtain⟨rfl,rfl⟩:=kL hb;refine⟨h0,h1,mv 0,?_,(by decide:(0:Int)<=1),?_,(by decide:(0:Int)≠1),by simp,?_,?_⟩
 ·simp only;omega
 ·simp only;omega
 ·rw[gU (by simp only;omega)];simp only;omega
 ·rw[gU (by simp only;omega)];simp only;omega
theorem Bk {k:Int}(h0:0<=k)(h1:k<=63):VD [⟨k,0,1⟩] 2:=⟨fQR h0 h1,by decide,by simp,rfl⟩
end
section
end
section
theorem RJ (b:Nat):V6 b=true↔(97<=b/\b<=122)∨(65<=b/\b<=90)∨b=95:=by
 unfold V6;simp;omega
theorem RK {p:Prop} [Decidable p]{b:Bool}(h:b=true↔p):(Value.bool (decide p))= .bool b:=by
 congr 1;rw[jZ,Vb,h]
theorem F6 {x y:Int}{b:Bool}(h:b=true↔x=y):(Value.bool (x==y))= .bool b:=by
 congr 1;rw[jZ,beq_iff_eq,h]
theorem fQS (b:Nat)(w:World):Fn Tryz.prog 211 [.int .u8 b] w (λv w'=>v= .bool (V6 b)/\w=w'):=by
 have hi:=RJ b;refine Qx (c:=dQW) Qa Tryz.func211 rfl rfl rfl ?_;refine Qt (λh1=>?_) (λh1=>?_)
 ·refine Qt (λh2=>?_) (λh2=>?_)
  ·exact⟨by rw[hi.2 (by omega)],rfl⟩
  ·refine Qt (λh3=>?_) (λh3=>?_)
   ·refine Qt (λh4=>?_) (λh4=>?_)
    ·exact Xd h1 (by omega)
    ·exact⟨F6 (by rw[hi];omega),rfl⟩
   ·exact Xd h3 (by omega)
 ·refine Qt (λh3=>?_) (λh3=>?_)
  ·refine Qt (λh4=>?_) (λh4=>?_)
   ·exact⟨by rw[hi.2 (by omega)],rfl⟩
   ·exact⟨F6 (by rw[hi];omega),rfl⟩
  ·exact⟨F6 (by rw[hi];omega),rfl⟩
def mS (s:List Nat):Bool:=Be s&&s.all X3
theorem RL (b:Nat):X3 b=true↔V6 b=true∨(48<=b/\b<=57):=by
 unfold X3 isDig;simp
def tE (s:List Nat)(i:Nat):Prop:=∃b,s[i]? =some b/\(V6 b=true∨(i≠0/\48<=b/\b<=57))
theorem RN (s:List Nat):mS s=true↔s≠ []/\∀i,i<s.length->tE s i:=by
 unfold mS;rw[Jv];constructor
 ·rintro⟨h1,h2⟩;cases s with
  | nil=>cases h1
  | cons b r=>
   refine⟨by simp,λi hi=>?_⟩;have hx:=Xb hi;refine⟨_,hx,?_⟩;cases i with
   | zero=>exact .inl h1
   | succ i=>
    have:=VT.1 h2 _ (EV hi);rcases(RL _).1 this with h | h
    ·exact .inl h
    ·exact .inr ⟨by omega,h⟩
 ·rintro⟨h1,h2⟩;cases s with
  | nil=>exact Xd rfl h1
  | cons b r=>
   refine⟨?_,VT.2 (λx hx=>?_)⟩
   ·obtain⟨c,hc,h⟩:=h2 0 (by simp);simp at hc;subst hc;rcases h with h | h
    ·exact h
    ·exact Xd rfl h.1
   ·obtain⟨i,hi,rfl⟩:=vm.1 hx;obtain⟨c,hc,h⟩:=h2 i hi;rw[Xb hi] at hc;cases hc;rw[RL];rcases h with h | h
    ·exact .inl h
    ·exact .inr h.2
theorem fQT (s:List Nat)(w:World)(hs:∀x∈s,x<256)(hl:s.length<=9223372036854775807):
  Fn Tryz.prog 173 [.string (Qe s)] w (λv w'=>v= .bool (mS s)/\w=w'):=by
 have XG:(Qe s).size=s.length:=XC s;have Wu:Yu (Qe s)=s:=Wa hs;refine Qx (c:={dQA with cuts:=[]}) Qa Tryz.func173 rfl rfl rfl ?_;refine loop Qa [3] (λi:Nat=>[.int .i64 i]) (λi w'=>w=w'/\i<=s.length/\∀j,j<i->tE s j) (λi _=>s.length-i) 0 rfl ⟨rfl,Xt _,λj hj=>Xd hj (by omega)⟩ ?_;rintro i w' ⟨rfl,hi,hall⟩;refine Qt (λh1=>?_) (λh1=>?_)
 ·have next:tE s i->∀j,j<i+1->tE s j:=λh j hj=>by
   by_cases Kp:j<i
   ·exact hall j Kp
   ·have:j=i:=by omega
    subst this;exact h
  have bad:¬tE s i->mS s=false:=λh=>by
   rw[<-NR];exactλe=>h (((RN s).1 e).2 i (by omega))
  refine az (by omega) (λx hx Cs=>?_);rw[Wu] at hx;refine call (fQS x w) ?_;rintro _ _ ⟨rfl,rfl⟩;cases bQo:V6 x with
  | true=>
   refine Xv rfl ?_;refine Qj ((i+1:Nat):Int) (by omega) (by omega) ?_;exact⟨i+1,rfl,⟨rfl,by omega,next ⟨x,hx,.inl bQo⟩⟩,by show s.length-(i+1)<s.length-i;omega⟩
  | false=>
   have no:(i≠0->¬(48<=x/\x<=57))->¬tE s i:=λh ⟨b,hb,hh⟩=>by
    have:b=x:=Option.some.inj (hb.symm.trans hx);subst this;rcases hh with hh | hh
    ·rw[bQo] at hh;cases hh
    ·exact h hh.1 hh.2
   refine Xe rfl ?_;refine XU (λh2=>?_) (λh2=>?_)
   ·exact⟨by rw[bad (no (λh=>Xd h (by omega)))],rfl⟩
   ·refine az (by omega) (λy hy Ct=>?_);rw[Wu] at hy;have:y=x:=Option.some.inj (hy.symm.trans hx);subst this;refine Qt (λh3=>?_) (λh3=>?_)
    ·exact⟨by rw[bad (no (λ_ h=>by omega))],rfl⟩
    ·refine az (by omega) (λz hz Ve=>?_);rw[Wu] at hz;have:z=y:=Option.some.inj (hz.symm.trans hx);subst this;refine Qt (λh4=>?_) (λh4=>?_)
     ·exact⟨by rw[bad (no (λ_ h=>by omega))],rfl⟩
     ·refine Qj ((i+1:Nat):Int) (by omega) (by omega) ?_;exact⟨i+1,rfl,⟨rfl,by omega,next ⟨z,hx,.inr ⟨by omega,by omega,by omega⟩⟩⟩,by show s.length-(i+1)<s.length-i;omega⟩
 ·refine⟨RK ?_,rfl⟩;rw[RN];constructor
  ·rintro⟨h,_⟩;have:s.length≠0:=λe=>h (Ys e)
   omega
  ·intro h;refine⟨λe=>by
             have:s.length=0:=by rw[e]<;>rfl
             omega,λj hj=>hall j (by omega)⟩
def jj (l:List Nat):List (List Nat)->Option Nat
 | []=>none
 | s::names=>if s=l then some 0 else(jj l names).map (·+1)
theorem RO {l:List Nat}:∀{names:List (List Nat)}{i:Nat},(∀j,j<i->names[j]? ≠some l)->names[i]? =some l->jj l names=some i
 | [],i,_,h=>by simp at h
 | s::names,0,_,h=>by simp at h;simp[jj,h]
 | s::names,i+1,hn,h=>by
  have hs:s≠l:=λe=>hn 0 (by omega) (by simp[e])
  have:=RO (names:=names) (i:=i) (λj hj=>by have:=hn (j+1) (by omega);simpa using this) (by simpa using h);simp[jj,hs,this]
theorem F7 {l:List Nat}:∀{names:List (List Nat)},l∉names->jj l names=none
 | [],_=>rfl
 | s::names,h=>by
  simp only[Q0,not_or] at h;rw[jj,if_neg (λe=>h.1 e.symm),F7 h.2]<;>rfl
def wv (l:List Nat)(names:List (List Nat)):Int:=match jj l names with
 | some i=>(i:Int)
 | none=> -1
theorem RQ {l:List Nat}:∀{names:List (List Nat)},l∈names->∃k,jj l names=some k
 | [],h=>by cases h
 | s::names,h=>by
  by_cases e:s=l
  ·exact⟨0,by rw[jj,Qf e]⟩
  ·obtain⟨k,hk⟩:=RQ (names:=names) (by simp only[Q0] at h;exact h.resolve_left (λe'=>e e'.symm));exact⟨k+1,by rw[jj,if_neg e,hk];rfl⟩
theorem RR {l:List Nat}{names:List (List Nat)}:0<=wv l names↔l∈names:=by
 unfold wv;by_cases hm:l∈names
 ·obtain⟨k,hk⟩:=RQ hm;rw[hk];simp[hm]
 ·rw[F7 hm];simp[hm]
theorem fQU (names:List (List Nat))(A:Option Addr)(n c:Nat)(l:List Nat)(w:World)(h:Sl w 1 A n c (Q9 names))(hb:∀s∈names,∀x∈s,x<256)(hl:∀x∈l,x<256):
  Fn Tryz.prog 174 [.slice A n c,.string (Qe l)] w (λv w'=>v= .int .i64 (wv l names)/\w=w'):=by
 have hn:names.length=n:=by have:=h.len;rw[YO] at this;omega
 have xg:n<=9223372036854775807:=by have:=h.le;have:=h.cap;simp only[maxLen] at this;omega
 refine Qx (c:={dQB with cuts:=[]}) Qa Tryz.func174 rfl rfl rfl ?_;refine loop Qa [5] (λs:Nat=>[.int .i64 s]) (λs w'=>w=w'/\s<=n/\∀j,j<s->names[j]? ≠some l) (λs _=>n-s) 0 rfl ⟨rfl,Xt _,λj hj=>Xd hj (by omega)⟩ ?_;rintro s _ ⟨rfl,hs,Xa⟩;refine Qt (λh3=>?_) (λh3=>?_)
 ·have Y0:names[s]? =some names[s]:=Xb (by omega);generalize names[s]=t at Y0;refine ZF h (by omega) (λad u hA hu QR=>?_);rw[cz Y0] at hu;cases hu;refine load QR ?_;have Yf:=hb t (Q2 Y0);by_cases e:t=l
  ·subst e;refine Zd rfl ?_;exact⟨by unfold wv;rw[RO Xa Y0],rfl⟩
  ·refine Xx (λh=>e (Z6 Yf hl h)) ?_;refine Qj ((s+1:Nat):Int) (by omega) (by omega) ?_;refine⟨s+1,rfl,⟨rfl,by omega,λj hj=>?_⟩,by show n-(s+1)<n-s;omega⟩;by_cases KX:j<s
   ·exact Xa j KX
   ·have:j=s:=by omega
    subst this;rw[Y0];exactλh=>e (Option.some.inj h)
 ·refine⟨?_,rfl⟩;have:l∉names:=λhm=>by
   obtain⟨i,hi,rfl⟩:=vm.1 hm;exact Xa i (by omega) (Xb hi)
  unfold wv;rw[F7 this]
theorem Bl (s:List Nat):Vv s=true↔mS s=true/\s≠Yv/\s≠aC:=by
 constructor
 ·intro h;obtain⟨h1,h2,h3⟩:=Bh h;refine⟨?_,h2,h3⟩;unfold mS;rw[Rm h1];exact VT.2 h1.2
 ·rintro⟨h1,h2,h3⟩;unfold mS at h1;rw[Jv] at h1;cases s with
  | nil=>exact Xd h1.1 (by decide)
  | cons b r=>
   have hl:V6 b=true:=h1.1;have hd:isDig b=false:=by
    have:=(RJ b).1 hl;unfold isDig;simp;omega
   unfold Vv;rw[Vb];refine⟨by simp,?_,h2,h3⟩;show(if isDig b then 0 else((b::r).takeWhile X3).length)=_;rw[hd,if_neg (by decide),Pi h1.2]
theorem fQV (names:List (List Nat))(A:Option Addr)(n c:Nat)(w:World)(h:Sl w 1 A n c (Q9 names))(hb:Jy names):
  Fn Tryz.prog 119 [.slice A n c] w (λv w'=>v= .bool (Zx names)/\Ext w w'):=by
 have hn:names.length=n:=by have:=h.len;rw[YO] at this;omega
 have xg:n<=9223372036854775807:=by have:=h.le;have:=h.cap;simp only[maxLen] at this;omega
 have jP:=F3 hb;refine Qx (c:={cQV with cuts:=[]}) Qa Tryz.func119 rfl rfl rfl ?_;refine loop Qa [3] (λs:Nat=>[.int .i64 s]) (λs w'=>Ext w w'/\s<=n/\(names.take s).all Vv=true/\(names.take s).Nodup) (λs _=>n-s) 0 rfl ⟨Ext.refl w,Xt _,rfl,by simp⟩ ?_;rintro s w3 ⟨Qi,hs,hall,hnd⟩;refine Qt (λh3=>?_) (λh3=>?_)
 ·have Y0:names[s]? =some names[s]:=Xb (by omega);generalize names[s]=t at Y0;obtain⟨Yf,V5⟩:=hb t (Q2 Y0);have e1:((Qe t=(⟨#[116,114,117,101]⟩:ByteArray))↔t=Yv):=⟨λh=>Z6 Yf (by decide) h,λh=>by rw[h];rfl⟩
  have e2:((Qe t=(⟨#[102,97,108,115,101]⟩:ByteArray))↔t=aC):=⟨λh=>Z6 Yf (by decide) h,λh=>by rw[h];rfl⟩
  have bad:(Vv t≠true∨t∈names.take s)->Zx names=false:=λh=>by
   rw[<-NR];intro ho;rcases h with h | h
   ·rw[Fx Y0 h] at ho;cases ho
   ·have dk:=(jP.1 ho).2.1;obtain⟨i,hi,he⟩:=vm.1 h;rw[KZ] at hi;rw[List.getElem_take] at he;have lQ:s<names.length:=by omega
    have:names[s]=t:=by rw[Xb lQ] at Y0;exact Option.some.inj Y0
    have:=(List.getElem_inj (h₀:=(by omega:i<names.length)) (h₁:=lQ) dk).1 (by rw[he,this]);omega
  have hN:=h.ext Qi;have rd:∀{w':World} {K:Addr->Prop},Ext w3 w'->(∀p,(∀w2,Ext w3 w2->w2.cell? p=some (.string (Qe t)))->K p)->Y7 A n (s:Int) 1 K:=λ{w'} {K} _ k=>by
   refine ZF hN (by omega) (λad u hA hu QR=>?_);rw[cz Y0] at hu;cases hu;exact k _ (λw2 h2=>h2.cell QR)
  refine Xy Qa (Ext w3) 31 [(true,0),(true,1),(true,2),(true,3),(false,4),(true,5),(true,6),(true,7),(true,8),(true,9),(true,10),(true,11),(true,12),(true,13),(true,14),(true,15),(true,16),(true,17),(true,18),(true,19),(true,20),(true,21),(true,22),(true,24),(true,25),(true,26),(true,27),(false,23),(false,28),(true,29),(true,30)] (by kernel_rfl) (Ext.drew w3) ?_;refine rd (Ext.refl _) (λp hp=>?_);refine QJ hp ?_;refine call (fQT t _ Yf V5) ?_;rintro _ _ ⟨rfl,rfl⟩;refine⟨Ext.drew w3,?_⟩;cases ee:mS t with
  | false=>
   refine Xe rfl ?_;have:Vv t≠true:=λh=>by rw[((Bl t).1 h).1] at ee;cases ee
   exact⟨by rw[bad (.inl this)],Qi.trans (Ext.drew w3)⟩
  | true=>
   refine Xv rfl ?_;refine rd (Ext.refl _) (λp2 Ic=>?_);refine QJ Ic ?_;by_cases fh:t=Yv
   ·refine Zd (e1.2 fh) ?_;have:Vv t≠true:=λh=>((Bl t).1 h).2.1 fh
    exact⟨by rw[bad (.inl this)],Qi.trans (Ext.drew w3)⟩
   refine Xx (λh=>fh (e1.1 h)) ?_;refine rd (Ext.refl _) (λp3 hp3=>?_);refine QJ hp3 ?_;by_cases dT:t=aC
   ·refine Zd (e2.2 dT) ?_;have:Vv t≠true:=λh=>((Bl t).1 h).2.2 dT
    exact⟨by rw[bad (.inl this)],Qi.trans (Ext.drew w3)⟩
   refine Xx (λh=>dT (e2.1 h)) ?_;refine rd (Ext.refl _) (λp4 hp4=>?_);refine QJ hp4 ?_;refine ct Qa rfl rfl rfl rfl rfl rfl (by have:=h.le;omega) ?_;refine⟨Ext.drew w3,?_⟩;have hT:Sl w3.drew 1 A s c (Q9 (names.take s)):=by
    have:=(hN.ext (Ext.drew w3)).take (m:=s) (by omega);rw[WV] at this;rw[show Q9 (names.take s)=(Q9 names).take s by simp[Q9]];exact this
   refine call (fQU (names.take s) A s c t _ hT (λu hu=>(hb u (bF hu)).1) Yf) ?_;rintro _ _ ⟨rfl,rfl⟩;refine⟨Ext.drew w3,?_⟩;have Zm:Vv t=true:=(Bl t).2 ⟨ee,fh,dT⟩;by_cases hm:t∈names.take s
   ·refine Zd (RR.2 hm) ?_;exact⟨by rw[bad (.inr hm)],Qi.trans (Ext.drew w3)⟩
   ·refine Xx (λh=>hm (RR.1 h)) ?_;refine Qj ((s+1:Nat):Int) (by omega) (by omega) ?_;refine⟨s+1,rfl,⟨Qi.trans (Ext.drew w3),by omega,Po hall Y0 Zm,?_⟩,by show n-(s+1)<n-s;omega⟩;rw[KC,Y0];simp only[zR];rw[zO];exact⟨hnd,by simp,λx hx y hy e=>by simp only[QF] at hy;subst hy;subst e;exact hm hx⟩
 ·have:s=n:=by omega
  subst this;rw[Zz (by omega)] at hall hnd;exact⟨RK (by rw[jP];exact⟨λh=>by omega,λh=>⟨hall,hnd,by omega⟩⟩),Qi⟩
end
section
end
section
end
section
end
section
end
section
end
def cE:List (List Nat):=[[65],[66],[67],[68],[108,111,110,103,95,110,97,109,101],[95],[120,49],[84,82,85,69],[116],[102],[116,114,117],[102,97,108,115,101,101]]
theorem fQW (k:Nat)(w:World)(hk:k<=12):
  Fn Tryz.prog 51 [.int .i64 k] w (λv w'=>∃A c,v= .slice A k c/\Ext w w'/\Sl w' 1 A k c (Q9 (cE.take k))):=by
 refine Qx (c:={c51 with cuts:=[]}) Qa Tryz.func51 rfl rfl rfl ?_;refine Xm Qa (cE.map (λs=>[.string (Qe s)])) rfl rfl rfl rfl rfl ⟨rfl,rfl,rfl,rfl,rfl,rfl,rfl,rfl,rfl,rfl,rfl,rfl,rfl,rfl,rfl,rfl,rfl,rfl,rfl,rfl,rfl,rfl,rfl,rfl,⟨⟩⟩ rfl (λcs h=>by simp only[ZM] at h;obtain⟨s,_,rfl⟩:=h;rfl) rfl (by decide) (by decide) ?_;intro w1 Qd Q3 Qh;refine ct Qa rfl rfl rfl rfl rfl rfl hk ?_;have hS:Sl w1 1 (some ⟨w.heap.size,0,none⟩) 12 12 (Q9 cE):=Sl.own' (n:=12) Qh rfl (by decide);have:=hS.take (m:=k) hk;rw[WV] at this;exact⟨_,12,rfl,Qd,by rw[show Q9 (cE.take k)=(Q9 cE).take k by simp[Q9]];exact this⟩
theorem fQX (k:Nat)(hk:k<=12):Jy (cE.take k)/\Zx (cE.take k)=true/\(cE.take k).length=k:=by
 have hb:Jy cE:=fQQ (by decide);have hb':Jy (cE.take k):=λs hs=>hb s (bF hs)
 have hl:(cE.take k).length=k:=by rw[KZ];show min k 12=k;omega
 refine⟨hb',(F3 hb').2 ⟨?_,List.Nodup.sublist (List.take_sublist k cE) (by decide),by omega⟩,hl⟩;have:cE.all Vv=true:=by decide
 exact VT.2 (λs hs=>VT.1 this s (bF hs))
def WE (v:Nat)(pos:Bool):Fm:=if pos then .v v else .not (.v v)
def YB (nd:List Br):Nat->Int->Fm
 | 0,_=>.c false
 | m+1,n=>if n<2 then .c (decide (n=1))else match nd[(n-2).toNat]? with
  | none=>.c false
  | some b=>if b.h<2/\b.l<2 then WE b.v.toNat (decide (b.h=1))
   else if b.l=0 then .and (WE b.v.toNat true) (YB nd m b.h)
   else if b.h=0 then .and (WE b.v.toNat false) (YB nd m b.l)
   else if b.h=1 then .or (WE b.v.toNat true) (YB nd m b.l)
   else if b.l=1 then .or (WE b.v.toNat false) (YB nd m b.h)
   else .or (.and (WE b.v.toNat true) (YB nd m b.h)) (.and (WE b.v.toNat false) (YB nd m b.l))
def cf (nd:List Br)(n:Int):Fm:=YB nd (n.toNat+1) n
theorem RT {nd:List Br}{m:Nat}{n:Int}(h:n<2):YB nd (m+1) n= .c (decide (n=1)):=by rw[YB,Qf h]
theorem RU {nd:List Br}{m:Nat}{n:Int}{b:Br}(h:¬n<2)(hb:nd[(n-2).toNat]? =some b):YB nd (m+1) n=if b.h<2/\b.l<2 then WE b.v.toNat (decide (b.h=1))
   else if b.l=0 then .and (WE b.v.toNat true) (YB nd m b.h)
   else if b.h=0 then .and (WE b.v.toNat false) (YB nd m b.l)
   else if b.h=1 then .or (WE b.v.toNat true) (YB nd m b.l)
   else if b.l=1 then .or (WE b.v.toNat false) (YB nd m b.h)
   else .or (.and (WE b.v.toNat true) (YB nd m b.h)) (.and (WE b.v.toNat false) (YB nd m b.l)):=by rw[YB,if_neg h,hb]
def evF:Fm->(Nat->Bool)->Bool
 | .c b,_=>b
 | .v n,e=>e n
 | .not a,e=> !evF a e
 | .and a b,e=>evF a e&&evF b e
 | .or a b,e=>evF a e||evF b e
theorem pS (v:Nat)(pos:Bool)(e:Nat->Bool):evF (WE v pos) e=(e v==pos):=by
 cases pos<;>cases h:e v<;>simp[WE,evF,h]
theorem RW {nd:List Br}(h:Rd0 nd)(e:Nat->Bool):∀(m:Nat)(n:Int),0<=n->n<m->n<nd.length+2->evF (YB nd m n) e=ev nd n e
 | 0,n,h0,hm,_=>by omega
 | m+1,n,h0,hm,hn=>by
  by_cases h2:n<2
  ·rw[RT h2,JP h2]<;>rfl
  obtain⟨b,hb⟩:=WD h2 hn;obtain⟨b1,b2,b3,b4,b5,b6,b7,b8,b9,br⟩:=h _ _ hb;have ihl:=RW h e m b.l b3 (by omega) (by omega);have ihh:=RW h e m b.h b5 (by omega) (by omega);rw[RU h2 hb,cC h.wf h2 hb];split
  ·rename_i hc;rw[pS,JP hc.1,JP hc.2];have:b.l=1↔¬b.h=1:=by omega
   by_cases hh:b.h=1
   ·rw[XT hh,XS (λhl=>(this.1 hl) hh)];cases e b.v.toNat<;>rfl
   ·rw[XS hh,XT (this.2 hh)];cases e b.v.toNat<;>rfl
  ·split
   ·rename_i hl;simp only[evF];rw[pS,ihh,JP (n:=b.l) (by omega),hl];cases e b.v.toNat<;>simp
   ·split
    ·rename_i hh;simp only[evF];rw[pS,ihl,JP (n:=b.h) (by omega),hh];cases e b.v.toNat<;>simp
    ·split
     ·rename_i hh;simp only[evF];rw[pS,ihl,JP (n:=b.h) (by omega),hh];cases e b.v.toNat<;>simp
     ·split
      ·rename_i hl;simp only[evF];rw[pS,ihh,JP (n:=b.l) (by omega),hl];cases e b.v.toNat<;>simp
      ·simp only[evF];rw[pS,pS,ihh,ihl];cases e b.v.toNat<;>simp
theorem pT (x:Fz){f:List Fz}(h:f.length<=513):(Z7 x f).2.length=min 513 (f.length+1):=by
 unfold Z7;split
 ·simp;omega
 ·simp only;omega
theorem ww (x:Fz){f:List Fz}(h:f.length+1<=513):Z7 x f=(f.length,f++ [x]):=by unfold Z7;rw[Qf (by omega)]
structure BldOk (bld:List Fz->Nat×List Fz) (t:Fm):Prop where
 len:∀f,f.length<=513->(bld f).2.length=min 513 (f.length+QG t)
 eq:∀f,f.length+QG t<=513->bld f=(f.length+QG t-1,f++X8 t f.length)
def wx (v:Int)(pos:Bool)(f:List Fz):Nat×List Fz:=let p:=Z7 ⟨2,v,0,0⟩ f;if pos then p else Z7 ⟨3,0,(p.1:Nat),0⟩ p.2
theorem fQY {v:Int}(hv:0<=v)(pos:Bool):BldOk (wx v pos) (WE v.toNat pos):=by
 have e:(⟨2,v,0,0⟩:Fz)=⟨2,(v.toNat:Nat),0,0⟩:=by rw[EQ hv]
 cases pos with
 | true=>exact⟨λf hf=>by show(Z7 _ f).2.length=_;rw[pT _ hf];rfl,λf hf=>by show Z7 _ f=_;rw[ww _ hf,e];rfl⟩
 | false=>
  refine⟨λf hf=>?_,λf hf=>?_⟩
  ·show(Z7 _ (Z7 _ f).2).2.length=min 513 (f.length+2);rw[pT _ (by rw[pT _ hf];omega),pT _ hf];omega
  ·have Q8:f.length+2<=513:=hf;show Z7 _ (Z7 _ f).2=_;rw[ww _ (f:=f) (by omega)];simp only;rw[ww _ (by simp;omega),e];simp[WE,QG,X8]
theorem F8 {b1 b2:List Fz->Nat×List Fz}{t1 t2:Fm}(h1:BldOk b1 t1)(h2:BldOk b2 t2)(op:Int)(mk:Fm->Fm->Fm)(hs:∀a b,QG (mk a b)=QG a+QG b+1)
  (hp:∀a b k,X8 (mk a b) k=X8 a k++X8 b (k+QG a)++ [⟨op,0,((k+QG a-1:Nat):Int),((k+QG a+QG b-1:Nat):Int)⟩]):
  BldOk (λf=>let a:=b1 f;let c:=b2 a.2;Z7 ⟨op,0,(a.1:Nat),(c.1:Nat)⟩ c.2) (mk t1 t2):=by
 refine⟨λf hf=>?_,λf hf=>?_⟩
 ·have e1:=h1.len f hf;have e2:=h2.len (b1 f).2 (by omega);simp only;rw[pT _ (by omega),e2,e1,hs];omega
 ·rw[hs] at hf;have p1:=Yz t1;have p2:=Yz t2;simp only;rw[h1.eq f (by omega)];simp only;have l1:(f++X8 t1 f.length).length=f.length+QG t1:=by rw[Qy,J0]
  rw[h2.eq _ (by rw[l1];omega)];simp only;have l2:(f++X8 t1 f.length++X8 t2 (f++X8 t1 f.length).length).length=f.length+QG t1+QG t2:=by rw[Qy,l1,J0]
  rw[ww _ (by rw[l2];omega),l2,hs,hp,l1];simp;omega
theorem RX (bld:Int->List Fz->Nat×List Fz)(op v:Int)(pos:Bool)(num:Int)(f:List Fz):Ks bld op v pos num f=if op=4/\num=1 then wx v pos f else let a:=wx v pos f;let c:=bld num a.2;Z7 ⟨op,0,(a.1:Nat),(c.1:Nat)⟩ c.2:=rfl
theorem F9 {nd:List Br}(h:Rd0 nd):∀(m:Nat)(n:Int),0<=n->n<m->n<nd.length+2->BldOk (Zp nd m n) (YB nd m n)
 | 0,n,h0,hm,_=>by omega
 | m+1,n,h0,hm,hn=>by
  by_cases h2:n<2
  ·have e:(⟨min n 1,0,0,0⟩:Fz)=⟨if decide (n=1)then 1 else 0,0,0,0⟩:=by
    rcases(by omega:n=0∨n=1)with rfl | rfl<;>rfl
   rw[RT h2];refine⟨λf hf=>?_,λf hf=>?_⟩
   ·rw[Zp,Qf (.inl h2),pT _ hf]<;>rfl
   ·rw[Zp,Qf (.inl h2),ww _ hf,e]<;>rfl
  obtain⟨b,hb⟩:=WD h2 hn;obtain⟨b1,b2,b3,b4,b5,b6,b7,b8,b9,br⟩:=h _ _ hb;have ihl:=F9 h m b.l b3 (by omega) (by omega);have ihh:=F9 h m b.h b5 (by omega) (by omega);have lit:=λp=>fQY (v:=b.v) b1 p
  have sd:∀(op:Int) (pos:Bool) (num:Int) (t:Fm),¬(op=4/\num=1)->BldOk (Zp nd m num) t->(op=4->BldOk (Ks (Zp nd m) op b.v pos num) (.and (WE b.v.toNat pos) t))/\(op=5->BldOk (Ks (Zp nd m) op b.v pos num) (.or (WE b.v.toNat pos) t)):=λop pos num t Xa ht=>by
   have e:Ks (Zp nd m) op b.v pos num=λf=>let a:=wx b.v pos f;let c:=Zp nd m num a.2;Z7 ⟨op,0,(a.1:Nat),(c.1:Nat)⟩ c.2:=by
    funext f;rw[RX,if_neg Xa]
   rw[e];refine⟨λh4=>?_,λh5=>?_⟩
   ·subst h4;exact F8 (lit pos) ht 4 .and (λ_ _=>rfl) (λ_ _ _=>rfl)
   ·subst h5;exact F8 (lit pos) ht 5 .or (λ_ _=>rfl) (λ_ _ _=>rfl)
  have short:∀(pos:Bool),Ks (Zp nd m) 4 b.v pos 1=wx b.v pos:=λpos=>by funext f;rw[RX,Qf ⟨rfl,rfl⟩]
  have main:∃B,BldOk B (YB nd (m+1) n)/\∀f,¬512<f.length->Zp nd (m+1) n f=B f:=by
   rw[RU h2 hb];have unf:∀f,¬512<f.length->Zp nd (m+1) n f=if b.l=0 then Ks (Zp nd m) 4 b.v true b.h f else
     if b.h=0 then Ks (Zp nd m) 4 b.v false b.l f else
     if b.h=1 then Ks (Zp nd m) 5 b.v true b.l f else
     if b.l=1 then Ks (Zp nd m) 5 b.v false b.h f else
      let hi:=Ks (Zp nd m) 4 b.v true b.h f
      let lo:=Ks (Zp nd m) 4 b.v false b.l hi.2
      Z7 ⟨5,0,(hi.1:Nat),(lo.1:Nat)⟩ lo.2:=λf hf=>by
    rw[Zp,if_neg (λhh=>hh.elim h2 hf),hb]
   split
   ·rename_i hc;by_cases hl:b.l=0
    ·have hh:b.h=1:=by omega
     rw[XT hh];exact⟨_,lit true,λf hf=>by rw[unf f hf,Qf hl,hh,short]⟩
    ·have hh:b.h=0:=by omega
     have XL:b.l=1:=by omega
     rw[XS (by omega)];exact⟨_,lit false,λf hf=>by rw[unf f hf,if_neg hl,Qf hh,XL,short]⟩
   ·rename_i hc;split
    ·rename_i hl;exact⟨_,(sd 4 true b.h _ (by omega) ihh).1 rfl,λf hf=>by rw[unf f hf,Qf hl]⟩
    ·rename_i hl;split
     ·rename_i hh;exact⟨_,(sd 4 false b.l _ (by omega) ihl).1 rfl,λf hf=>by rw[unf f hf,if_neg hl,Qf hh]⟩
     ·rename_i hh;split
      ·rename_i CL;exact⟨_,(sd 5 true b.l _ (by omega) ihl).2 rfl,λf hf=>by rw[unf f hf,if_neg hl,if_neg hh,Qf CL]⟩
      ·rename_i CL;split
       ·rename_i XL;exact⟨_,(sd 5 false b.h _ (by omega) ihh).2 rfl,λf hf=>by rw[unf f hf,if_neg hl,if_neg hh,if_neg CL,Qf XL]⟩
       ·rename_i XL;exact⟨_,F8 ((sd 4 true b.h _ (by omega) ihh).1 rfl) ((sd 4 false b.l _ (by omega) ihl).1 rfl) 5 .or (λ_ _=>rfl) (λ_ _ _=>rfl),λf hf=>by rw[unf f hf,if_neg hl,if_neg hh,if_neg CL,if_neg XL]⟩
  obtain⟨B,hB,fG⟩:=main;refine⟨λf hf=>?_,λf hf=>?_⟩
  ·by_cases h5:512<f.length
   ·rw[Zp,Qf (.inr h5),pT _ hf];have:=Yz (YB nd (m+1) n);omega
   ·rw[fG f h5,hB.len f hf]
  ·have:=Yz (YB nd (m+1) n);rw[fG f (by omega),hB.eq f hf]
theorem RY {nd:List Br}{root:Int}(hv:XK nd root=0):aF nd root=if 512<QG (cf nd root)then([],2)else(X8 (cf nd root) 0,0):=by
 obtain⟨_,vd⟩:=gf.1 hv;have B:=F9 vd.rd0 (root.toNat+1) root vd.2.1 (by have:=vd.2.1;omega) vd.2.2.1;have e1:=B.len [] (by simp);unfold aF;rw[Qf hv];simp only[JI,aq] at e1;have:YB nd (root.toNat+1) root=cf nd root:=rfl;rw[this] at e1;by_cases h:512<QG (cf nd root)
 ·rw[Qf h,Qf (by rw[e1];omega)]
 ·rw[if_neg h,if_neg (by rw[e1];omega)];have e2:=B.eq [] (by simp only[JI];rw[this];omega);rw[e2,this]<;>rfl
def VIn (k:Nat)(nd:List Br):Prop:=∀b∈nd,b.v<k
theorem VIn.nil (k:Nat):VIn k []:=λb hb=>by simp at hb
theorem VIn.lvl {k:Nat}{nd:List Br}(h:VIn k nd){n:Int}(h2:¬n<2)(hn:n<nd.length+2):Ql nd n<k:=by
 obtain⟨b,hb⟩:=WD h2 hn;rw[dI h2 hb];exact h b (Q2 hb)
theorem Rd0.lvl0 {nd:List Br}(h:Rd0 nd){n:Int}(hn:n<nd.length+2):0<=Ql nd n:=by
 by_cases h2:n<2
 ·rw[gU h2];omega
 ·obtain⟨z,hz⟩:=WD h2 hn;rw[dI h2 hz];exact(h _ _ hz).1
theorem fQZ {a b c:Nat}(ha:a<c)(hb:b<c):2^a+2^b<=2^c:=by
 obtain⟨d,rfl⟩:∃d,c=d+1:=⟨c-1,by omega⟩
 have h1:2^a<=2^d:=Y6 (by decide) (by omega);have h2:2^b<=2^d:=Y6 (by decide) (by omega);rw[my];omega
theorem fQ0 (a:Nat):1<=2^a:=Nat.one_le_two_pow
theorem Ga {nd:List Br}(h:Rd0 nd){k:Nat}(hk:VIn k nd):∀(m:Nat)(n:Int)(st:List Br×List Nat),0<=n->n<m->n<nd.length+2->(Ze nd m n st).2.1.length+1<=st.1.length+2^((k:Int)-Ql nd n).toNat
 | 0,n,st,h0,hm,_=>by omega
 | m+1,n,st,h0,hm,hn=>by
  have p:=fQ0 ((k:Int)-Ql nd n).toNat;by_cases h2:n<2
  ·rw[kz h2];simp only;omega
  by_cases h3:0<st.2[(n-2).toNat]?.getD 0
  ·rw[kA h2 h3];simp only;omega
  obtain⟨b,hb⟩:=WD h2 hn;obtain⟨b1,b2,b3,b4,b5,b6,b7,b8,b9,br⟩:=h _ _ hb;have jM:=hk b (Q2 hb);have hlv:=dI h2 hb;rw[mN h2 h3 hb];have i1:=Ga h hk m b.l st b3 (by omega) (by omega);generalize (Ze nd m b.l st)=p1 at*;have i2:=Ga h hk m b.h p1.2 b5 (by omega) (by omega);generalize (Ze nd m b.h p1.2)=p2 at*;have:=fQZ (a:=((k:Int)-Ql nd b.l).toNat) (b:=((k:Int)-Ql nd b.h).toNat) (c:=((k:Int)-Ql nd n).toNat) (by omega) (by omega);simp only[Qy,Xs,JI];omega
theorem Gb {nd:List Br}{k:Nat}(hk:VIn k nd):∀(m:Nat)(n:Int)(st:List Br×List Nat),VIn k st.1->VIn k (Ze nd m n st).2.1
 | 0,n,st,h=>h
 | m+1,n,st,h=>by
  by_cases h2:n<2
  ·rw[kz h2];exact h
  by_cases h3:0<st.2[(n-2).toNat]?.getD 0
  ·rw[kA h2 h3];exact h
  cases hb:nd[(n-2).toNat]? with
  | none=>rw[Ze,if_neg h2,if_neg h3,hb];exact h
  | some b=>
   rw[mN h2 h3 hb];have i1:=Gb hk m b.l st h;generalize (Ze nd m b.l st)=p1 at*;have i2:=Gb hk m b.h p1.2 i1;generalize (Ze nd m b.h p1.2)=p2 at*;intro x hx;simp only[XH,QF] at hx;rcases hx with hx | rfl
   ·exact i2 x hx
   ·exact hk b (Q2 hb)
theorem fQ1 {nd:List Br}{k:Nat}(hk:VIn k nd)(r:Int):VIn k (bM nd r).1:=Gb hk _ _ _ (VIn.nil k)
theorem VD.len {nd:List Br}{r:Int}(h:VD nd r){k:Nat}(hk:VIn k nd):nd.length+1<=2^k:=by
 have i:=Ga h.rd0 hk (r.toNat+1) r ([],List.replicate nd.length 0) h.2.1 (by have:=h.2.1;omega) h.2.2.1;have e:(Ze nd (r.toNat+1) r ([],List.replicate nd.length 0)).2.1=nd:=QO Prod.fst h.2.2.2;rw[e] at i;have:=h.rd0.lvl0 h.2.2.1;have p:2^((k:Int)-Ql nd r).toNat<=2^k:=Y6 (by decide) (by omega);simp only[JI] at i;omega
theorem fQ2 {k:Nat}{l:List Br}(h:VIn k l){b:Br}(hb:b.v<k):VIn k (Z1 b l).1:=by
 unfold Z1;split
 ·exact h
 ·split
  ·exact h
  ·intro x hx;simp only[XH,QF] at hx;rcases hx with hx | rfl
   ·exact h x hx
   ·exact hb
theorem Gc {a b:List Br}(ha:Vw a)(hb:Vw b){k:Nat}(ka:VIn k a)(kb:VIn k b)(op:Int):∀(m:Nat)(x y:Int)(st:List Br×List Tr3),0<=x->0<=y->x<a.length+2->y<b.length+2->VIn k st.1->VIn k (Xz a b op m x y st).2.1
 | 0,_,_,st,_,_,_,_,h=>h
 | m+1,x,y,st,x0,y0,hx,hy,h=>by
  by_cases Xl:x<2/\y<2
  ·rw[kE Xl];exact h
  cases k3:st.2.find? (λt=>decide (t.1=x/\t.2.1=y))with
  | some t=>rw[kF Xl k3];exact h
  | none=>
   have yX:min (Ql a x) (Ql b y)<k:=by
    by_cases c:x<2
    ·have:=kb.lvl (n:=y) (λc2=>Xl ⟨c,c2⟩) hy;rw[Z5];split<;>omega
    ·have:=ka.lvl (n:=x) c hx;rw[Z5];split<;>omega
   have ZD:min (Ql a x) (Ql b y)<64:=by
    by_cases c:x<2
    ·have:=aE hb (n:=y) (λc2=>Xl ⟨c,c2⟩) (by omega);rw[Z5];split<;>omega
    ·have:=aE ha (n:=x) c (by omega);rw[Z5];split<;>omega
   rw[kG Xl k3 _ rfl];generalize min (Ql a x) (Ql b y)=v at*;obtain⟨s1,s2,s3,s4,s5⟩:=WC ha (n:=x) x0 ZD;obtain⟨t1,t2,t3,t4,t5⟩:=WC hb (n:=y) y0 ZD;have i1:=Gc ha hb ka kb op m (Qm a x v).1 (Qm b y v).1 st s1 t1 (by omega) (by omega) h;generalize (Xz a b op m (Qm a x v).1 (Qm b y v).1 st)=r0 at*;have i2:=Gc ha hb ka kb op m (Qm a x v).2 (Qm b y v).2 r0.2 s3 t3 (by omega) (by omega) i1;exact fQ2 i2 yX
structure Set1 (k:Nat) (nd:List Br) (r:Int) (o:(Nat->Bool)->Bool):Prop where
 vd:VD nd r
 vin:VIn k nd
 mean:∀e,ev nd r e=o e
theorem Set1.len {k:Nat}{nd:List Br}{r:Int}{o:(Nat->Bool)->Bool}(h:Set1 k nd r o)(hk:k<=12):nd.length<=4095:=by
 have:=h.vd.len h.vin;have p:2^k<=2^12:=Y6 (by decide) hk;omega
theorem Set1.chk {k:Nat}{nd:List Br}{r:Int}{o:(Nat->Bool)->Bool}(h:Set1 k nd r o)(hk:k<=12):XK nd r=0:=AQ (by have:=h.len hk;omega) h.vd
theorem Set1.unique {k k':Nat}{nd X6:List Br}{r r':Int}{o o':(Nat->Bool)->Bool}(h:Set1 k nd r o)(h':Set1 k' X6 r' o')(e:∀x,o x=o' x):(nd,r)=(X6,r'):=
 h.vd.eqv h'.vd (λx=>by rw[h.mean,h'.mean,e])
theorem Set1.congr {k:Nat}{nd:List Br}{r:Int}{o o':(Nat->Bool)->Bool}(h:Set1 k nd r o)(e:∀x,o x=o' x):Set1 k nd r o':=⟨h.vd,h.vin,λx=>(h.mean x).trans (e x)⟩
theorem eL {k:Nat}{a b:List Br}{ra rb:Int}{o o':(Nat->Bool)->Bool}(h:Set1 k a ra o)(h':Set1 k b rb o')(op:Int):Set1 k (VV a ra b rb op).1 (VV a ra b rb op).2 (λe=>Kr op (o e) (o' e)):=by
 obtain⟨v,m⟩:=fQq h.vd h'.vd op;refine⟨v,fQ1 (Gc h.vd.dok h'.vd.dok h.vin h'.vin op _ _ _ _ h.vd.2.1 h'.vd.2.1 h.vd.2.2.1 h'.vd.2.2.1 (VIn.nil k)) _,λe=>?_⟩;rw[m e,h.mean,h'.mean]
theorem gV {k:Nat}(hk:k<=12){a b:List Br}{ra rb:Int}{o o':(Nat->Bool)->Bool}(h:Set1 k a ra o)(h':Set1 k b rb o')(op:Int):eK a ra b rb op=(VV a ra b rb op,0):=by
 have l:=(eL h h' op).len hk;unfold eK;rw[if_neg (λhh=>hh (h.chk hk)),if_neg (λhh=>hh (h'.chk hk))];unfold ji;rw[if_neg (by omega)]
theorem bO (k:Nat)(b:Bool):Set1 k [] (if b then 1 else 0) (λ_=>b):=by
 refine⟨⟨λj x hx=>by simp at hx,by cases b<;>decide,by cases b<;>decide,by cases b<;>rfl⟩,VIn.nil k,λe=>?_⟩;rw[JP (by cases b<;>decide)];cases b<;>rfl
def kM (nm:List (List Nat))(s:List Nat):Except Int Fm:=if Zx nm then
  if(XZ s).2 then match tk (JB nm) (s.length+1) (XZ s).1 with
   | none=>.error 31
   | some (t,u,ts)=>if ts≠ [] then .error 31 else if u then .error 3 else if 512<QG t then .error 2 else .ok t
  else .error 31
 else .error 1
theorem fQ3 (nm:List (List Nat))(s:List Nat):dE nm s=match kM nm s with
  | .ok t=>(X8 t 0,0)
  | .error e=>([],e):=by
 rw[Rl];unfold Bg kM;cases Zx nm with
 | false=>rfl
 | true=>
  cases (XZ s).2 with
  | false=>rfl
  | true=>
   simp only[if_true];cases tk (JB nm) (s.length+1) (XZ s).1 with
   | none=>rfl
   | some q=>
    obtain⟨t,u,ts⟩:=q;simp only;by_cases h1:ts≠ []
    ·rw[Qf h1,Qf h1]
    ·rw[if_neg h1,if_neg h1];by_cases h2:u=true
     ·rw[Qf h2,Qf h2]
     ·rw[if_neg h2,if_neg h2];by_cases h3:512<QG t
      ·rw[Qf h3,Qf h3]
      ·rw[if_neg h3,if_neg h3]
def Bm (N:Nat)(opd:List (List Nat)->Option (Fm×Bool×List (List Nat))):Prop:=∀ts t Jf,opd ts=some (t,false,Jf)->VarsIn N t
theorem RZ {N:Nat}{op:List Nat}{mk:Fm->Fm->Fm}{opd:List (List Nat)->Option (Fm×Bool×List (List Nat))}(hm:∀a b,VarsIn N a->VarsIn N b->VarsIn N (mk a b))(h:Bm N opd):
  ∀(m:Nat) (a:Fm) (u:Bool) (ts:List (List Nat)) (t:Fm) (Jf:List (List Nat)),(u=false->VarsIn N a)->Yy op mk opd m a u ts=some (t,false,Jf)->VarsIn N t
 | 0,a,u,ts,t,Jf,_,hh=>by cases hh
 | m+1,a,u,ts,t,Jf,ha,hh=>by
  unfold Yy at hh;split at hh
  ·cases ho:opd ts.tail with
   | none=>rw[ho] at hh;cases hh
   | some q=>
    obtain⟨b,v,io⟩:=q;rw[ho] at hh;refine RZ hm h m _ _ _ t Jf (λhuv=>?_) hh;cases u<;>cases v<;>simp at huv
    exact hm _ _ (ha rfl) (h _ _ _ ho)
  ·cases hh;exact ha rfl
theorem Bn {N:Nat}{op:List Nat}{mk:Fm->Fm->Fm}{opd:List (List Nat)->Option (Fm×Bool×List (List Nat))}(hm:∀a b,VarsIn N a->VarsIn N b->VarsIn N (mk a b))(h:Bm N opd):Bm N (YS op mk opd):=λts t Jf hh=>by
 unfold YS at hh;cases ho:opd ts with
 | none=>rw[ho] at hh;cases hh
 | some q=>
  obtain⟨a,u,io⟩:=q;rw[ho] at hh;exact RZ hm h _ _ _ _ t Jf (λhu=>by subst hu;exact h _ _ _ ho) hh
theorem R0 {N:Nat}{ix:List Nat->Option Nat}(hx:∀l n,ix l=some n->n<N):∀n,Bm N (KO ix n)
 | 0=>λts t Jf h=>by cases h
 | n+1=>λts t Jf h=>by
  have ih:=R0 hx n;cases ts with
  | nil=>cases h
  | cons w ts=>
   unfold KO at h;split at h
   ·cases ho:KO ix n ts with
    | none=>rw[ho] at h;cases h
    | some q=>
     obtain⟨a,u,io⟩:=q;rw[ho] at h;cases h;exact show VarsIn N a from ih _ _ _ ho
   split at h
   ·cases ho:YS [124,124] Fm.or (YS [38,38] Fm.and (KO ix n)) ts with
    | none=>rw[ho] at h;cases h
    | some q=>
     obtain⟨a,u,io⟩:=q;rw[ho] at h;simp only at h;split at h
     ·cases h;exact Bn (mk:=Fm.or) (λ_ _ h h'=>⟨h,h'⟩) (Bn (mk:=Fm.and) (λ_ _ h h'=>⟨h,h'⟩) ih) _ _ _ ho
     ·cases h
   split at h
   ·simp only[Option.some.injEq,Prod.mk.injEq] at h;obtain⟨rfl,h2,_⟩:=h;unfold kJ at h2 ⊢;split
    ·trivial
    ·split
     ·trivial
     ·rename_i h3 h4;rw[if_neg h3,if_neg h4] at h2;simp only at h2;cases hi:ix w with
      | none=>rw[hi] at h2;cases h2
      | some k=>exact hx _ _ hi
   ·cases h
theorem R1 (l:List Nat)(N:Nat):∀(names:List (List Nat))(i:Nat)(QU:Option Nat),(∀n,QU=some n->n<N)->i+names.length<=N->∀n,gS l names i QU=some n->n<N
 | [],i,QU,ha,_,n,h=>ha n h
 | s::names,i,QU,ha,hl,n,h=>by
  unfold gS at h;refine R1 l N names (i+1) _ (λm hm=>?_) (by simp at hl;omega) n h;split at hm
  ·cases hm;simp at hl;omega
  ·exact ha m hm
theorem kN {names:List (List Nat)}{l:List Nat}{n:Nat}(h:JB names l=some n):n<names.length:=R1 l _ names 0 none (λ_ h=>by cases h) (by omega) n h
theorem fQ4 {nm:List (List Nat)}{s:List Nat}{t:Fm}(h:kM nm s= .ok t):Zx nm=true/\VarsIn nm.length t/\QG t<=512:=by
 unfold kM at h;split at h
 ·rename_i hn;split at h
  ·split at h
   ·cases h
   ·rename_i t' u ts hw;split at h
    ·cases h
    split at h
    ·cases h
    split at h
    ·cases h
    ·rename_i hu hs;cases h;have hu:u=false:=by simpa using hu
     subst hu;exact⟨hn,Bn (mk:=Fm.or) (λ_ _ h h'=>⟨h,h'⟩) (Bn (mk:=Fm.and) (λ_ _ h h'=>⟨h,h'⟩) (R0 (λl n h=>kN h) _)) _ _ _ hw,by omega⟩
  ·cases h
 ·cases h
theorem fQ5 {nm:List (List Nat)}{s:List Nat}{e:Int}(h:kM nm s= .error e):e=1∨e=2∨e=3∨e=31:=by
 unfold kM at h
 repeat' split at h
 all_goals first | cases h | skip
 all_goals simp
abbrev BF:=(Nat->Bool)->Bool
def YT (nm:List (List Nat))(s:List Nat):Except Int BF:=match kM nm s with
 | .ok t=>.ok (evF t)
 | .error e=>.error (if e=2 then 2 else 71)
inductive Dir where
 | txt
 | ifd (s:List Nat)
 | elif (s:List Nat)
 | els
 | en
 | inc (s:List Nat)
def ZH:List Nat:=[35,105,102,32]
def pElif:List Nat:=[35,101,108,105,102,32]
def pInc:List Nat:=[35,105,110,99,108,117,100,101,32]
def Vl:List Nat:=[35,101,108,115,101]
def Zq:List Nat:=[35,101,110,100]
def JC (s:List Nat):Dir:=if ZH.isPrefixOf s then .ifd (s.drop 4)else if pInc.isPrefixOf s then .inc (s.drop 9)else if pElif.isPrefixOf s then .elif (s.drop 6)else if s=Vl then .els else if s=Zq then .en else .txt
def QZ:List Nat->List (List Nat)
 | []=>[]
 | b::l=>if b=10 then []::QZ l else match QZ l with
  | []=>[[b]]
  | s::ls=>(b::s)::ls
def Qo (ls:List (List Nat)):List Nat:=ls.flatMap (λs=>s++ [10])
theorem W0 (s:List Nat)(ls:List (List Nat)):Qo (s::ls)=s++10::Qo ls:=by simp[Qo]
theorem tF (ls:List (List Nat)):ls.length<=(Qo ls).length:=by
 induction ls with
 | nil=>exact QD _
 | cons s ls ih=>rw[W0];simp only[Xs,Qy];omega
def gg (ls:List (List Nat)):Prop:=∀s∈ls,10∉s
theorem fQ6 (s l:List Nat)(h:10∉s):QZ (s++10::l)=s::QZ l:=by
 induction s with
 | nil=>simp[QZ]
 | cons b s ih=>
  simp only[Q0,not_or] at h;rw[YK,QZ,if_neg (λe=>h.1 e.symm),ih h.2]
theorem wy {ls:List (List Nat)}(h:gg ls):QZ (Qo ls)=ls:=by
 induction ls with
 | nil=>rfl
 | cons s ls ih=>rw[W0,fQ6 _ _ (h s (by simp)),ih (λt ht=>h t (by simp[ht]))]
def YC (l:List Nat):Prop:=l=[]∨l.getLast? =some 10
theorem mT:∀(l:List Nat),gg (QZ l)
 | []=>λs hs=>by simp[QZ] at hs
 | b::l=>by
  have ih:=mT l;intro s hs;unfold QZ at hs;split at hs
  ·simp only[Q0] at hs;rcases hs with rfl | hs
   ·simp
   ·exact ih s hs
  ·rename_i hb;cases hl:QZ l with
   | nil=>
    rw[hl] at hs;simp only[QF] at hs;subst hs;simpa using λe=>hb e.symm
   | cons t ls=>
    rw[hl] at hs ih;simp only[Q0] at hs;rcases hs with rfl | hs
    ·have:=ih t (by simp);simp only[Q0,not_or];exact⟨λe=>hb e.symm,this⟩
    ·exact ih s (by simp[hs])
theorem aG:∀{l:List Nat},YC l->Qo (QZ l)=l
 | [],_=>rfl
 | b::l,h=>by
  have hl:YC l:=by
   cases l with
   | nil=>exact .inl rfl
   | cons c l=>right;rcases h with h | h;cases h;simpa using h
  have ih:=aG hl;unfold QZ;split
  ·rename_i hb;subst hb;rw[W0,ih]<;>rfl
  ·rename_i hb;cases K8:QZ l with
   | nil=>
    rw[K8] at ih;have:l=[]:=ih.symm;subst this;rcases h with h | h
    ·cases h
    ·simp at h;exact Xd h hb
   | cons t ls=>
    rw[K8] at ih;simp only[W0] at ih ⊢;rw[YK,ih]
theorem R2 (ls:List (List Nat)):YC (Qo ls):=by
 induction ls with
 | nil=>exact .inl rfl
 | cons s ls ih=>
  right
  rw[W0];rcases ih with h | h
  ·rw[h];simp
  ·rw[List.getLast?_append,List.getLast?_cons,h];simp
structure Sg where
 f:Nat
 t:Nat
 fl:Nat
 at_:Nat
 o:BF
structure Gs where
 tx:List Nat
 sg:List Sg
 fr:Bool
structure Se where
 ou:BF
 re:BF
 ot:Bool
 ln:Nat
structure Pl where
 e:Int
 f:Int
 l:Int
def mU (n:Nat):List Sg->List Sg
 | []=>[]
 | [x]=>[{x with t:=n}]
 | x::y::l=>x::mU n (y::l)
theorem kO (n:Nat)(l:List Sg)(x:Sg):mU n (l++ [x])=l++ [{x with t:=n}]:=by
 induction l with
 | nil=>rfl
 | cons y l ih=>
  cases l with
  | nil=>rfl
  | cons z l=>rw[YK,YK] at*;rw[mU,ih]<;>rfl
def Yb (s:List Nat)(fl at_:Nat)(k:BF)(g:Gs):Option Gs:=
 if 1048576<g.tx.length+s.length∨(g.fr=true/\g.sg.length=65536)then none
 else some ⟨g.tx++s,mU (g.tx.length+s.length) (if g.fr then g.sg++ [⟨g.tx.length,0,fl,at_,k⟩] else g.sg),false⟩
def dK (ix:List Nat->Option Nat)(rd:List Nat)(s:List Nat):Except Int Nat:=
 if s.length<2∨s.head? ≠some 34∨s.getLast? ≠some 34∨s.count 34≠2 then .error 71
 else match ix ((s.drop 1).take (s.length-2))with
  | none=>.error 73
  | some n=>if n∈rd then .error 73 else .ok n
abbrev JQ (a b:BF):BF:=λe=>a e&&b e
abbrev YD (a b:BF):BF:=λe=>a e && !b e
def Z2 (nm:List (List Nat))(fl d0:Nat)(inc:List Nat->Nat->Nat->BF->Gs->Except Pl Gs):List (List Nat)->Nat->Nat->BF->List Se->Gs->Except Pl Gs
 | [],_,_,_,op,g=>match op with
  | []=>.ok {g with fr:=true}
  | x::_=>.error ⟨72,fl,x.ln⟩
 | s::ls,ln,at_,k,op,g=>match JC s with
  | .ifd r=>match YT nm r with
   | .error e=>.error ⟨e,fl,ln+1⟩
   | .ok d=>if d0+op.length=64 then .error ⟨2,fl,ln+1⟩else Z2 nm fl d0 inc ls (ln+1) (at_+s.length+1) (JQ k d) (⟨k,YD k d,false,ln+1⟩::op) {g with fr:=true}
  | .inc r=>match inc r (ln+1) (d0+op.length) k g with
   | .error p=>.error p
   | .ok g'=>Z2 nm fl d0 inc ls (ln+1) (at_+s.length+1) k op {g' with fr:=true}
  | .elif r=>match op with
   | []=>.error ⟨72,fl,ln+1⟩
   | x::bC=>if x.ot then .error ⟨71,fl,ln+1⟩else match YT nm r with
    | .error e=>.error ⟨e,fl,ln+1⟩
    | .ok d=>Z2 nm fl d0 inc ls (ln+1) (at_+s.length+1) (JQ x.re d) ({x with re:=YD x.re d}::bC) {g with fr:=true}
  | .els=>match op with
   | []=>.error ⟨72,fl,ln+1⟩
   | x::bC=>if x.ot then .error ⟨71,fl,ln+1⟩else Z2 nm fl d0 inc ls (ln+1) (at_+s.length+1) x.re ({x with ot:=true}::bC) {g with fr:=true}
  | .en=>match op with
   | []=>.error ⟨72,fl,ln+1⟩
   | x::bC=>Z2 nm fl d0 inc ls (ln+1) (at_+s.length+1) x.ou bC {g with fr:=true}
  | .txt=>match Yb (s++ [10]) fl at_ k g with
   | none=>.error ⟨2,fl,ln+1⟩
   | some g'=>Z2 nm fl d0 inc ls (ln+1) (at_+s.length+1) k op g'
def be (nm:List (List Nat))(fs:List (List Nat×List Nat)):Nat->List Nat->Nat->Nat->BF->Gs->Except Pl Gs
 | 0,_,_,_,_,_=>.error ⟨0,0,0⟩
 | f+1,rd,d,n,k,g=>Z2 nm n d (λr ln d k g=>match dK (JB (fs.map (·.1))) (n::rd) r with
   | .error e=>.error ⟨e,n,ln⟩
   | .ok m=>if d=64 then .error ⟨2,n,ln⟩else be nm fs f (n::rd) (d+1) m k g) (QZ ((fs[n]?.map (·.2)).getD [])) 0 0 k [] {g with fr:=true}
def pU (s:List Nat):Bool:=decide (s≠ [])&&s.all (λb=>decide (32<=b)&&b !=34&&b !=127)
def W3 (l:List Nat):Bool:=decide (l=[])||l.getLast? ==some 10
def eM:List (List Nat×List Nat)->List (List Nat)->Nat->Option Pl
 | [],_,_=>none
 | x::l,seen,i=>if¬(pU x.1=true/\x.1∉seen/\W3 x.2=true)then some ⟨70,i,0⟩else if 1048576<x.2.length then some ⟨2,i,0⟩else eM l (seen++ [x.1]) (i+1)
def W4 (fs:List (List Nat×List Nat)):Option Pl:=if 256<fs.length then some ⟨2, -1,0⟩else eM fs [] 0
def W5 (nm:List (List Nat))(fs:List (List Nat×List Nat))(root:List Nat):Except Pl Gs:=
 if Zx nm=false then .error ⟨30, -1,0⟩else match W4 fs with
  | some p=>.error p
  | none=>match JB (fs.map (·.1)) root with
   | none=>.error ⟨73, -1,0⟩
   | some n=>be nm fs 65 [] 0 n (λ_=>true) ⟨[],[],false⟩
theorem jk (A:Option Addr)(n c:Nat)(r m v:Int)(nd:List Br)(w:World)(h:SB w A n c nd)(hm:m<n+2)(dS:v<64):
  Fn Tryz.prog 167 [Xg A n c r,.int .i64 m,.int .i64 v] w (λu w'=>u= .tuple #[.int .i64 (Qm nd m v).1,.int .i64 (Qm nd m v).2]/\Ext w w'):=by
 have Xf:=h.2;have WQ:n<=9223372036854775807:=by have:=h.1.le;have:=h.1.cap;simp only[maxLen] at this;omega
 refine Qx (c:={dQu with cuts:=[]}) Qa Tryz.func167 rfl rfl rfl ?_;refine new (λw1 Qd Q3 Qh=>?_);refine Qs Qh rfl ?_;refine call (dF A n c r m nd w1 (h.ext Qd) hm) ?_;rintro u w2 ⟨rfl,Qg⟩;have QT:=Qd.trans Qg;have Qv:=Qh.ext Qg;refine Yt (λc1=>?_) (λc1=>?_)
 ·exact⟨by unfold Qm;rw[Qf c1],QT⟩
 ·have uQ:¬m<2:=λh2=>by
   unfold Ql at c1;rw[Qf h2] at c1;omega
  have hx:=Xb (show(m-2).toNat<nd.length by omega);generalize nd[(m-2).toNat]=b at hx;have e:Qm nd m v=(b.l,b.h):=by unfold Qm;rw[if_neg (by omega),hx]
  rw[e];refine Xy Qa (Ext w2) 16 [(true,0),(true,1),(true,2),(true,3),(true,4),(true,5),(true,6),(true,7),(true,8),(true,9),(true,10),(true,11),(true,12),(true,13),(true,14),(true,15)] (by kernel_rfl) (Ext.drew w2) ?_;refine QJ (v:=.slice A n c) (λw' Qb=>by rw[(Qv.ext Qb).cell];rfl) ?_;refine Qj (((m-2).toNat:Nat):Int) (by omega) (by omega) ?_;refine Zh YR (h.ext QT) rfl (by omega) (λp z hz hc=>?_);have oU:z=b:=Option.some.inj (hz.symm.trans hx);subst oU;refine QJ (v:=.int .i64 z.l) (λw' Qb=>Qb.cell (hc 1 _ rfl)) ?_;refine QJ (v:=.slice A n c) (λw' Qb=>by rw[(Qv.ext Qb).cell];rfl) ?_;refine Qj (((m-2).toNat:Nat):Int) (by omega) (by omega) ?_;refine Zh YR (h.ext QT) rfl (by omega) (λp' z' YZ Kl=>?_);have MD:z'=z:=Option.some.inj (YZ.symm.trans hx);subst MD;refine QJ (v:=.int .i64 z'.h) (λw' Qb=>Qb.cell (Kl 2 _ rfl)) ?_;exact⟨rfl,QT.trans (Ext.drew w2)⟩
def wz (nd:List Br)(b:Br):Option Value:=(KN b nd).map λi=>.int .i64 ((i+2:Nat):Int)
structure Bd (w:World) (base pb km:Nat) (NA:Option Addr) (nc:Nat) (nd:List Br):Prop where
 blk:Blk w pb 177 [.slice NA nd.length nc,.map (some km)]
 own:Own w base 105 3 NA nd.length nc (kC nd)
 known:∃m,MapQ cA w km m/\∀b,XJ b m=wz nd b
 lt:pb<base/\km<base/\pb≠km
 top:base<=w.heap.size
theorem Bd.ext {w w':World}{base pb km:Nat}{NA:Option Addr}{nc:Nat}{nd:List Br}(h:Bd w base pb km NA nc nd)(k:Ext w w'):Bd w' base pb km NA nc nd:=
 ⟨h.blk.ext k,h.own.ext k,let ⟨m,h1,h2⟩:=h.known;⟨m,h1.ext k,h2⟩,h.lt,X2 h.top k.size⟩
def BS (pb km:Nat)(NA:Option Addr):Nat->Prop:=λk=>k=pb∨k=km∨Qk NA k
theorem BS.moved {w:World}{pb km:Nat}{A A':Option Addr}(h:Moved w A A'):∀k,BS pb km A' k->BS pb km A k∨w.heap.size<=k:=by
 rintro k (rfl | rfl | hk)
 ·exact .inl (.inl rfl)
 ·exact .inl (.inr (.inl rfl))
 ·rcases h.rows k hk with h | h
  ·exact .inl (.inr (.inr h))
  ·exact .inr h
def fQ7 (w:World)(base pb km:Nat)(NA:Option Addr)(nd:List Br)(w':World):Prop:=∃NA' nc',Bd w' base pb km NA' nc' nd/\Mod (BS pb km NA) w w'/\Moved w NA NA'
theorem R3 (b x:Br):∀l:List Br,KN x l=none->KN b (l++ [x])=if b=x then some l.length else KN b l
 | [],_=>by
  show(if x=b then some 0 else(none:Option Nat).map (·+1))=_;by_cases h:x=b
  ·rw[Qf h,Qf h.symm]<;>rfl
  ·rw[if_neg h,if_neg (λe=>h e.symm)]<;>rfl
 | y::l,hx=>by
  have hy:y≠x:=λe=>by rw[KN,Qf e] at hx;cases hx
  have hl:KN x l=none:=by
   rw[KN,if_neg hy] at hx;cases hh:KN x l with
   | none=>rfl
   | some k=>rw[hh] at hx;cases hx
  have ih:=R3 b x l hl;show(if y=b then some 0 else(KN b (l++ [x])).map (·+1))=if b=x then some (l.length+1)else if y=b then some 0 else(KN b l).map (·+1)
  rw[ih];by_cases h1:b=x
  ·rw[Qf h1,Qf h1,if_neg (λe=>hy (e.trans h1))]<;>rfl
  ·rw[if_neg h1,if_neg h1]
theorem fQ8 {b:Br}{nd:List Br}{i:Nat}(h:b.l≠b.h)(k:KN b nd=some i):Z1 b nd=(nd,((i+2:Nat):Int)):=by unfold Z1;rw[if_neg h,k]
theorem fQ9 {b:Br}{nd:List Br}(h:b.l≠b.h)(k:KN b nd=none):Z1 b nd=(nd++ [b],((nd.length+2:Nat):Int)):=by unfold Z1;rw[if_neg h,k]
theorem R4 (base pb km:Nat)(NA:Option Addr)(nc:Nat)(nd:List Br)(b:Br)(w:World)(h:Bd w base pb km NA nc nd)(hl:nd.length+1<=1000000000000):
  Fn Tryz.prog 189 [.pointer (some ⟨pb,0,none⟩),.int .i64 b.v,.int .i64 b.l,.int .i64 b.h] w (λu w'=>u= .int .i64 (Z1 b nd).2/\fQ7 w base pb km NA (Z1 b nd).1 w'):=by
 obtain⟨p1,p2,p3⟩:=h.lt;have lP:=h.top;have V4:=h.own.rows;refine Qx (c:={dQG with cuts:=[]}) Qa Tryz.func189 rfl rfl rfl ?_;refine XU (λc1=>?_) (λc1=>?_)
 ·have e:Z1 b nd=(nd,b.l):=by unfold Z1;rw[Qf c1]
  rw[e];exact⟨rfl,NA,nc,h,Mod.refl _ _,Moved.refl _ _⟩
 refine new (λw1 Qd Q3 Qh=>?_);refine QB Qh rfl (sc rfl) (λw2 ig X0 Qv=>?_);have Qg:Ext w w2:=XY Qd Qh ig
 replace Qv:Blk w2 w.heap.size 105 b.cells:=Qv;have h2:=h.ext Qg;obtain⟨m,hm,Vg⟩:=h2.known;refine Xy Qa (Ext w2) 11 [(true,0),(true,1),(true,2),(true,3),(true,4),(false,5),(true,6),(true,7),(true,8),(true,9),(true,10)] (by kernel_rfl) (Ext.drew w2) ?_;refine QJ (v:=.map (some km)) (λw' Qb=>by rw[(h2.blk.ext Qb).cell];rfl) ?_;refine Xr (vs:=b.cells) rfl (λw' Qb j v hj=>by rw[(Qv.ext Qb).cell];exact hj) ?_;refine Fv (kv:=cA) (a:=b) Qa rfl rfl rfl rfl AT rfl rfl (hm.ext (Ext.drew w2)) ?_;refine⟨Ext.drew w2,?_⟩;have QT:=Qg.trans (Ext.drew w2);have Qw:=Qv.ext (Ext.drew w2);have h3:=h2.ext (Ext.drew w2);have XE:=hm.ext (Ext.drew w2);have JF:w2.heap.size<=w2.drew.heap.size:=(Ext.drew w2).size;generalize w2.drew=w3 at*;cases hf:KN b nd with
 | some i=>
  have ha:XJ b m=some (.int .i64 ((i+2:Nat):Int)):=by rw[Vg,wz,hf]<;>rfl
  have gq:=fQ8 c1 hf;refine cr (Xe (by rw[ha];rfl) ?_);rw[gq];exact⟨by rw[ha];rfl,NA,nc,h3,Mod.of_ext _ QT,Moved.refl _ _⟩
 | none=>
  have ha:XJ b m=none:=by rw[Vg,wz,hf]<;>rfl
  have gq:=fQ9 c1 hf;refine cr (Xv (by rw[ha];rfl) ?_);rw[gq];have n3:w1.heap.size=w.heap.size+1:=Q3;have Em:¬Qk NA pb:=λhr=>by have:=(V4 _ hr).1;omega
  have En:¬Qk NA w.heap.size:=λhr=>by have:=(V4 _ hr).2;omega
  refine Xy Qa (Mod (Qk NA) w3) 8 [(true,0),(true,1),(true,2),(true,3),(true,4),(true,5),(false,6),(false,7)] (by kernel_rfl) (Mod.of_ext _ (Ext.drew w3)) ?_;refine QJ (v:=.slice NA nd.length nc) (λw' Qb=>by rw[(h3.blk.mod Qb Em).cell];rfl) ?_;refine Xr (vs:=b.cells) rfl (λw' Qb j v hj=>by rw[(Qw.mod Qb En).cell];exact hj) ?_;refine Xm Qa [b.cells] rfl rfl rfl rfl rfl ⟨rfl,rfl,⟨⟩⟩ rfl (λcs h=>by simp only[QF] at h;subst h;rfl) rfl (by decide) (by decide) ?_;intro w4 Qq K5 Q6;have K6:=(Ext.drew w3).trans Qq;have h4:=h3.ext K6;refine⟨Mod.of_ext _ K6,?_⟩;have UX:Sl w4 3 (some ⟨w3.drew.heap.size,0,none⟩) 1 1 b.cells:=Sl.own (sz:=3) (n:=1) Q6 (QD _) (by decide) (by simp[Br.cells]);refine Zk (n:=nd.length) Qa rfl rfl rfl rfl rfl (by decide) rfl rfl ⟨_,rfl⟩ rfl rfl h4.own UX (by intro u hu;simp[Br.cells] at hu;rcases hu with rfl | rfl | rfl<;>rfl) (by unfold maxLen;omega) (by show _*24<=_;omega) h4.top ?_;intro A' c' w5 XV aQe kQw;have uk:Mod (Qk NA) w3 w5:=(Mod.of_ext (Qk NA) K6).trans XV (λi hi=>.inl hi);refine⟨uk,?_⟩;have Kw:=uk.size;have mQ1:=K6.size;have kQx:=QT.size;refine XQ (h3.blk.mod uk Em) (by simp) (λw6 VY Xj=>?_);have fa:=VY.size;have ar:∀i,Qk A' i->base<=i:=λi hi=>(aQe.rows i hi).1
  have Id:Blk w6 pb 177 [.slice A' (nd.length+1) c',.map (some km)]:=Xj;refine QC Id rfl ?_;refine Qj ((nd.length+2:Nat):Int) (by show((nd.length+1:Nat):Int)+1=_;omega) (by omega) ?_;have hx6:=(Qw.mod uk En).mod VY (by show¬w.heap.size=pb;omega);have hq6:MapQ cA w6 km m:=(XE.mod uk (λhr=>by have:=(V4 _ hr).1;omega)).mod VY (by show¬km=pb;omega);refine Xy Qa (Ext w6) 6 [(true,0),(true,1),(true,2),(true,3),(true,4),(true,5)] (by kernel_rfl) (Ext.drew w6) ?_;refine QJ (v:=.map (some km)) (λw' Qb=>by rw[(Id.ext Qb).cell];rfl) ?_;refine Xr (vs:=b.cells) rfl (λw' Qb j v hj=>by rw[(hx6.ext Qb).cell];exact hj) ?_;refine sS (kv:=cA) (a:=b) Qa rfl rfl rfl rfl AT rfl rfl rfl (hq6.ext (Ext.drew w6)) (λw8 Jq Ve hq8=>?_);have Ie:Mod (·=km) w6 w8:=(Mod.of_ext (·=km) (Ext.drew w6)).trans Jq (λi hi=>.inl hi);have Z3:Mod (BS pb km NA) w w3:=Mod.of_ext _ QT;have Z9:Mod (BS pb km NA) w w5:=Z3.trans uk (λi hi=>.inl (.inr (.inr hi)));have J5:Mod (BS pb km NA) w w6:=Z9.trans VY (λi hi=>.inl (.inl hi));have Zo:Mod (BS pb km NA) w w8:=J5.trans Ie (λi hi=>.inl (.inr (.inl hi)));have el:(nd++ [b]).length=nd.length+1:=by simp
  refine⟨rfl,A',c',⟨?_,?_,⟨_,hq8,λx=>?_⟩,h.lt,X2 lP Zo.size⟩,Zo,kQw.back (by omega)⟩
  ·rw[el];exact Id.mod Ie (by show¬pb=km;omega)
  ·rw[el,AR];exact(aQe.mod VY (λi hi e=>by have:=ar i hi;have e':i=pb:=e;omega)).mod Ie (λi hi e=>by have:=ar i hi;have e':i=km:=e;omega)
  ·rw[aY,Vg,wz,wz,R3 x b nd hf];by_cases ZP:x=b
   ·rw[Qf ZP,Qf ZP]<;>rfl
   ·rw[if_neg ZP,if_neg ZP]
theorem Bo (F:Option Addr)(m cf:Nat)(L:List DV)(w:World)(h:SlS DV.cells 2 w F m cf L)(hL:∀x∈L,SB w x.A x.n x.c x.nd):
  Fn Tryz.prog 111 [.slice F m cf] w (λv w'=>v= .int .i64 (a8 L)/\Ext w w'):=by
 have Xf:=h.2;have WQ:m<=9223372036854775807:=by have:=h.1.le;have:=h.1.cap;simp only[maxLen] at this;omega
 refine Qx (c:={cQO with cuts:=[]}) Qa Tryz.func111 rfl rfl rfl ?_;refine loop Qa [8] (λs:Nat=>[.int .i64 s]) (λs w'=>Ext w w'/\s<=m/\∀(j:Nat) (y:DV),j<s->L[j]? =some y->XK y.nd y.r=0) (λs _=>m-s) 0 rfl ⟨Ext.refl w,Xt _,λj y hj=>Xd hj (by omega)⟩ ?_;rintro s w1 ⟨Qd,hs,hall⟩;refine Qt (λh2=>?_) (λh2=>?_)
 ·refine Zh cB (h.ext Qd) rfl (by omega) (λp x hx hc=>?_);refine Kb (vs:=x.cells) rfl hc ?_;refine new (λw2 Qg X0 Qv=>?_);refine QB Qv rfl (sc rfl) (λw3 ZZ JF Qw=>?_);have Qi:Ext w w3:=Qd.trans (XY Qg Qv ZZ);refine Qs Qw rfl ?_;refine call (AU x.A x.n x.c x.nd x.r w3 ((hL x (Q2 hx)).ext Qi)) ?_;rintro v w4 ⟨rfl,Qq⟩;refine Yt (λc1=>?_) (λc1=>?_)
  ·exact⟨by rw[P7 hall hx c1],Qi.trans Qq⟩
  ·refine Qj ((s+1:Nat):Int) (by omega) (by omega) ?_;refine⟨s+1,rfl,⟨Qi.trans Qq,by omega,λj y hj hy=>?_⟩,by show m-(s+1)<m-s;omega⟩;by_cases KX:j<s
   ·exact hall j y KX hy
   ·have:j=s:=by omega
    subst this;rw[Option.some.inj (hy.symm.trans hx)];exact c1
 ·exact⟨by rw[FP (λj y hj hy=>hall j y (by omega) hy)],Qd⟩
theorem R5 (A:Option Addr)(n c:Nat)(a:List Br)(ra:Int)(w0 w:World)(h:SB w A n c a)(hr:∀i,Qk A i->w0.heap.size<=i)(hE:Ext w0 w):
  Fn Tryz.prog 127 [Xg A n c ra] w (pM w0 (ji (a,ra))):=by
 have Ka:=h.2;refine Qx (c:={cQ0 with cuts:=[]}) Qa Tryz.func127 rfl rfl rfl ?_;refine new (λw1 Qd Q3 Qh=>?_);refine new (λw2 Qg X0 Qv=>?_);have QT:=Qd.trans Qg;refine QC (Qh.ext Qg) rfl ?_;refine Qt (λc1=>?_) (λc1=>?_)
 ·have e:ji (a,ra)=(([],0),2):=by unfold ji;rw[Qf (show 4096<(a,ra).1.length by simp only;omega)]
  rw[e];refine QB Qv rfl (sc rfl) (λw3 ZZ _ Qw=>?_);have Z3:Mod (·=w1.heap.size) w2 w3:=oQh ZZ rfl;refine Qs Qw rfl ?_;exact⟨none,0,0,rfl,hE.trans (Z3.ext QT (λi hi=>by have:=Qd.size;omega)),SlS.nil _,λi ⟨_,e,_⟩=>by cases e⟩
 ·have e:ji (a,ra)=((a,ra),0):=by unfold ji;rw[if_neg (show¬4096<(a,ra).1.length by simp only;omega)]
  rw[e];refine Qs (Qh.ext Qg) rfl ?_;refine QB Qv rfl (sc rfl) (λw3 ZZ _ Qw=>?_);have Z3:Mod (·=w1.heap.size) w2 w3:=oQh ZZ rfl;refine Qs Qw rfl ?_;refine⟨A,n,c,rfl,hE.trans (Z3.ext QT (λi hi=>by have:=Qd.size;omega)),⟨(h.ext QT).1.modS Z3 (λh0 i hi e=>by obtain⟨ad,rfl,rfl⟩:=hi;have:=SB.lt h ad rfl h0;omega),Ka⟩,hr⟩
theorem Gd (k:Int)(w:World)(h0:0<=k)(h1:k<=63):Fn Tryz.prog 34 [.int .i64 k] w (pM w (([⟨k,0,1⟩],2),0)):=by
 refine Qx (c:={c34 with cuts:=[]}) Qa Tryz.func34 rfl rfl rfl ?_;refine new (λw1 Qd Q3 Qh=>?_);refine Xx (by omega) ?_;refine Xx (by omega) ?_;refine Xm Qa [(⟨k,0,1⟩:Br).cells] rfl rfl rfl rfl rfl ⟨rfl,rfl,⟨⟩⟩ rfl (λcs h=>by simp only[QF] at h;subst h;rfl) rfl (by decide) (by decide) ?_;intro w2 Qg X0 Qv;refine QB (Qh.ext Qg) rfl (sc rfl) (λw3 ZZ _ Qw=>?_);have Z3:Mod (·=w.heap.size) w2 w3:=oQh ZZ rfl;refine Qs Qw rfl ?_;refine⟨some ⟨w1.heap.size,0,none⟩,1,1,rfl,Z3.ext (Qd.trans Qg) (λi hi=>by omega),⟨Sl.own (sz:=3) (n:=1) (Qv.mod Z3 (by omega)) (QD _) (by decide) (by simp[Br.cells]),rfl⟩,λi ⟨ad,e,hi⟩=>by cases e;simp only at hi;omega⟩
theorem cH (b:Bool)(w:World):Fn Tryz.prog 37 [.bool b] w (λv w'=>v=Xg none 0 0 (if b then 1 else 0)/\Ext w w'):=by
 refine Qx (c:={c37 with cuts:=[]}) Qa Tryz.func37 rfl rfl rfl ?_;refine new (λw1 Qd Q3 Qh=>?_);cases b with
 | true=>
  refine Xe rfl ?_;refine QB Qh rfl (sc rfl) (λw3 ZZ _ Qw=>?_);refine Qs Qw rfl ?_;exact⟨rfl,XY Qd Qh ZZ⟩
 | false=>
  refine Xv rfl ?_;refine QB Qh rfl (sc rfl) (λw3 ZZ _ Qw=>?_);refine Qs Qw rfl ?_;exact⟨rfl,XY Qd Qh ZZ⟩
def wA (F:Nat)(op:Int):Prop:=(F=84/\op=0)∨(F=155/\op=1)∨(F=83/\op=3)
theorem Ge {F:Nat}{op:Int}(h:wA F op)(x y:Bool)(w:World):Fn Tryz.prog F [.bool x,.bool y] w (λv w'=>v= .bool (Kr op x y)/\w=w'):=by
 rcases h with⟨rfl,rfl⟩ | ⟨rfl,rfl⟩ | ⟨rfl,rfl⟩
 ·refine Qx (c:={c84 with cuts:=[]}) Qa Tryz.func84 rfl rfl rfl ?_;cases x with
  | true=>
   refine Xe rfl ?_;exact⟨rfl,rfl⟩
  | false=>
   refine Xv rfl ?_;exact⟨rfl,rfl⟩
 ·refine Qx (c:={dQl with cuts:=[]}) Qa Tryz.func155 rfl rfl rfl ?_;cases x with
  | true=>
   refine Xe rfl ?_;exact⟨rfl,rfl⟩
  | false=>
   refine Xv rfl ?_;exact⟨rfl,rfl⟩
 ·refine Qx (c:={c83 with cuts:=[]}) Qa Tryz.func83 rfl rfl rfl ?_;exact⟨rfl,rfl⟩
theorem gQa {F:Nat}{op:Int}(h:wA F op)(ob:Nat)(x y z:Bool)(w:World)(hB:Blk w ob 139 [.func (.func F) #[] #[]]):
  Fn Tryz.prog 129 [.bool x,.bool y,.bool z,.pointer (some ⟨ob,0,none⟩)] w (λv w'=>v= .bool (Kr op x y)/\w=w'):=by
 rcases h with⟨rfl,rfl⟩ | ⟨rfl,rfl⟩ | ⟨rfl,rfl⟩
 ·refine Qx (c:={Fp with cuts:=[]}) Qa Tryz.func129 rfl rfl rfl ?_;refine QC hB rfl ?_;refine call (Ge (op:=0) (.inl ⟨rfl,rfl⟩) x y w) ?_;rintro _ _ ⟨rfl,rfl⟩;exact⟨rfl,rfl⟩
 ·refine Qx (c:={Fp with cuts:=[]}) Qa Tryz.func129 rfl rfl rfl ?_;refine QC hB rfl ?_;refine call (Ge (op:=1) (.inr (.inl ⟨rfl,rfl⟩)) x y w) ?_;rintro _ _ ⟨rfl,rfl⟩;exact⟨rfl,rfl⟩
 ·refine Qx (c:={Fp with cuts:=[]}) Qa Tryz.func129 rfl rfl rfl ?_;refine QC hB rfl ?_;refine call (Ge (op:=3) (.inr (.inr ⟨rfl,rfl⟩)) x y w) ?_;rintro _ _ ⟨rfl,rfl⟩;exact⟨rfl,rfl⟩
theorem oQl {α:Type} [DecidableEq α]{P:Program}{ke:Nat}{kv:α->Value}{len elem:Nat}(hu:P.underlying ke=some (.array len elem))
  (heq:∀(a b:α) (w:World),(Op.equal ke (kv a) (kv b)).run P w= .ok (decide (a=b)) w) (hc:∀b a w,(Instr.checkKey b 10000 ke (kv a)).run P w= .ok () w) (hb:∀a,Instr.sameBits 10000 (kv a) (kv a)=true):KeyQ P ke kv:=by
 refine⟨λa m bs w hl=>?_,hc,hb⟩;have key:=Fu (P:=P) (ke:=ke) (kv:=kv) a w (λb=>heq a b w) m bs 0 hl;obtain⟨r,h1,h2,h3,h4⟩:=key;refine⟨r,?_,h2,λj v hj v'=>by simpa using (h3 j v hj).2 v',h4⟩;unfold Instr.findKey;simp only[Sem.run_bind,ZX hu,Result.andThen_ok];cases m with
 | nil=>
  simp only[XX,List.zip_nil_left,List.map_nil,Instr.findNow,Sem.run_pure];simp[XX,Instr.findAsking] at h1;rw[h1]
 | cons p m=>
  cases bs with
  | nil=>simp at hl
  | cons s bs=>
   have e:XX kv (p::m) (s::bs)={key:=kv p.1,val:=p.2,born:=s}::XX kv m bs:=rfl;rw[e] at h1 ⊢;have hn:Instr.findNow (.array len elem) (kv a) ({key:=kv p.1,val:=p.2,born:=s}::XX kv m bs) 0=none:=by
    simp[Instr.findNow,Instr.sameNow]
   rw[hn];exact h1
abbrev I3:=Int×Int×Int
abbrev dL (t:I3):List Value:=[.int .i64 t.1,.int .i64 t.2.1,.int .i64 t.2.2]
abbrev bP:I3->Value:=λt=>.agg #[.int .i64 t.1,.int .i64 t.2.1,.int .i64 t.2.2]
theorem Bp:Tryz.prog.cellsOf 3=1:=by kernel_rfl
theorem wB (a b:Int)(n:Nat)(w:World):(Op.equalIn (n+1) 3 (.int .i64 a) (.int .i64 b)).run Tryz.prog w= .ok (a==b) w:=by
 simp[Op.equalIn,ZX Tryz.underlying3]
theorem gQb (a b:I3)(n:Nat)(w:World):(Op.equalIn (n+2) 242 (bP a) (bP b)).run Tryz.prog w= .ok (decide (a=b)) w:=by
 obtain⟨i,hi⟩:=NT.1 (show(Tryz.prog.info? 3).isSome=true by kernel_rfl);obtain⟨a0,a1,a2⟩:=a;obtain⟨b0,b1,b2⟩:=b;have e:=run_equalIn_array (w:=w) (n+1) #[.int .i64 a0,.int .i64 a1,.int .i64 a2] #[.int .i64 b0,.int .i64 b1,.int .i64 b2] Tryz.underlying242 hi;rw[Bp,show List.range 3=[0,1,2] from rfl] at e;refine e.trans ?_;have p0:∀x y z:Int,(part 3 #[Value.int .i64 x,.int .i64 y,.int .i64 z] (0*1)).run Tryz.prog w= .ok (.int .i64 x) w:=λx y z=>co k3 rfl w
 have p1:∀x y z:Int,(part 3 #[Value.int .i64 x,.int .i64 y,.int .i64 z] (1*1)).run Tryz.prog w= .ok (.int .i64 y) w:=λx y z=>co k3 rfl w
 have p2:∀x y z:Int,(part 3 #[Value.int .i64 x,.int .i64 y,.int .i64 z] (2*1)).run Tryz.prog w= .ok (.int .i64 z) w:=λx y z=>co k3 rfl w
 have dd:decide ((a0,a1,a2)=(b0,b1,b2))=(a0==b0&&(a1==b1&&a2==b2)):=by
  by_cases h0:a0=b0<;>by_cases h1:a1=b1<;>by_cases h2:a2=b2<;>simp[h0,h1,h2]
 rw[dd];simp only[Op.eqItems,Sem.run_bind,p0,Result.andThen_ok,wB];cases h0:a0==b0 with
 | false=>simp
 | true=>
  simp only[Bool.not_true,NN,if_false,Sem.run_bind,p1,Result.andThen_ok,wB,aV];cases h1:a1==b1 with
  | false=>simp
  | true=>
   simp only[Bool.not_true,NN,if_false,Sem.run_bind,p2,Result.andThen_ok,wB,aV];cases h2:a2==b2<;>simp
theorem gQc (b:Bool)(a:I3)(n:Nat)(w:World):(Instr.checkKey b (n+2) 242 (bP a)).run Tryz.prog w= .ok () w:=by
 obtain⟨i,hi⟩:=NT.1 (show(Tryz.prog.info? 3).isSome=true by kernel_rfl);have p0:∀x y z:Int,(part 3 #[Value.int .i64 x,.int .i64 y,.int .i64 z] 0).run Tryz.prog w= .ok (.int .i64 x) w:=λx y z=>co k3 rfl w
 have p1:∀x y z:Int,(part 3 #[Value.int .i64 x,.int .i64 y,.int .i64 z] 1).run Tryz.prog w= .ok (.int .i64 y) w:=λx y z=>co k3 rfl w
 have p2:∀x y z:Int,(part 3 #[Value.int .i64 x,.int .i64 y,.int .i64 z] 2).run Tryz.prog w= .ok (.int .i64 z) w:=λx y z=>co k3 rfl w
 have hz:(sizeOf 3).run Tryz.prog w= .ok 1 w:=by rw[<-Bp];exact Go.run_sizeOf w hi
 simp[Instr.checkKey,ZX Tryz.underlying242,ZX Tryz.underlying3,hz,p0,p1,p2,Std.Legacy.Range.forIn_eq_forIn_range',Std.Legacy.Range.size,List.range'_succ]
theorem Bq:KeyQ Tryz.prog 242 bP:=
 oQl Tryz.underlying242 (λa b w=>gQb a b 9998 w) (λb a w=>gQc b a 9998 w) (λa=>by simp[Instr.sameBits])
structure CP where
 ox:Nat
 ob:Nat
 mx:Nat
 lx:Nat
 ax:Nat
 bx:Nat
 pb:Nat
 km:Nat
 mm:Nat
 F:Nat
 D:AD
def CP.caps (p:CP):List Value:=[VP.ptr p.ox,VP.ptr p.mx,VP.ptr p.lx,VP.ptr p.ax,VP.ptr p.bx]
def CP.clo (p:CP):Value:=.func (.func 188) #[] #[VP.ptr p.ox,VP.ptr p.mx,VP.ptr p.lx,VP.ptr p.ax,VP.ptr p.bx]
def CP.lC (p:CP):List Value:=[.slice p.D.A p.D.n p.D.c,.int .i64 p.D.ra,.slice p.D.B p.D.m p.D.d,.int .i64 p.D.rb,.slice none 0 0,.int .i64 0]
structure CK (w:World) (base:Nat) (p:CP):Prop where
 hF:wA p.F p.D.op
 oxb:Blk w p.ox 205 [.func (.func 129) #[] #[VP.ptr p.ob]]
 obb:Blk w p.ob 139 [.func (.func p.F) #[] #[]]
 mxb:Blk w p.mx 272 [.map (some p.mm)]
 lxb:Blk w p.lx 204 p.lC
 axb:Blk w p.ax 273 [p.clo]
 bxb:Blk w p.bx 174 [VP.ptr p.pb]
 as_:SB w p.D.A p.D.n p.D.c p.D.a
 bs:SB w p.D.B p.D.m p.D.d p.D.b
 off:∀k,k=p.ox∨k=p.ob∨k=p.mx∨k=p.lx∨k=p.ax∨k=p.bx->k<base/\k≠p.pb/\k≠p.km/\k≠p.mm
 rowA:∀ad,p.D.A=some ad->0<p.D.n->ad.block<base/\ad.block≠p.pb/\ad.block≠p.km/\ad.block≠p.mm
 rowB:∀ad,p.D.B=some ad->0<p.D.m->ad.block<base/\ad.block≠p.pb/\ad.block≠p.km/\ad.block≠p.mm
def CS (p:CP)(NA:Option Addr):Nat->Prop:=λk=>k=p.mm∨BS p.pb p.km NA k
theorem CS.moved {w:World}{p:CP}{A A':Option Addr}(h:Moved w A A'):∀k,CS p A' k->CS p A k∨w.heap.size<=k:=by
 rintro k (rfl | hk)
 ·exact .inl (.inl rfl)
 ·rcases BS.moved h k hk with h | h
  ·exact .inl (.inr h)
  ·exact .inr h
theorem CS.trans {w w1 w2:World}{p:CP}{A A1:Option Addr}(hm:Mod (CS p A) w w1)(hv:Moved w A A1)(h:Mod (CS p A1) w1 w2):Mod (CS p A) w w2:=hm.trans h (CS.moved hv)
theorem CS.no {p:CP}{base:Nat}{NA:Option Addr}(hr:∀i,Qk NA i->base<=i){k:Nat}(h:k<base/\k≠p.pb/\k≠p.km/\k≠p.mm):¬CS p NA k:=λe=>by
 obtain⟨h1,h2,h3,h4⟩:=h;rcases e with e | e | e | e
 ·exact h4 e
 ·exact h2 e
 ·exact h3 e
 ·have:=hr k e;omega
theorem CK.mod {w w':World}{base:Nat}{p:CP}{NA:Option Addr}(h:CK w base p)(hr:∀i,Qk NA i->base<=i)(hm:Mod (CS p NA) w w'):CK w' base p:=by
 have k:=λk hk=>CS.no (p:=p) hr (h.off k hk)
 refine⟨h.hF,h.oxb.mod hm (k _ (by simp)),h.obb.mod hm (k _ (by simp)),h.mxb.mod hm (k _ (by simp)),h.lxb.mod hm (k _ (by simp)),h.axb.mod hm (k _ (by simp)),h.bxb.mod hm (k _ (by simp)),⟨h.as_.1.modS hm ?_,h.as_.2⟩,⟨h.bs.1.modS hm ?_,h.bs.2⟩,h.off,h.rowA,h.rowB⟩
 ·rintro h0 i ⟨ad,e,rfl⟩;exact CS.no hr (h.rowA ad e h0)
 ·rintro h0 i ⟨ad,e,rfl⟩;exact CS.no hr (h.rowB ad e h0)
theorem CK.ext {w w':World}{base:Nat}{p:CP}(h:CK w base p)(k:Ext w w'):CK w' base p:=
 h.mod (NA:=none) (λi hi=>by obtain⟨_,e,_⟩:=hi;cases e) (Mod.of_ext _ k)
def jl (l:List Tr3)(x y:Int):Option Value:=(l.find? (λt=>decide (t.1=x/\t.2.1=y))).map λt=>.int .i64 t.2.2
structure CSt (w:World) (base:Nat) (p:CP) (NA:Option Addr) (nc:Nat) (st:List Br×List Tr3):Prop where
 bd:Bd w base p.pb p.km NA nc st.1
 memo:∃m,MapQ bP w p.mm m/\∀x y:Int,XJ ((x,y,0):I3) m=jl st.2 x y
 lt:p.mm<base/\p.mm≠p.pb/\p.mm≠p.km
theorem CSt.ext {w w':World}{base:Nat}{p:CP}{NA:Option Addr}{nc:Nat}{st:List Br×List Tr3}(h:CSt w base p NA nc st)(k:Ext w w'):CSt w' base p NA nc st:=
 ⟨h.bd.ext k,let ⟨m,h1,h2⟩:=h.memo;⟨m,h1.ext k,h2⟩,h.lt⟩
def CTo (w:World)(base:Nat)(p:CP)(NA:Option Addr)(st:List Br×List Tr3)(w':World):Prop:=∃NA' nc',CSt w' base p NA' nc' st/\Mod (CS p NA) w w'/\Moved w NA NA'
theorem R6 {op x y:Int}(x0:0<=x)(x1:x<2)(y0:0<=y)(y1:y<2):dG op x y=if Kr op (decide (x=1)) (decide (y=1))then 1 else 0:=by
 have h1:=Rf (op:=op) x0 x1 y0 y1;have h2:=FO (op:=op) x0 x1 y0 y1;rw[<-h1];by_cases h:dG op x y=1
 ·rw[XT h];exact h
 ·rw[XS h];show dG op x y=0;omega
theorem tG {a b:List Br}(ha:Vw a)(hb:Vw b)(op:Int):∀(f:Nat)(x y:Int)(st:List Br×List Tr3),0<=x->0<=y->x<a.length+2->y<b.length+2->
  ∀t∈(Xz a b op f x y st).2.2,t∈st.2∨t.1+t.2.1<=x+y
 | 0,x,y,st,_,_,_,_=>λt ht=>.inl ht
 | f+1,x,y,st,x0,y0,hx,hy=>by
  by_cases Xl:x<2/\y<2
  ·rw[kE Xl];exactλt ht=>.inl ht
  cases k:st.2.find? (λt=>decide (t.1=x/\t.2.1=y))with
  | some t=>rw[kF Xl k];exactλt ht=>.inl ht
  | none=>
   have ZD:min (Ql a x) (Ql b y)<64:=by
    by_cases c:x<2
    ·have:=aE hb (n:=y) (λc2=>Xl ⟨c,c2⟩) (by omega);rw[Z5];split<;>omega
    ·have:=aE ha (n:=x) c (by omega);rw[Z5];split<;>omega
   rw[kG Xl k _ rfl];generalize min (Ql a x) (Ql b y)=v at*;obtain⟨s1,s2,s3,s4,s5⟩:=WC ha (n:=x) x0 ZD;obtain⟨t1,t2,t3,t4,t5⟩:=WC hb (n:=y) y0 ZD;have j1:=tG ha hb op f _ _ st s1 t1 (by omega) (by omega);generalize (Xz a b op f (Qm a x v).1 (Qm b y v).1 st)=r0 at*;have j2:=tG ha hb op f _ _ r0.2 s3 t3 (by omega) (by omega);generalize (Xz a b op f (Qm a x v).2 (Qm b y v).2 r0.2)=r1 at*;intro t ht;simp only[XH,QF] at ht;rcases ht with ht | rfl
   ·rcases j2 t ht with h1 | h1
    ·rcases j1 t h1 with h2 | h2
     ·exact .inl h2
     ·exact .inr (by omega)
    ·exact .inr (by omega)
   ·exact .inr (by simp only;omega)
theorem R7 (base:Nat)(p:CP)(ha:Vw p.D.a)(hb:Vw p.D.b)(em:p.D.n<=1000000000000/\p.D.m<=1000000000000):∀(m:Nat)(x y:Int)(st:List Br×List Tr3)(NA:Option Addr)(nc:Nat)(w:World),
  CK w base p->CSt w base p NA nc st->0<=x->0<=y->x+y<m->x<p.D.n+2->y<p.D.m+2->(Xz p.D.a p.D.b p.D.op m x y st).2.1.length<=100000000000->
  Fn Tryz.prog 188 (bP (x,y,0)::p.caps) w (λv w'=>v= .int .i64 (Xz p.D.a p.D.b p.D.op m x y st).1/\CTo w base p NA (Xz p.D.a p.D.b p.D.op m x y st).2 w')
 | 0,x,y,st,NA,nc,w,_,_,x0,y0,hm,_,_,_=>by omega
 | m+1,x,y,st,NA,nc,w,hK,hS,x0,y0,hm,hx,hy,XL=>by
  have ih:=R7 base p ha hb em m;have Ka:p.D.a.length=p.D.n:=hK.as_.2;have aR:p.D.b.length=p.D.m:=hK.bs.2;have lP:=hS.bd.top;have MI:∀i,Qk NA i->base<=i:=λi hi=>(hS.bd.own.rows i hi).1
  refine Qx (c:={O4 with cuts:=[1]}) Qa Tryz.func188 rfl rfl rfl ?_;refine new (λw1 Qd Q3 Qh=>?_)
  replace Qh:Blk w1 w.heap.size 242 (dL (x,y,0)):=Qh;have Kj:=hK.ext Qd;have J7:=hS.ext Qd;have oB:w.heap.size<w1.heap.size:=by omega
  refine gO [] Qa [] (λ_:Unit=>[]) (λ_ w'=>w1=w'/\¬(x<2/\y<2)) ?_ ?_
  ·refine index (j:=0) (by decide) ?_;refine Qp Qh rfl ?_;refine Qt (λc1=>?_) (λc1=>?_)
   ·refine index (j:=1) (by decide) ?_;refine Qp Qh rfl ?_;refine Qt (λc2=>?_) (λc2=>?_)
    ·refine index (j:=2) (by decide) ?_;refine Qp Qh rfl ?_;refine Zd (show(0:Int)<2 by decide) ?_;refine QC Kj.oxb rfl ?_;refine index (j:=0) (by decide) ?_;refine Qp Qh rfl ?_;refine index (j:=1) (by decide) ?_;refine Qp Qh rfl ?_;refine index (j:=2) (by decide) ?_;refine Qp Qh rfl ?_;rw[kE ⟨c1,c2⟩,R6 x0 c1 y0 c2];refine call (gQa hK.hF p.ob (decide (x=1)) (decide (y=1)) (decide ((0:Int)=1)) w1 Kj.obb) ?_;rintro v _ ⟨rfl,rfl⟩;cases Kr p.D.op (decide (x=1)) (decide (y=1))with
     | true=>
      refine Xe rfl ?_;exact⟨rfl,NA,nc,J7,Mod.of_ext _ Qd,Moved.refl _ _⟩
     | false=>
      refine Xv rfl ?_;exact⟨rfl,NA,nc,J7,Mod.of_ext _ Qd,Moved.refl _ _⟩
    ·exact⟨(),rfl,rfl,λhh=>c2 hh.2⟩
   ·exact⟨(),rfl,rfl,λhh=>c1 hh.1⟩
  rintro⟨⟩ _ ⟨rfl,Xl⟩;obtain⟨mq,ei,Vg⟩:=J7.memo;refine QC Kj.mxb rfl ?_;refine Qs Qh rfl ?_;refine Fv (kv:=bP) (a:=((x,y,0):I3)) Qa rfl rfl rfl rfl Bq rfl rfl ei ?_;cases k:st.2.find? (λt=>decide (t.1=x/\t.2.1=y))with
  | some t=>
   have eo:XJ ((x,y,0):I3) mq=some (.int .i64 t.2.2):=by rw[Vg,jl,k]<;>rfl
   refine Xe (by rw[eo];rfl) ?_;rw[kF Xl k];exact⟨by rw[eo];rfl,NA,nc,J7,Mod.of_ext _ Qd,Moved.refl _ _⟩
  | none=>
  have eo:XJ ((x,y,0):I3) mq=none:=by rw[Vg,jl,k]<;>rfl
  refine Xv (by rw[eo];rfl) ?_;have ZD:min (Ql p.D.a x) (Ql p.D.b y)<64:=by
   by_cases c:x<2
   ·have:=aE hb (n:=y) (λc2=>Xl ⟨c,c2⟩) (by omega);rw[Z5];split<;>omega
   ·have:=aE ha (n:=x) c (by omega);rw[Z5];split<;>omega
  have MJ:SB w1 none 0 0 []:=SlS.nil _;have qL:∀w',Ext w1 w'->∀(j:Nat) (v:Value),p.lC[j]? =some v->w'.cell? ((⟨p.lx,0,none⟩:Addr).add j)=some v:=λw' Qb j v hj=>by rw[(Kj.lxb.ext Qb).cell];exact hj
  have qN:∀w',Ext w1 w'->∀(j:Nat) (v:Value),(dL (x,y,0))[j]? =some v->w'.cell? ((⟨w.heap.size,0,none⟩:Addr).add j)=some v:=λw' Qb j v hj=>by rw[(Qh.ext Qb).cell];exact hj
  refine Xy Qa (Ext w1) 17 [(true,0),(true,1),(true,2),(true,3),(true,5),(true,6),(true,7),(true,8),(true,10),(true,11),(true,12),(true,13),(false,4),(false,9),(false,14),(true,15),(true,16)] (by kernel_rfl) (Ext.drew w1) ?_;refine JZ (j:=0) (by decide) ?_;refine Xr (vs:=[.slice p.D.A p.D.n p.D.c,.int .i64 p.D.ra]) rfl (λw' Qb j v hj=>by
   rw[add_add,(Kj.lxb.ext Qb).cell]
   match j,hj with
   | 0,hj=>exact hj
   | 1,hj=>exact hj) ?_
  refine index (j:=0) (by decide) ?_;refine QJ (v:=.int .i64 x) (λw' Qb=>qN w' Qb 0 _ rfl) ?_;refine JZ (j:=1) (by decide) ?_;refine Xr (vs:=[.slice p.D.B p.D.m p.D.d,.int .i64 p.D.rb]) rfl (λw' Qb j v hj=>by
   rw[add_add,(Kj.lxb.ext Qb).cell]
   match j,hj with
   | 0,hj=>exact hj
   | 1,hj=>exact hj) ?_
  refine index (j:=1) (by decide) ?_;refine QJ (v:=.int .i64 y) (λw' Qb=>qN w' Qb 1 _ rfl) ?_;refine JZ (j:=2) (by decide) ?_;refine Xr (vs:=[.slice none 0 0,.int .i64 0]) rfl (λw' Qb j v hj=>by
   rw[add_add,(Kj.lxb.ext Qb).cell]
   match j,hj with
   | 0,hj=>exact hj
   | 1,hj=>exact hj) ?_
  refine index (j:=2) (by decide) ?_;refine QJ (v:=.int .i64 0) (λw' Qb=>qN w' Qb 2 _ rfl) ?_;refine call (dF p.D.A p.D.n p.D.c p.D.ra x p.D.a _ (Kj.as_.ext (Ext.drew w1)) (by omega)) ?_;rintro u w2 ⟨rfl,Qg⟩;have Xu:=(Ext.drew w1).trans Qg;refine⟨Xu,?_⟩;refine call (dF p.D.B p.D.m p.D.d p.D.rb y p.D.b _ (Kj.bs.ext Xu) (by omega)) ?_;rintro u w3 ⟨rfl,Qi⟩;have Xq:=Xu.trans Qi;refine⟨Xq,?_⟩;refine call (dF none 0 0 0 0 [] _ (MJ.ext Xq) (by simp)) ?_;rintro u w4 ⟨rfl,Qq⟩;have Jd:=Xq.trans Qq;refine⟨Jd,?_⟩;have xy:Ql [] 0=64:=rfl;rw[xy];have ML: -9223372036854775808<=min (Ql p.D.a x) (Ql p.D.b y):=by
   have pos:∀{d:List Br},Vw d->∀{n:Int},n<d.length+2->0<=Ql d n:=λ{d} hd {n} hn=>by
    by_cases h2:n<2
    ·rw[gU h2];omega
    ·obtain⟨z,hz⟩:=WD h2 hn;rw[dI h2 hz];exact(hd.2 _ _ hz).1
   have p1:=pos ha (n:=x) (by omega);have p2:=pos hb (n:=y) (by omega);rw[Z5];split<;>omega
  have If:(if(64:Int)<(if Ql p.D.b y<Ql p.D.a x then Ql p.D.b y else Ql p.D.a x)then 64 else(if Ql p.D.b y<Ql p.D.a x then Ql p.D.b y else Ql p.D.a x))=min (Ql p.D.a x) (Ql p.D.b y):=by
   rw[Z5] at ZD ⊢;split at ZD<;>split<;>split<;>omega
  refine norm (m:=min (Ql p.D.a x) (Ql p.D.b y)) If ?_;rw[kG Xl k _ rfl] at XL ⊢;generalize yY:min (Ql p.D.a x) (Ql p.D.b y)=v at*;have Q6:=Qh.ext Jd;have VZ:=Kj.ext Jd;have Wh:=J7.ext Jd;have XI:=Qd.trans Jd;have CM:=Jd.size;refine new (λw5 Qz Kw Ig=>?_);refine new (λw6 Xh fa Ih=>?_);have XF:=Qz.trans Xh;have Ii:=Ig.ext Xh;have Xj:=Q6.ext XF;have bW:=VZ.ext XF;have jC:=Wh.ext XF;have XD:=XI.trans XF;obtain⟨s1,s2,s3,s4,s5⟩:=WC ha (n:=x) x0 ZD;obtain⟨t1,t2,t3,t4,t5⟩:=WC hb (n:=y) y0 ZD;refine loop Qa [64] (λs:Nat=>[.int .i64 s]) (λs w'=>Mod (λi=>i=w4.heap.size∨i=w5.heap.size) w6 w'/\s<=3/\Blk w' w4.heap.size 242 (dL (if 0<s then(Qm p.D.a x v).1 else 0,if 1<s then(Qm p.D.b y v).1 else 0,0))/\Blk w' w5.heap.size 242 (dL (if 0<s then(Qm p.D.a x v).2 else 0,if 1<s then(Qm p.D.b y v).2 else 0,0))) (λs _=>3-s) 0 rfl ⟨Mod.refl _ _,Xt _,Ii,Ih⟩ ?_;rintro s w7 ⟨Xi,qy,fi,cU⟩;have hbz:base<=w4.heap.size:=by have:=Qd.size;omega
  have aQf:w5.heap.size=w4.heap.size+1:=Kw;have yZ:w.heap.size<w4.heap.size:=by omega
  have y8:∀k,k<w4.heap.size->¬(k=w4.heap.size∨k=w5.heap.size):=λk hk e=>by omega
  have hlx:=hK.off p.lx (by simp);have QY:Ext w w7:=Xi.ext XD (λi hi=>by omega);have um:Ext w1 w7:=Xi.ext (Jd.trans XF) (λi hi=>by omega);have Yi:Ext w4 w7:=Xi.ext XF (λi hi=>by omega);have Q4:=Q6.ext Yi;have ac:=VZ.ext Yi;have KF:=Wh.ext Yi;have WF:=Xi.size;have nLX:=y8 p.lx (by omega);have nB:=y8 w.heap.size yZ;have h0:Qm [] 0 v=(0,0):=by unfold Qm;rw[Qf (show Ql [] 0≠v by rw[xy];omega)]
  by_cases hs:s<3
  ·rcases(show s=0∨s=1∨s=2 by omega)with rfl | rfl | rfl
   ·refine Zd (show((0:Nat):Int)<3 by decide) ?_;refine Xy Qa (Mod (λi=>i=w4.heap.size∨i=w5.heap.size) w7) 17 [(true,0),(true,1),(true,2),(true,3),(true,4),(true,5),(true,6),(true,7),(true,8),(false,9),(true,10),(true,11),(true,12),(true,13),(false,14),(true,15),(false,16)] (by kernel_rfl) (Mod.of_ext _ (Ext.drew w7)) ?_;refine JZ (j:=0) (by decide) ?_;refine Xr (vs:=[.slice p.D.A p.D.n p.D.c,.int .i64 p.D.ra]) rfl (λw' Qb j v hj=>by
     rw[add_add,(ac.lxb.mod Qb nLX).cell]
     match j,hj with
     | 0,hj=>exact hj
     | 1,hj=>exact hj) ?_
    refine index (j:=0) (by decide) ?_;refine QJ (v:=.int .i64 x) (λw' Qb=>by rw[(Q4.mod Qb nB).cell];rfl) ?_;refine call (jk p.D.A p.D.n p.D.c p.D.ra x v p.D.a _ (ac.as_.ext (Ext.drew w7)) (by omega) ZD) ?_;rintro u w8 ⟨rfl,Q7⟩;have Ko:=(Ext.drew w7).trans Q7;refine⟨Mod.of_ext _ Ko,?_⟩;refine index (j:=0) (by decide) ?_;refine XQ (fi.ext Ko) (by simp) (λw9 X4 ip=>?_);have Vf:Mod (λi=>i=w4.heap.size∨i=w5.heap.size) w7 w9:=(Mod.of_ext _ Ko).trans X4 (λi hi=>.inl (.inl hi));refine⟨Vf,?_⟩;have ff:=Vf.size;refine index (j:=0) (by decide) ?_;refine XQ (((cU.ext Ko).mod X4 (by show¬w5.heap.size=w4.heap.size;omega))) (by simp) (λQE Zu fj=>?_);have ae:Mod (λi=>i=w4.heap.size∨i=w5.heap.size) w7 QE:=Vf.trans Zu (λi hi=>.inl (.inr hi));refine⟨ae,?_⟩;have fk:=ip.mod Zu (by show¬w4.heap.size=w5.heap.size;omega);refine Qj ((1:Nat):Int) (by decide) (by decide) ?_;exact⟨1,rfl,⟨Xi.trans ae (λi hi=>.inl hi),by decide,fk,fj⟩,by show 3-1<3-0;decide⟩
   ·refine Zd (show((1:Nat):Int)<3 by decide) ?_;refine Xy Qa (Mod (λi=>i=w4.heap.size∨i=w5.heap.size) w7) 17 [(true,0),(true,1),(true,2),(true,3),(true,4),(true,5),(true,6),(true,7),(true,8),(false,9),(true,10),(true,11),(true,12),(true,13),(false,14),(true,15),(false,16)] (by kernel_rfl) (Mod.of_ext _ (Ext.drew w7)) ?_;refine JZ (j:=1) (by decide) ?_;refine Xr (vs:=[.slice p.D.B p.D.m p.D.d,.int .i64 p.D.rb]) rfl (λw' Qb j v hj=>by
     rw[add_add,(ac.lxb.mod Qb nLX).cell]
     match j,hj with
     | 0,hj=>exact hj
     | 1,hj=>exact hj) ?_
    refine index (j:=1) (by decide) ?_;refine QJ (v:=.int .i64 y) (λw' Qb=>by rw[(Q4.mod Qb nB).cell];rfl) ?_;refine call (jk p.D.B p.D.m p.D.d p.D.rb y v p.D.b _ (ac.bs.ext (Ext.drew w7)) (by omega) ZD) ?_;rintro u w8 ⟨rfl,Q7⟩;have Ko:=(Ext.drew w7).trans Q7;refine⟨Mod.of_ext _ Ko,?_⟩;refine index (j:=1) (by decide) ?_;refine XQ (fi.ext Ko) (by simp) (λw9 X4 ip=>?_);have Vf:Mod (λi=>i=w4.heap.size∨i=w5.heap.size) w7 w9:=(Mod.of_ext _ Ko).trans X4 (λi hi=>.inl (.inl hi));refine⟨Vf,?_⟩;have ff:=Vf.size;refine index (j:=1) (by decide) ?_;refine XQ (((cU.ext Ko).mod X4 (by show¬w5.heap.size=w4.heap.size;omega))) (by simp) (λQE Zu fj=>?_);have ae:Mod (λi=>i=w4.heap.size∨i=w5.heap.size) w7 QE:=Vf.trans Zu (λi hi=>.inl (.inr hi));refine⟨ae,?_⟩;have fk:=ip.mod Zu (by show¬w4.heap.size=w5.heap.size;omega);refine Qj ((2:Nat):Int) (by decide) (by decide) ?_;exact⟨2,rfl,⟨Xi.trans ae (λi hi=>.inl hi),by decide,fk,fj⟩,by show 3-2<3-1;decide⟩
   ·refine Zd (show((2:Nat):Int)<3 by decide) ?_;refine Xy Qa (Mod (λi=>i=w4.heap.size∨i=w5.heap.size) w7) 17 [(true,0),(true,1),(true,2),(true,3),(true,4),(true,5),(true,6),(true,7),(true,8),(false,9),(true,10),(true,11),(true,12),(true,13),(false,14),(true,15),(false,16)] (by kernel_rfl) (Mod.of_ext _ (Ext.drew w7)) ?_;refine JZ (j:=2) (by decide) ?_;refine Xr (vs:=[.slice none 0 0,.int .i64 0]) rfl (λw' Qb j v hj=>by
     rw[add_add,(ac.lxb.mod Qb nLX).cell]
     match j,hj with
     | 0,hj=>exact hj
     | 1,hj=>exact hj) ?_
    refine index (j:=2) (by decide) ?_;refine QJ (v:=.int .i64 0) (λw' Qb=>by rw[(Q4.mod Qb nB).cell];rfl) ?_;refine call (jk none 0 0 0 0 v [] _ (SlS.nil _) (by decide) ZD) ?_;rintro u w8 ⟨rfl,Q7⟩;have Ko:=(Ext.drew w7).trans Q7;refine⟨Mod.of_ext _ Ko,?_⟩;refine index (j:=2) (by decide) ?_;refine XQ (fi.ext Ko) (by simp) (λw9 X4 ip=>?_);have Vf:Mod (λi=>i=w4.heap.size∨i=w5.heap.size) w7 w9:=(Mod.of_ext _ Ko).trans X4 (λi hi=>.inl (.inl hi));refine⟨Vf,?_⟩;have ff:=Vf.size;refine index (j:=2) (by decide) ?_;refine XQ (((cU.ext Ko).mod X4 (by show¬w5.heap.size=w4.heap.size;omega))) (by simp) (λQE Zu fj=>?_);have ae:Mod (λi=>i=w4.heap.size∨i=w5.heap.size) w7 QE:=Vf.trans Zu (λi hi=>.inl (.inr hi));refine⟨ae,?_⟩;have fk:=ip.mod Zu (by show¬w4.heap.size=w5.heap.size;omega);refine Qj ((3:Nat):Int) (by decide) (by decide) ?_;rw[h0] at fk fj;exact⟨3,rfl,⟨Xi.trans ae (λi hi=>.inl hi),by decide,fk,fj⟩,by show 3-3<3-2;decide⟩
  ·have:s=3:=by omega
   subst this;refine Xx (show¬((3:Nat):Int)<3 by decide) ?_
   replace fi:Blk w7 w4.heap.size 242 (dL ((Qm p.D.a x v).1,(Qm p.D.b y v).1,0)):=fi
   replace cU:Blk w7 w5.heap.size 242 (dL ((Qm p.D.a x v).2,(Qm p.D.b y v).2,0)):=cU;have fL:Ql p.D.a x=v∨Ql p.D.b y=v:=by rw[<-yY,Z5];split<;>simp
   have dec:(Qm p.D.a x v).1+(Qm p.D.b y v).1<x+y/\(Qm p.D.a x v).2+(Qm p.D.b y v).2<x+y:=by
    rcases fL with e | e
    ·have:=s5 e;omega
    ·have:=t5 e;omega
   have Ij:=tG ha hb p.D.op m (Qm p.D.a x v).1 (Qm p.D.b y v).1 st s1 t1 (by omega) (by omega);have Ik:=tG ha hb p.D.op m (Qm p.D.a x v).2 (Qm p.D.b y v).2 (Xz p.D.a p.D.b p.D.op m (Qm p.D.a x v).1 (Qm p.D.b y v).1 st).2 s3 t3 (by omega) (by omega);have mo2:=mO p.D.a p.D.b p.D.op m (Qm p.D.a x v).2 (Qm p.D.b y v).2 (Xz p.D.a p.D.b p.D.op m (Qm p.D.a x v).1 (Qm p.D.b y v).1 st).2;have c1:=ih (Qm p.D.a x v).1 (Qm p.D.b y v).1 st NA nc w7 ac KF s1 t1 (by omega) (by omega) (by omega);have c2:=λN1 n1 w' h1 h2=>ih (Qm p.D.a x v).2 (Qm p.D.b y v).2 (Xz p.D.a p.D.b p.D.op m (Qm p.D.a x v).1 (Qm p.D.b y v).1 st).2 N1 n1 w' h1 h2 s3 t3 (by omega) (by omega) (by omega)
   generalize (Xz p.D.a p.D.b p.D.op m (Qm p.D.a x v).1 (Qm p.D.b y v).1 st)=r0 at*;generalize (Xz p.D.a p.D.b p.D.op m (Qm p.D.a x v).2 (Qm p.D.b y v).2 r0.2)=r1 at*;have ul:=wh ⟨v,r0.1,r1.1⟩ r1.2.1;have ul2:(Z1 ⟨v,r0.1,r1.1⟩ r1.2.1).1.length<=r1.2.1.length+1:=by
    unfold Z1;split
    ·exact zS _
    ·split
     ·exact zS _
     ·simp
   simp only at XL;refine QC ac.axb rfl ?_;refine Qs fi rfl ?_;refine call (c1 (by omega)) ?_;rintro _ QH ⟨rfl,N1,n1,qA,Zy,xz⟩;have Il:=cU.lt;have cV:=hS.bd.own.rows;obtain⟨l1,l2,l3⟩:=hS.lt;obtain⟨b1,b2,b3⟩:=hS.bd.lt;have new:∀k,w.heap.size<=k->¬CS p NA k:=λk hk e=>by
    rcases e with e | e | e | e
    ·omega
    ·omega
    ·omega
    ·have:=(cV k e).2;omega
   have fm:=ac.mod MI Zy;have Im:=cU.mod Zy (new _ (by omega));have ZJ:=Q4.mod Zy (new _ (QD _));have bT:∀i,Qk N1 i->base<=i:=λi hi=>(qA.bd.own.rows i hi).1
   have xA:∀k,w.heap.size<=k->k<w7.heap.size->¬CS p N1 k:=λk hk h7 e=>by
    rcases CS.moved xz k e with e | e
    ·exact new k hk e
    ·omega
   have qC:=Zy.size;have MM:=Q4.lt;refine Xy Qa (Mod (CS p N1) QH) 8 [(true,0),(true,1),(true,2),(true,3),(true,4),(false,5),(false,6),(true,7)] (by kernel_rfl) (Mod.of_ext _ (Ext.drew QH)) ?_;have nof:=λk hk=>CS.no (p:=p) bT (fm.off k hk)
   refine QJ (v:=VP.ptr p.pb) (λw' Qb=>by rw[(fm.bxb.mod Qb (nof _ (by simp))).cell0];rfl) ?_;refine QJ (v:=p.clo) (λw' Qb=>by rw[(fm.axb.mod Qb (nof _ (by simp))).cell0];rfl) ?_;refine Xr (vs:=dL ((Qm p.D.a x v).2,(Qm p.D.b y v).2,0)) rfl (λw' Qb j v hj=>by rw[(Im.mod Qb (xA _ (by omega) Il)).cell];exact hj) ?_;refine call (c2 N1 n1 _ (fm.ext (Ext.drew QH)) (qA.ext (Ext.drew QH)) (by omega)) ?_;rintro _ QW ⟨rfl,N2,n2,Wj,VC,ug⟩;have lu:Mod (CS p N1) QH QW:=(Mod.of_ext _ (Ext.drew QH)).trans VC (λi hi=>.inl hi);have xB:Moved QH N1 N2:=ug.back (Ext.drew QH).size;refine⟨lu,?_⟩;have aM:∀i,Qk N2 i->base<=i:=λi hi=>(Wj.bd.own.rows i hi).1
   refine call (R4 base p.pb p.km N2 n2 r1.2.1 ⟨v,r0.1,r1.1⟩ QW Wj.bd (by omega)) ?_;rintro _ XM ⟨rfl,N3,n3,cW,J3,xC⟩;have In:Mod (CS p N2) QW XM:=J3.mono (λi hi=>.inl (.inr hi));have lv:Mod (CS p N1) QH XM:=CS.trans lu xB In;refine⟨lv,?_⟩;have kQy:=fm.mod bT lu;have Io:=fm.mod bT lv;have Kh:=ZJ.mod lv (xA _ (QD _) MM);obtain⟨Ip,xf,Iq⟩:=Wj.memo;have Ir:MapQ bP XM p.mm Ip:=xf.mod J3 (λe=>by
    rcases e with e | e | e
    ·exact l2 e
    ·exact l3 e
    ·have:=aM _ e;omega)
   refine QC Io.mxb rfl ?_;refine Qs Kh rfl ?_;refine sS (kv:=bP) (a:=((x,y,0):I3)) Qa rfl rfl rfl rfl Bq rfl rfl rfl Ir (λX1 Kx kQz Is=>?_);have Z0:∀k,k≠p.mm->¬(k=p.mm):=λk h=>h
   obtain⟨d1,d2,d3⟩:=cW.lt;have It:∀i,Qk N3 i->base<=i:=λi hi=>(cW.own.rows i hi).1
   obtain⟨kq,MN,oW⟩:=cW.known;have Iu:Bd X1 base p.pb p.km N3 n3 (Z1 ⟨v,r0.1,r1.1⟩ r1.2.1).1:=⟨cW.blk.mod Kx (λe=>l2 e.symm),cW.own.mod Kx (λi hi e=>by have:=It i hi;have e':i=p.mm:=e;omega),⟨kq,MN.mod Kx (λe=>l3 e.symm),oW⟩,cW.lt,X2 cW.top Kx.size⟩
   have Iv:Mod (CS p NA) w w7:=Mod.of_ext _ QY;have kQA:Moved w NA NA:=Moved.refl _ _;have xD:Mod (CS p NA) w QH:=Iv.trans Zy (λi hi=>.inl hi);have xE:Moved w NA N1:=xz.back QY.size;have Iw:Mod (CS p NA) w XM:=CS.trans xD xE lv;have nN:Mod (CS p NA) w X1:=Iw.trans Kx (λi hi=>.inl (.inl hi));have Ix:Moved w NA N3:=xE.trans (xB.trans xC lu.size) xD.size;refine⟨rfl,N3,n3,⟨Iu,⟨_,Is,λx' y'=>?_⟩,hS.lt⟩,nN,Ix⟩;have Xa:r1.2.2.find? (λt=>decide (t.1=x/\t.2.1=y))=none:=by
    rw[vo];intro t ht hh;simp only[Vb] at hh;rcases Ik t ht with h1 | h1
    ·rcases Ij t h1 with h2 | h2
     ·have:=vo.1 k t h2;simp only[Vb] at this;exact this hh
     ·omega
    ·omega
   rw[aY,Iq,jl,jl,List.find?_append];by_cases Yq:(x',y')=(x,y)
   ·cases Yq;rw[Qf rfl,Xa];simp
   ·rw[if_neg (λe=>Yq (by cases e;rfl))];have: [(x,y,(Z1 ⟨v,r0.1,r1.1⟩ r1.2.1).2)].find? (λt:Tr3=>decide (t.1=x'/\t.2.1=y'))=none:=by
     rw[ES]
     ·rfl
     ·simp only[Vb];exactλe=>Yq (by rw[e.1,e.2])
    rw[this];simp
theorem R8 (w:World):Fn Tryz.prog 187 [] w (λv w'=>v=VP.ptr (w.heap.size+1)/\Ext w w'/\w'.heap.size=w.heap.size+2/\Blk w' (w.heap.size+1) 177 [.slice none 0 0,.map (some w.heap.size)]/\MapQ cA w' w.heap.size []):=by
 refine Qx (c:={dQF with cuts:=[]}) Qa Tryz.func187 rfl rfl rfl ?_;refine sN Qa cA rfl ?_;intro w1 Qd Q3 Zr;refine new (λw2 Qg X0 Qv=>?_);rw[Q3] at Qv;exact⟨by rw[Q3];rfl,Qd.trans Qg,by omega,Qv,Zr.ext Qg⟩
theorem gQd (A:Option Addr)(n c:Nat)(a:List Br)(ra:Int)(B:Option Addr)(m d:Nat)(b:List Br)(rb op:Int)(F ob:Nat)(w:World)(hF:wA F op)(h:SB w A n c a)(h':SB w B m d b)(Eo:Blk w ob 139 [.func (.func F) #[] #[]])(ha:Vw a)(hb:Vw b)(r0:0<=ra)(r1:ra<n+2)(s0:0<=rb)(s1:rb<m+2)(hn:n<=1000000000000)(hm:m<=1000000000000)
  (XL:(kH a ra b rb op).2.1.length<=100000000000):
  Fn Tryz.prog 128 [.agg #[.slice A n c,.int .i64 ra,.slice B m d,.int .i64 rb,.slice none 0 0,.int .i64 0],.func (.func 129) #[] #[VP.ptr ob]] w (vZ w (VV a ra b rb op)):=by
 have Ka:=h.2;have aR:=h'.2;have nQ3:=Eo.lt;refine Qx (c:={O1 with cuts:=[]}) Qa Tryz.func128 rfl rfl rfl ?_;refine new (λw1 Qd Q3 Qh=>?_);refine new (λw2 Qg X0 Qv=>?_);refine new (λw3 Qi JF Qw=>?_);refine call (R8 w3) ?_;rintro _ w4 ⟨rfl,Qq,K5,Q6,lw⟩;refine new (λw5 Qz Kw QL=>?_);refine XQ (j:=0) QL (by decide) (λw6 J5 Xj=>?_);have XF:Ext w4 w6:=J5.ext Qz (λi hi=>by omega);refine sN Qa bP rfl ?_;intro w7 QY WF Iy;refine new (λw8 Q7 Ve XB=>?_);refine XQ (j:=0) XB (by decide) (λw9 X4 Z8=>?_);have VG:Ext w7 w9:=X4.ext Q7 (λi hi=>by omega);refine new (λQE X7 nI Jb=>?_);refine XQ (j:=0) Jb (by decide) (λQH Zy ZJ=>?_);have z6:=J5.size;have z9:=X4.size;have CG:=Zy.size;have gr:Ext w9 QH:=Zy.ext X7 (λi hi=>by omega);have ly:Ext w6 QH:=(QY.trans VG).trans gr;have cX:Ext w4 QH:=XF.trans ly;have K6:=Qq;have lz:Ext w3 QH:=Qq.trans cX;have Wm:Ext w QH:=((Qd.trans Qg).trans Qi).trans lz
 let D:AD:=⟨A,n,c,a,ra,B,m,d,b,rb,op⟩
 let p:CP:=⟨w1.heap.size,ob,w7.heap.size,w.heap.size,w9.heap.size,w4.heap.size,w3.heap.size+1,w3.heap.size,w6.heap.size,F,D⟩
 have xF:=ZJ.lt;have hK:CK QH QH.heap.size p:=by
  refine⟨hF,Qv.ext (Qi.trans lz),Eo.ext Wm,Z8.ext gr,Qh.ext ((Qg.trans Qi).trans lz),ZJ,Xj.ext ly,h.ext Wm,h'.ext Wm,λk hk=>?_,λad e h0=>?_,λad e h0=>?_⟩
  ·simp only[p] at hk ⊢;rcases hk with rfl | rfl | rfl | rfl | rfl | rfl<;>omega
  ·have:=SB.lt h ad e h0;simp only[p];omega
  ·have:=SB.lt h' ad e h0;simp only[p];omega
 have hS:CSt QH QH.heap.size p none 0 ([],[]):=by
  refine⟨⟨Q6.ext cX,Own.nil _ _ _ _,⟨[],lw.ext cX,λ_=>rfl⟩,?_,QD _⟩,⟨[],Iy.ext (VG.trans gr),λ_ _=>rfl⟩,?_⟩
  ·simp only[p];omega
  ·simp only[p];omega
 have Xa:∀i,Qk none i->QH.heap.size<=i:=λi hi=>by obtain⟨_,e,_⟩:=hi;cases e
 have nof:=λk hk=>CS.no (p:=p) Xa (hK.off k hk)
 refine Xy Qa (Mod (CS p none) QH) 14 [(true,0),(true,1),(true,2),(true,3),(true,4),(true,5),(true,6),(true,7),(true,8),(true,9),(true,10),(true,11),(false,12),(false,13)] (by kernel_rfl) (Mod.of_ext _ (Ext.drew QH)) ?_;refine QJ (v:=VP.ptr p.pb) (λw' Qb=>by rw[(hK.bxb.mod Qb (nof _ (by simp))).cell0];rfl) ?_;refine QJ (v:=p.clo) (λw' Qb=>by rw[(hK.axb.mod Qb (nof _ (by simp))).cell0];rfl) ?_;refine JZ (j:=0) (by decide) ?_;refine QJ (v:=.int .i64 ra) (λw' Qb=>by rw[add_add,(hK.lxb.mod Qb (nof _ (by simp))).cell];rfl) ?_;refine JZ (j:=1) (by decide) ?_;refine QJ (v:=.int .i64 rb) (λw' Qb=>by rw[add_add,(hK.lxb.mod Qb (nof _ (by simp))).cell];rfl) ?_;refine JZ (j:=2) (by decide) ?_;refine QJ (v:=.int .i64 0) (λw' Qb=>by rw[add_add,(hK.lxb.mod Qb (nof _ (by simp))).cell];rfl) ?_;have inv:=wj ha hb op (ra.toNat+rb.toNat+1) ra rb ([],[]) ⟨λj x hx=>by simp at hx,λt ht=>by simp at ht⟩ r0 s0 (by omega) (by omega);refine call (R7 QH.heap.size p ha hb ⟨hn,hm⟩ (ra.toNat+rb.toNat+1) ra rb ([],[]) none 0 _ (hK.ext (Ext.drew QH)) (hS.ext (Ext.drew QH)) r0 s0 (by omega) r1 s1 XL) ?_;rintro _ QW ⟨rfl,NA,nc,Wj,Iz,ug⟩;have VC:Mod (CS p none) QH QW:=(Mod.of_ext _ (Ext.drew QH)).trans Iz (λi hi=>.inl hi);refine⟨VC,?_⟩;have kQB:(Xz a b op (ra.toNat+rb.toNat+1) ra rb ([],[])).2.1.length<=100000000000:=XL;have xG:SB QW NA _ nc _:=⟨Wj.bd.own.sl,rfl⟩
 refine call (FL p.pb (.map (some p.km)) NA _ nc _ _ QW Wj.bd.blk xG inv.1.1 (by show(Xz a b op (ra.toNat+rb.toNat+1) ra rb ([],[])).2.1.length<=_;omega) inv.2.1 inv.2.2 (SB.lt xG)) ?_;rintro _ XM ⟨OA,k,oc,rfl,Xq,dU,il⟩;have J3:Mod (CS p none) QH XM:=VC.trans (Mod.of_ext (CS p none) Xq) (λi hi=>.inl hi);refine⟨J3,?_⟩;have nres:¬CS p none w2.heap.size:=CS.no (p:=p) Xa (by simp only[p];omega);have Kh:=(Qw.ext lz).mod J3 nres;refine QB Kh rfl (sc rfl) (λX1 cS _ Jc=>?_);have Kx:Mod (·=w2.heap.size) XM X1:=oQh cS rfl;refine Qs Jc rfl ?_;have qD:Ext w XM:=J3.ext Wm (λi hi=>by
  rcases hi with e | e | e | ⟨_,e,_⟩
  ·simp only[p] at e;omega
  ·simp only[p] at e;omega
  ·simp only[p] at e;omega
  ·cases e)
 have z12:=VC.size;have nr:∀i,Qk OA i->¬i=w2.heap.size:=λi hi e=>by have:=il i hi;omega
 refine⟨OA,k,oc,rfl,Kx.ext qD (λi hi=>by omega),⟨dU.1.modS Kx (λ_ i hi=>nr i hi),dU.2⟩,λi hi=>by have:=il i hi;have:=Wm.size;omega⟩
theorem Gf (A:Option Addr)(n c:Nat)(a:List Br)(ra:Int)(B:Option Addr)(m d:Nat)(b:List Br)(rb op:Int)(F:Nat)(w:World)(hF:wA F op)(h:SB w A n c a)(h':SB w B m d b):
  Fn Tryz.prog 82 [Xg A n c ra,Xg B m d rb,.func (.func F) #[] #[]] w (pM w (eK a ra b rb op)):=by
 have Ka:=h.2;have aR:=h'.2;refine Qx (c:={c82 with cuts:=[]}) Qa Tryz.func82 rfl rfl rfl ?_;refine new (λw1 Qd Q3 Qh=>?_);refine new (λw2 Qg X0 Qv=>?_);refine new (λw3 Qi JF Qw=>?_);refine new (λw4 Qq K5 Q6=>?_);have Ja:=Qi.trans Qq;have XI:=(Qd.trans Qg).trans Ja;have Jc:=(Qh.ext Qg).ext Ja;have lA:=Qv.ext Ja;have jz:=Qw.ext Qq;refine Qs Jc rfl ?_;refine Qs lA rfl ?_;refine Xm Qa [(⟨A,n,c,a,ra⟩:DV).cells,(⟨B,m,d,b,rb⟩:DV).cells] rfl rfl rfl rfl rfl ⟨rfl,rfl,rfl,rfl,⟨⟩⟩ rfl (λcs h=>by simp only[Q0,Jk,Jm] at h;rcases h with rfl | rfl<;>rfl) rfl (by decide) (by decide) ?_;intro w5 Qz Kw QL;have J6:=XI.trans Qz;have hL:SlS DV.cells 2 w5 (some ⟨w4.heap.size,0,none⟩) 2 2 [⟨A,n,c,a,ra⟩,⟨B,m,d,b,rb⟩]:=⟨Sl.own (sz:=2) (n:=2) QL (QD _) (by decide) (by simp[DV.cells]),rfl⟩
 refine call (Bo _ 2 2 _ w5 hL (λx hx=>by
  simp only[Q0,Jk,Jm] at hx;rcases hx with rfl | rfl
  ·exact h.ext J6
  ·exact h'.ext J6)) ?_
 rintro v w6 ⟨rfl,Xh⟩;have XF:=Qz.trans Xh;have XD:=XI.trans XF;have kQC:=Q6.ext XF;have mQ2:=XF.size;have ef:a8 [(⟨A,n,c,a,ra⟩:DV),⟨B,m,d,b,rb⟩]=if XK a ra≠0 then XK a ra else if XK b rb≠0 then XK b rb else 0:=rfl
 refine Yt (λc1=>?_) (λc1=>?_)
 ·have e:eK a ra b rb op=(([],0),a8 [(⟨A,n,c,a,ra⟩:DV),⟨B,m,d,b,rb⟩]):=by
   rw[ef] at c1 ⊢;unfold eK;split
   ·rfl
   ·rename_i hh;rw[if_neg hh] at c1;split
    ·rfl
    ·rename_i xx;rw[if_neg xx] at c1;exact Xd rfl c1
  rw[e];refine QB kQC rfl (sc rfl) (λw7 ZC _ Q4=>?_);have Xi:Mod (·=w3.heap.size) w6 w7:=oQh ZC rfl;refine Qs Q4 rfl ?_;exact⟨none,0,0,rfl,Xi.ext XD (λi hi=>by omega),SlS.nil _,λi ⟨_,e,_⟩=>by cases e⟩
 ·rw[ef] at c1;have ca:XK a ra=0:=by
   by_cases hh:XK a ra=0
   ·exact hh
   ·rw[Qf hh] at c1;exact c1
  have cb:XK b rb=0:=by
   rw[if_neg (λhh=>hh ca)] at c1;by_cases hh:XK b rb=0
   ·exact hh
   ·rw[Qf hh] at c1;exact c1
  obtain⟨sa,va⟩:=gf.1 ca;obtain⟨sb,vb⟩:=gf.1 cb;have e:eK a ra b rb op=ji (VV a ra b rb op):=by unfold eK;rw[if_neg (λhh=>hh ca),if_neg (λhh=>hh cb)]
  rw[e];have hb2:=FX va vb op;have Ep:(a.length+2)*(b.length+2)<=4098*4098:=Nat.mul_le_mul (by omega) (by omega);refine Qs (Jc.ext XF) rfl ?_;refine Qs (lA.ext XF) rfl ?_;have Eo:Blk w6 w2.heap.size 139 [.func (.func F) #[] #[]]:=jz.ext XF;refine call (gQd A n c a ra B m d b rb op F w2.heap.size w6 hF (h.ext XD) (h'.ext XD) Eo va.dok vb.dok va.2.1 (by have:=va.2.2.1;omega) vb.2.1 (by have:=vb.2.2.1;omega) (by omega) (by omega) (by omega)) ?_;rintro v w7 ⟨OA,k,oc,rfl,QY,IA,Kf⟩;have Yi:=XF.trans QY;have Ki:=XI.trans Yi;have z67:=XD.size;refine call (R5 OA k oc _ _ w4 w7 IA (λi hi=>by have:=Kf i hi;omega) Yi) ?_;rintro v w8 ⟨PA,q,pc,rfl,Q7,xH,nP⟩;refine QB (Q6.ext Q7) rfl (sc rfl) (λw9 bt _ Z8=>?_);have X4:Mod (·=w3.heap.size) w8 w9:=oQh bt rfl;refine Qs Z8 rfl ?_;refine⟨PA,q,pc,rfl,X4.ext (XI.trans Q7) (λi hi=>by omega),⟨xH.1.modS X4 (λ_ i hi e=>by have:=nP i hi;omega),xH.2⟩,λi hi=>by have:=nP i hi;omega⟩
theorem wC (A:Option Addr)(n c:Nat)(a:List Br)(ra:Int)(B:Option Addr)(m d:Nat)(b:List Br)(rb:Int)(w:World)(h:SB w A n c a)(h':SB w B m d b):
  Fn Tryz.prog 36 [Xg A n c ra,Xg B m d rb] w (pM w (eK a ra b rb 0)):=by
 refine Qx (c:={c36 with cuts:=[]}) Qa Tryz.func36 rfl rfl rfl ?_;refine new (λw1 Qd Q3 Qh=>?_);refine new (λw2 Qg X0 Qv=>?_);refine new (λw3 Qi JF Qw=>?_);have QQ:=(Qd.trans Qg).trans Qi;refine Qs ((Qh.ext Qg).ext Qi) rfl ?_;refine Qs (Qv.ext Qi) rfl ?_;refine call (Gf A n c a ra B m d b rb 0 84 w3 (.inl ⟨rfl,rfl⟩) (h.ext QQ) (h'.ext QQ)) ?_;rintro v w4 ⟨PA,q,pc,rfl,Qq,eY,bV⟩;refine QB (Qw.ext Qq) rfl (sc rfl) (λw5 Jr _ QL=>?_);have Z9:Mod (·=w2.heap.size) w4 w5:=oQh Jr rfl;refine Qs QL rfl ?_;obtain⟨g1,g2,g3⟩:=F5 (r:=eK a ra b rb 0) (QQ.trans Qq) Z9 (by omega) eY (λi hi=>by have:=bV i hi;omega);exact⟨PA,q,pc,rfl,g1,g2,g3⟩
theorem R9 (A:Option Addr)(n c:Nat)(a:List Br)(ra:Int)(B:Option Addr)(m d:Nat)(b:List Br)(rb:Int)(w:World)(h:SB w A n c a)(h':SB w B m d b):
  Fn Tryz.prog 101 [Xg A n c ra,Xg B m d rb] w (pM w (eK a ra b rb 1)):=by
 refine Qx (c:={cQF with cuts:=[]}) Qa Tryz.func101 rfl rfl rfl ?_;refine new (λw1 Qd Q3 Qh=>?_);refine new (λw2 Qg X0 Qv=>?_);refine new (λw3 Qi JF Qw=>?_);have QQ:=(Qd.trans Qg).trans Qi;refine Qs ((Qh.ext Qg).ext Qi) rfl ?_;refine Qs (Qv.ext Qi) rfl ?_;refine call (Gf A n c a ra B m d b rb 1 155 w3 (.inr (.inl ⟨rfl,rfl⟩)) (h.ext QQ) (h'.ext QQ)) ?_;rintro v w4 ⟨PA,q,pc,rfl,Qq,eY,bV⟩;refine QB (Qw.ext Qq) rfl (sc rfl) (λw5 Jr _ QL=>?_);have Z9:Mod (·=w2.heap.size) w4 w5:=oQh Jr rfl;refine Qs QL rfl ?_;obtain⟨g1,g2,g3⟩:=F5 (r:=eK a ra b rb 1) (QQ.trans Qq) Z9 (by omega) eY (λi hi=>by have:=bV i hi;omega);exact⟨PA,q,pc,rfl,g1,g2,g3⟩
theorem Gg (A:Option Addr)(n c:Nat)(a:List Br)(ra:Int)(w:World)(h:SB w A n c a):
  Fn Tryz.prog 35 [Xg A n c ra] w (pM w (eK a ra [] 0 3)):=by
 refine Qx (c:={c35 with cuts:=[]}) Qa Tryz.func35 rfl rfl rfl ?_;refine new (λw1 Qd Q3 Qh=>?_);refine new (λw2 Qg X0 Qv=>?_);have QT:=Qd.trans Qg;refine Qs (Qh.ext Qg) rfl ?_;refine call (Gf A n c a ra none 0 0 [] 0 3 83 w2 (.inr (.inr ⟨rfl,rfl⟩)) (h.ext QT) (SlS.nil _)) ?_;rintro v w4 ⟨PA,q,pc,rfl,Qq,eY,bV⟩;refine QB (Qv.ext Qq) rfl (sc rfl) (λw5 Jr _ QL=>?_);have Z9:Mod (·=w1.heap.size) w4 w5:=oQh Jr rfl;refine Qs QL rfl ?_;obtain⟨g1,g2,g3⟩:=F5 (r:=eK a ra [] 0 3) (QT.trans Qq) Z9 (by omega) eY (λi hi=>by have:=bV i hi;omega);exact⟨PA,q,pc,rfl,g1,g2,g3⟩
end
section
section
variable {α:Type} {f:α->List Value} {sz:Nat}
theorem Sa (hf:∀x,(f x).length=sz):∀(l:List α)(j:Nat),(l.flatMap f).take (j*sz)=(l.take j).flatMap f
 | [],j=>by simp
 | x::l,0=>by simp
 | x::l,j+1=>by
  rw[au,vi,au,<-Sa hf l j,EJ];rw[Zz (by rw[hf,fS];omega),hf,show(j+1)*sz-sz=j*sz by rw[fS];omega]
theorem Sb (hf:∀x,(f x).length=sz):∀(l:List α)(j:Nat),(l.flatMap f).drop (j*sz)=(l.drop j).flatMap f
 | [],j=>by simp
 | x::l,0=>by simp
 | x::l,j+1=>by
  rw[au,NS,<-Sb hf l j,List.drop_append];rw[pj (by rw[hf,fS];omega),hf,show(j+1)*sz-sz=j*sz by rw[fS];omega];rfl
theorem wD (hf:∀x,(f x).length=sz)(l:List α){j:Nat}(x:α)(hj:j<l.length):K2 (j*sz) (f x) (l.flatMap f)=(l.set j x).flatMap f:=by
 have ZO:(j+1)*sz<=l.length*sz:=Y4 _ hj;rw[fS] at ZO;rw[jf _ _ _ (by rw[hf,dD hf];exact ZO),hf,Sa hf,<-fS,Sb hf,List.set_eq_take_append_cons_drop,Qf hj];simp
theorem gQe (hf:∀x,(f x).length=sz)(h0:0<sz){z:α}{zc:Array Value}(hz:zc.toList=f z)(n:Nat):(madeCells zc (n*sz)).toList=(List.replicate n z).flatMap f:=by
 have Eh:zc.size=sz:=by rw[<-Array.length_toList,hz,hf]
 apply EN;intro i;by_cases hi:i<n*sz
 ·have hd:i/sz<n:=Nat.div_lt_of_lt_mul (by rw[vp];exact hi);have hr:i % sz<sz:=j5 _ h0;have Eq:i/sz*sz+i % sz=i:=by rw[vp];exact Nat.div_add_mod i sz
  have g1:(List.replicate n z)[i/sz]? =some z:=by rw[List.getElem?_replicate,Qf hd]
  have g2:=Xb (l:=f z) (i:=i % sz) (by rw[hf];exact hr);have g3:=eH hf _ _ _ _ _ g1 g2;rw[Eq] at g3;rw[g3];have e:zc[i % zc.size]! =(f z)[i % sz]'(by rw[hf];exact hr):=by
   have h1:zc[i % sz]? =some ((f z)[i % sz]'(by rw[hf];exact hr)):=by rw[<-Array.getElem?_toList,hz];exact g2
   rw[Eh,Array.getElem!_eq_getD,Array.getD_eq_getD_getElem?,h1]<;>rfl
  simp[madeCells,hi,e]
 ·rw[mo (by simp[madeCells];omega),mo (by rw[dD hf];simp;omega)]
theorem gQf (hf:∀x,(f x).length=sz)(h0:0<sz)(z:α){c:Cx}(hg:c.g.Ok){o:Oper}{S:Env}{w:World}{K:Env->World->Prop}{Q:Zj}{t e:Nat}{x y:Operand}{n:Nat}{r re:TyRow}(ho:o.op= .makeSlice t x y)(hr:QX c.g.tys t=some r)(hd:r.d= .slice e)(Zb:QX c.g.tys e=some re)(hz:re.z.cells.toList=f z)
  (hs:re.sz=sz) (hx:S.ev x=some (.int .i64 n)) (hy:S.ev y=some (.int .i64 n)) (hb:re.by_*n<=281474976710656) (hn:n<=maxLen)
  (k:∀w1,Ext w w1->w1.heap.size=w.heap.size+1->Blk w1 w.heap.size e ((List.replicate n z).flatMap f)->Xn c S o.dst (.v (.slice (some ⟨w.heap.size,0,none⟩) n n)) (λS=>K S w1)):Zc c o S w K Q:=by
 obtain⟨_,i,hi,XG,Wu,cd⟩:=hg.row Zb;have Xc:=(hg.row hr).1;rw[hd] at Xc;have bT:=run_make (P:=c.g.P) w t e i re.z Xc hi cd .i64 .i64 n n (by omega) (by omega) (by rw[Wu];omega) (by unfold maxLen at hn;omega);have hm:=gQe hf h0 hz n;rw[XG,hs] at bT;simp only[fT] at bT;refine JJ (w':=w.alloc (.cells (madeCells re.z.cells (n*sz)) e)) (v:=.slice (some ⟨w.heap.size,0,none⟩) n n) (λa hf=>?_) (k _ (Ext.alloc w _) (by simp) ?_)
 ·have e1:=hf.ev hx;have e2:=hf.ev hy;simp only[execOp,ho,e1,e2];simp at bT ⊢;rw[bT]<;>rfl
 ·rw[<-hm];simpa using Blk.new w e (madeCells re.z.cells (n*sz)).toList
end
end
section
structure DgI (w0:World) (g:Nat) (f:List Fz) (k n s:Nat) (L:List DV) (w:World):Prop where
 m:Mod (·=g) w0 w
 blk:Blk w g 32 (L.flatMap DV.cells)
 len:L.length=n
 got:∀j,j<s->∃x t,L[j]? =some x/\RepF f t j/\SB w x.A x.n x.c x.nd/\Set1 k x.nd x.r (evF t)/\∀i,Qk x.A i->g<i
theorem SB.mod {S:Nat->Prop}{w w':World}{A:Option Addr}{n c:Nat}{nd:List Br}(h:SB w A n c nd)(hm:Mod S w w')(hr:∀i,Qk A i->¬S i):SB w' A n c nd:=⟨h.1.modS hm (λ_ i hi=>hr i hi),h.2⟩
theorem DgI.mod {w0 w w':World}{g:Nat}{f:List Fz}{k n s:Nat}{L:List DV}(h:DgI w0 g f k n s L w)(k1:Ext w w'):DgI w0 g f k n s L w':=
 ⟨h.m.trans (Mod.of_ext (·=g) k1) (λ_ hi=>.inl hi),h.blk.ext k1,h.len,λj hj=>by
  obtain⟨x,t,h1,h2,h3,h4,h5⟩:=h.got j hj;exact⟨x,t,h1,h2,h3.ext k1,h4,h5⟩⟩
theorem DgI.put {w0 w w':World}{g:Nat}{f:List Fz}{k n s:Nat}{L:List DV}(h:DgI w0 g f k n s L w)(hs:s<n){x:DV}{t:Fm}(ht:RepF f t s)(hx:SB w x.A x.n x.c x.nd)(hS:Set1 k x.nd x.r (evF t))(hr:∀i,Qk x.A i->g<i)(hm:Mod (·=g) w w')
  (hb:Blk w' g 32 (K2 (s*2) x.cells (L.flatMap DV.cells))):DgI w0 g f k n (s+1) (L.set s x) w':=by
 have hl:=h.len;refine⟨h.m.trans hm (λ_ hi=>.inl hi),by rw[<-wD cB L x (by omega)];exact hb,by rw[cj];exact hl,λj hj=>?_⟩;by_cases KX:j=s
 ·subst KX;exact⟨x,t,by rw[iZ (by omega)],ht,hx.mod hm (λi hi e=>by have:=hr i hi;omega),hS,hr⟩
 ·obtain⟨y,u,h1,h2,h3,h4,h5⟩:=h.got j (by omega);exact⟨y,u,by rw[fU (λe=>KX e.symm)];exact h1,h2,h3.mod hm (λi hi e=>by have:=h5 i hi;omega),h4,h5⟩
def DgC (g s:Nat)(L:List DV)(w w':World):Prop:=Mod (·=g) w w'/\∀(j:Nat)(x:DV),j≠s->L[j]? =some x->∀(i:Nat)(v:Value),x.cells[i]? =some v->w'.cell? ((⟨g,0,none⟩:Addr).add (j*2+i))=some v
theorem DgC.of_ext {g s:Nat}{L:List DV}{w w':World}(hb:Blk w g 32 (L.flatMap DV.cells))(h:Ext w w'):DgC g s L w w':=
 ⟨Mod.of_ext _ h,λj x _ hx i v hi=>by rw[(hb.ext h).cell];exact eH cB _ _ _ _ _ hx hi⟩
theorem DgC.put {g s:Nat}{L:List DV}{w w1 w':World}{x:DV}(hs:s<L.length)(h:Ext w w1)(hm:Mod (·=g) w1 w')(hb:Blk w' g 32 (K2 (s*2) x.cells (L.flatMap DV.cells))):DgC g s L w w':=
 ⟨(
  Mod.of_ext (·=g) h).trans hm (λ_ hi=>.inl hi),λj y hj hy i v hi=>by
  rw[hb.cell,wD cB L x hs];exact eH cB _ _ _ _ _ (by rw[fU (λe=>hj e.symm)];exact hy) hi⟩
theorem FV.rep {f:List Fz}(h:FV f){i:Nat}(hi:i<f.length):∃t,RepF f t i:=PJ h.2.2.1 i hi
theorem gQg (F:Option Addr)(n cF:Nat)(f:List Fz)(k:Nat)(hk:k<=12)(w:World)(h:SF w F n cF f)(hv:FV f)(yX:mM k f):
  Fn Tryz.prog 203 [.slice F n cF] w (λv w'=>∃A m c nd r,v= .tuple #[Xg A m c r,.int .i64 0]/\Ext w w'/\SB w' A m c nd/\Set1 k nd r (evF (gb f))/\∀i,Qk A i->w.heap.size<i):=by
 have hn:=h.2;have hvl:=hv.1;have fg:=hv.2.1;refine Qx (c:={dQS with cuts:=[]}) Qa Tryz.func203 rfl rfl rfl ?_;refine new (λw1 Qd Q3 Qh=>?_);refine call (PI F n cF f w1 (h.ext Qd)) ?_;rintro _ w2 ⟨rfl,Qg⟩;refine Y9 (AM hv) ?_;have QT:=Qd.trans Qg;refine gQf cB (by decide) (⟨none,0,0,[],0⟩:DV) Qa rfl rfl rfl rfl rfl rfl rfl rfl (by show 32*n<=_;omega) (by unfold maxLen;omega) (λw3 Qi JF Qw=>?_);have QQ:=QT.trans Qi;have kQx:=QT.size;have X0:w1.heap.size<=w2.heap.size:=Qg.size;refine loop Qa [17] (λs:Nat×List DV=>[.int .i64 s.1]) (λs w'=>DgI w3 w2.heap.size f k n s.1 s.2 w'/\s.1<=n) (λs _=>n-s.1) (0,List.replicate n ⟨none,0,0,[],0⟩) rfl ⟨⟨Mod.refl _ _,Qw,by simp,λj hj=>Xd hj (by simp)⟩,Xt _⟩ ?_;rintro⟨s,L⟩ w4 ⟨hI,hs⟩;simp only at hI hs;have Qq:Ext w w4:=hI.m.ext QQ (λi hi=>by omega);have hL:=hI.len;refine Qt (λh1=>?_) (λh1=>?_)
 ·have KK:s<n:=by simp only at h1;omega
  refine Zh AK (h.ext Qq) rfl KK (λp x hx hc=>?_);refine Kb (vs:=x.cells) rfl hc ?_;refine new (λw5 Qz Kw QL=>?_);refine QB QL rfl (sc rfl) (λw6 Wg fa Xj=>?_);have XF:Ext w4 w6:=XY Qz QL Wg;have JU:=hI.mod XF;obtain⟨t,ht⟩:=hv.rep (i:=s) (by omega);have K5:=hI.m.size;have aQg:=XF.size;have c0:Set1 k [] 0 (λ_=>false):=bO k false;have uR:∀i,Qk (none:Option Addr) i->w2.heap.size<i:=λi hi=>by obtain⟨_,e,_⟩:=hi;cases e
  cases t with
  | c b=>
   cases b with
   | false=>
    have Yq:x=⟨0,0,0,0⟩:=Option.some.inj (hx.symm.trans ht);subst Yq;refine QC Xj rfl ?_;refine JN rfl ?_;refine QC Xj rfl ?_;refine call (cH false w6) ?_;rintro _ w7 ⟨rfl,QY⟩;have bu:=JU.mod QY;refine JZ (j:=s) KK ?_;refine ko (j:=s*2) (vs:=(⟨none,0,0,[],0⟩:DV).cells) bu.blk (by rw[dD cB,hL];show s*2+2<=n*2;omega) (sc rfl) (λw8 Yh Ve XB=>?_);have Zo:Mod (·=w2.heap.size) w7 w8:=oQh Yh rfl;have iq:=bu.put KK (x:=⟨none,0,0,[],0⟩) ht (SlS.nil _) (bO k false) uR Zo XB;refine Y9 rfl ?_;refine Qj ((s+1:Nat):Int) (by show((s:Nat):Int)+1=_;omega) (by omega) ?_;exact⟨(s+1,L.set s ⟨none,0,0,[],0⟩),rfl,⟨iq,by show s+1<=n;omega⟩,by show n-(s+1)<n-s;omega⟩
   | true=>
    have Yq:x=⟨1,0,0,0⟩:=Option.some.inj (hx.symm.trans ht);subst Yq;refine QC Xj rfl ?_;refine XW (show¬(1:Int)=0 by decide) ?_;refine JN rfl ?_;refine QC Xj rfl ?_;refine call (cH true w6) ?_;rintro _ w7 ⟨rfl,QY⟩;have bu:=JU.mod QY;refine JZ (j:=s) KK ?_;refine ko (j:=s*2) (vs:=(⟨none,0,0,[],1⟩:DV).cells) bu.blk (by rw[dD cB,hL];show s*2+2<=n*2;omega) (sc rfl) (λw8 Yh Ve XB=>?_);have Zo:Mod (·=w2.heap.size) w7 w8:=oQh Yh rfl;have iq:=bu.put KK (x:=⟨none,0,0,[],1⟩) ht (SlS.nil _) (bO k true) uR Zo XB;refine Y9 rfl ?_;refine Qj ((s+1:Nat):Int) (by show((s:Nat):Int)+1=_;omega) (by omega) ?_;exact⟨(s+1,L.set s ⟨none,0,0,[],1⟩),rfl,⟨iq,by show s+1<=n;omega⟩,by show n-(s+1)<n-s;omega⟩
  | v q=>
   have Yq:x=⟨2,(q:Nat),0,0⟩:=Option.some.inj (hx.symm.trans ht);subst Yq;have hq:(q:Int)<k:=yX _ (Q2 hx) rfl;refine QC Xj rfl ?_;refine XW (show¬(2:Int)=0 by decide) ?_;refine XW (show¬(2:Int)=1 by decide) ?_;refine JN rfl ?_;refine Qp Xj rfl ?_;refine call (Gd (q:Nat) w6 (by omega) (by omega)) ?_;rintro _ w7 ⟨PA,pn,pc,rfl,QY,lB,Kf⟩;have bu:=JU.mod QY;have rJ:Set1 k [⟨(q:Nat),0,1⟩] 2 (evF (.v q)):=⟨Bk (by omega) (by omega),λb hb=>by simp only[QF] at hb;subst hb;exact hq,λe=>by
    rw[cC (Bk (k:=((q:Nat):Int)) (by omega) (by omega)).wf (by decide) (b:=⟨(q:Nat),0,1⟩) rfl,JP (by simp),JP (by simp)];cases h:e q<;>simp[evF,h]⟩
   refine JZ (j:=s) KK ?_;refine ko (j:=s*2) (vs:=(⟨PA,pn,pc,[⟨(q:Nat),0,1⟩],2⟩:DV).cells) bu.blk (by rw[dD cB,hL];show s*2+2<=n*2;omega) (sc rfl) (λw8 Yh Ve XB=>?_);have Zo:Mod (·=w2.heap.size) w7 w8:=oQh Yh rfl;have iq:=bu.put KK (x:=⟨PA,pn,pc,[⟨(q:Nat),0,1⟩],2⟩) ht lB rJ (λi hi=>by have:=Kf i hi;omega) Zo XB;refine Y9 rfl ?_;refine Qj ((s+1:Nat):Int) (by show((s:Nat):Int)+1=_;omega) (by omega) ?_;exact⟨(s+1,L.set s ⟨PA,pn,pc,[⟨(q:Nat),0,1⟩],2⟩),rfl,⟨iq,by show s+1<=n;omega⟩,by show n-(s+1)<n-s;omega⟩
  | not a=>
   obtain⟨j,hj,oX,Wy⟩:=ht;have Yq:x=⟨3,0,(j:Nat),0⟩:=Option.some.inj (hx.symm.trans oX);subst Yq;obtain⟨y,u,hy,hu,rK,jQ,y9⟩:=JU.got j hj;obtain rfl:u=a:=oQk hu Wy;have gz:=gV hk jQ c0 3;have Zf:=eL jQ c0 3;have JW:j<n:=by omega
   refine QC Xj rfl ?_;refine XW (show¬(3:Int)=0 by decide) ?_;refine XW (show¬(3:Int)=1 by decide) ?_;refine XW (show¬(3:Int)=2 by decide) ?_;refine JN rfl ?_;refine Qp Xj rfl ?_;refine JZ (j:=j) JW ?_;refine cw (j:=j*2) (vs:=y.cells) JU.blk rfl (λi v hi=>eH cB _ _ _ _ _ hy hi) ?_;refine call (Gg y.A y.n y.c y.nd y.r w6 rK) ?_;rw[gz];rintro _ w7 ⟨PA,pn,pc,rfl,QY,lB,Kf⟩;have bu:=JU.mod QY;have ht:RepF f (.not u) s:=⟨j,hj,oX,Wy⟩
   generalize VV y.nd y.r [] 0 3=D at*;obtain⟨D1,D2⟩:=D;have rJ:Set1 k D1 D2 (evF (.not u)):=Zf.congr (λe=>by simp[Kr,evF]);refine JZ (j:=s) KK ?_;refine ko (j:=s*2) (vs:=(⟨PA,pn,pc,D1,D2⟩:DV).cells) bu.blk (by rw[dD cB,hL];show s*2+2<=n*2;omega) (sc rfl) (λw8 Yh Ve XB=>?_);have Zo:Mod (·=w2.heap.size) w7 w8:=oQh Yh rfl;have iq:=bu.put KK (x:=⟨PA,pn,pc,D1,D2⟩) ht lB rJ (λi hi=>by have:=Kf i hi;omega) Zo XB;refine Y9 rfl ?_;refine Qj ((s+1:Nat):Int) (by show((s:Nat):Int)+1=_;omega) (by omega) ?_;exact⟨(s+1,L.set s ⟨PA,pn,pc,D1,D2⟩),rfl,⟨iq,by show s+1<=n;omega⟩,by show n-(s+1)<n-s;omega⟩
  | and a b=>
   obtain⟨j,l,hj,hl,oX,Wy,fK⟩:=ht;have Yq:x=⟨4,0,(j:Nat),(l:Nat)⟩:=Option.some.inj (hx.symm.trans oX);subst Yq;obtain⟨y,u,hy,hu,rK,jQ,y9⟩:=JU.got j hj;obtain rfl:u=a:=oQk hu Wy;obtain⟨z,u',hz,fM,MO,za,hzr⟩:=JU.got l hl;obtain rfl:u'=b:=oQk fM fK;have gz:=gV hk jQ za 0;have Zf:=eL jQ za 0;have JW:j<n:=by omega
   have jR:l<n:=by omega
   refine QC Xj rfl ?_;refine XW (show¬(4:Int)=0 by decide) ?_;refine XW (show¬(4:Int)=1 by decide) ?_;refine XW (show¬(4:Int)=2 by decide) ?_;refine XW (show¬(4:Int)=3 by decide) ?_;refine JN rfl ?_;refine Xy Qa (DgC w2.heap.size s L w6) 19 [(true,0),(true,1),(true,2),(true,3),(true,4),(true,5),(true,6),(true,7),(true,8),(true,9),(true,10),(true,11),(false,12),(true,13),(true,14),(true,15),(true,16),(false,17),(true,18)] (by kernel_rfl) (DgC.of_ext JU.blk (Ext.drew w6)) ?_;have zb:¬w4.heap.size=w2.heap.size:=by omega
   refine QJ (v:=.int .i64 (j:Nat)) (λw' Qb=>by rw[(Xj.mod Qb.1 zb).cell];rfl) ?_;refine JZ (j:=j) JW ?_;refine Xr (vs:=y.cells) rfl (λw' Qb i v hi=>by rw[add_add];exact Qb.2 j y (by omega) hy i v hi) ?_;refine QJ (v:=.int .i64 (l:Nat)) (λw' Qb=>by rw[(Xj.mod Qb.1 zb).cell];rfl) ?_;refine JZ (j:=l) jR ?_;refine Xr (vs:=z.cells) rfl (λw' Qb i v hi=>by rw[add_add];exact Qb.2 l z (by omega) hz i v hi) ?_;refine call (wC y.A y.n y.c y.nd y.r z.A z.n z.c z.nd z.r _ (rK.ext (Ext.drew w6)) (MO.ext (Ext.drew w6))) ?_;rw[gz];rintro _ w7 ⟨PA,pn,pc,rfl,IB,lB,Kf⟩;have QY:=(Ext.drew w6).trans IB;have mQn:=(Ext.drew w6).size;refine⟨DgC.of_ext JU.blk QY,?_⟩;have bu:=JU.mod QY;have ht:RepF f (.and u u') s:=⟨j,l,hj,hl,oX,Wy,fK⟩
   generalize VV y.nd y.r z.nd z.r 0=D at*;obtain⟨D1,D2⟩:=D;have rJ:Set1 k D1 D2 (evF (.and u u')):=Zf.congr (λe=>by simp[Kr,evF]);refine JZ (j:=s) KK ?_;refine ko (j:=s*2) (vs:=(⟨PA,pn,pc,D1,D2⟩:DV).cells) bu.blk (by rw[dD cB,hL];show s*2+2<=n*2;omega) (sc rfl) (λw8 Yh Ve XB=>?_);have Zo:Mod (·=w2.heap.size) w7 w8:=oQh Yh rfl;have iq:=bu.put KK (x:=⟨PA,pn,pc,D1,D2⟩) ht lB rJ (λi hi=>by have:=Kf i hi;omega) Zo XB;refine⟨DgC.put (by omega) QY Zo XB,?_⟩;refine Y9 rfl ?_;refine Qj ((s+1:Nat):Int) (by show((s:Nat):Int)+1=_;omega) (by omega) ?_;exact⟨(s+1,L.set s ⟨PA,pn,pc,D1,D2⟩),rfl,⟨iq,by show s+1<=n;omega⟩,by show n-(s+1)<n-s;omega⟩
  | or a b=>
   obtain⟨j,l,hj,hl,oX,Wy,fK⟩:=ht;have Yq:x=⟨5,0,(j:Nat),(l:Nat)⟩:=Option.some.inj (hx.symm.trans oX);subst Yq;obtain⟨y,u,hy,hu,rK,jQ,y9⟩:=JU.got j hj;obtain rfl:u=a:=oQk hu Wy;obtain⟨z,u',hz,fM,MO,za,hzr⟩:=JU.got l hl;obtain rfl:u'=b:=oQk fM fK;have gz:=gV hk jQ za 1;have Zf:=eL jQ za 1;have JW:j<n:=by omega
   have jR:l<n:=by omega
   refine QC Xj rfl ?_;refine XW (show¬(5:Int)=0 by decide) ?_;refine XW (show¬(5:Int)=1 by decide) ?_;refine XW (show¬(5:Int)=2 by decide) ?_;refine XW (show¬(5:Int)=3 by decide) ?_;refine XW (show¬(5:Int)=4 by decide) ?_;refine JN rfl ?_;refine Xy Qa (DgC w2.heap.size s L w6) 19 [(true,0),(true,1),(true,2),(true,3),(true,4),(true,5),(true,6),(true,7),(true,8),(true,9),(true,10),(true,11),(false,12),(true,13),(true,14),(true,15),(true,16),(false,17),(true,18)] (by kernel_rfl) (DgC.of_ext JU.blk (Ext.drew w6)) ?_;have zb:¬w4.heap.size=w2.heap.size:=by omega
   refine QJ (v:=.int .i64 (j:Nat)) (λw' Qb=>by rw[(Xj.mod Qb.1 zb).cell];rfl) ?_;refine JZ (j:=j) JW ?_;refine Xr (vs:=y.cells) rfl (λw' Qb i v hi=>by rw[add_add];exact Qb.2 j y (by omega) hy i v hi) ?_;refine QJ (v:=.int .i64 (l:Nat)) (λw' Qb=>by rw[(Xj.mod Qb.1 zb).cell];rfl) ?_;refine JZ (j:=l) jR ?_;refine Xr (vs:=z.cells) rfl (λw' Qb i v hi=>by rw[add_add];exact Qb.2 l z (by omega) hz i v hi) ?_;refine call (R9 y.A y.n y.c y.nd y.r z.A z.n z.c z.nd z.r _ (rK.ext (Ext.drew w6)) (MO.ext (Ext.drew w6))) ?_;rw[gz];rintro _ w7 ⟨PA,pn,pc,rfl,IB,lB,Kf⟩;have QY:=(Ext.drew w6).trans IB;have mQn:=(Ext.drew w6).size;refine⟨DgC.of_ext JU.blk QY,?_⟩;have bu:=JU.mod QY;have ht:RepF f (.or u u') s:=⟨j,l,hj,hl,oX,Wy,fK⟩
   generalize VV y.nd y.r z.nd z.r 1=D at*;obtain⟨D1,D2⟩:=D;have rJ:Set1 k D1 D2 (evF (.or u u')):=Zf.congr (λe=>by simp[Kr,evF]);refine JZ (j:=s) KK ?_;refine ko (j:=s*2) (vs:=(⟨PA,pn,pc,D1,D2⟩:DV).cells) bu.blk (by rw[dD cB,hL];show s*2+2<=n*2;omega) (sc rfl) (λw8 Yh Ve XB=>?_);have Zo:Mod (·=w2.heap.size) w7 w8:=oQh Yh rfl;have iq:=bu.put KK (x:=⟨PA,pn,pc,D1,D2⟩) ht lB rJ (λi hi=>by have:=Kf i hi;omega) Zo XB;refine⟨DgC.put (by omega) QY Zo XB,?_⟩;refine Y9 rfl ?_;refine Qj ((s+1:Nat):Int) (by show((s:Nat):Int)+1=_;omega) (by omega) ?_;exact⟨(s+1,L.set s ⟨PA,pn,pc,D1,D2⟩),rfl,⟨iq,by show s+1<=n;omega⟩,by show n-(s+1)<n-s;omega⟩
 ·have KK:s=n:=by simp only at h1;omega
  subst KK;obtain⟨y,u,hy,hu,rK,jQ,y9⟩:=hI.got (s-1) (by omega);have Er:=FJ (f:=f) (t:=u) (by rw[hn];exact hu);refine Qj ((s-1:Nat):Int) (by omega) (by omega) ?_;refine JZ (j:=s-1) (by omega) ?_;refine cw (j:=(s-1)*2) (vs:=y.cells) hI.blk rfl (λi v hi=>eH cB _ _ _ _ _ hy hi) ?_;have Q6:=((Qh.ext Qg).ext Qi).mod hI.m (by show¬w.heap.size=w2.heap.size;omega);refine QB Q6 rfl (sc rfl) (λw5 Jr Kw QL=>?_);have Z9:Mod (·=w.heap.size) w4 w5:=oQh Jr rfl;refine Qs QL rfl ?_;exact⟨y.A,y.n,y.c,y.nd,y.r,rfl,Z9.ext Qq (λi hi=>by omega),rK.mod Z9 (λi hi e=>by have:=y9 i hi;omega),by rw[Er];exact jQ,λi hi=>by have:=y9 i hi;omega⟩
end
section
section
abbrev J1 (g o:Nat):Addr:=(⟨g,0,none⟩:Addr).add o
def wE (t m o:Nat):Prop:=liesAt Tryz.prog Tryz.prog.depth t (m/Tryz.prog.cellsOf t) o 109 1=true
theorem Gh (g o:Nat):(J1 g o).off=o/\(J1 g o).block=g:=by unfold J1;rw[pF];exact⟨rfl,rfl⟩
theorem Gi {w:World}{g t o j:Nat}{cs:List Value}(h:Blk w g t cs):w.cell? ((J1 g o).add j)=cs[o+j]? :=by unfold J1;rw[add_add,h.cell]
theorem wF {w:World}{g t o j:Nat}{cs:List Value}{v:Value}{K:Value->Prop}(h:Blk w g t cs)(hv:cs[o+j]? =some v)(k:K v):gM w ((J1 g o).add j) K:=load (by rw[Gi h];exact hv) k
theorem Sc {w:World}{g t o j:Nat}{cs:List Value}{v:Value}{K:World->Prop}(h:Blk w g t cs)(hj:o+j<cs.length)(k:∀w1,Mod (·=g) w w1->Blk w1 g t (cs.set (o+j) v)->K w1):eD w ((J1 g o).add j) v K:=by
 unfold J1;rw[add_add];exact XQ h hj k
theorem gQh (g t o:Nat)(pa:Value)(cs:List Value)(w:World)(hl:wE t cs.length o)(ho:o<cs.length)(hp:pa= .pointer none∨pa= .pointer (some (J1 g o)))(hB:Blk w g t cs)(hc:cs[o]? =some pa):
  Fn Tryz.prog 106 [.pointer (some (J1 g o))] w (λ_ w'=>Mod (·=g) w w'/\Blk w' g t (cs.set o (.pointer (some (J1 g o))))):=by
 obtain⟨j,hj,nz⟩:=O9;refine Qx (c:=OZ) Qa Tryz.func106 rfl rfl rfl ?_;have fE:w.shape? (J1 g o).block=some (t,cs.length):=by rw[(Gh g o).2];exact hB.shape
 have ucs:=Tryz.underlying107;have uus:=Tryz.underlying240;rcases hp with rfl | rfl
 ·refine wF hB (by simpa using hc) ?_;refine Xe rfl ?_;refine JJ (w':=w) (v:=.pointer (some (J1 g o))) (λa hf=>?_) ?_
  ·have e1:=hf.ev (show Env.ev _ (.tmp 8)=some (.pointer (some (J1 g o))) from rfl);have:=Lib.run_to_unsafe (P:=Tryz.prog) (src:=107) (dst:=240) w (J1 g o) ucs uus hj nz fE (by rw[(Gh g o).1];exact ho);simp only[execOp,e1];simp[bL,this]
  refine JJ (w':=w) (v:=.pointer (some (J1 g o))) (λa hf=>?_) ?_
  ·have e1:=hf.ev (show Env.ev _ (.tmp 9)=some (.pointer (some (J1 g o))) from rfl);have:=run_callFunc_extern (P:=Tryz.prog) (e:=Extern.AbiNoEscape.same) Tryz.func159 (by kernel_rfl) (by kernel_rfl) (by kernel_rfl) (by kernel_rfl) #[.pointer (some (J1 g o))] w;rw[Lib.run_noEscape] at this;simp only[execOp,resolve,invoke];simp[Deferred.ofValue,Act.eval] at e1 ⊢;simp[e1,bL,this]
  refine JJ (w':=w) (v:=.pointer (some (J1 g o))) (λa hf=>?_) ?_
  ·have e1:=hf.ev (show Env.ev _ (.tmp 10)=some (.pointer (some (J1 g o))) from rfl);have:=Lib.run_from_unsafe (P:=Tryz.prog) (src:=240) (dst:=107) (u:=109) w (J1 g o) uus ucs hj fE (by rw[(Gh g o).1];exact hl);simp only[execOp,e1];simp[bL,this]
  refine Sc hB (by simpa using ho) (λw1 hm Qh=>?_);exact⟨hm,by simpa using Qh⟩
 ·refine wF hB (by simpa using hc) ?_;refine Xv rfl ?_;refine wF hB (by simpa using hc) ?_;refine JJ (w':=w) (v:=.bool false) (λa hf=>?_) ?_
  ·have e1:=hf.ev (show Env.ev _ (.tmp 17)=some (.pointer (some (J1 g o))) from rfl);have e2:=hf.ev (show Env.ev _ (.tmp 18)=some (.pointer (some (J1 g o))) from rfl);have:=Lib.run_neq_ptr_same (P:=Tryz.prog) (tp:=107) w (J1 g o) ucs hj;simp only[execOp,e1,e2,eqGuard];simp[bL,this]
  refine Xv rfl ?_;refine⟨Mod.refl _ _,?_⟩;have e:cs.set o (.pointer (some (J1 g o)))=cs:=by
   apply EN;intro i;by_cases hi:i=o
   ·subst hi;rw[iZ ho,hc]
   ·rw[fU (λe=>hi e.symm)]
  rw[e];exact hB
theorem gQi (base g t o:Nat)(pa:Value)(cs:List Value)(A:Option Addr)(c:Nat)(out:List Nat)(s:ByteArray)(w:World)(hl:wE t cs.length o)(ho:o+1<cs.length)(hp:pa= .pointer none∨pa= .pointer (some (J1 g o)))(hB:Blk w g t cs)
  (hc:cs[o]? =some pa) (KV:cs[o+1]? =some (.slice A out.length c)) (Jl:Own w base 5 1 A out.length c (Jx out)) (lk:g<base) (top:base<=w.heap.size) (hs:out.length+s.size<=140737488355328):
  Fn Tryz.prog 56 [.pointer (some (J1 g o)),.string s] w (λ_ w'=>∃A' c',Blk w' g t ((cs.set o (.pointer (some (J1 g o)))).set (o+1) (.slice A' (out.length+s.size) c'))/\Own w' base 5 1 A' (out.length+s.size) c' (Jx (out++Yu s))/\Mod (BldS g A) w w'/\Moved w A A'):=by
 refine Qx (c:=OW) Qa Tryz.func56 rfl rfl rfl ?_;refine call (gQh g t o pa cs w hl (by omega) hp hB hc) ?_;rintro v w1 ⟨Zr,Qh⟩;have V4:=Jl.rows;have hn:¬Qk A g:=λh=>by have:=(V4 g h).1;omega
 have qq:=Jl.mod Zr (λk hk e=>hn (e▸hk));refine wF Qh (v:=.slice A out.length c) (show(cs.set o (.pointer (some (J1 g o))))[o+1]? =_ by rw[fU (by omega)];exact KV) ?_;refine O7 Qa rfl rfl rfl rfl rfl rfl rfl rfl rfl rfl rfl qq hs (by have:=Zr.size;omega) ?_;intro A' c' w2 XR dP nA;refine Sc (Qh.mod XR hn) (by simpa using ho) (λw3 XE Qw=>?_);have qr:=dP.rows;refine⟨A',c',Qw,?_,?_,nA.back Zr.size⟩
 ·rw[AE,<-O8];exact dP.mod XE (λk hk e=>by have:=(qr k hk).1;omega)
 ·exact((Zr.mono (S':=BldS g A) (λi hi=>.inl (.inl hi))).trans XR (λi hi=>.inl (.inr hi))).trans XE (λi hi=>.inl (.inl hi))
theorem gQj (g t o:Nat)(cs:List Value)(A:Option Addr)(c n:Nat)(w:World)(hB:Blk w g t cs)(KV:cs[o+1]? =some (.slice A n c)):
  Fn Tryz.prog 205 [.pointer (some (J1 g o))] w (λv w'=>v= .int .i64 n/\w=w'):=by
 refine Qx (c:=dQT) Qa Tryz.func205 rfl rfl rfl ?_;refine wF hB KV ?_;exact⟨rfl,rfl⟩
theorem gQk (base g t o:Nat)(cs:List Value)(A:Option Addr)(c:Nat)(out:List Nat)(w:World)(hB:Blk w g t cs)(KV:cs[o+1]? =some (.slice A out.length c))(Jl:Own w base 5 1 A out.length c (Jx out))(h8:∀x∈out,x<256)(hs:out.length<=140737488355328):
  Fn Tryz.prog 57 [.pointer (some (J1 g o))] w (λv w'=>v= .string (Qe out)/\Mod (Qk A) w w'):=by
 refine Qx (c:=OX) Qa Tryz.func57 rfl rfl rfl ?_;have Xf:(Jx out).length=out.length:=vL out;refine Xy Qa (Ext w) 10 [(true,0),(true,1),(true,2),(true,3),(true,5),(true,6),(true,7),(true,8),(true,9),(false,4)] (by kernel_rfl) (Ext.drew w) ?_;refine QJ (v:=.slice A out.length c) (λw' Qb=>by rw[Gi (hB.ext Qb)];exact KV) ?_;refine QJ (v:=.slice A out.length c) (λw' Qb=>by rw[Gi (hB.ext Qb)];exact KV) ?_;have HK:out.length=0->Value.string ByteArray.empty=Value.string (Qe out):=λh0=>by
  have:out=[]:=Ys h0;subst this;rfl
 by_cases h0:out.length=0
 ·have key:∃p w1,(Builtin.unsafeSliceData_ #[62] 179 #[.slice A out.length c]).run Tryz.prog w.drew= .ok (.pointer p) w1/\Ext w w1:=by
   rcases Jl.row.2 with⟨hv,_⟩ | ⟨g',cap,Ju,hv,hb',VM,_⟩
   ·simp only[Value.slice.injEq] at hv;obtain⟨rfl,_,rfl⟩:=hv;exact⟨none,w.drew,Lib.run_unsafeSliceData_nil _ _ _ _ _,Ext.drew w⟩
   ·simp only[Value.slice.injEq] at hv;obtain⟨rfl,_,rfl⟩:=hv;by_cases qt:c=0
    ·subst qt;have fE:w.drew.shape? g'=some (5,Ju.size):=by
      unfold World.shape?;rw[show w.drew.heap[g']? =_ from VM]
     exact⟨_,_,Lib.run_unsafeSliceData_zero (P:=Tryz.prog) w.drew _ _ 5 Tryz.underlying179 ⟨g',0,none⟩ _ _ fE,(Ext.drew w).trans (Ext.alloc _ _)⟩
    ·exact⟨_,w.drew,Lib.run_unsafeSliceData_row (P:=Tryz.prog) w.drew _ _ ⟨g',0,none⟩ _ _ qt,Ext.drew w⟩
  obtain⟨p,w1,Jj,Qd⟩:=key;refine JJ (w':=w1) (v:=.pointer p) (λa hf=>?_) ⟨Qd,?_⟩
  ·have e1:=hf.ev (show Env.ev _ (.tmp 6)=some (.slice A out.length c) from rfl);simp only[execOp,resolve,invoke,builtin];simp[bL,e1,Jj]
  refine JJ (w':=w1) (v:=.string ByteArray.empty) (λa hf=>?_) ?_
  ·have e1:=hf.ev (show Env.ev _ (.tmp 7)=some (.pointer p) from rfl);have e2:=hf.ev (show Env.ev _ (.tmp 12)=some (.int .i64 out.length) from rfl);have:=Lib.run_unsafeString_none (P:=Tryz.prog) w1 179 3 9 p;rw[h0] at e2;simp only[execOp,resolve,invoke,builtin];simp[bL,e1,e2];rw[this]<;>rfl
  exact⟨HK h0,Mod.of_ext _ Qd⟩
 ·obtain⟨g',sp,rfl,hb',V3,cg⟩:=Jl.blk (by omega);have ZO:=Jl.sl.le;refine JJ (w':=w.drew) (v:=.pointer (some ⟨g',0,none⟩)) (λa hf=>?_) ⟨Ext.drew w,?_⟩
  ·have e1:=hf.ev (show Env.ev _ (.tmp 6)=some (.slice (some ⟨g',0,none⟩) out.length c) from rfl);have:=Lib.run_unsafeSliceData_row (P:=Tryz.prog) w.drew #[62] 179 ⟨g',0,none⟩ out.length c (by omega);simp only[execOp,resolve,invoke,builtin];simp[bL,e1,this]
  refine JJ (w':=w.drew.freeze ⟨g',0,none⟩ out.length) (v:=.string (Qe out)) (λa hf=>?_) ?_
  ·have e1:=hf.ev (show Env.ev _ (.tmp 7)=some (.pointer (some ⟨g',0,none⟩)) from rfl);have e2:=hf.ev (show Env.ev _ (.tmp 12)=some (.int .i64 out.length) from rfl);have fE:w.drew.shape? g'=some (5,(Jx out++sp).length):=(V3.ext (Ext.drew w)).shape;have Ke:(out.map UInt8.ofNat).length=out.length:=by simp
   have:=Lib.run_unsafeString_row (P:=Tryz.prog) w.drew 179 3 9 5 Tryz.underlying179 (by kernel_rfl) g' _ fE (out.map UInt8.ofNat) (by intro e;apply h0;rw[<-Ke,e];rfl) (by simp[vL]) (by rw[Ke];omega) (λj x hj=>by
    rw[(V3.ext (Ext.drew w)).cell];simp only[Vi,EM] at hj;obtain⟨y,hy,rfl⟩:=hj;have d9:j<out.length:=(Zw.1 hy).1;rw[ew (by rw[Xf];exact d9),Fj hy];have:=h8 y (Q2 hy);simp[iX this])
   rw[Ke] at this;simp only[execOp,resolve,invoke,builtin];simp[bL,e1,e2];rw[this]<;>rfl
  exact⟨rfl,(Mod.of_ext (Qk _) (Ext.drew w)).trans (Pa w.drew g' out.length (S:=Qk (some ⟨g',0,none⟩)) ⟨_,rfl,rfl⟩) (λi hi=>.inl hi)⟩
end
section
def aH {α:Type} [DecidableEq α](a:α):List (α×Value)->List (α×Value)
 | []=>[]
 | (b,v)::l=>if a=b then l else(b,v)::aH a l
theorem Sd {α:Type} [DecidableEq α](a:α):∀l:List (α×Value),(aH a l).Sublist l
 | []=>List.Sublist.refl _
 | (b,v)::l=>by
  unfold aH;split
  ·exact List.sublist_cons_self _ _
  ·exact(Sd a l).cons_cons _
theorem Sf {α:Type} [DecidableEq α]{a:α}:∀{l:List (α×Value)},a∉l.map (·.1)->XJ a l=none
 | [],_=>rfl
 | (b,v)::l,h=>by
  simp only[WA,Q0,not_or] at h;unfold XJ;rw[if_neg h.1];exact Sf h.2
theorem Sh {α:Type} [DecidableEq α](a b:α):∀l:List (α×Value),(l.map (·.1)).Nodup->XJ b (aH a l)=if b=a then none else XJ b l
 | [],_=>by simp[aH,XJ]
 | (d,u)::l,hn=>by
  simp only[WA,zU] at hn;unfold aH;split
  ·rename_i h;subst h;by_cases hb:b=a
   ·subst hb;rw[Qf rfl];exact Sf hn.1
   ·rw[if_neg hb];show _=if b=a then _ else XJ b l;rw[if_neg hb]
  ·rename_i h;have ih:=Sh a b l hn.2;simp only[XJ];by_cases hb:b=d
   ·rw[Qf hb,Qf hb,if_neg (λe=>h (by rw[<-e];exact hb))]
   ·rw[if_neg hb,if_neg hb,ih]
theorem Si {α:Type} [DecidableEq α](a:α)(v:Value):∀l:List (α×Value),(l.map (·.1)).Nodup->((Zg a v l).map (·.1)).Nodup/\∀x,x∈(Zg a v l).map (·.1)->x=a∨x∈l.map (·.1)
 | [],_=>by simp[Zg]
 | (b,u)::l,h=>by
  simp only[WA,zU] at h;unfold Zg;split
  ·rename_i Yo;exact⟨by simpa using h,λx hx=>.inr (by simpa using hx)⟩
  ·rename_i Yo;obtain⟨h1,h2⟩:=Si a v l h.2;refine⟨?_,λx hx=>?_⟩
   ·rw[WA,zU];exact⟨λhm=>by rcases h2 b hm with e | e;exact Yo e.symm;exact h.1 e,h1⟩
   ·rw[WA,Q0] at hx;rcases hx with rfl | hx
    ·exact .inr (by simp)
    ·rcases h2 x hx with e | e
     ·exact .inl e
     ·exact .inr (by rw[WA,Q0];exact .inr e)
theorem Sj {α:Type} [DecidableEq α]{d:TypeDesc}{kv:α->Value}(hk:KeyV d kv)(a:α):∀(m:List (α×Value))(bs:List Nat)(i:Nat),bs.length=m.length->
  ∃r,Instr.findNow d (kv a) (XX kv m bs) i=some r/\(∀j v,r=some (j,v)->i<=j/\j-i<m.length/\(XX kv m bs).eraseIdx (j-i)=XX kv (aH a m) (bs.eraseIdx (j-i))/\(aH a m).length+1=m.length)/\(r=none->aH a m=m)
 | [],bs,i,h=>⟨none,rfl,(λj v h=>nomatch h),λ_=>rfl⟩
 | (b,u)::m,[],i,h=>by simp at h
 | (b,u)::m,s::bs,i,h=>by
  have e:XX kv ((b,u)::m) (s::bs)={key:=kv b,val:=u,born:=s}::XX kv m bs:=rfl;rw[e];unfold Instr.findNow;simp only[hk.same];by_cases Yo:a=b
  ·subst Yo;simp only[decide_true];refine⟨some (i,u),rfl,λj v hj=>?_,λh=>by cases h⟩;cases hj;refine⟨QD _,by simp,?_,?_⟩
   ·rw[zN];simp[aH]
   ·simp[aH]
  ·simp only[Yo,decide_false];obtain⟨r,h1,h3,h4⟩:=Sj hk a m bs (i+1) (by simpa using h);refine⟨r,h1,λj v hj=>?_,λhn=>by simp[aH,Yo,h4 hn]⟩;obtain⟨h5,h6,h7,h8⟩:=h3 j v hj;refine⟨by omega,by simp;omega,?_,by simp[aH,Yo];omega⟩;rw[show j-i=(j-(i+1))+1 by omega];simp only[List.eraseIdx_cons_succ,h7,aH,Yo,if_false];rfl
theorem gQl {α:Type} [DecidableEq α]{kv:α->Value}{c:Cx}{o:Oper}{S:Env}{w:World}{K:Env->World->Prop}{Q:Zj}{t t2 ke e:Nat}{r rk:TyRow}{x y:Operand}{q:Nat}{m:List (α×Value)}{a:α}(hg:c.g.Ok)
  (ho:o.op= .call ⟨.builtin .delete, #[x,y], #[t,t2]⟩) (iF:o.dst=none) (hr:QX c.g.tys t=some r) (hd:r.d= .map ke e) (bB:QX c.g.tys ke=some rk) (hk:KeyV rk.d kv)
  (hx:S.ev x=some (.map (some q))) (hy:S.ev y=some (kv a)) (hm:MapAt kv w q m)
  (k:∀w1,Mod (·=q) w w1->w1.heap.size=w.heap.size->MapAt kv w1 q (aH a m)->K S w1):Zc c o S w K Q:=by
 have Xc:=(hg.row hr).1;rw[hd] at Xc;have gC:=(hg.row bB).1;obtain⟨bs,ck,hl,hb⟩:=hm.ex;have Q5:q<w.heap.size:=(iW.1 hb).1;obtain⟨res,h1,h3,h4⟩:=Sj hk a m bs 0 hl;have d8:(getObj q).run c.g.P w= .ok (.map (XX kv m bs).toArray ck) w:=by simp[getObj,Sem.run,hb]
 have fD:∀ob,(setObj q ob).run c.g.P w= .ok () {w with heap:=w.heap.setIfInBounds q ob}:=λob=>by simp[setObj,Sem.run,hb]
 have main:∃an,an.length=(aH a m).length/\(Builtin.delete_ #[t,t2] o.type #[.map (some q),kv a]).run c.g.P w= .ok (.tuple #[]) {w with heap:=w.heap.setIfInBounds q (.map (XX kv (aH a m) an).toArray ck)}:=by
  cases res with
  | none=>
   refine⟨bs,by rw[h4 rfl];exact hl,?_⟩;rw[h4 rfl];simp only[Builtin.delete_];simp[ZX Xc,d8,vP gC hk.plain,Instr.findKey,ZX gC,h1,fD]
  | some p=>
   obtain⟨j,u⟩:=p;obtain⟨_,h6,h7,h8⟩:=h3 j u rfl;simp only[Nat.sub_zero] at h6 h7;refine⟨bs.eraseIdx j,by rw[List.length_eraseIdx_of_lt (by omega)];omega,?_⟩;simp only[Builtin.delete_];simp[ZX Xc,d8,vP gC hk.plain,Instr.findKey,ZX gC,h1,fD];rw[h7]
 obtain⟨an,cg,Jj⟩:=main;unfold Zc;intro b hf;have e1:=hf.ev hx;have e2:=hf.ev hy;refine bI (v:=.tuple #[]) (w':={w with heap:=w.heap.setIfInBounds q (.map (XX kv (aH a m) an).toArray ck)}) ?_ ⟨S,by rw[iF];simpa [Act.put] using hf,k _ ⟨rfl,rfl,rfl,by simp,λi _ hi=>?_⟩ (by simp) ⟨an,ck,cg,by simp[Q5]⟩⟩
 ·simp only[execOp,ho,resolve,invoke,builtin];simp[e1,e2,Jj]
 ·simp only[EL];rw[if_neg (λe=>hi e.symm)]
theorem Own.kind {w:World}{base e sz n c i:Nat}{A:Option Addr}{cs:List Value}(h:Own w base e sz A n c cs)(hi:Qk A i):∃Ju,w.heap[i]? =some (.cells Ju e (0,0)):=by
 obtain⟨ad,rfl,rfl⟩:=hi;rcases h.row.2 with⟨hv,_⟩ | ⟨g,cap,Ju,hv,_,hg,_⟩
 ·cases hv
 ·cases hv;exact⟨Ju,hg⟩
theorem Own.apart {w:World}{b b' e e' sz sz' n n' c c' i:Nat}{A B:Option Addr}{cs cs':List Value}(h:Own w b e sz A n c cs)(h':Own w b' e' sz' B n' c' cs')(QK:e≠e')(hi:Qk A i):¬Qk B i:=λhj=>by
 obtain⟨c1,h1⟩:=h.kind hi;obtain⟨c2,h2⟩:=h'.kind hj;rw[h1] at h2;simp only[Option.some.injEq,Obj.cells.injEq] at h2;exact QK h2.2.1
theorem Blk.apart {w:World}{b e sz n c g t:Nat}{A:Option Addr}{cs cs':List Value}(h:Blk w g t cs)(h':Own w b e sz A n c cs')(QK:t≠e):¬Qk A g:=λhj=>by
 obtain⟨c2,h2⟩:=h'.kind hj;rw[show w.heap[g]? =_ from h] at h2;simp only[Option.some.injEq,Obj.cells.injEq] at h2;exact QK h2.2.1
theorem MapAt.apart {α:Type}{kv:α->Value}{w:World}{b e sz n c q:Nat}{A:Option Addr}{cs':List Value}{m:List (α×Value)}(h:MapAt kv w q m)(h':Own w b e sz A n c cs'):¬Qk A q:=λhj=>by
 obtain⟨c2,h2⟩:=h'.kind hj;obtain⟨bs,ck,_,h1⟩:=h.ex;rw[h1] at h2;cases h2
structure DgO (w:World) (S:Nat->Prop) (k:Nat) (x:DV) (o:BF):Prop where
 sb:SB w x.A x.n x.c x.nd
 st:Set1 k x.nd x.r o
 off:∀ad,x.A=some ad->0<x.n->¬S ad.block
theorem SB.modo {S:Nat->Prop}{w w':World}{A:Option Addr}{n c:Nat}{nd:List Br}(h:SB w A n c nd)(hm:Mod S w w')(hr:∀ad,A=some ad->0<n->¬S ad.block):SB w' A n c nd:=
 ⟨h.1.modS hm (λh0 i hi=>by obtain⟨ad,e,rfl⟩:=hi;exact hr ad e h0),h.2⟩
theorem DgO.step {w w':World}{S S':Nat->Prop}{k:Nat}{x:DV}{o:BF}(h:DgO w S k x o)(hm:Mod S w w')(hs:∀i,S' i->S i∨w.heap.size<=i):DgO w' S' k x o:=
 ⟨h.sb.modo hm h.off,h.st,λad e h0 hS=>by
  rcases hs _ hS with h1 | h1
  ·exact h.off ad e h0 h1
  ·have:=SB.lt h.sb ad e h0;omega⟩
theorem DgO.keep {w w':World}{S T:Nat->Prop}{k:Nat}{x:DV}{o:BF}(h:DgO w S k x o)(hm:Mod T w w')(ht:∀i,T i->S i∨w.heap.size<=i):DgO w' S k x o:=
 ⟨h.sb.modo (hm.mono ht) h.off,h.st,h.off⟩
theorem DgO.ext {w w':World}{S:Nat->Prop}{k:Nat}{x:DV}{o:BF}(h:DgO w S k x o)(hE:Ext w w'):DgO w' S k x o:=⟨h.sb.ext hE,h.st,h.off⟩
theorem DgO.new {w w':World}{S:Nat->Prop}{k:Nat}{A:Option Addr}{n c:Nat}{nd:List Br}{r:Int}{o:BF}(hb:SB w' A n c nd)(hs:Set1 k nd r o)(hr:∀i,Qk A i->w.heap.size<=i)(hS:∀i,S i->i<w.heap.size):DgO w' S k ⟨A,n,c,nd,r⟩ o:=
 ⟨hb,hs,λad e _ h=>by have:=hr ad.block ⟨ad,e,rfl⟩;have:=hS _ h;omega⟩
end
section
def gW (c:Nat)(l:List Nat):Int:=if c∈l then((l.takeWhile (λb=>b !=c)).length:Nat)else -1
theorem Sk {b c:Nat}(hb:b<256)(hc:c<256):(UInt8.ofNat b==UInt8.ofNat c)=(b==c):=by
 rw[jZ];simp only[beq_iff_eq];constructor
 ·intro h;have:=QO UInt8.toNat h;simpa [iX hb,iX hc] using this
 ·intro h;rw[h]
theorem Bs {c:Nat}(hc:c<256):∀{l:List Nat},(∀x∈l,x<256)->Lib.indexByte (l.map UInt8.ofNat) (UInt8.ofNat c)=gW c l
 | [],_=>rfl
 | b::l,h=>by
  have ih:=Bs hc (l:=l) (λx hx=>h x (by simp[hx]));have hb:b<256:=h b (by simp);rw[WA,Lib.indexByte,Sk hb hc,ih];unfold gW;by_cases zd:b=c
  ·subst zd;simp
  ·have h1:(b==c)=false:=by simpa using zd
   rw[h1];by_cases hm:c∈l
   ·have h3:¬c=b:=λe=>zd e.symm
    simp[hm,zd,h3]
   ·have h3:¬c=b:=λe=>zd e.symm
    simp[hm,h3]
theorem wG (l:List Nat):(Qe l).data.toList=l.map UInt8.ofNat:=by simp[Qe]
theorem wH {P:Program}{f:FuncId}{l:List Value}{w:World}{v:Value}(h:Calls P f l.toArray w λe w'=>e= .returned v/\w'=w):Fn P f l w (λu w'=>u=v/\w=w'):=by
 unfold Fn;exact h.mono λe w' he=>by obtain⟨rfl,rfl⟩:=he;exact⟨rfl,rfl⟩
theorem Gj (l:List Nat)(c:Nat)(w:World)(hl:∀x∈l,x<256)(hc:c<256):
  Fn Tryz.prog 94 [.string (Qe l),.int .u8 c] w (λv w'=>v= .int .i64 (gW c l)/\w=w'):=by
 have h:=Tryz.strings_IndexByte (Qe l) (c:Int) w;have e:((c:Int).toNat.toUInt8)=UInt8.ofNat c:=rfl;rw[wG,e,Bs hc hl] at h;exact wH h
theorem Sm (l:List Nat)(c:Nat)(w:World)(hl:∀x∈l,x<256)(hc:c<256):
  Fn Tryz.prog 204 [.string (Qe l),.string (Qe [c])] w (λv w'=>v= .int .i64 (l.count c)/\w=w'):=by
 have h:=Tryz.strings_Count_one (Qe l) (UInt8.ofNat c) w;have e:Lib.countByte (Qe l).data.toList (UInt8.ofNat c)=l.count c:=by
  rw[wG];unfold Lib.countByte;clear h;induction l with
  | nil=>rfl
  | cons b l ih=>
   rw[WA,zQ,zQ,ih (λx hx=>hl x (by simp[hx])),Sk (hl b (by simp)) hc]
 rw[e] at h;exact wH h
def JR (l:List Nat):List Nat:=l.takeWhile (λb=>b !=32)
def Vm (l:List Nat):List Nat:=l.drop ((JR l).length+1)
theorem gQm (l:List Nat):l.take (JR l).length=JR l:=(List.prefix_iff_eq_take.1 (List.takeWhile_prefix _)).symm
theorem So {l:List Nat}:(JR l).length<l.length↔32∈l:=by
 unfold JR;induction l with
 | nil=>simp
 | cons b l ih=>
  by_cases hb:b=32
  ·subst hb;simp
  ·have:(b !=32)=true:=by simpa using hb
   rw[WW,Qf this];simp only[Xs,Nat.add_lt_add_iff_right,ih,Q0];constructor
   ·exactλh=>.inr h
   ·rintro(h | h)
    ·exact Xd h.symm hb
    ·exact h
theorem gQn {l:List Nat}(h:32∈l):l=JR l++32::Vm l:=by
 unfold Vm JR;induction l with
 | nil=>simp at h
 | cons b l ih=>
  by_cases hb:b=32
  ·subst hb;simp
  ·have h1:(b !=32)=true:=by simpa using hb
   rw[WW,Qf h1];simp only[Xs,NS,YK];congr 1;refine ih ?_;simp only[Q0] at h;rcases h with h | h
   ·exact Xd h.symm hb
   ·exact h
theorem Gk {l:List Nat}(h:32∉l):JR l=l:=by
 unfold JR;induction l with
 | nil=>rfl
 | cons b l ih=>
  simp only[Q0,not_or] at h;have h1:(b !=32)=true:=by simpa using λe=>h.1 e.symm
  rw[WW,Qf h1,ih h.2]
theorem gQo {l:List Nat}(h:32∈l):((l.takeWhile (λb=>b !=32)).length:Nat)<l.length:=So.2 h
theorem gQp (l:List Nat)(w:World)(hl:∀x∈l,x<256)(Xf:l.length<=1000000000000):
  Fn Tryz.prog 201 [.string (Qe l),.string (Qe [32])] w (λv w'=>(v=if 32∈l then .tuple #[.string (Qe (JR l)),.string (Qe (Vm l)),.bool true] else .tuple #[.string (Qe l),.string (Qe []),.bool false])/\Ext w w'):=by
 refine Qx (c:=dQQ) Qa Tryz.func201 rfl rfl rfl ?_;have h:=Tryz.stringslite_Index_one (Qe l) (UInt8.ofNat 32) w;rw[wG,Bs (by decide) hl] at h;refine call (wH h) ?_;rintro _ _ ⟨rfl,rfl⟩;unfold gW;by_cases hm:32∈l
 ·rw[Qf hm,Qf hm];have Q5:=gQo hm;refine Zd (by show(0:Int)<=_;omega) ?_;refine vK Qa (by kernel_rfl) ?_;refine Jz (v':=.string (Qe (JR l))) ⟨mv _,by omega,by rw[XC];omega⟩ ?_ ?_
  ·rw[Vc];exact QO (λx=>Value.string (Qe x)) (gQm l)
  refine Qj (((JR l).length+1:Nat):Int) (by rw[XC];show((_:Nat):Int)+1=_;unfold JR;omega) (by unfold JR;omega) ?_;refine Jz (v':=.string (Qe (Vm l))) ⟨by omega,by rw[XC];unfold JR;omega,by rw[XC];omega⟩ ?_ ?_
  ·rw[Vc];unfold Vm;rw[XC];show Value.string (Qe ((l.take l.length).drop _))=_;rw[Zz (QD _)]<;>rfl
  exactλw' hE=>⟨rfl,hE⟩
 ·rw[if_neg hm,if_neg hm];refine Xx (by decide) ?_;exact⟨rfl,Ext.refl _⟩
theorem gQq (l:List Nat)(w:World)(hl:∀x∈l,x<256)(Xf:l.length<=1000000000000):
  Fn Tryz.prog 143 [.string (Qe l),.string (Qe [32])] w (λv w'=>(v=if 32∈l then .tuple #[.string (Qe (JR l)),.string (Qe (Vm l)),.bool true] else .tuple #[.string (Qe l),.string (Qe []),.bool false])/\Ext w w'):=by
 refine Qx (c:=dQb) Qa Tryz.func143 rfl rfl rfl ?_;refine call (gQp l w hl Xf) ?_;rintro v w1 ⟨rfl,Qd⟩;by_cases hm:32∈l
 ·rw[Qf hm];exact⟨rfl,Qd⟩
 ·rw[if_neg hm];exact⟨rfl,Qd⟩
theorem kP {kw s:List Nat}(hk:32∉kw):(kw++ [32]).isPrefixOf s=true↔JR s=kw/\32∈s:=by
 rw[bQN];constructor
 ·rintro⟨r,rfl⟩;refine⟨?_,by simp⟩;unfold JR;rw[K9,List.takeWhile_append_of_pos (λx hx=>by simpa using λe=>hk (by rw[<-e];exact hx))];simp
 ·rintro⟨h1,h2⟩;have:=gQn h2;rw[h1] at this;exact⟨Vm s,by rw[K9];exact this.symm⟩
theorem Gl {kw s:List Nat}(h:JR s=kw):s.drop (kw.length+1)=Vm s:=by unfold Vm;rw[h]
def mV:List Nat:=[35,105,102]
def tH:List Nat:=[35,101,108,105,102]
def pV:List Nat:=[35,105,110,99,108,117,100,101]
theorem gQr {s:List Nat}(h:JR s=mV)(hm:32∈s):JC s= .ifd (Vm s):=by
 unfold JC;rw[Qf (show ZH.isPrefixOf s=true from (kP (kw:=mV) (by decide)).2 ⟨h,hm⟩),<-Gl h]<;>rfl
theorem gQs {s:List Nat}(h:JR s=pV)(hm:32∈s):JC s= .inc (Vm s):=by
 unfold JC;rw[if_neg (λhp=>by have:=((kP (kw:=mV) (by decide)).1 hp).1;rw[h] at this;cases this),Qf (show pInc.isPrefixOf s=true from (kP (kw:=pV) (by decide)).2 ⟨h,hm⟩),<-Gl h];rfl
theorem gQt {s:List Nat}(h:JR s=tH)(hm:32∈s):JC s= .elif (Vm s):=by
 unfold JC;rw[if_neg (λhp=>by have:=((kP (kw:=mV) (by decide)).1 hp).1;rw[h] at this;cases this),if_neg (λhp=>by have:=((kP (kw:=pV) (by decide)).1 hp).1;rw[h] at this;cases this),
  Qf (show pElif.isPrefixOf s=true from (kP (kw:=tH) (by decide)).2 ⟨h,hm⟩),<-Gl h];rfl
theorem gQu {s:List Nat}(h1:¬(JR s=mV/\32∈s))(h2:¬(JR s=pV/\32∈s))(h3:¬(JR s=tH/\32∈s)):JC s=if s=Vl then .els else if s=Zq then .en else .txt:=by
 unfold JC;rw[if_neg (λ(hp:ZH.isPrefixOf s=true)=>h1 ((kP (kw:=mV) (by decide)).1 hp)),if_neg (λ(hp:pInc.isPrefixOf s=true)=>h2 ((kP (kw:=pV) (by decide)).1 hp)),if_neg (λ(hp:pElif.isPrefixOf s=true)=>h3 ((kP (kw:=tH) (by decide)).1 hp))]
end
section
section
variable {P:Program} {ops:Array Oper} {md:Region.Mode} {C:World->Prop} {Q:Exit->Act->World->Prop}
def PanW (N:Slots)(Xk:List PanicEntry->World->Prop)(Q:Exit->Act->World->Prop):Exit->Act->World->Prop
 | .panic ch,a,w=>a.tmps.size=N.n/\a.defers=N.ds/\Xk ch w
 | e,a,w=>Q e a w
theorem PanW.put {N:Slots}{Xk:List PanicEntry->World->Prop}{Q:Exit->Act->World->Prop}{ch:List PanicEntry}{a:Act}{d:Option Tmp}{v:Value}{w:World}(h:PanW N Xk Q (.panic ch) (a.put d v) w):PanW N Xk Q (.panic ch) a w:=by
 obtain⟨h1,h2,h3⟩:=h;cases d with
 | none=>exact⟨h1,h2,h3⟩
 | some d=>exact⟨by simpa [Act.put] using h1,by simpa [Act.put] using h2,h3⟩
theorem PanW.imp {c:Cx}{Xk:List PanicEntry->World->Prop}{Q:Zj}(hp:∀ch S w,Xk ch w->Q (.panic ch) S w):∀(e:Exit)(a:Act)(w:World),PanW c.N Xk (Up c Q) e a w->Up c Q e a w:=λe a w h=>by
 cases e<;>first | exact h | (obtain⟨h1,h2,h3⟩:=h;exact⟨[],⟨h1,h2,λk x hk=>by simp[Env.ent] at hk⟩,hp _ _ _ h3⟩)
theorem gQv {N:Slots}{Xk:List PanicEntry->World->Prop}{n i:Nat}{oi:Oper}{v:Value}{L:Array Bool->Act->World->Prop}(hi:ops[i]? =some oi)(oK:∀(j:Nat)(o:Oper) cs b,ops[j]? =some o->o.op≠ .select cs b)
  (hs:kl md ops n) (QN:i<n) (yM:∀listed a w,L listed a w->∀j∈Region.ready md ops listed,n<=j):
  ∀(f:Nat) (listed:Array Bool) (a:Act) (w:World),HeadInv md ops n listed->
   (∀j oj,ops[j]? =some oj->j≠i->listed.getD j true=false->(∀e∈oj.after,Region.binds md e=true->e.on≠i)->oi.apart ops oj=true)->
   i∈Region.ready md ops listed->YieldsIf P ops C oi v a->C w->
   aA P md ops (PanW N Xk Q) C n L f (listed.setIfInBounds i true) (a.put oi.dst v) w->aA P md ops (PanW N Xk Q) C n L (f+1) listed a w:=by
 intro f;induction f with
 | zero=>
  intro listed a w inv _ hr hy hC H;have JV:=(mem_ready.1 hr).1;refine⟨λh=>(by rw[h] at hr;cases hr),λj hj=>?_⟩;have JW:=sI hs inv QN JV j hj;refine⟨JW,?_⟩;by_cases Kp:j=i
  ·subst Kp;exact hy.wpOp hi hC ⟨hC,H⟩
  ·have:=yM _ _ _ H j (ready_mono hj Kp);omega
 | succ f ih=>
  intro listed a w inv oL hr hy hC H;have JV:=(mem_ready.1 hr).1;refine⟨λh=>(by rw[h] at hr;cases hr),λj hj=>?_⟩;have JW:=sI hs inv QN JV j hj;refine⟨JW,?_⟩;by_cases Kp:j=i
  ·subst Kp;exact hy.wpOp hi hC ⟨hC,H⟩
  ·have h1:=(H.2 j (ready_mono hj Kp)).2;obtain⟨oM,oj,fC,hall⟩:=mem_ready.1 hj;have lO:∀e∈oj.after,Region.binds md e=true->e.on≠i:=λe he hb heq=>by
    have h1:=hall e he hb;rw[heq,getD_both JV] at h1;cases h1
   have h2:=wpOp_putIf fC (oL j oj fC Kp oM lO) (λcs b=>oK i oi cs b hi) (λcs b=>oK j oj cs b fC) (λ_ _ _ h=>PanW.put h) hy h1;have yN:∀k ok,ops[k]? =some ok->k≠i->(listed.setIfInBounds j true).getD k true=false->
     (∀e∈ok.after,Region.binds md e=true->e.on≠i)->oi.apart ops ok=true:=λk ok hk yO JV Xa=>by
    refine oL k ok hk yO ?_ Xa;by_cases oN:j=k
    ·subst oN;exact oM
    ·rw[getD_set_ne true oN] at JV;exact JV
   refine wpOp_mono (λa' w' h3=>⟨h3.2.1,ih (listed.setIfInBounds j true) a' w' (inv.set hj JW) yN (ready_mono hr (Ne.symm Kp)) h3.1 h3.2.1 ?_⟩) h2;rw[bQM _ _ Kp];exact h3.2.2
end
section
variable {c:Cx} {S:Env} {a:Act}
def kQ (c:Cx)(Xk:List PanicEntry->World->Prop)(all:List Oper)(C:World->Prop):List (Bool×Nat)->Env->World->(Env->World->Prop)->Prop
 | [],S,w,K=>K S w
 | (true,k)::l,S,w,K=>match VU all k with
  | some o=>je all o S (λS=>sK c o S C (λS=>kQ c Xk all C l S w K)) (λS=>Xn c S o.dst (.v undef) (λS=>kQ c Xk all C l S w K))
  | none=>False
 | (false,k)::l,S,w,K=>match VU all k with
  | some o=>je all o S (λS=>eF c o S w (λS w=>C w/\kQ c Xk all C l S w K) (λe _ w=>match e with
   | .panic ch=>Xk ch w
   | _=>False)) (λS=>Xn c S o.dst (.v undef) (λS=>kQ c Xk all C l S w K))
  | none=>False
theorem Bt (hg:c.g.Ok){md:Region.Mode}{ops:List Oper}{C:World->Prop}{Q:Exit->Act->World->Prop}{n:Nat}(hs:Region.noSelect ops.toArray=true)(hk:kl md ops.toArray n){K:Env->World->Prop}{Xk:List PanicEntry->World->Prop}:
  ∀(l:List (Bool×Nat)) (listed:Array Bool) (S:Env) (a:Act) (w:World),HeadInv md ops.toArray n listed->dC md ops.toArray n l listed=true->kQ c Xk ops C l S w K->Fits c.N S a->C w->
  aA c.g.P md ops.toArray (PanW c.N Xk Q) C n (λKJ a' w'=>Region.seqB md ops.toArray (ops.toArray.size-n) n KJ=true/\∃S',Fits c.N S' a'/\K S' w') l.length listed a w
 | [],listed,S,a,w,inv,hB,h,hf,hC=>⟨hB,S,hf,h⟩
 | (true,k)::l,listed,S,a,w,inv,hB,h,hf,hC=>by
  simp only[dC,Jv] at hB;obtain⟨⟨⟨Xp,hr⟩,lM⟩,V3⟩:=hB;have Xp:k<n:=by rw[j0] at Xp;exact Xp
  have Xc:k∈Region.ready md ops.toArray listed:=by simpa using hr
  obtain⟨_,o,ho,_⟩:=mem_ready.1 Xc;have hn:VU ops k=some o:=by rw[i9];simpa using ho
  simp only[kQ,hn] at h;have key:∃v,YieldsIf c.g.P ops.toArray C o v a/\∃S',Fits c.N S' (a.put o.dst v)/\kQ c Xk ops C l S' w K:=by
   rcases mI h hf with⟨hw,S1,ZN,h1⟩ | ⟨hw,S1,ZN,h1⟩
   ·obtain⟨v,h2,h3⟩:=AG hg h1 ZN;exact⟨v,.inl ⟨hw,h2⟩,h3⟩
   ·exact⟨undef,.inr ⟨hw,rfl⟩,ZA (e:=.v undef) h1 ZN⟩
  obtain⟨v,hy,S',Q8,h'⟩:=key;exact gQv ho (Region.noSelect_spec hs) hk Xp (λKJ a' w' hL=>seqB_ready hL.1) l.length listed a w inv (Region.free_spec ho lM) Xc hy hC
   (Bt hg hs hk l _ S' _ w (inv.set Xc Xp) V3 h' Q8 hC)
 | (false,k)::l,listed,S,a,w,inv,hB,h,hf,hC=>by
  simp only[dC,Jv,Vb] at hB;obtain⟨⟨Xp,hr⟩,V3⟩:=hB;have Xp:k<n:=by rw[j0] at Xp;exact Xp
  have Xc:k∈Region.ready md ops.toArray listed:=by rw[hr];simp
  obtain⟨_,o,ho,_⟩:=mem_ready.1 Xc;have hn:VU ops k=some o:=by rw[i9];simpa using ho
  simp only[kQ,hn] at h;have iD:=inv.set Xc Xp;refine⟨λh0=>(by rw[hr] at h0;cases h0),λi hi=>?_⟩;rw[hr] at hi;have yP:i=k:=by simpa using hi
  subst yP;refine⟨Xp,?_⟩;unfold wpOp;simp only[ho];rcases mI h hf with⟨hw,S1,ZN,h1⟩ | ⟨hw,S1,ZN,h1⟩
  ·rw[Qf hw];refine .inl ?_;have h2:=sw hg h1 ZN;have h3:=Oper.wp_mono (K':=λa' w'=>C w'/\aA c.g.P md ops.toArray (PanW c.N Xk Q) C n (λKJ a' w'=>Region.seqB md ops.toArray (ops.toArray.size-n) n KJ=true/\∃S',Fits c.N S' a'/\K S' w') l.length (listed.setIfInBounds i true) a' w')
    (λa' w' ⟨S',Q8,Kl,Yn⟩=>⟨Kl,Bt hg hs hk l _ S' a' w' iD V3 Yn Q8 Kl⟩) h2
   unfold Oper.wp at h3 ⊢;generalize (execOp a.eval o).run c.g.P w=r at*;cases r with
   | ok nx w'=>
    cases nx<;>simp only[Oper.upon] at h3 ⊢ <;> try exact h3
    exact h3.mono λe KI he=>by
     cases e with
     | returned v=>exact he
     | panicked ch=>obtain⟨_,hfz,he⟩:=he;exact⟨hfz.size,hfz.defers,he⟩
     | outgrown=>obtain⟨_,_,_,_,he⟩:=he;exact he.elim
   | halt x w'=>cases x<;>simp only[Oper.upon] at h3 ⊢ <;> first | exact h3 | (obtain⟨_,hfz,h3⟩:=h3;exact⟨hfz.size,hfz.defers,h3⟩) | (obtain⟨_,_,h3⟩:=h3;exact h3.elim)
  ·rw[if_neg (by rw[hw];decide)];obtain⟨S',Q8,h'⟩:=ZA (e:=.v undef) h1 ZN;exact⟨hC,Bt hg hs hk l _ S' _ w iD V3 h' Q8 hC⟩
theorem gQw (hg:c.g.Ok){id:Nat}{ops:List Oper}{w:World}{Q:Zj}(Xk:List PanicEntry->World->Prop)(MQ:∀ch S w,Xk ch w->Q (.panic ch) S w)(C:World->Prop)(n:Nat)(plan:List (Bool×Nat))
  (hB:(Region.noSelect ops.toArray&&Nat.beq plan.length n&&sJ .any ops.toArray n&&dC .any ops.toArray n plan (Array.replicate ops.toArray.size false))=true) (hC:C w.drew)
  (h:kQ {c with named:=1000000} Xk ops C plan S w.drew (λS w=>YN c ops (ops.drop n) S w (λS w=>Q .normal S w) (λe _ w=>match e with
   | .panic ch=>Xk ch w
   | _=>False))):aw c id ops S w Q:=by
 unfold aw;intro a hf;simp only[Jv] at hB;obtain⟨⟨⟨hs,hl⟩,ce⟩,Jt⟩:=hB;have hl:=VR hl;have hk:=AF ce;have Mn:n<=ops.length:=by
  rcases hk with hk | hk
  ·rw[hk];simp
  ·have:=hk.1;simp at this;omega
 refine Code.wp_mono (PanW.imp MQ) (wp_region_any hg.mixed ?_);have qp:HeadInv .any ops.toArray n (Array.replicate ops.toArray.size false):=
  ⟨by simp,λj oj _ hl=>(by rw[getD_replicate_false] at hl;cases hl),λt _ ht=>getD_in (by simpa using ht) (getD_replicate_false _ _)⟩
 have H:=Bt (c:={c with named:=1000000}) hg (Q:=Up c Q) hs hk plan _ S a _ qp Jt h hf hC;have YI:(ops.drop n).length=ops.toArray.size-n:=by simp
 have H2:=vM (Q:=PanW c.N Xk (Up c Q)) (g:=ops.toArray.size-n) (λKJ a' w' hL=>by
  obtain⟨hq,S',Q8,Yn⟩:=hL;have h2:=kh (c:=c) hg ops _ _ _ _ Yn Q8;have:=wpAny_of_seq (P:=c.g.P) (md:=.any) (ops:=ops.toArray) (Q':=PanW c.N Xk (Up c Q)) (ops.drop n) n KJ a' w' (λj=>by simp) (by rw[YI];exact hq) (mH (λe a w hq=>by
   cases e with
   | normal=>exact hq
   | panic ch=>obtain⟨_,hfz,h⟩:=hq;exact⟨hfz.size,hfz.defers,h⟩
   | _=>exact Xd hq (by rintro⟨_,_,h⟩;exact h)) h2)
  rwa [YI] at this) _ _ _ _ H
 rw[hl,show n+(ops.toArray.size-n)=ops.toArray.size by simp;omega] at H2;exact H2
end
end
end
section
def Kt (l:List Nat):Int:=if ZH.isPrefixOf l then 1 else if l=Zq then -1 else 0
def dp (ls:List (List Nat)):Int:=(ls.map Kt).sum
theorem Bu (l:List Nat)(ls:List (List Nat)):dp (l::ls)=Kt l+dp ls:=by simp[dp]
theorem Sp (a b:List (List Nat)):dp (a++b)=dp a+dp b:=by simp[dp]
theorem Gm (a:List (List Nat)):dp a.reverse=dp a:=by
 induction a with
 | nil=>rfl
 | cons x a ih=>rw[List.reverse_cons,Sp,ih,Bu,Bu];simp[dp];omega
def kR:List (List Nat)->List (List Nat)->Nat->Nat->Int->Nat
 | x::a,y::b,k,best,o=>if x=y then kR a b (k+1) (if o+Kt x=0 then k+1 else best) (o+Kt x)else best
 | _,_,_,best,_=>best
def kS (a b:List (List Nat))(o:Int)(q:Nat):Prop:=1<=q/\q<=a.length/\q<=b.length/\a.take q=b.take q/\o+dp (a.take q)=0
theorem Gn {x y:List Nat}{a b:List (List Nat)}{o:Int}{q:Nat}(hq:1<=q):kS (x::a) (y::b) o (q+1)↔x=y/\kS a b (o+Kt x) q:=by
 unfold kS;simp only[Xs,vi,List.cons.injEq,Bu];constructor
 ·rintro⟨_,h2,h3,⟨rfl,h4⟩,h5⟩;exact⟨rfl,hq,by omega,by omega,h4,by omega⟩
 ·rintro⟨rfl,_,h2,h3,h4,h5⟩;exact⟨by omega,by omega,by omega,⟨rfl,h4⟩,by omega⟩
theorem Sq:∀(a b:List (List Nat))(k best:Nat)(o:Int),((∀q,¬kS a b o q)/\kR a b k best o=best)∨∃p,kS a b o p/\(∀q,kS a b o q->q<=p)/\kR a b k best o=k+p
 | [],b,k,best,o=>.inl ⟨λq h=>by have:=h.1;have:=h.2.1;simp at this;omega,by cases b<;>rfl⟩
 | x::a,[],k,best,o=>.inl ⟨λq h=>by have:=h.1;have:=h.2.2.1;simp at this;omega,rfl⟩
 | x::a,y::b,k,best,o=>by
  rw[kR];by_cases Xl:x=y
  ·rw[Qf Xl];have one:kS (x::a) (y::b) o 1↔o+Kt x=0:=by
    unfold kS;simp[Xl,dp]
   rcases Sq a b (k+1) (if o+Kt x=0 then k+1 else best) (o+Kt x)with⟨h1,h2⟩ | ⟨p,h1,h2,h3⟩
   ·have lst:∀q,kS (x::a) (y::b) o q->q=1:=λq hq=>by
     have:=hq.1
     match q,hq with
     | 1,_=>rfl
     | q+2,hq=>exact Xd ((Gn (by omega)).1 hq).2 (h1 _)
    by_cases h0:o+Kt x=0
    ·rw[Qf h0] at h2 ⊢;exact .inr ⟨1,one.2 h0,λq hq=>by rw[lst q hq];exact QD _,h2⟩
    ·rw[if_neg h0] at h2 ⊢;exact .inl ⟨λq hq=>by have:=lst q hq;subst this;exact h0 (one.1 hq),h2⟩
   ·refine .inr ⟨p+1,(Gn h1.1).2 ⟨Xl,h1⟩,λq hq=>?_,by rw[h3];omega⟩
    match q,hq with
    | 0,_=>omega
    | 1,_=>omega
    | q+2,hq=>have:=h2 _ ((Gn (by omega)).1 hq).2;omega
  ·rw[if_neg Xl];refine .inl ⟨λq hq=>?_,rfl⟩
   match q,hq with
   | 0,hq=>exact Xd hq.1 (by omega)
   | q+1,hq=>have:=hq.2.2.2.1;simp at this;exact Xl this.1
def Vn (a b:List (List Nat)):Nat:=kR a b 0 0 0
theorem wI (a b:List (List Nat)):Vn a b<=a.length/\Vn a b<=b.length/\a.take (Vn a b)=b.take (Vn a b)/\dp (a.take (Vn a b))=0/\∀q,q<=a.length->q<=b.length->a.take q=b.take q->dp (a.take q)=0->q<=Vn a b:=by
 unfold Vn;rcases Sq a b 0 0 0 with⟨h1,h2⟩ | ⟨p,h1,h2,h3⟩
 ·rw[h2];refine⟨Xt _,Xt _,rfl,rfl,λq q1 q2 q3 q4=>?_⟩;by_cases h0:q=0
  ·omega
  ·exact Xd ⟨by omega,q1,q2,q3,by omega⟩ (h1 q)
 ·rw[h3,aq];obtain⟨p1,p2,p3,p4,p5⟩:=h1;refine⟨p2,p3,p4,by omega,λq q1 q2 q3 q4=>?_⟩;by_cases h0:q=0
  ·omega
  ·exact h2 q ⟨by omega,q1,q2,q3,by omega⟩
def cI (a b:List (List Nat)):Nat:=Vn a.reverse b.reverse
theorem pW {α:Type}(a:List α)(q:Nat)(h:q<=a.length):a.reverse.take q=(a.drop (a.length-q)).reverse:=by
 rw[List.take_reverse]
theorem Gp (a b:List (List Nat)):cI a b<=a.length/\cI a b<=b.length/\a.drop (a.length-cI a b)=b.drop (b.length-cI a b)/\dp (a.drop (a.length-cI a b))=0/\∀q,q<=a.length->q<=b.length->a.drop (a.length-q)=b.drop (b.length-q)->dp (a.drop (a.length-q))=0->q<=cI a b:=by
 obtain⟨h1,h2,h3,h4,h5⟩:=wI a.reverse b.reverse;rw[NU] at h1 h2;unfold cI;rw[pW _ _ h1,pW _ _ h2] at h3;rw[pW _ _ h1,Gm] at h4;refine⟨h1,h2,by simpa using h3,h4,λq q1 q2 q3 q4=>h5 q (by simpa using q1) (by simpa using q2) ?_ ?_⟩
 ·rw[pW _ _ q1,pW _ _ q2,q3]
 ·rw[pW _ _ q1,Gm];exact q4
def JS (nm:List (List Nat))(v:Nat)(ng:Bool):List Nat:=ZH++((if ng then [33] else [])++(nm[v]?).getD [])
def YE (nm:List (List Nat))(v:Nat)(h l:List (List Nat)):List (List Nat):=
 let p:=Vn h l
 let h1:=h.drop p
 let l1:=l.drop p
 let s:=cI h1 l1
 let h2:=h1.take (h1.length-s)
 let l2:=l1.take (l1.length-s)
 h.take p++((if h2=[] then JS nm v true::l2 else JS nm v false::(h2++if l2=[] then [] else Vl::l2))++Zq::h1.drop (h1.length-s))
inductive Tr where
 | nil
 | ln (s:List Nat) (r:Tr)
 | sc (v:Nat) (ng:Bool) (h l r:Tr)
def fl (nm:List (List Nat)):Tr->List (List Nat)
 | .nil=>[]
 | .ln s r=>s::fl nm r
 | .sc v ng h .nil r=>JS nm v ng::(fl nm h++Zq::fl nm r)
 | .sc v ng h l r=>JS nm v ng::(fl nm h++Vl::(fl nm l++Zq::fl nm r))
deriving instance DecidableEq for Dir
def Zi:List Nat->List (List Nat)
 | []=>[[]]
 | b::l=>if b=10 then [10]::Zi l else match Zi l with
  | []=>[[b]]
  | s::ls=>(b::s)::ls
theorem tI:∀l,Zi l≠ []
 | []=>by simp[Zi]
 | b::l=>by
  unfold Zi;split
  ·simp
  ·split<;>simp
theorem tJ:∀l,(Zi l).length=l.count 10+1
 | []=>rfl
 | b::l=>by
  have ih:=tJ l;unfold Zi;split
  ·rename_i h;subst h;simp[ih]
  ·rename_i h;rw[List.count_cons_of_ne h];split
   ·rename_i e;exact Xd e (tI l)
   ·rename_i e;rw[e] at ih;exact ih
theorem wJ:∀{l},10∉l->Zi l=[l]
 | [],_=>rfl
 | b::l,h=>by
  simp only[Q0,not_or] at h;unfold Zi;rw[if_neg (λe=>h.1 e.symm),wJ h.2]
def W6 (l:List Nat):List Nat:=l.takeWhile (λb=>b !=10)
theorem gQx {l:List Nat}(h:10∈l):(W6 l).length<l.length:=by
 unfold W6;induction l with
 | nil=>cases h
 | cons b l ih=>
  by_cases hb:b=10
  ·subst hb;simp
  ·have h1:(b !=10)=true:=by simpa using hb
   rw[WW,Qf h1];simp only[Xs,Nat.add_lt_add_iff_right];exact ih ((Q0.1 h).resolve_left (λe=>hb e.symm))
theorem Gq:∀{l},10∈l->Zi l=l.take ((W6 l).length+1)::Zi (l.drop ((W6 l).length+1))
 | [],h=>by cases h
 | b::l,h=>by
  by_cases hb:b=10
  ·subst hb;rw[Zi,Qf rfl];have e:W6 (10::l)=[]:=by simp[W6]
   rw[e]<;>rfl
  ·have h1:(b !=10)=true:=by simpa using hb
   have e:W6 (b::l)=b::W6 l:=by unfold W6;rw[WW,Qf h1]
   have ih:=Gq ((Q0.1 h).resolve_left (λe=>hb e.symm));rw[Zi,if_neg hb,ih,e]<;>rfl
theorem Bv:∀{l},(∀x∈l,x<256)->∀s∈Zi l,(∀x∈s,x<256)/\s.length<=l.length
 | [],_,s,hs=>by
  have:s=[]:=by simpa [Zi] using hs
  subst this;exact⟨(λx hx=>by cases hx),QD _⟩
 | b::l,h,s,hs=>by
  have ih:=Bv (l:=l) (λx hx=>h x (by simp[hx]));unfold Zi at hs;split at hs
  ·rcases Q0.1 hs with rfl | hs
   ·exact⟨by decide,by simp⟩
   ·exact⟨(ih s hs).1,Nat.le_succ_of_le (ih s hs).2⟩
  ·split at hs
   ·rename_i e;exact Xd e (tI l)
   ·rename_i t ts e;rw[e] at ih;rcases Q0.1 hs with rfl | hs
    ·have:=ih t (by simp);exact⟨λx hx=>(Q0.1 hx).elim (λe=>e▸h b (by simp)) (this.1 x),by simp;exact this.2⟩
    ·have:=ih s (by simp[hs]);exact⟨this.1,Nat.le_succ_of_le this.2⟩
def KP (l:List Nat):List (List Nat):=if(Zi l).getLast? =some [] then(Zi l).dropLast else Zi l
theorem Sr:∀{l},YC l->Zi l=(QZ l).map (·++ [10])++ [[]]
 | [],_=>rfl
 | b::l,h=>by
  have hl:YC l:=by
   cases l with
   | nil=>exact .inl rfl
   | cons c l=>right;rcases h with h | h;cases h;simpa using h
  have ih:=Sr hl;unfold Zi QZ;by_cases hb:b=10
  ·subst hb;rw[Qf rfl,Qf rfl,ih]<;>rfl
  ·rw[if_neg hb,if_neg hb,ih];cases K8:QZ l with
   | nil=>
    have:=aG hl;rw[K8] at this;have:l=[]:=this.symm;subst this;rcases h with h | h
    ·cases h
    ·simp at h;exact Xd h hb
   | cons t ls=>rfl
theorem pX {l:List Nat}(h:YC l):KP l=(QZ l).map (·++ [10]):=by
 unfold KP;rw[Sr h,Qf (by simp)];simp
def YF (s:List Nat):Bool:=ZH.isPrefixOf s||pElif.isPrefixOf s||pInc.isPrefixOf s||decide (s=Vl++ [10])||decide (s=Zq++ [10])
theorem wK:∀{p r:List Nat},10∉p->p.isPrefixOf (r++ [10])=p.isPrefixOf r
 | [],r,_=>by simp
 | a::p,[],h=>by
  simp only[Q0,not_or] at h;have:(a==10)=false:=by simpa using λe:a=10=>h.1 e.symm
  simp[List.isPrefixOf,this]
 | a::p,b::r,h=>by
  simp only[Q0,not_or] at h;simp only[YK,List.isPrefixOf,wK h.2]
theorem wL (r:List Nat):YF (r++ [10])=decide (JC r≠ .txt):=by
 unfold YF;rw[wK (by decide),wK (by decide),wK (by decide)];have e1:∀k:List Nat,decide (r++ [10]=k++ [10])=decide (r=k):=λk=>by simp
 rw[e1,e1];unfold JC;by_cases h1:ZH.isPrefixOf r=true
 ·rw[Qf h1,h1];simp
 by_cases h2:pInc.isPrefixOf r=true
 ·rw[if_neg h1,Qf h2,h2];simp
 by_cases h3:pElif.isPrefixOf r=true
 ·rw[if_neg h1,if_neg h2,Qf h3,h3];simp
 by_cases h4:r=Vl
 ·rw[if_neg h1,if_neg h2,if_neg h3,Qf h4,XT h4];simp
 by_cases h5:r=Zq
 ·rw[if_neg h1,if_neg h2,if_neg h3,if_neg h4,Qf h5,XT h5];simp
 rw[if_neg h1,if_neg h2,if_neg h3,if_neg h4,if_neg h5,YM.2 h1,YM.2 h2,YM.2 h3,XS h4,XS h5];simp
def JD (l:List Nat):Bool:=W3 l&&(QZ l).all (λs=>decide (JC s= .txt))
theorem gQy (ls:List (List Nat)):((ls.map (·++ [10])).any YF)= !(ls.all (λs=>decide (JC s= .txt))):=by
 induction ls with
 | nil=>rfl
 | cons s ls ih=>
  rw[WA,List.any_cons,vl,ih,wL,Bool.not_and];congr 1;by_cases h:JC s= .txt<;>simp[h]
theorem Gr (r:List Nat):ZH.isPrefixOf (r++ [10])=ZH.isPrefixOf r:=wK (by decide)
theorem gQz (l:List Nat)(w:World)(hl:∀x∈l,x<256):
  Fn Tryz.prog 209 [.string (Qe l),.string (Qe [10])] w (λv w'=>v= .int .i64 (gW 10 l)/\w=w'):=by
 refine Qx (c:=dQV) Qa Tryz.func209 rfl rfl rfl ?_;have h:=Tryz.stringslite_Index_one (Qe l) (UInt8.ofNat 10) w;rw[wG,Bs (by decide) hl] at h;refine call (wH h) ?_;rintro _ _ ⟨rfl,rfl⟩;exact⟨rfl,rfl⟩
theorem Gt (l p:List Nat)(w:World)(hl:∀x∈l,x<256)(hp:∀x∈p,x<256):
  Fn Tryz.prog 96 [.string (Qe l),.string (Qe p)] w (λv w'=>v= .bool (p.isPrefixOf l)/\w=w'):=by
 refine Qx (c:=c96) Qa Tryz.func96 rfl rfl rfl ?_;refine call (Pb l p w hl hp) ?_;rintro _ _ ⟨rfl,rfl⟩;exact⟨rfl,rfl⟩
theorem Ss (ds:List (List Nat))(n i:Nat)(s:List Nat)(hi:ds.length=i)(hn:i<n):
  (Q9 ds++List.replicate (n-i) (Value.string ⟨#[]⟩)).set i (.string (Qe s))=Q9 (ds++ [s])++List.replicate (n-(i+1)) (Value.string ⟨#[]⟩):=by
 have hl:(Q9 ds).length=i:=by rw[YO,hi]
 rw[NV _ _ (by omega),hl,zN,show n-i=(n-(i+1))+1 by omega,NK,List.set_cons_zero];simp[Q9]
def Sn (w:World)(A:Option Addr)(n c:Nat)(cs:List Value):Prop:=Sl w 1 A n c cs/\(0<n->∃g o,A=some ⟨g,o,none⟩)
theorem Sn.ext {w w':World}{A:Option Addr}{n c:Nat}{cs:List Value}(h:Sn w A n c cs)(k:Ext w w'):Sn w' A n c cs:=⟨h.1.ext k,h.2⟩
theorem gQA (l:List Nat)(w:World)(hl:∀x∈l,x<256)(Xf:l.length<=1000000000):
  Fn Tryz.prog 153 [.string (Qe l),.string (Qe [10]),.int .i64 1,.int .i64 (-1)] w (λu w'=>∃A c,u= .slice A (Zi l).length c/\Ext w w'/\Sn w' A (Zi l).length c (Q9 (Zi l))):=by
 have Jt:=tJ l;have jO:l.count 10<=l.length:=NQ;have XG:=XC l;refine Qx (c:={dQj with cuts:=[]}) Qa Tryz.func153 rfl rfl rfl ?_;refine XW (by decide) ?_;refine Xv rfl ?_;refine Zd (by decide) ?_;refine call (Sm l 10 w hl (by decide)) ?_;rintro _ _ ⟨rfl,rfl⟩;refine Qj ((l.count 10+1:Nat):Int) (by show((_:Nat):Int)+1=_;omega) (by omega) ?_;refine Qj ((l.length+1:Nat):Int) (by rw[XG];omega) (by omega) ?_;refine norm (m:=((l.count 10+1:Nat):Int)) (by split<;>omega) ?_;refine AB Qa rfl rfl rfl rfl rfl rfl rfl rfl (by show 16*(l.count 10+1)<=_;omega) (by unfold maxLen;omega) (λw1 Qd Q3 Qh=>?_);refine Qj ((l.count 10:Nat):Int) (by omega) (by omega) ?_;generalize MR:l.count 10=cn at*;refine loop Qa [10,0] (λs:Nat×List (List Nat)×List Nat=>[.int .i64 s.1,.string (Qe s.2.2)]) (λs w'=>Mod (·=w.heap.size) w1 w'/\s.1<=cn/\s.2.1.length=s.1/\Zi l=s.2.1++Zi s.2.2/\(∀x∈s.2.2,x<256)/\s.2.2.length<=l.length/\Blk w' w.heap.size 9 (Q9 s.2.1++List.replicate (cn+1-s.1) (Value.string ⟨#[]⟩))) (λs _=>cn-s.1) (0,[],l) rfl ⟨Mod.refl _ _,Xt _,rfl,rfl,hl,QD _,Qh⟩ ?_;rintro⟨i,ds,r⟩ w2 ⟨nM,hi,iK,KB,jD,jS,Qv⟩;simp only at hi iK KB jD jS Qv;have Q1:=XC r;have CJ:=QO List.length KB;rw[Qy,Jt,iK] at CJ;refine Qt (λc1=>?_) (λc1=>?_)
 ·have QN:i<cn:=by simp only at c1;omega
  have hm:10∈r:=Classical.byContradiction (λhh=>by rw[wJ hh] at CJ;simp at CJ;omega);have hhd:=gQx hm;have e1:gW 10 r=((W6 r).length:Nat):=by unfold gW W6;rw[Qf hm]
  have ze:=gQz r w2 jD;rw[e1] at ze;refine call ze ?_;rintro _ _ ⟨rfl,rfl⟩;refine Xx (by omega) ?_;refine Qj (((W6 r).length+1:Nat):Int) (by omega) (by omega) ?_;refine Jz (v':=.string (Qe (r.take ((W6 r).length+1)))) ⟨by omega,by omega,by rw[Q1];omega⟩ (by rw[Vc];rfl) ?_;refine index (j:=i) (by omega) ?_;refine XQ Qv (by rw[Qy,YO,List.length_replicate];omega) (λw3 Z3 Qw=>?_);rw[Ss ds (cn+1) i _ iK (by omega)] at Qw;refine Qj (((W6 r).length+1:Nat):Int) (by have:(Qe [10]).size=1:=rfl;omega) (by omega) ?_;refine Jz (v':=.string (Qe (r.drop ((W6 r).length+1)))) ⟨by omega,by rw[Q1];omega,by rw[Q1];omega⟩ (by
   rw[Vc,Q1];show Value.string (Qe ((r.take r.length).drop _))=_;rw[Zz (QD _)];rfl) ?_
  refine Qj ((i+1:Nat):Int) (by show((i:Nat):Int)+1=_;omega) (by omega) ?_;refine⟨(i+1,ds++ [r.take ((W6 r).length+1)],r.drop ((W6 r).length+1)),rfl,⟨nM.trans Z3 (λi hi=>.inl hi),QN,by simp[iK],?_,λx hx=>jD x (av hx),by simp only[Y5];omega,Qw⟩,by show cn-(i+1)<cn-i;omega⟩;simp only;rw[KB,Gq hm];simp
 ·have QN:i=cn:=by simp only at c1;omega
  subst QN;have Xa:10∉r:=λhm=>by have h1:=tJ r;have:=List.count_pos_iff.2 hm;omega
  refine index (j:=i) (by omega) ?_;refine XQ Qv (by rw[Qy,YO,List.length_replicate];omega) (λw3 Z3 Qw=>?_);rw[Ss ds (i+1) i _ iK (by omega)] at Qw;refine Qj ((i+1:Nat):Int) (by show((i:Nat):Int)+1=_;omega) (by omega) ?_;refine ct Qa rfl rfl rfl rfl rfl rfl (QD _) ?_;have e2:Zi l=ds++ [r]:=by rw[KB,wJ Xa]
  have rL:=Sl.own (sz:=1) (n:=i+1) (c:=i+1) Qw (QD _) (by unfold maxLen;omega) (by rw[Qy,YO,Qy,iK];simp);rw[zN,List.replicate_zero,Yr,WV,Zz (by rw[YO,Qy,iK];simp)] at rL;refine⟨_,_,by rw[Jt],(nM.trans Z3 (λi hi=>.inl hi)).ext Qd (λi hi=>by omega),?_⟩;rw[Jt,e2];exact⟨rL,λ_=>⟨_,_,rfl⟩⟩
theorem gQB (l:List Nat)(w:World)(hl:∀x∈l,x<256)(Xf:l.length<=1000000000):
  Fn Tryz.prog 95 [.string (Qe l),.string (Qe [10])] w (λu w'=>∃A c,u= .slice A (Zi l).length c/\Ext w w'/\Sn w' A (Zi l).length c (Q9 (Zi l))):=by
 refine Qx (c:={c95 with cuts:=[]}) Qa Tryz.func95 rfl rfl rfl ?_;refine call (gQA l w hl Xf) ?_;rintro _ w1 ⟨A,c,rfl,Qd,J7⟩;exact⟨A,c,rfl,Qd,J7⟩
def jm (w:World)(u:Value)(ls:List (List Nat))(w':World):Prop:=∃A c,u= .slice A ls.length c/\Ext w w'/\Sn w' A ls.length c (Q9 ls)
theorem Bw (l:List Nat)(w:World)(hl:∀x∈l,x<256)(Xf:l.length<=1000000000):
  Fn Tryz.prog 46 [.string (Qe l)] w (λu w'=>jm w u (KP l) w'):=by
 have Jt:=tJ l;have jO:l.count 10<=l.length:=NQ;refine Qx (c:={c46 with cuts:=[]}) Qa Tryz.func46 rfl rfl rfl ?_;refine call (gQB l w hl Xf) ?_;rintro _ w1 ⟨A,c,rfl,Qd,J7⟩;have ZO:=J7.1.le;refine Qj (((Zi l).length-1:Nat):Int) (by omega) (by omega) ?_;obtain⟨z,hz⟩:∃z,(Zi l).getLast? =some z:=⟨_,List.getLast?_eq_some_getLast (tI l)⟩
 have YZ:(Zi l)[(Zi l).length-1]? =some z:=by rw[<-pm];exact hz
 refine ZF J7.1 (by omega) (λad u hA hu QR=>?_);rw[cz YZ] at hu;cases hu;refine load QR ?_;have Ve:=(Bv hl z (Q2 YZ)).1;by_cases h0:z=[]
 ·subst h0;refine Xe rfl ?_;refine Qj (((Zi l).length-1:Nat):Int) (by omega) (by omega) ?_;refine ct Qa rfl rfl rfl rfl rfl rfl (by omega) ?_;have e:KP l=(Zi l).dropLast:=by unfold KP;rw[Qf hz]
  have h2:=J7.1.take (m:=(Zi l).length-1) (by omega);refine⟨A,c,by rw[e,List.length_dropLast],Qd,?_⟩;rw[e,List.length_dropLast];have e3:Q9 (Zi l).dropLast=(Q9 (Zi l)).take (((Zi l).length-1)*1):=by
   rw[WV,List.dropLast_eq_take];simp[Q9,List.map_take]
  rw[e3];exact⟨h2,λh0=>J7.2 (by omega)⟩
 ·refine Xx (λe=>h0 (Z6 Ve (by simp) e)) ?_;have e:KP l=Zi l:=by unfold KP;rw[if_neg (λhh=>h0 (Option.some.inj (hz.symm.trans hh)))]
  exact⟨A,c,by rw[e],Qd,by rw[e];exact J7⟩
theorem gQC (x z:Bool)(w:World):Fn Tryz.prog 170 [.bool x,.bool false,.bool z] w (λv w'=>v= .bool (Kr 4 x z)/\w=w'):=by
 refine Qx (c:={dQx with cuts:=[]}) Qa Tryz.func170 rfl rfl rfl ?_;cases x with
 | true=>
  refine Xe rfl ?_;refine Xv rfl ?_;refine Xv rfl ?_;exact⟨rfl,rfl⟩
 | false=>
  refine Xv rfl ?_;refine Xe rfl ?_;exact⟨by cases z<;>rfl,rfl⟩
structure CPz where
 ox:Nat
 mx:Nat
 lx:Nat
 ax:Nat
 bx:Nat
 pb:Nat
 km:Nat
 mm:Nat
 D:AD
def CPz.caps (p:CPz):List Value:=[VP.ptr p.ox,VP.ptr p.mx,VP.ptr p.lx,VP.ptr p.ax,VP.ptr p.bx]
def CPz.clo (p:CPz):Value:=.func (.func 188) #[] #[VP.ptr p.ox,VP.ptr p.mx,VP.ptr p.lx,VP.ptr p.ax,VP.ptr p.bx]
def CPz.lC (p:CPz):List Value:=[.slice p.D.A p.D.n p.D.c,.int .i64 p.D.ra,.slice none 0 0,.int .i64 0,.slice p.D.B p.D.m p.D.d,.int .i64 p.D.rb]
structure CKz (w:World) (base:Nat) (p:CPz):Prop where
 hF:p.D.op=4
 oxb:Blk w p.ox 205 [.func (.func 170) #[] #[]]
 mxb:Blk w p.mx 272 [.map (some p.mm)]
 lxb:Blk w p.lx 204 p.lC
 axb:Blk w p.ax 273 [p.clo]
 bxb:Blk w p.bx 174 [VP.ptr p.pb]
 as_:SB w p.D.A p.D.n p.D.c p.D.a
 bs:SB w p.D.B p.D.m p.D.d p.D.b
 off:∀k,k=p.ox∨k=p.mx∨k=p.lx∨k=p.ax∨k=p.bx->k<base/\k≠p.pb/\k≠p.km/\k≠p.mm
 rowA:∀ad,p.D.A=some ad->0<p.D.n->ad.block<base/\ad.block≠p.pb/\ad.block≠p.km/\ad.block≠p.mm
 rowB:∀ad,p.D.B=some ad->0<p.D.m->ad.block<base/\ad.block≠p.pb/\ad.block≠p.km/\ad.block≠p.mm
def CSz (p:CPz)(NA:Option Addr):Nat->Prop:=λk=>k=p.mm∨BS p.pb p.km NA k
theorem CSz.moved {w:World}{p:CPz}{A A':Option Addr}(h:Moved w A A'):∀k,CSz p A' k->CSz p A k∨w.heap.size<=k:=by
 rintro k (rfl | hk)
 ·exact .inl (.inl rfl)
 ·rcases BS.moved h k hk with h | h
  ·exact .inl (.inr h)
  ·exact .inr h
theorem CSz.trans {w w1 w2:World}{p:CPz}{A A1:Option Addr}(hm:Mod (CSz p A) w w1)(hv:Moved w A A1)(h:Mod (CSz p A1) w1 w2):Mod (CSz p A) w w2:=hm.trans h (CSz.moved hv)
theorem CSz.no {p:CPz}{base:Nat}{NA:Option Addr}(hr:∀i,Qk NA i->base<=i){k:Nat}(h:k<base/\k≠p.pb/\k≠p.km/\k≠p.mm):¬CSz p NA k:=λe=>by
 obtain⟨h1,h2,h3,h4⟩:=h;rcases e with e | e | e | e
 ·exact h4 e
 ·exact h2 e
 ·exact h3 e
 ·have:=hr k e;omega
theorem CKz.mod {w w':World}{base:Nat}{p:CPz}{NA:Option Addr}(h:CKz w base p)(hr:∀i,Qk NA i->base<=i)(hm:Mod (CSz p NA) w w'):CKz w' base p:=by
 have k:=λk hk=>CSz.no (p:=p) hr (h.off k hk)
 refine⟨h.hF,h.oxb.mod hm (k _ (by simp)),h.mxb.mod hm (k _ (by simp)),h.lxb.mod hm (k _ (by simp)),h.axb.mod hm (k _ (by simp)),h.bxb.mod hm (k _ (by simp)),⟨h.as_.1.modS hm ?_,h.as_.2⟩,⟨h.bs.1.modS hm ?_,h.bs.2⟩,h.off,h.rowA,h.rowB⟩
 ·rintro h0 i ⟨ad,e,rfl⟩;exact CSz.no hr (h.rowA ad e h0)
 ·rintro h0 i ⟨ad,e,rfl⟩;exact CSz.no hr (h.rowB ad e h0)
theorem CKz.ext {w w':World}{base:Nat}{p:CPz}(h:CKz w base p)(k:Ext w w'):CKz w' base p:=
 h.mod (NA:=none) (λi hi=>by obtain⟨_,e,_⟩:=hi;cases e) (Mod.of_ext _ k)
structure CStz (w:World) (base:Nat) (p:CPz) (NA:Option Addr) (nc:Nat) (st:List Br×List Tr3):Prop where
 bd:Bd w base p.pb p.km NA nc st.1
 memo:∃m,MapQ bP w p.mm m/\∀x y:Int,XJ ((x,0,y):I3) m=jl st.2 x y
 lt:p.mm<base/\p.mm≠p.pb/\p.mm≠p.km
theorem CStz.ext {w w':World}{base:Nat}{p:CPz}{NA:Option Addr}{nc:Nat}{st:List Br×List Tr3}(h:CStz w base p NA nc st)(k:Ext w w'):CStz w' base p NA nc st:=
 ⟨h.bd.ext k,let ⟨m,h1,h2⟩:=h.memo;⟨m,h1.ext k,h2⟩,h.lt⟩
def gQD (w:World)(base:Nat)(p:CPz)(NA:Option Addr)(st:List Br×List Tr3)(w':World):Prop:=∃NA' nc',CStz w' base p NA' nc' st/\Mod (CSz p NA) w w'/\Moved w NA NA'
theorem St (base:Nat)(p:CPz)(ha:Vw p.D.a)(hb:Vw p.D.b)(em:p.D.n<=1000000000000/\p.D.m<=1000000000000):∀(m:Nat)(x y:Int)(st:List Br×List Tr3)(NA:Option Addr)(nc:Nat)(w:World),
  CKz w base p->CStz w base p NA nc st->0<=x->0<=y->x+y<m->x<p.D.n+2->y<p.D.m+2->(Xz p.D.a p.D.b p.D.op m x y st).2.1.length<=100000000000->
  Fn Tryz.prog 188 (bP (x,0,y)::p.caps) w (λv w'=>v= .int .i64 (Xz p.D.a p.D.b p.D.op m x y st).1/\gQD w base p NA (Xz p.D.a p.D.b p.D.op m x y st).2 w')
 | 0,x,y,st,NA,nc,w,_,_,x0,y0,hm,_,_,_=>by omega
 | m+1,x,y,st,NA,nc,w,hK,hS,x0,y0,hm,hx,hy,XL=>by
  have ih:=St base p ha hb em m;have Ka:p.D.a.length=p.D.n:=hK.as_.2;have aR:p.D.b.length=p.D.m:=hK.bs.2;have lP:=hS.bd.top;have MI:∀i,Qk NA i->base<=i:=λi hi=>(hS.bd.own.rows i hi).1
  refine Qx (c:={O4 with cuts:=[1]}) Qa Tryz.func188 rfl rfl rfl ?_;refine new (λw1 Qd Q3 Qh=>?_)
  replace Qh:Blk w1 w.heap.size 242 (dL (x,0,y)):=Qh;have Kj:=hK.ext Qd;have J7:=hS.ext Qd;have oB:w.heap.size<w1.heap.size:=by omega
  refine gO [] Qa [] (λ_:Unit=>[]) (λ_ w'=>w1=w'/\¬(x<2/\y<2)) ?_ ?_
  ·refine index (j:=0) (by decide) ?_;refine Qp Qh rfl ?_;refine Qt (λc1=>?_) (λc1=>?_)
   ·refine index (j:=1) (by decide) ?_;refine Qp Qh rfl ?_;refine Zd (show(0:Int)<2 by decide) ?_;refine index (j:=2) (by decide) ?_;refine Qp Qh rfl ?_;refine Qt (λc2=>?_) (λc2=>?_)
    ·refine QC Kj.oxb rfl ?_;refine index (j:=0) (by decide) ?_;refine Qp Qh rfl ?_;refine index (j:=1) (by decide) ?_;refine Qp Qh rfl ?_;refine index (j:=2) (by decide) ?_;refine Qp Qh rfl ?_;rw[kE ⟨c1,c2⟩,R6 x0 c1 y0 c2,hK.hF];refine call (gQC (decide (x=1)) (decide (y=1)) w1) ?_;rintro v _ ⟨rfl,rfl⟩;cases Kr 4 (decide (x=1)) (decide (y=1))with
     | true=>
      refine Xe rfl ?_;exact⟨rfl,NA,nc,J7,Mod.of_ext _ Qd,Moved.refl _ _⟩
     | false=>
      refine Xv rfl ?_;exact⟨rfl,NA,nc,J7,Mod.of_ext _ Qd,Moved.refl _ _⟩
    ·exact⟨(),rfl,rfl,λhh=>c2 hh.2⟩
   ·exact⟨(),rfl,rfl,λhh=>c1 hh.1⟩
  rintro⟨⟩ _ ⟨rfl,Xl⟩;obtain⟨mq,ei,Vg⟩:=J7.memo;refine QC Kj.mxb rfl ?_;refine Qs Qh rfl ?_;refine Fv (kv:=bP) (a:=((x,0,y):I3)) Qa rfl rfl rfl rfl Bq rfl rfl ei ?_;cases k:st.2.find? (λt=>decide (t.1=x/\t.2.1=y))with
  | some t=>
   have eo:XJ ((x,0,y):I3) mq=some (.int .i64 t.2.2):=by rw[Vg,jl,k]<;>rfl
   refine Xe (by rw[eo];rfl) ?_;rw[kF Xl k];exact⟨by rw[eo];rfl,NA,nc,J7,Mod.of_ext _ Qd,Moved.refl _ _⟩
  | none=>
  have eo:XJ ((x,0,y):I3) mq=none:=by rw[Vg,jl,k]<;>rfl
  refine Xv (by rw[eo];rfl) ?_;have ZD:min (Ql p.D.a x) (Ql p.D.b y)<64:=by
   by_cases c:x<2
   ·have:=aE hb (n:=y) (λc2=>Xl ⟨c,c2⟩) (by omega);rw[Z5];split<;>omega
   ·have:=aE ha (n:=x) c (by omega);rw[Z5];split<;>omega
  have MJ:SB w1 none 0 0 []:=SlS.nil _;have qL:∀w',Ext w1 w'->∀(j:Nat) (v:Value),p.lC[j]? =some v->w'.cell? ((⟨p.lx,0,none⟩:Addr).add j)=some v:=λw' Qb j v hj=>by rw[(Kj.lxb.ext Qb).cell];exact hj
  have qN:∀w',Ext w1 w'->∀(j:Nat) (v:Value),(dL (x,0,y))[j]? =some v->w'.cell? ((⟨w.heap.size,0,none⟩:Addr).add j)=some v:=λw' Qb j v hj=>by rw[(Qh.ext Qb).cell];exact hj
  refine Xy Qa (Ext w1) 17 [(true,0),(true,1),(true,2),(true,3),(true,5),(true,6),(true,7),(true,8),(true,10),(true,11),(true,12),(true,13),(false,4),(false,9),(false,14),(true,15),(true,16)] (by kernel_rfl) (Ext.drew w1) ?_;refine JZ (j:=0) (by decide) ?_;refine Xr (vs:=[.slice p.D.A p.D.n p.D.c,.int .i64 p.D.ra]) rfl (λw' Qb j v hj=>by
   rw[add_add,(Kj.lxb.ext Qb).cell]
   match j,hj with
   | 0,hj=>exact hj
   | 1,hj=>exact hj) ?_
  refine index (j:=0) (by decide) ?_;refine QJ (v:=.int .i64 x) (λw' Qb=>qN w' Qb 0 _ rfl) ?_;refine JZ (j:=1) (by decide) ?_;refine Xr (vs:=[.slice none 0 0,.int .i64 0]) rfl (λw' Qb j v hj=>by
   rw[add_add,(Kj.lxb.ext Qb).cell]
   match j,hj with
   | 0,hj=>exact hj
   | 1,hj=>exact hj) ?_
  refine index (j:=1) (by decide) ?_;refine QJ (v:=.int .i64 0) (λw' Qb=>qN w' Qb 1 _ rfl) ?_;refine JZ (j:=2) (by decide) ?_;refine Xr (vs:=[.slice p.D.B p.D.m p.D.d,.int .i64 p.D.rb]) rfl (λw' Qb j v hj=>by
   rw[add_add,(Kj.lxb.ext Qb).cell]
   match j,hj with
   | 0,hj=>exact hj
   | 1,hj=>exact hj) ?_
  refine index (j:=2) (by decide) ?_;refine QJ (v:=.int .i64 y) (λw' Qb=>qN w' Qb 2 _ rfl) ?_;refine call (dF p.D.A p.D.n p.D.c p.D.ra x p.D.a _ (Kj.as_.ext (Ext.drew w1)) (by omega)) ?_;rintro u w2 ⟨rfl,Qg⟩;have Xu:=(Ext.drew w1).trans Qg;refine⟨Xu,?_⟩;refine call (dF none 0 0 0 0 [] _ (MJ.ext Xu) (by simp)) ?_;rintro u w3 ⟨rfl,Qi⟩;have Xq:=Xu.trans Qi;refine⟨Xq,?_⟩;refine call (dF p.D.B p.D.m p.D.d p.D.rb y p.D.b _ (Kj.bs.ext Xq) (by omega)) ?_;rintro u w4 ⟨rfl,Qq⟩;have Jd:=Xq.trans Qq;refine⟨Jd,?_⟩;have xy:Ql [] 0=64:=rfl;rw[xy];have ML: -9223372036854775808<=min (Ql p.D.a x) (Ql p.D.b y):=by
   have pos:∀{d:List Br},Vw d->∀{n:Int},n<d.length+2->0<=Ql d n:=λ{d} hd {n} hn=>by
    by_cases h2:n<2
    ·rw[gU h2];omega
    ·obtain⟨z,hz⟩:=WD h2 hn;rw[dI h2 hz];exact(hd.2 _ _ hz).1
   have p1:=pos ha (n:=x) (by omega);have p2:=pos hb (n:=y) (by omega);rw[Z5];split<;>omega
  have If:(if Ql p.D.b y<(if(64:Int)<Ql p.D.a x then 64 else Ql p.D.a x)then Ql p.D.b y else(if(64:Int)<Ql p.D.a x then 64 else Ql p.D.a x))=min (Ql p.D.a x) (Ql p.D.b y):=by
   rw[Z5] at ZD ⊢;split at ZD<;>(try split)<;>(try split)<;>(try split)<;>omega
  refine norm (m:=min (Ql p.D.a x) (Ql p.D.b y)) If ?_;rw[kG Xl k _ rfl] at XL ⊢;generalize yY:min (Ql p.D.a x) (Ql p.D.b y)=v at*;have Q6:=Qh.ext Jd;have VZ:=Kj.ext Jd;have Wh:=J7.ext Jd;have XI:=Qd.trans Jd;have CM:=Jd.size;refine new (λw5 Qz Kw Ig=>?_);refine new (λw6 Xh fa Ih=>?_);have XF:=Qz.trans Xh;have Ii:=Ig.ext Xh;have Xj:=Q6.ext XF;have bW:=VZ.ext XF;have jC:=Wh.ext XF;have XD:=XI.trans XF;obtain⟨s1,s2,s3,s4,s5⟩:=WC ha (n:=x) x0 ZD;obtain⟨t1,t2,t3,t4,t5⟩:=WC hb (n:=y) y0 ZD;refine loop Qa [64] (λs:Nat=>[.int .i64 s]) (λs w'=>Mod (λi=>i=w4.heap.size∨i=w5.heap.size) w6 w'/\s<=3/\Blk w' w4.heap.size 242 (dL (if 0<s then(Qm p.D.a x v).1 else 0,0,if 2<s then(Qm p.D.b y v).1 else 0))/\Blk w' w5.heap.size 242 (dL (if 0<s then(Qm p.D.a x v).2 else 0,0,if 2<s then(Qm p.D.b y v).2 else 0))) (λs _=>3-s) 0 rfl ⟨Mod.refl _ _,Xt _,Ii,Ih⟩ ?_;rintro s w7 ⟨Xi,qy,fi,cU⟩;have hbz:base<=w4.heap.size:=by have:=Qd.size;omega
  have aQf:w5.heap.size=w4.heap.size+1:=Kw;have yZ:w.heap.size<w4.heap.size:=by omega
  have y8:∀k,k<w4.heap.size->¬(k=w4.heap.size∨k=w5.heap.size):=λk hk e=>by omega
  have hlx:=hK.off p.lx (by simp);have QY:Ext w w7:=Xi.ext XD (λi hi=>by omega);have um:Ext w1 w7:=Xi.ext (Jd.trans XF) (λi hi=>by omega);have Yi:Ext w4 w7:=Xi.ext XF (λi hi=>by omega);have Q4:=Q6.ext Yi;have ac:=VZ.ext Yi;have KF:=Wh.ext Yi;have WF:=Xi.size;have nLX:=y8 p.lx (by omega);have nB:=y8 w.heap.size yZ;have h0:Qm [] 0 v=(0,0):=by unfold Qm;rw[Qf (show Ql [] 0≠v by rw[xy];omega)]
  by_cases hs:s<3
  ·rcases(show s=0∨s=1∨s=2 by omega)with rfl | rfl | rfl
   ·refine Zd (show((0:Nat):Int)<3 by decide) ?_;refine Xy Qa (Mod (λi=>i=w4.heap.size∨i=w5.heap.size) w7) 17 [(true,0),(true,1),(true,2),(true,3),(true,4),(true,5),(true,6),(true,7),(true,8),(false,9),(true,10),(true,11),(true,12),(true,13),(false,14),(true,15),(false,16)] (by kernel_rfl) (Mod.of_ext _ (Ext.drew w7)) ?_;refine JZ (j:=0) (by decide) ?_;refine Xr (vs:=[.slice p.D.A p.D.n p.D.c,.int .i64 p.D.ra]) rfl (λw' Qb j v hj=>by
     rw[add_add,(ac.lxb.mod Qb nLX).cell]
     match j,hj with
     | 0,hj=>exact hj
     | 1,hj=>exact hj) ?_
    refine index (j:=0) (by decide) ?_;refine QJ (v:=.int .i64 x) (λw' Qb=>by rw[(Q4.mod Qb nB).cell];rfl) ?_;refine call (jk p.D.A p.D.n p.D.c p.D.ra x v p.D.a _ (ac.as_.ext (Ext.drew w7)) (by omega) ZD) ?_;rintro u w8 ⟨rfl,Q7⟩;have Ko:=(Ext.drew w7).trans Q7;refine⟨Mod.of_ext _ Ko,?_⟩;refine index (j:=0) (by decide) ?_;refine XQ (fi.ext Ko) (by simp) (λw9 X4 ip=>?_);have Vf:Mod (λi=>i=w4.heap.size∨i=w5.heap.size) w7 w9:=(Mod.of_ext _ Ko).trans X4 (λi hi=>.inl (.inl hi));refine⟨Vf,?_⟩;have ff:=Vf.size;refine index (j:=0) (by decide) ?_;refine XQ (((cU.ext Ko).mod X4 (by show¬w5.heap.size=w4.heap.size;omega))) (by simp) (λQE Zu fj=>?_);have ae:Mod (λi=>i=w4.heap.size∨i=w5.heap.size) w7 QE:=Vf.trans Zu (λi hi=>.inl (.inr hi));refine⟨ae,?_⟩;have fk:=ip.mod Zu (by show¬w4.heap.size=w5.heap.size;omega);refine Qj ((1:Nat):Int) (by decide) (by decide) ?_;exact⟨1,rfl,⟨Xi.trans ae (λi hi=>.inl hi),by decide,fk,fj⟩,by show 3-1<3-0;decide⟩
   ·refine Zd (show((1:Nat):Int)<3 by decide) ?_;refine Xy Qa (Mod (λi=>i=w4.heap.size∨i=w5.heap.size) w7) 17 [(true,0),(true,1),(true,2),(true,3),(true,4),(true,5),(true,6),(true,7),(true,8),(false,9),(true,10),(true,11),(true,12),(true,13),(false,14),(true,15),(false,16)] (by kernel_rfl) (Mod.of_ext _ (Ext.drew w7)) ?_;refine JZ (j:=1) (by decide) ?_;refine Xr (vs:=[.slice none 0 0,.int .i64 0]) rfl (λw' Qb j v hj=>by
     rw[add_add,(ac.lxb.mod Qb nLX).cell]
     match j,hj with
     | 0,hj=>exact hj
     | 1,hj=>exact hj) ?_
    refine index (j:=1) (by decide) ?_;refine QJ (v:=.int .i64 0) (λw' Qb=>by rw[(Q4.mod Qb nB).cell];rfl) ?_;refine call (jk none 0 0 0 0 v [] _ (SlS.nil _) (by decide) ZD) ?_;rintro u w8 ⟨rfl,Q7⟩;have Ko:=(Ext.drew w7).trans Q7;refine⟨Mod.of_ext _ Ko,?_⟩;refine index (j:=1) (by decide) ?_;refine XQ (fi.ext Ko) (by simp) (λw9 X4 ip=>?_);have Vf:Mod (λi=>i=w4.heap.size∨i=w5.heap.size) w7 w9:=(Mod.of_ext _ Ko).trans X4 (λi hi=>.inl (.inl hi));refine⟨Vf,?_⟩;have ff:=Vf.size;refine index (j:=1) (by decide) ?_;refine XQ (((cU.ext Ko).mod X4 (by show¬w5.heap.size=w4.heap.size;omega))) (by simp) (λQE Zu fj=>?_);have ae:Mod (λi=>i=w4.heap.size∨i=w5.heap.size) w7 QE:=Vf.trans Zu (λi hi=>.inl (.inr hi));refine⟨ae,?_⟩;have fk:=ip.mod Zu (by show¬w4.heap.size=w5.heap.size;omega);refine Qj ((2:Nat):Int) (by decide) (by decide) ?_;rw[h0] at fk fj;exact⟨2,rfl,⟨Xi.trans ae (λi hi=>.inl hi),by decide,fk,fj⟩,by show 3-2<3-1;decide⟩
   ·refine Zd (show((2:Nat):Int)<3 by decide) ?_;refine Xy Qa (Mod (λi=>i=w4.heap.size∨i=w5.heap.size) w7) 17 [(true,0),(true,1),(true,2),(true,3),(true,4),(true,5),(true,6),(true,7),(true,8),(false,9),(true,10),(true,11),(true,12),(true,13),(false,14),(true,15),(false,16)] (by kernel_rfl) (Mod.of_ext _ (Ext.drew w7)) ?_;refine JZ (j:=2) (by decide) ?_;refine Xr (vs:=[.slice p.D.B p.D.m p.D.d,.int .i64 p.D.rb]) rfl (λw' Qb j v hj=>by
     rw[add_add,(ac.lxb.mod Qb nLX).cell]
     match j,hj with
     | 0,hj=>exact hj
     | 1,hj=>exact hj) ?_
    refine index (j:=2) (by decide) ?_;refine QJ (v:=.int .i64 y) (λw' Qb=>by rw[(Q4.mod Qb nB).cell];rfl) ?_;refine call (jk p.D.B p.D.m p.D.d p.D.rb y v p.D.b _ (ac.bs.ext (Ext.drew w7)) (by omega) ZD) ?_;rintro u w8 ⟨rfl,Q7⟩;have Ko:=(Ext.drew w7).trans Q7;refine⟨Mod.of_ext _ Ko,?_⟩;refine index (j:=2) (by decide) ?_;refine XQ (fi.ext Ko) (by simp) (λw9 X4 ip=>?_);have Vf:Mod (λi=>i=w4.heap.size∨i=w5.heap.size) w7 w9:=(Mod.of_ext _ Ko).trans X4 (λi hi=>.inl (.inl hi));refine⟨Vf,?_⟩;have ff:=Vf.size;refine index (j:=2) (by decide) ?_;refine XQ (((cU.ext Ko).mod X4 (by show¬w5.heap.size=w4.heap.size;omega))) (by simp) (λQE Zu fj=>?_);have ae:Mod (λi=>i=w4.heap.size∨i=w5.heap.size) w7 QE:=Vf.trans Zu (λi hi=>.inl (.inr hi));refine⟨ae,?_⟩;have fk:=ip.mod Zu (by show¬w4.heap.size=w5.heap.size;omega);refine Qj ((3:Nat):Int) (by decide) (by decide) ?_;exact⟨3,rfl,⟨Xi.trans ae (λi hi=>.inl hi),by decide,fk,fj⟩,by show 3-3<3-2;decide⟩
  ·have:s=3:=by omega
   subst this;refine Xx (show¬((3:Nat):Int)<3 by decide) ?_
   replace fi:Blk w7 w4.heap.size 242 (dL ((Qm p.D.a x v).1,0,(Qm p.D.b y v).1)):=fi
   replace cU:Blk w7 w5.heap.size 242 (dL ((Qm p.D.a x v).2,0,(Qm p.D.b y v).2)):=cU;have fL:Ql p.D.a x=v∨Ql p.D.b y=v:=by rw[<-yY,Z5];split<;>simp
   have dec:(Qm p.D.a x v).1+(Qm p.D.b y v).1<x+y/\(Qm p.D.a x v).2+(Qm p.D.b y v).2<x+y:=by
    rcases fL with e | e
    ·have:=s5 e;omega
    ·have:=t5 e;omega
   have Ij:=tG ha hb p.D.op m (Qm p.D.a x v).1 (Qm p.D.b y v).1 st s1 t1 (by omega) (by omega);have Ik:=tG ha hb p.D.op m (Qm p.D.a x v).2 (Qm p.D.b y v).2 (Xz p.D.a p.D.b p.D.op m (Qm p.D.a x v).1 (Qm p.D.b y v).1 st).2 s3 t3 (by omega) (by omega);have mo2:=mO p.D.a p.D.b p.D.op m (Qm p.D.a x v).2 (Qm p.D.b y v).2 (Xz p.D.a p.D.b p.D.op m (Qm p.D.a x v).1 (Qm p.D.b y v).1 st).2;have c1:=ih (Qm p.D.a x v).1 (Qm p.D.b y v).1 st NA nc w7 ac KF s1 t1 (by omega) (by omega) (by omega);have c2:=λN1 n1 w' h1 h2=>ih (Qm p.D.a x v).2 (Qm p.D.b y v).2 (Xz p.D.a p.D.b p.D.op m (Qm p.D.a x v).1 (Qm p.D.b y v).1 st).2 N1 n1 w' h1 h2 s3 t3 (by omega) (by omega) (by omega)
   generalize (Xz p.D.a p.D.b p.D.op m (Qm p.D.a x v).1 (Qm p.D.b y v).1 st)=r0 at*;generalize (Xz p.D.a p.D.b p.D.op m (Qm p.D.a x v).2 (Qm p.D.b y v).2 r0.2)=r1 at*;have ul:=wh ⟨v,r0.1,r1.1⟩ r1.2.1;have ul2:(Z1 ⟨v,r0.1,r1.1⟩ r1.2.1).1.length<=r1.2.1.length+1:=by
    unfold Z1;split
    ·exact zS _
    ·split
     ·exact zS _
     ·simp
   simp only at XL;refine QC ac.axb rfl ?_;refine Qs fi rfl ?_;refine call (c1 (by omega)) ?_;rintro _ QH ⟨rfl,N1,n1,qA,Zy,xz⟩;have Il:=cU.lt;have cV:=hS.bd.own.rows;obtain⟨l1,l2,l3⟩:=hS.lt;obtain⟨b1,b2,b3⟩:=hS.bd.lt;have new:∀k,w.heap.size<=k->¬CSz p NA k:=λk hk e=>by
    rcases e with e | e | e | e
    ·omega
    ·omega
    ·omega
    ·have:=(cV k e).2;omega
   have fm:=ac.mod MI Zy;have Im:=cU.mod Zy (new _ (by omega));have ZJ:=Q4.mod Zy (new _ (QD _));have bT:∀i,Qk N1 i->base<=i:=λi hi=>(qA.bd.own.rows i hi).1
   have xA:∀k,w.heap.size<=k->k<w7.heap.size->¬CSz p N1 k:=λk hk h7 e=>by
    rcases CSz.moved xz k e with e | e
    ·exact new k hk e
    ·omega
   have qC:=Zy.size;have MM:=Q4.lt;refine Xy Qa (Mod (CSz p N1) QH) 8 [(true,0),(true,1),(true,2),(true,3),(true,4),(false,5),(false,6),(true,7)] (by kernel_rfl) (Mod.of_ext _ (Ext.drew QH)) ?_;have nof:=λk hk=>CSz.no (p:=p) bT (fm.off k hk)
   refine QJ (v:=VP.ptr p.pb) (λw' Qb=>by rw[(fm.bxb.mod Qb (nof _ (by simp))).cell0];rfl) ?_;refine QJ (v:=p.clo) (λw' Qb=>by rw[(fm.axb.mod Qb (nof _ (by simp))).cell0];rfl) ?_;refine Xr (vs:=dL ((Qm p.D.a x v).2,0,(Qm p.D.b y v).2)) rfl (λw' Qb j v hj=>by rw[(Im.mod Qb (xA _ (by omega) Il)).cell];exact hj) ?_;refine call (c2 N1 n1 _ (fm.ext (Ext.drew QH)) (qA.ext (Ext.drew QH)) (by omega)) ?_;rintro _ QW ⟨rfl,N2,n2,Wj,VC,ug⟩;have lu:Mod (CSz p N1) QH QW:=(Mod.of_ext _ (Ext.drew QH)).trans VC (λi hi=>.inl hi);have xB:Moved QH N1 N2:=ug.back (Ext.drew QH).size;refine⟨lu,?_⟩;have aM:∀i,Qk N2 i->base<=i:=λi hi=>(Wj.bd.own.rows i hi).1
   refine call (R4 base p.pb p.km N2 n2 r1.2.1 ⟨v,r0.1,r1.1⟩ QW Wj.bd (by omega)) ?_;rintro _ XM ⟨rfl,N3,n3,cW,J3,xC⟩;have In:Mod (CSz p N2) QW XM:=J3.mono (λi hi=>.inl (.inr hi));have lv:Mod (CSz p N1) QH XM:=CSz.trans lu xB In;refine⟨lv,?_⟩;have kQy:=fm.mod bT lu;have Io:=fm.mod bT lv;have Kh:=ZJ.mod lv (xA _ (QD _) MM);obtain⟨Ip,xf,Iq⟩:=Wj.memo;have Ir:MapQ bP XM p.mm Ip:=xf.mod J3 (λe=>by
    rcases e with e | e | e
    ·exact l2 e
    ·exact l3 e
    ·have:=aM _ e;omega)
   refine QC Io.mxb rfl ?_;refine Qs Kh rfl ?_;refine sS (kv:=bP) (a:=((x,0,y):I3)) Qa rfl rfl rfl rfl Bq rfl rfl rfl Ir (λX1 Kx kQz Is=>?_);have Z0:∀k,k≠p.mm->¬(k=p.mm):=λk h=>h
   obtain⟨d1,d2,d3⟩:=cW.lt;have It:∀i,Qk N3 i->base<=i:=λi hi=>(cW.own.rows i hi).1
   obtain⟨kq,MN,oW⟩:=cW.known;have Iu:Bd X1 base p.pb p.km N3 n3 (Z1 ⟨v,r0.1,r1.1⟩ r1.2.1).1:=⟨cW.blk.mod Kx (λe=>l2 e.symm),cW.own.mod Kx (λi hi e=>by have:=It i hi;have e':i=p.mm:=e;omega),⟨kq,MN.mod Kx (λe=>l3 e.symm),oW⟩,cW.lt,X2 cW.top Kx.size⟩
   have Iv:Mod (CSz p NA) w w7:=Mod.of_ext _ QY;have kQA:Moved w NA NA:=Moved.refl _ _;have xD:Mod (CSz p NA) w QH:=Iv.trans Zy (λi hi=>.inl hi);have xE:Moved w NA N1:=xz.back QY.size;have Iw:Mod (CSz p NA) w XM:=CSz.trans xD xE lv;have nN:Mod (CSz p NA) w X1:=Iw.trans Kx (λi hi=>.inl (.inl hi));have Ix:Moved w NA N3:=xE.trans (xB.trans xC lu.size) xD.size;refine⟨rfl,N3,n3,⟨Iu,⟨_,Is,λx' y'=>?_⟩,hS.lt⟩,nN,Ix⟩;have Xa:r1.2.2.find? (λt=>decide (t.1=x/\t.2.1=y))=none:=by
    rw[vo];intro t ht hh;simp only[Vb] at hh;rcases Ik t ht with h1 | h1
    ·rcases Ij t h1 with h2 | h2
     ·have:=vo.1 k t h2;simp only[Vb] at this;exact this hh
     ·omega
    ·omega
   rw[aY,Iq,jl,jl,List.find?_append];by_cases Yq:(x',y')=(x,y)
   ·cases Yq;rw[Qf rfl,Xa];simp
   ·rw[if_neg (λe=>Yq (by cases e;rfl))];have: [(x,y,(Z1 ⟨v,r0.1,r1.1⟩ r1.2.1).2)].find? (λt:Tr3=>decide (t.1=x'/\t.2.1=y'))=none:=by
     rw[ES]
     ·rfl
     ·simp only[Vb];exactλe=>Yq (by rw[e.1,e.2])
    rw[this];simp
theorem gQE (A:Option Addr)(n c:Nat)(a:List Br)(ra:Int)(B:Option Addr)(m d:Nat)(b:List Br)(rb:Int)(w:World)(h:SB w A n c a)(h':SB w B m d b)(ha:Vw a)(hb:Vw b)(r0:0<=ra)(r1:ra<n+2)(s0:0<=rb)(s1:rb<m+2)(hn:n<=1000000000000)(hm:m<=1000000000000)
  (XL:(kH a ra b rb 4).2.1.length<=100000000000):
  Fn Tryz.prog 128 [.agg #[.slice A n c,.int .i64 ra,.slice none 0 0,.int .i64 0,.slice B m d,.int .i64 rb],.func (.func 170) #[] #[]] w (vZ w (VV a ra b rb 4)):=by
 have Ka:=h.2;have aR:=h'.2;refine Qx (c:={O1 with cuts:=[]}) Qa Tryz.func128 rfl rfl rfl ?_;refine new (λw1 Qd Q3 Qh=>?_);refine new (λw2 Qg X0 Qv=>?_);refine new (λw3 Qi JF Qw=>?_);refine call (R8 w3) ?_;rintro _ w4 ⟨rfl,Qq,K5,Q6,lw⟩;refine new (λw5 Qz Kw QL=>?_);refine XQ (j:=0) QL (by decide) (λw6 J5 Xj=>?_);have XF:Ext w4 w6:=J5.ext Qz (λi hi=>by omega);refine sN Qa bP rfl ?_;intro w7 QY WF Iy;refine new (λw8 Q7 Ve XB=>?_);refine XQ (j:=0) XB (by decide) (λw9 X4 Z8=>?_);have VG:Ext w7 w9:=X4.ext Q7 (λi hi=>by omega);refine new (λQE X7 nI Jb=>?_);refine XQ (j:=0) Jb (by decide) (λQH Zy ZJ=>?_);have z6:=J5.size;have z9:=X4.size;have CG:=Zy.size;have gr:Ext w9 QH:=Zy.ext X7 (λi hi=>by omega);have ly:Ext w6 QH:=(QY.trans VG).trans gr;have cX:Ext w4 QH:=XF.trans ly;have K6:=Qq;have lz:Ext w3 QH:=Qq.trans cX;have Wm:Ext w QH:=((Qd.trans Qg).trans Qi).trans lz
 let D:AD:=⟨A,n,c,a,ra,B,m,d,b,rb,4⟩
 let p:CPz:=⟨w1.heap.size,w7.heap.size,w.heap.size,w9.heap.size,w4.heap.size,w3.heap.size+1,w3.heap.size,w6.heap.size,D⟩
 have xF:=ZJ.lt;have hK:CKz QH QH.heap.size p:=by
  refine⟨rfl,Qv.ext (Qi.trans lz),Z8.ext gr,Qh.ext ((Qg.trans Qi).trans lz),ZJ,Xj.ext ly,h.ext Wm,h'.ext Wm,λk hk=>?_,λad e h0=>?_,λad e h0=>?_⟩
  ·simp only[p] at hk ⊢;rcases hk with rfl | rfl | rfl | rfl | rfl<;>omega
  ·have:=SB.lt h ad e h0;simp only[p];omega
  ·have:=SB.lt h' ad e h0;simp only[p];omega
 have hS:CStz QH QH.heap.size p none 0 ([],[]):=by
  refine⟨⟨Q6.ext cX,Own.nil _ _ _ _,⟨[],lw.ext cX,λ_=>rfl⟩,?_,QD _⟩,⟨[],Iy.ext (VG.trans gr),λ_ _=>rfl⟩,?_⟩
  ·simp only[p];omega
  ·simp only[p];omega
 have Xa:∀i,Qk none i->QH.heap.size<=i:=λi hi=>by obtain⟨_,e,_⟩:=hi;cases e
 have nof:=λk hk=>CSz.no (p:=p) Xa (hK.off k hk)
 refine Xy Qa (Mod (CSz p none) QH) 14 [(true,0),(true,1),(true,2),(true,3),(true,4),(true,5),(true,6),(true,7),(true,8),(true,9),(true,10),(true,11),(false,12),(false,13)] (by kernel_rfl) (Mod.of_ext _ (Ext.drew QH)) ?_;refine QJ (v:=VP.ptr p.pb) (λw' Qb=>by rw[(hK.bxb.mod Qb (nof _ (by simp))).cell0];rfl) ?_;refine QJ (v:=p.clo) (λw' Qb=>by rw[(hK.axb.mod Qb (nof _ (by simp))).cell0];rfl) ?_;refine JZ (j:=0) (by decide) ?_;refine QJ (v:=.int .i64 ra) (λw' Qb=>by rw[add_add,(hK.lxb.mod Qb (nof _ (by simp))).cell];rfl) ?_;refine JZ (j:=1) (by decide) ?_;refine QJ (v:=.int .i64 0) (λw' Qb=>by rw[add_add,(hK.lxb.mod Qb (nof _ (by simp))).cell];rfl) ?_;refine JZ (j:=2) (by decide) ?_;refine QJ (v:=.int .i64 rb) (λw' Qb=>by rw[add_add,(hK.lxb.mod Qb (nof _ (by simp))).cell];rfl) ?_;have inv:=wj ha hb 4 (ra.toNat+rb.toNat+1) ra rb ([],[]) ⟨λj x hx=>by simp at hx,λt ht=>by simp at ht⟩ r0 s0 (by omega) (by omega);refine call (St QH.heap.size p ha hb ⟨hn,hm⟩ (ra.toNat+rb.toNat+1) ra rb ([],[]) none 0 _ (hK.ext (Ext.drew QH)) (hS.ext (Ext.drew QH)) r0 s0 (by omega) r1 s1 XL) ?_;rintro _ QW ⟨rfl,NA,nc,Wj,Iz,ug⟩;have VC:Mod (CSz p none) QH QW:=(Mod.of_ext _ (Ext.drew QH)).trans Iz (λi hi=>.inl hi);refine⟨VC,?_⟩;have kQB:(Xz a b 4 (ra.toNat+rb.toNat+1) ra rb ([],[])).2.1.length<=100000000000:=XL;have xG:SB QW NA _ nc _:=⟨Wj.bd.own.sl,rfl⟩
 refine call (FL p.pb (.map (some p.km)) NA _ nc _ _ QW Wj.bd.blk xG inv.1.1 (by show(Xz a b 4 (ra.toNat+rb.toNat+1) ra rb ([],[])).2.1.length<=_;omega) inv.2.1 inv.2.2 (SB.lt xG)) ?_;rintro _ XM ⟨OA,k,oc,rfl,Xq,dU,il⟩;have J3:Mod (CSz p none) QH XM:=VC.trans (Mod.of_ext (CSz p none) Xq) (λi hi=>.inl hi);refine⟨J3,?_⟩;have nres:¬CSz p none w2.heap.size:=CSz.no (p:=p) Xa (by simp only[p];omega);have Kh:=(Qw.ext lz).mod J3 nres;refine QB Kh rfl (sc rfl) (λX1 cS _ Jc=>?_);have Kx:Mod (·=w2.heap.size) XM X1:=oQh cS rfl;refine Qs Jc rfl ?_;have qD:Ext w XM:=J3.ext Wm (λi hi=>by
  rcases hi with e | e | e | ⟨_,e,_⟩
  ·simp only[p] at e;omega
  ·simp only[p] at e;omega
  ·simp only[p] at e;omega
  ·cases e)
 have z12:=VC.size;have nr:∀i,Qk OA i->¬i=w2.heap.size:=λi hi e=>by have:=il i hi;omega
 refine⟨OA,k,oc,rfl,Kx.ext qD (λi hi=>by omega),⟨dU.1.modS Kx (λ_ i hi=>nr i hi),dU.2⟩,λi hi=>by have:=il i hi;have:=Wm.size;omega⟩
end
section
section
structure RP where
 r:Nat
 q:Nat
 nq:Nat
 NA:Option Addr
 nn:Nat
 nc:Nat
 nm:List (List Nat)
 FA:Option Addr
 nf:Nat
 cf:Nat
 fs:List (List Nat×List Nat)
def gX (x:List Nat×List Nat):List Value:=[.string (Qe x.1),.string (Qe x.2)]
theorem Gu (x:List Nat×List Nat):(gX x).length=2:=rfl
structure FileOk (x:List Nat×List Nat):Prop where
 n8:∀b∈x.1,b<256
 t8:∀b∈x.2,b<256
 nl:x.1.length<=9223372036854775807
 tl:x.2.length<=1048576
 ok:YC x.2
structure RPok (w0:World) (p:RP):Prop where
 nms:Sl w0 1 p.NA p.nn p.nc (Q9 p.nm)
 nmb:Jy p.nm
 nmk:p.nm.length<=12
 fls:SlS gX 2 w0 p.FA p.nf p.cf p.fs
 flb:∀x∈p.fs,FileOk x
 nqm:MapAt V8 w0 p.nq (YP (p.fs.map (·.1)) 0 [])
structure RM where
 OA:Option Addr
 oc:Nat
 BA:Option Addr
 bc:Nat
 L:List DV
 pa:Value
 T:Nat->Prop
structure RV where
 d:Nat
 fl:Nat
 ln:Nat
 rd:List Nat
 g:Gs
def mW (x:Sg×DV):List Value:=[.int .i64 x.1.f,.int .i64 x.1.t,.int .i64 x.1.fl,.int .i64 x.1.at_,.slice x.2.A x.2.n x.2.c,.int .i64 x.2.r]
theorem gQF (x:Sg×DV):(mW x).length=6:=rfl
def cJ (l:List Sg)(L:List DV):List Value:=(l.zip L).flatMap mW
abbrev kT (p:RP)(m:RM)(v:RV):List Value:=[.slice p.NA p.nn p.nc,.slice p.FA p.nf p.cf,.map (some p.nq),.map (some p.q),.int .i64 v.d,m.pa,.slice m.BA v.g.tx.length m.bc,.slice m.OA v.g.sg.length m.oc,.bool v.g.fr,.int .i64 v.fl,.int .i64 v.ln]
def RS (p:RP)(m:RM):Nat->Prop:=λk=>k=p.r∨k=p.q∨Qk m.OA k∨Qk m.BA k
def TS (p:RP)(m:RM):Nat->Prop:=λk=>RS p m k∨m.T k
structure Rr (w0 w:World) (base:Nat) (p:RP) (m:RM) (v:RV):Prop where
 e0:Ext w0 w
 lor:w0.heap.size<=p.r
 loq:w0.heap.size<=p.q
 rb:p.r<base
 qb:p.q<base
 ne:p.r≠p.q
 top:base<=w.heap.size
 pa:m.pa= .pointer none∨m.pa= .pointer (some (J1 p.r 5))
 blk:Blk w p.r 157 (kT p m v)
 txt:Own w base 5 1 m.BA v.g.tx.length m.bc (Jx v.g.tx)
 out:Own w base 48 6 m.OA v.g.sg.length m.oc (cJ v.g.sg m.L)
 len:m.L.length=v.g.sg.length
 dgs:∀(j:Nat) (s:Sg) (x:DV),v.g.sg[j]? =some s->m.L[j]? =some x->DgO w (TS p m) p.nm.length x s.o
 rdm:∃mp,MapAt aZ w p.q mp/\(mp.map (·.1)).Nodup/\∀n:Nat,XJ (n:Int) mp=if n∈v.rd then some (.bool true)else none
 tl:v.g.tx.length<=1048576
 sl:v.g.sg.length<=65536
 b8:∀x∈v.g.tx,x<256
 nf:v.g.fr=false->v.g.sg≠ []∨v.rd=[]
 tt:∀i,m.T i->i<w.heap.size
section
variable {w0 w w':World} {base:Nat} {p:RP} {m:RM} {v:RV}
theorem Rr.lo (h:Rr w0 w base p m v):∀i,RS p m i->w0.heap.size<=i:=λi hi=>by
 have:=h.lor;have:=h.loq;have:=h.rb;rcases hi with rfl | rfl | hi | hi
 ·assumption
 ·assumption
 ·have:=(h.out.rows i hi).1;omega
 ·have:=(h.txt.rows i hi).1;omega
theorem Rr.hi (h:Rr w0 w base p m v):∀i,RS p m i->i<w.heap.size:=λi hi=>by
 have:=h.rb;have:=h.qb;have:=h.top;rcases hi with rfl | rfl | hi | hi
 ·omega
 ·omega
 ·exact(h.out.rows i hi).2
 ·exact(h.txt.rows i hi).2
theorem Rr.ext (h:Rr w0 w base p m v)(k:Ext w w'):Rr w0 w' base p m v:=
 ⟨h.e0.trans k,h.lor,h.loq,h.rb,h.qb,h.ne,X2 h.top k.size,h.pa,h.blk.ext k,h.txt.ext k,h.out.ext k,h.len,λj s x h1 h2=>(h.dgs j s x h1 h2).ext k,let ⟨mp,h1,h2⟩:=h.rdm;⟨mp,h1.ext k,h2⟩,h.tl,h.sl,h.b8,h.nf,λi hi=>YL (h.tt i hi) k.size⟩
theorem RS.moved {m':RM}(h1:Moved w m.OA m'.OA)(h2:Moved w m.BA m'.BA):∀k,RS p m' k->RS p m k∨w.heap.size<=k:=by
 rintro k (rfl | rfl | hk | hk)
 ·exact .inl (.inl rfl)
 ·exact .inl (.inr (.inl rfl))
 ·rcases h1.rows k hk with h | h
  ·exact .inl (.inr (.inr (.inl h)))
  ·exact .inr h
 ·rcases h2.rows k hk with h | h
  ·exact .inl (.inr (.inr (.inr h)))
  ·exact .inr h
theorem TS.moved {m':RM}(hT:m'.T=m.T)(h1:Moved w m.OA m'.OA)(h2:Moved w m.BA m'.BA):∀k,TS p m' k->TS p m k∨w.heap.size<=k:=by
 rintro k (hk | hk)
 ·rcases RS.moved (p:=p) h1 h2 k hk with h | h
  ·exact .inl (.inl h)
  ·exact .inr h
 ·exact .inl (.inr (by rw[<-hT];exact hk))
theorem Rr.hiT (h:Rr w0 w base p m v):∀i,TS p m i->i<w.heap.size:=λi hi=>hi.elim (h.hi i) (h.tt i)
theorem Rr.nrow (h:Rr w0 w base p m v):¬Qk m.OA p.r/\¬Qk m.BA p.r:=by
 have:=h.rb;exact⟨λhi=>by have:=(h.out.rows _ hi).1;omega,λhi=>by have:=(h.txt.rows _ hi).1;omega⟩
theorem Rr.put (h:Rr w0 w base p m v){v':RV}(hm:Mod (·=p.r) w w')(hB:Blk w' p.r 157 (kT p m v'))(h1:v'.g.tx=v.g.tx)(h2:v'.g.sg=v.g.sg)(h3:v'.rd=v.rd)(h4:v'.g.fr=false->v'.g.sg≠ []∨v'.rd=[]):Rr w0 w' base p m v':=by
 have hE:=hm.ext h.e0 (λi hi=>by subst hi;exact h.lor);refine⟨hE,h.lor,h.loq,h.rb,h.qb,h.ne,X2 h.top hm.size,h.pa,hB,?_,?_,by rw[h2];exact h.len,λj s x hs hx=>?_,?_,by rw[h1];exact h.tl,by rw[h2];exact h.sl,by rw[h1];exact h.b8,h4,λi hi=>YL (h.tt i hi) hm.size⟩
 ·rw[h1];exact h.txt.mod hm (λi hi e=>by subst e;exact h.nrow.2 hi)
 ·rw[h2];exact h.out.mod hm (λi hi e=>by subst e;exact h.nrow.1 hi)
 ·rw[h2] at hs;exact(h.dgs j s x hs hx).keep hm (λi hi=>.inl (.inl (.inl hi)))
 ·obtain⟨mp,k1,k2⟩:=h.rdm;rw[h3];exact⟨mp,k1.mod hm (λe=>h.ne e.symm),k2⟩
end
def Gv (w0 w:World)(base:Nat)(p:RP)(m:RM)(v:RV)(w':World):Prop:=∃m',m'.T=m.T/\Rr w0 w' base p m' v/\Mod (RS p m) w w'/\Moved w m.OA m'.OA/\Moved w m.BA m'.BA
def gh (e f l:Int):List PanicEntry:=[{v:=.iface 160 (.agg #[.int .i64 e,.int .i64 f,.int .i64 l]),recovered:=false}]
section
variable {w0:World} {base:Nat} {p:RP} {m:RM} {v:RV}
theorem aI (e:Int)(w:World)(h:Rr w0 w base p m v):
  FnP Tryz.prog 148 [.pointer (some ⟨p.r,0,none⟩),.int .i64 e] w (λ_ _=>False) (λch w'=>ch=gh e v.fl v.ln/\Ext w w'):=by
 refine aX (c:={dQg with cuts:=[]}) Qa Tryz.func148 rfl rfl rfl ?_;have hB:=h.blk;refine pE Qa 12 (by kernel_rfl) ?_;refine QJ (v:=.int .i64 v.fl) (λw' Qb=>by subst Qb;rw[(hB.ext (Ext.drew w)).cell];rfl) ?_;refine QJ (v:=.int .i64 v.ln) (λw' Qb=>by subst Qb;rw[(hB.ext (Ext.drew w)).cell];rfl) ?_;exact pL rfl rfl ⟨rfl,Ext.drew w⟩
theorem Bx (x:DV)(w:World):Fn Tryz.prog 202 [.pointer (some ⟨p.r,0,none⟩),Xg x.A x.n x.c x.r,.int .i64 0] w (λu w'=>u=Xg x.A x.n x.c x.r/\Ext w w'):=by
 refine Qx (c:={dQR with cuts:=[]}) Qa Tryz.func202 rfl rfl rfl ?_;refine new (λw1 Qd Q3 Qh=>?_);refine new (λw2 Qg X0 Qv=>?_);refine Y9 rfl ?_;refine Qs (Qh.ext Qg) rfl ?_;refine QB Qv rfl (sc rfl) (λw3 ZZ _ Qw=>?_);have Qi:Ext w1 w3:=XY Qg Qv ZZ;refine Qs Qw rfl ?_;exact⟨rfl,Qd.trans Qi⟩
def Su (w:World)(k:Nat)(o:BF)(u:Value)(w':World):Prop:=∃x:DV,u=Xg x.A x.n x.c x.r/\Ext w w'/\SB w' x.A x.n x.c x.nd/\Set1 k x.nd x.r o/\∀i,Qk x.A i->w.heap.size<=i
theorem Sv (s:List Nat)(w:World)(hP:RPok w0 p)(h:Rr w0 w base p m v)(h8:∀x∈s,x<256)(hl:s.length<=1000000000000):
  FnP Tryz.prog 144 [.pointer (some ⟨p.r,0,none⟩),.string (Qe s)] w (λu w'=>∃o,YT p.nm s= .ok o/\Su w p.nm.length o u w') (λch w'=>∃e,YT p.nm s= .error e/\ch=gh e v.fl v.ln/\Ext w w'):=by
 refine aX (c:={dQc with cuts:=[]}) Qa Tryz.func144 rfl rfl rfl ?_;refine new (λw1 Qd Q3 Qh=>?_);refine QC (h.blk.ext Qd) rfl ?_;refine call (PD p.nm p.NA p.nn p.nc s w1 ((hP.nms.ext h.e0).ext Qd) hP.nmb h8 hl) ?_;rw[fQ3];have lS:YT p.nm s=match kM p.nm s with
  | .ok t=>.ok (evF t)
  | .error e=>.error (if e=2 then 2 else 71):=rfl
 cases bA:kM p.nm s with
 | ok t=>
  rw[bA] at lS;obtain⟨k1,k2,k3⟩:=fQ4 bA;rintro _ w2 ⟨G,mg,cG,rfl,Qg,hG⟩;have hk:=hP.nmk;refine JN rfl ?_;refine call (gQg G mg cG _ p.nm.length hk w2 hG (RG (k2.mono (by omega)) k3) (tz t _ 0 k2)) ?_;rintro _ w3 ⟨D,md,cD,nd,r,rfl,Qi,hD,hS,hR⟩;rw[F4] at hS;refine call (Bx ⟨D,md,cD,nd,r⟩ w3) ?_;rintro _ w4 ⟨rfl,Qq⟩;have Jd:=(Qg.trans Qi).trans Qq;refine QB (Qh.ext Jd) rfl (sc rfl) (λw5 Jr _ QL=>?_);have Z9:Mod (·=w.heap.size) w4 w5:=oQh Jr rfl;refine Qs QL rfl ?_;have X0:=Qg.size;exact⟨_,lS,⟨D,md,cD,nd,r⟩,rfl,Z9.ext (Qd.trans Jd) (λi hi=>by omega),SB.mod (hD.ext Qq) Z9 (λi hi e=>by have:=hR i hi;omega),hS,λi hi=>by have:=hR i hi;omega⟩
 | error e=>
  rw[bA] at lS;rintro _ w2 ⟨G,mg,cG,rfl,Qg,hG⟩;have Xu:=Qd.trans Qg;have h2:=h.ext Xu;rcases fQ5 bA with rfl | rfl | rfl | rfl
  ·refine XW (by decide) ?_;refine XW (by decide) ?_;refine XP (aI 71 w2 h2) (λ_ _ hf=>hf.elim) ?_;rintro ch w3 ⟨rfl,Qi⟩;exact⟨_,lS,rfl,Xu.trans Qi⟩
  ·refine XW (by decide) ?_;refine JN rfl ?_;refine XP (aI 2 w2 h2) (λ_ _ hf=>hf.elim) ?_;rintro ch w3 ⟨rfl,Qi⟩;exact⟨_,lS,rfl,Xu.trans Qi⟩
  ·refine XW (by decide) ?_;refine XW (by decide) ?_;refine XP (aI 71 w2 h2) (λ_ _ hf=>hf.elim) ?_;rintro ch w3 ⟨rfl,Qi⟩;exact⟨_,lS,rfl,Xu.trans Qi⟩
  ·refine XW (by decide) ?_;refine XW (by decide) ?_;refine XP (aI 71 w2 h2) (λ_ _ hf=>hf.elim) ?_;rintro ch w3 ⟨rfl,Qi⟩;exact⟨_,lS,rfl,Xu.trans Qi⟩
theorem Sw (k:Nat)(hk:k<=12)(x y:DV)(o o':BF)(w:World)(hx:SB w x.A x.n x.c x.nd)(hxs:Set1 k x.nd x.r o)(hy:SB w y.A y.n y.c y.nd)(gA:Set1 k y.nd y.r o'):
  Fn Tryz.prog 146 [.pointer (some ⟨p.r,0,none⟩),Xg x.A x.n x.c x.r,Xg y.A y.n y.c y.r] w (λu w'=>∃a b:DV,u= .tuple #[Xg a.A a.n a.c a.r,Xg b.A b.n b.c b.r]/\Ext w w'/\SB w' a.A a.n a.c a.nd/\Set1 k a.nd a.r (JQ o o')/\(∀i,Qk a.A i->w.heap.size<=i)/\SB w' b.A b.n b.c b.nd/\Set1 k b.nd b.r (YD o o')/\∀i,Qk b.A i->w.heap.size<=i):=by
 refine Qx (c:={dQe with cuts:=[]}) Qa Tryz.func146 rfl rfl rfl ?_;refine new (λw1 Qd Q3 Qh=>?_);refine new (λw2 Qg X0 Qv=>?_);refine new (λw3 Qi JF Qw=>?_);refine new (λw4 Qq K5 Q6=>?_);have K6:=Qi.trans Qq;have Ja:=Qg.trans K6;have XI:=Qd.trans Ja;refine Qs (Qh.ext Ja) rfl ?_;refine Qs (Qv.ext K6) rfl ?_;have hx4:=hx.ext XI;have IC:=hy.ext XI;refine call (wC x.A x.n x.c x.nd x.r y.A y.n y.c y.nd y.r w4 hx4 IC) ?_;rw[gV hk hxs gA 0];have c1:Set1 k _ _ (JQ o o'):=(eL hxs gA 0).congr (λe=>by simp[Kr]);generalize VV x.nd x.r y.nd y.r 0=D at*;obtain⟨D1,D2⟩:=D;rintro _ w5 ⟨PA,pn,pc,rfl,Qz,qE,bw⟩;refine call (Bx ⟨PA,pn,pc,D1,D2⟩ w5) ?_;rintro _ w6 ⟨rfl,Xh⟩;have XF:=Qz.trans Xh;refine QB ((Qw.ext Qq).ext XF) rfl (sc rfl) (λw7 ZC _ Q4=>?_);have Xi:Mod (·=w2.heap.size) w6 w7:=oQh ZC rfl;have XD:=XI.trans XF;have Ki:Ext w w7:=Xi.ext XD (λi hi=>by omega);have n12:¬w.heap.size=w2.heap.size:=by omega
 have CN:¬w1.heap.size=w2.heap.size:=by omega
 have nQ:=((Qh.ext Ja).ext XF).mod Xi n12;have kQD:=((Qv.ext K6).ext XF).mod Xi CN;have kQE:=(Q6.ext XF).mod Xi (by show¬w3.heap.size=w2.heap.size;omega);have lB:=SB.mod (qE.ext Xh) Xi (λi hi e=>by have:=bw i hi;omega);refine Xy Qa (Ext w7) 12 [(true,0),(true,1),(true,2),(true,3),(false,4),(true,5),(true,6),(false,7),(false,8),(true,9),(true,10),(false,11)] (by kernel_rfl) (Ext.drew w7) ?_;refine Xr (vs:=x.cells) rfl (λw' Qb j u hj=>by rw[(nQ.ext Qb).cell];exact hj) ?_;refine Xr (vs:=y.cells) rfl (λw' Qb j u hj=>by rw[(kQD.ext Qb).cell];exact hj) ?_;have hd:=Ext.drew w7;refine call (Gg y.A y.n y.c y.nd y.r _ ((hy.ext Ki).ext hd)) ?_;have c0:Set1 k [] 0 (λ_=>false):=bO k false;rw[gV hk gA c0 3];have c2:Set1 k _ _ (λe=> !o' e):=(eL gA c0 3).congr (λe=>by simp[Kr]);generalize VV y.nd y.r [] 0 3=F at*;obtain⟨F1,F2⟩:=F;rintro _ w8 ⟨QA,qn,qc,rfl,Q7,hQ8,nP⟩;refine⟨hd.trans Q7,?_⟩;refine call (Bx ⟨QA,qn,qc,F1,F2⟩ w8) ?_;rintro _ w9 ⟨rfl,Xo⟩;have VG:=(hd.trans Q7).trans Xo;refine⟨VG,?_⟩;refine call (wC x.A x.n x.c x.nd x.r QA qn qc F1 F2 w9 ((hx.ext Ki).ext VG) (hQ8.ext Xo)) ?_;rw[gV hk hxs c2 0];have c3:Set1 k _ _ (YD o o'):=(eL hxs c2 0).congr (λe=>by simp[Kr]);generalize VV x.nd x.r F1 F2 0=G at*;obtain⟨G1,G2⟩:=G;rintro _ QE ⟨RA,rn,rc,rfl,X7,kQF,qF⟩;refine⟨VG.trans X7,?_⟩;refine call (Bx ⟨RA,rn,rc,G1,G2⟩ QE) ?_;rintro _ QH ⟨rfl,Z4⟩;have dV:=(VG.trans X7).trans Z4;refine⟨dV,?_⟩;refine QB (kQE.ext dV) rfl (sc rfl) (λQW lD _ Ji=>?_);have VC:Mod (·=w3.heap.size) QH QW:=oQh lD rfl;have lF:Ext w QW:=VC.ext (Ki.trans dV) (λi hi=>by omega);have aQh:=(Q4.ext dV).mod VC (by show¬w2.heap.size=w3.heap.size;omega);have WF:=Ki.size;have ff:=VG.size;have aQi:=VC.size;have mQ3:=dV.size;have aQg:=XF.size;have mQ4:=Xi.size;have kQG:=SB.mod (lB.ext dV) VC (λi hi e=>by have:=bw i hi;omega);have H0:=SB.mod (kQF.ext Z4) VC (λi hi e=>by have:=qF i hi;omega);have uo:=Ext.drew QW;have n23:¬w3.heap.size=w2.heap.size:=by omega
 refine Xy Qa (λw'=>Mod (λi=>i=w2.heap.size∨i=w3.heap.size) QW w'/\Blk w' w2.heap.size 32 (⟨PA,pn,pc,D1,D2⟩:DV).cells/\Blk w' w3.heap.size 32 (⟨RA,rn,rc,G1,G2⟩:DV).cells) 4 [(true,0),(true,1),(false,2),(false,3)] (by kernel_rfl) ⟨Mod.of_ext _ uo,aQh.ext uo,Ji.ext uo⟩ ?_;refine Xr (vs:=(⟨PA,pn,pc,D1,D2⟩:DV).cells) rfl (λw' Qb j u hj=>by rw[Qb.2.1.cell];exact hj) ?_;refine Xr (vs:=(⟨RA,rn,rc,G1,G2⟩:DV).cells) rfl (λw' Qb j u hj=>by rw[Qb.2.2.cell];exact hj) ?_;refine QB (aQh.ext uo) rfl (sc rfl) (λXM xI _ Kh=>?_);have J3:Mod (·=w2.heap.size) QW.drew XM:=oQh xI rfl;have aQj:Mod (λi=>i=w2.heap.size∨i=w3.heap.size) QW XM:=(Mod.of_ext _ uo).trans J3 (λi hi=>.inl (.inl hi));have aQk:=(Ji.ext uo).mod J3 n23;refine⟨⟨aQj,Kh,aQk⟩,?_⟩;refine QB aQk rfl (sc rfl) (λX1 cS _ Jc=>?_);have Kx:Mod (·=w3.heap.size) XM X1:=oQh cS rfl;have aQl:=Kh.mod Kx (λe=>n23 e.symm);have nN:=aQj.trans Kx (λi hi=>.inl (.inr hi));refine⟨⟨nN,aQl,Jc⟩,?_⟩;refine Qs aQl rfl ?_;refine Qs Jc rfl ?_;have qG:Ext w X1:=nN.ext lF (λi hi=>by rcases hi with rfl | rfl<;>omega);exact⟨⟨PA,pn,pc,D1,D2⟩,⟨RA,rn,rc,G1,G2⟩,rfl,qG,SB.mod kQG nN (λi hi e=>by have:=bw i hi;omega),c1,λi hi=>by have:=bw i hi;have:=XI.size;omega,
  SB.mod H0 nN (λi hi e=>by have:=qF i hi;omega),c3,λi hi=>by have:=qF i hi;omega⟩
theorem Sy (w:World)(h:Rr w0 w base p m v)(hd:v.d<=64):
  FnP Tryz.prog 145 [.pointer (some ⟨p.r,0,none⟩)] w (λ_ w'=>v.d≠64/\Rr w0 w' base p m {v with d:=v.d+1}/\Mod (·=p.r) w w') (λch w'=>v.d=64/\ch=gh 2 v.fl v.ln/\Ext w w'):=by
 refine aX (c:={dQd with cuts:=[]}) Qa Tryz.func145 rfl rfl rfl ?_;refine Qp h.blk rfl ?_;refine XU (λh1=>?_) (λh1=>?_)
 ·refine XP (aI 2 w h) (λ_ _ hf=>hf.elim) ?_;rintro ch w1 ⟨rfl,Qd⟩;exact⟨by omega,rfl,Qd⟩
 ·refine Qp h.blk rfl ?_;refine Qj ((v.d+1:Nat):Int) (by show((v.d:Nat):Int)+1=_;omega) (by omega) ?_;refine XQ h.blk (show 4<11 by decide) (λw1 eX Qh=>?_);exact⟨λe=>h1 (by omega),h.put eX Qh rfl rfl rfl h.nf,eX⟩
theorem gQG (ix:List Nat->Option Nat)(rd s:List Nat):dK ix rd s=if s.length<2∨s.head? ≠some 34∨s.getLast? ≠some 34∨s.count 34≠2 then .error 71 else match ix ((s.drop 1).take (s.length-2))with
  | none=>.error 73
  | some n=>if n∈rd then .error 73 else .ok n:=rfl
theorem By {ix:List Nat->Option Nat}{rd s:List Nat}(h:s.length<2∨s.head? ≠some 34∨s.getLast? ≠some 34∨s.count 34≠2):dK ix rd s= .error 71:=Qf h
theorem gQH {p:RP}(hP:RPok w0 p):Jy (p.fs.map (·.1)):=λs hs=>by
 obtain⟨x,hx,rfl⟩:=ZM.1 hs;exact⟨(hP.flb x hx).n8,(hP.flb x hx).nl⟩
theorem gQI {α:Type} [DecidableEq α]{kv:α->Value}{c:Cx}{o:Oper}{S:Env}{t ke e:Nat}{r rk re:TyRow}{x y:Operand}{q:Nat}{mm:List (α×Value)}{a:α}{C:World->Prop}{K:Env->Prop}(hg:c.g.Ok)(ho:o.op= .lookup t x y true)(hr:QX c.g.tys t=some r)(hd:r.d= .map ke e)(bB:QX c.g.tys ke=some rk)(Zb:QX c.g.tys e=some re)(hk:KeyV rk.d kv)
  (hx:S.ev x=some (.map (some q))) (hy:S.ev y=some (kv a)) (hm:∀w,C w->MapAt kv w q mm) {v':Value} {b:Bool} (hv:(XJ a mm).getD re.z=v') (hb:(XJ a mm).isSome=b) (k:Xn c S o.dst (.v (.tuple #[v',.bool b])) K):cv c o S C K:=by
 subst hv hb;refine cQs (v:=.tuple #[(XJ a mm).getD re.z,.bool (XJ a mm).isSome]) (λb w hf hw=>?_) k;have e1:=hf.ev hx;have e2:=hf.ev hy;have:=Fo (w:=w) (a:=a) hg hr hd bB Zb hk (hm w hw) true;simp only[execOp,ho,e1,e2];simp only[Sem.run_bind,this,Result.andThen_ok];cases XJ a mm<;>simp
theorem gQJ (s:List Nat)(w:World)(hP:RPok w0 p)(h:Rr w0 w base p m v)(h8:∀x∈s,x<256)(hl:s.length<=1000000000000):
  FnP Tryz.prog 147 [.pointer (some ⟨p.r,0,none⟩),.string (Qe s)] w (λu w'=>∃n:Nat,dK (JB (p.fs.map (·.1))) v.rd s= .ok n/\u= .int .i64 n/\Ext w w') (λch w'=>∃e,dK (JB (p.fs.map (·.1))) v.rd s= .error e/\ch=gh e v.fl v.ln/\Ext w w'):=by
 refine aX (c:={dQf with cuts:=[]}) Qa Tryz.func147 rfl rfl rfl ?_;have XG:=XC s;have Wu:=Wa h8;refine Qt (λh1=>?_) (λh1=>?_)
 ·have hs:s.length<2:=by rw[XG] at h1;omega
  refine XP (aI 71 w h) (λ_ _ hf=>hf.elim) ?_;rintro ch w1 ⟨rfl,Qd⟩;exact⟨_,By (.inl hs),rfl,Qd⟩
 have hs:¬s.length<2:=by rw[XG] at h1;omega
 refine az (j:=0) (by omega) (λx hx oP=>?_);rw[Wu] at hx;have bQp:s.head? =some x:=by rw[List.head?_eq_getElem?];exact hx
 refine Yt (λh2=>?_) (λh2=>?_)
 ·refine XP (aI 71 w h) (λ_ _ hf=>hf.elim) ?_;rintro ch w1 ⟨rfl,Qd⟩;exact⟨_,By (.inr (.inl (by rw[bQp];intro e;cases e;exact h2 rfl))),rfl,Qd⟩
 have kQH:x=34:=by omega
 refine Qj ((s.length-1:Nat):Int) (by rw[XG];omega) (by omega) ?_;refine az (j:=s.length-1) (by omega) (λy hy hyl=>?_);rw[Wu] at hy;have iL:s.getLast? =some y:=by rw[pm];exact hy
 refine Yt (λh3=>?_) (λh3=>?_)
 ·refine XP (aI 71 w h) (λ_ _ hf=>hf.elim) ?_;rintro ch w1 ⟨rfl,Qd⟩;exact⟨_,By (.inr (.inr (.inl (by rw[iL];intro e;cases e;exact h3 rfl)))),rfl,Qd⟩
 have kQI:y=34:=by omega
 refine call (Sm s 34 w h8 (by decide)) ?_;rintro _ _ ⟨rfl,rfl⟩;refine Yt (λh4=>?_) (λh4=>?_)
 ·refine XP (aI 71 w h) (λ_ _ hf=>hf.elim) ?_;rintro ch w1 ⟨rfl,Qd⟩;exact⟨_,By (.inr (.inr (.inr (by omega)))),rfl,Qd⟩
 have Mt:¬(s.length<2∨s.head? ≠some 34∨s.getLast? ≠some 34∨s.count 34≠2):=by
  rintro(h | h | h | h)
  ·exact hs h
  ·rw[bQp,kQH] at h;exact h rfl
  ·rw[iL,kQI] at h;exact h rfl
  ·omega
 have iM:dK (JB (p.fs.map (·.1))) v.rd s=match JB (p.fs.map (·.1)) ((s.drop 1).take (s.length-2))with
  | none=>.error 73
  | some n=>if n∈v.rd then .error 73 else .ok n:=if_neg Mt
 have hn8:∀b∈(s.drop 1).take (s.length-2),b<256:=λb hb=>h8 b (av (bF hb))
 have ao:=FH (gQH hP) _ hn8;have hB:=h.blk;refine Xy Qa (Ext w) 15 [(true,0),(true,1),(true,2),(true,3),(true,4),(true,5),(true,6),(true,7),(true,8),(true,9),(true,10),(true,11),(true,12),(true,13),(true,14)] (by kernel_rfl) (Ext.drew w) ?_;refine QJ (v:=.map (some p.nq)) (λw' Qb=>by rw[(hB.ext Qb).cell];rfl) ?_;refine Qj ((s.length-1:Nat):Int) (by rw[XG];omega) (by omega) ?_;refine Jz (v':=.string (Qe ((s.drop 1).take (s.length-2)))) ⟨by omega,by omega,by rw[XG];omega⟩ ?_ ?_
 ·rw[Vc];simp only[fT,Int.toNat_one];rw[gL];congr 3
 generalize iB:(s.drop 1).take (s.length-2)=nm at*;refine gQI (kv:=V8) (a:=Qe nm) (v':=.int .i64 ((JB (p.fs.map (·.1)) nm).getD 0:Nat)) (b:=(JB (p.fs.map (·.1)) nm).isSome) Qa rfl rfl rfl rfl rfl oQi rfl rfl (λw' Qb=>(hP.nqm.ext h.e0).ext Qb) (by rw[ao];cases JB (p.fs.map (·.1)) nm<;>rfl) (by rw[ao];cases JB (p.fs.map (·.1)) nm<;>rfl) ?_;have Qd:=Ext.drew w;have t6:=h.ext Qd;obtain⟨mp,k1,k2,k3⟩:=t6.rdm;cases Km:JB (p.fs.map (·.1)) nm with
 | none=>
  rw[Km] at iM;refine Xe rfl ?_;refine XP (aI 73 _ t6) (λ_ _ hf=>hf.elim) ?_;rintro ch w1 ⟨rfl,Qg⟩;exact⟨_,iM,rfl,Qd.trans Qg⟩
 | some n=>
  rw[Km] at iM;simp only at iM;refine Xv rfl ?_;refine Qp t6.blk rfl ?_;refine FK (kv:=aZ) (a:=(n:Int)) (v:=.bool (decide (n∈v.rd))) Qa rfl rfl rfl rfl rfl (KeyV.int .i64) rfl rfl k1 (by rw[k3 n];by_cases hm:n∈v.rd<;>simp[hm]) ?_;by_cases hm:n∈v.rd
  ·rw[Qf hm] at iM;refine Zd hm ?_;refine XP (aI 73 _ t6) (λ_ _ hf=>hf.elim) ?_;rintro ch w1 ⟨rfl,Qg⟩;exact⟨_,iM,rfl,Qd.trans Qg⟩
  ·rw[if_neg hm] at iM;refine Xx hm ?_;exact⟨n,iM,rfl,Qd⟩
end
end
section
theorem gQK {α:Type}{f:α->List Value}(hf:∀x,∀u∈f x,Jw u=true)(l:List α):∀u∈l.flatMap f,Jw u=true:=λu hu=>by
 obtain⟨x,_,hx⟩:=eA.1 hu;exact hf x u hx
theorem gQL (x:Br):∀u∈x.cells,Jw u=true:=sc rfl
theorem gQM (k:Nat)(hk:k<=12)(x:DV)(o:BF)(w:World)(hx:SB w x.A x.n x.c x.nd)(hs:Set1 k x.nd x.r o):
  Fn Tryz.prog 206 [Xg x.A x.n x.c x.r] w (Su w k o):=by
 have Xf:=hx.2;have hl:=hs.len hk;refine Qx (c:={dQU with cuts:=[]}) Qa Tryz.func206 rfl rfl rfl ?_;refine new (λw1 Qd Q3 Qh=>?_);refine new (λw2 Qg X0 Qv=>?_);have QT:=Qd.trans Qg;have Ji:=Qh.ext Qg;refine Xy Qa (Ext w2) 6 [(true,0),(true,1),(true,3),(true,4),(false,2),(true,5)] (by kernel_rfl) (Ext.drew w2) ?_;refine QJ (v:=.slice x.A x.n x.c) (λw' Qb=>by rw[(Ji.ext Qb).cell];rfl) ?_;refine QJ (v:=.int .i64 x.r) (λw' Qb=>by rw[(Ji.ext Qb).cell];rfl) ?_;have hd:=Ext.drew w2;have hz:=hd.size;refine Zk (base:=w2.drew.heap.size) Qa rfl rfl rfl rfl rfl (by decide) rfl rfl ⟨_,rfl⟩ rfl rfl (Own.nil _ _ _ _) ((hx.ext QT).ext hd).1 (gQK gQL _) (by unfold maxLen;omega) (by show(0+x.n)*24<=_;omega) (QD _) ?_;intro A' c' w3 XE nC Cu;have KU:Ext w2 w3:=XE.ext hd (λi hi=>by obtain⟨_,e,_⟩:=hi;cases e);refine⟨KU,?_⟩;refine QB (Qv.ext KU) rfl (sc rfl) (λw4 bn _ Q6=>?_);have KR:Mod (·=w1.heap.size) w3 w4:=oQh bn rfl;refine Qs Q6 rfl ?_;have oQ:∀i,Qk A' i->w2.heap.size<=i:=λi hi=>by have:=(nC.rows i hi).1;omega
 refine⟨⟨A',0+x.n,c',x.nd,x.r⟩,rfl,KR.ext (QT.trans KU) (λi hi=>by omega),?_,hs,λi hi=>by have:=oQ i hi;have:=QT.size;omega⟩;refine SB.mod ⟨?_,by show x.nd.length=0+x.n;omega⟩ KR (λi hi e=>by have:=oQ i hi;omega);simpa using nC.sl
theorem Gw {l:List Sg}{L:List DV}(h:L.length=l.length)(s:Sg)(x:DV):cJ (l++ [s]) (L++ [x])=cJ l L++mW (s,x):=by
 unfold cJ;rw[List.zip_append h.symm];simp
theorem Sz {l:List Sg}{L:List DV}(h:L.length=l.length):(cJ l L).length=l.length*6:=by
 unfold cJ;rw[dD gQF];simp[h]
theorem gQN (x:Sg×DV):∀u∈mW x,Jw u=true:=sc rfl
theorem Bz {w:World}{base e sz n c j:Nat}{a:Addr}{xs:List Value}{v:Value}{K:World->Prop}(h:Own w base e sz (some a) n c xs)(hn:0<n)(hj:j<n*sz)
  (k:∀w1,Mod (Qk (some a)) w w1->Own w1 base e sz (some a) n c (xs.set j v)->K w1):eD w (a.add j) v K:=by
 have _:=hn;have hr:=h.row;have Xf:=hr.1;rcases hr.2 with⟨hv,_⟩ | ⟨g,cap,Ju,hv,hb,hg,iE,WO,Zf,rB⟩
 ·cases hv
 ·cases hv;have hB:Blk w g e Ju.toList:=by unfold Blk;rw[hg]
  have hjc:j<Ju.toList.length:=by
   have:Ju.size=c*sz:=Zf;have h2:n*sz<=c*sz:=Y4 _ iE;simp only[Array.length_toList];omega
  refine XQ hB hjc (λw1 hm Qh=>k w1 (hm.mono (λi hi=>.inl ⟨_,rfl,hi.symm⟩)) ⟨⟨by rw[cj];exact Xf,.inr ⟨g,c,(Ju.toList.set j v).toArray,rfl,hb,Qh,iE,WO,by simpa using Zf,?_⟩⟩⟩);have ht:Ju.toList.take (n*sz)=xs:=rB;show((Ju.toList.set j v).toArray.toList).take (n*sz)=xs.set j v;rw[<-ht];simp only[List.take_set]
theorem gQO {l:List Sg}{L:List DV}(h:L.length=l.length)(s:Sg)(x:DV)(t:Nat):(cJ (l++ [s]) (L++ [x])).set (l.length*6+1) (.int .i64 t)=cJ (l++ [{s with t:=t}]) (L++ [x]):=by
 rw[Gw h,Gw h,NV _ _ (by rw[Sz h];omega),Sz h];congr 1;rw[show l.length*6+1-l.length*6=1 by omega]<;>rfl
theorem gQP {a b:List Nat}(ha:∀x∈a,x<256)(hb:∀x∈b,x<256):∀x∈a++b,x<256:=λx hx=>by
 rcases XH.1 hx with h | h
 ·exact ha x h
 ·exact hb x h
section
variable {w0:World} {base:Nat} {p:RP}
theorem SC {s:List Nat}{fl at_:Nat}{k:BF}{g:Gs}(h:1048576<g.tx.length+s.length∨(g.fr=true/\g.sg.length=65536)):Yb s fl at_ k g=none:=Qf h
theorem gQQ {s:List Nat}{fl at_:Nat}{k:BF}{g:Gs}(h:¬(1048576<g.tx.length+s.length∨(g.fr=true/\g.sg.length=65536))):Yb s fl at_ k g=some ⟨g.tx++s,mU (g.tx.length+s.length) (if g.fr then g.sg++ [⟨g.tx.length,0,fl,at_,k⟩] else g.sg),false⟩:=if_neg h
theorem gQR:wE 157 11 5:=by unfold wE;kernel_rfl
theorem Rr.app {m:RM}{v v':RV}{w w1 w2:World}(h:Rr w0 w base p m v)(s:Sg)(x:DV){A':Option Addr}{c':Nat}(Zr:Mod (Qk m.OA) w w1)(ho:Own w1 base 48 6 A' (v.g.sg.length+1) c' (cJ v.g.sg m.L++mW (s,x)))(hv:Moved w m.OA A')(XR:Mod (·=p.r) w1 w2)
  (hx:DgO w (TS p m) p.nm.length x s.o) (hl:v.g.sg.length<65536) (e1:v'.g.tx=v.g.tx) (e2:v'.g.sg=v.g.sg++ [s]) (e3:v'.rd=v.rd) (hB:Blk w2 p.r 157 (kT p {m with OA:=A',oc:=c',L:=m.L++ [x]} v')):Rr w0 w2 base p {m with OA:=A',oc:=c',L:=m.L++ [x]} v':=by
 have Q1:=TS.moved (p:=p) (m:=m) (m':={m with OA:=A',oc:=c',L:=m.L++ [x]}) rfl hv (Moved.refl w m.BA);have Z0:Mod (RS p m) w w2:=(Zr.mono (S':=RS p m) (λi hi=>.inl (.inr (.inr (.inl hi))))).trans XR (λi hi=>.inl (.inl hi));have Em:∀i,Qk A' i->¬i=p.r:=λi hi e=>by subst e;have:=(ho.rows _ hi).1;have:=h.rb;omega
 have XG:=h.top;have Q3:=Zr.size;have X0:=XR.size;refine⟨Z0.ext h.e0 h.lo,h.lor,h.loq,h.rb,h.qb,h.ne,by omega,h.pa,hB,?_,?_,?_,?_,?_,by rw[e1];exact h.tl,?_,by rw[e1];exact h.b8,λ_=>.inl (by rw[e2];simp),λi hi=>YL (h.tt i hi) (by omega)⟩
 ·rw[e1];exact(h.txt.mod Zr (λi hi hj=>h.txt.apart h.out (by decide) hi hj)).mod XR (λi hi e=>by subst e;exact h.nrow.2 hi)
 ·rw[e2];have:=ho.mod XR Em;rw[Gw h.len,Qy];exact this
 ·rw[e2];show(m.L++ [x]).length=_;rw[Qy,Qy,h.len]<;>rfl
 ·rw[e2];intro j s1 x1 bX eZ;have eZ:(m.L++ [x])[j]? =some x1:=eZ;rcases pQ bX with⟨hj,bX⟩ | ⟨hj,bX⟩
  ·rw[ew (by rw[h.len];exact hj)] at eZ;exact(h.dgs j s1 x1 bX eZ).step (Z0.mono (λi hi=>.inl (.inl hi))) Q1
  ·rw[aU (by rw[h.len];exact hj),h.len] at eZ;obtain⟨h0,rfl⟩:=kL bX;obtain⟨_,rfl⟩:=kL eZ;exact hx.step (Z0.mono (λi hi=>.inl (.inl hi))) Q1
 ·obtain⟨mp,k1,k2⟩:=h.rdm;rw[e3];exact⟨mp,(k1.mod Zr (k1.apart h.out)).mod XR (λe=>h.ne e.symm),k2⟩
 ·rw[e2,Qy];simp;omega
theorem gQS {l:List Sg}{L:List DV}(h:L.length=l.length)(hn:l≠ []):∃l' s L' x,l=l'++ [s]/\L=L'++ [x]/\L'.length=l'.length:=by
 rcases vq l with rfl | ⟨l',s,rfl⟩
 ·exact Xd rfl hn
 rcases vq L with rfl | ⟨L',x,rfl⟩
 ·simp at h
 ·exact⟨l',s,L',x,by simp,by simp,by simpa using h⟩
theorem add_fn (m:RM)(v:RV)(s:List Nat)(at_:Nat)(k:DV)(o:BF)(w:World)(hP:RPok w0 p)(h:Rr w0 w base p m v)(hk:DgO w (RS p m) p.nm.length k o)(h8:∀x∈s,x<256)(lQ:s.length<=1048577)(mQo:v.rd≠ []):
  FnP Tryz.prog 150 [.pointer (some ⟨p.r,0,none⟩),.string (Qe s),.int .i64 at_,Xg k.A k.n k.c k.r] w (λ_ w'=>∃g',Yb s v.fl at_ o v.g=some g'/\Gv w0 w base p m {v with g:=g'} w') (λch w'=>Yb s v.fl at_ o v.g=none/\ch=gh 2 v.fl v.ln/\Ext w w'):=by
 have rG:=XC s;have V5:=h.tl;have nQ4:=h.sl;refine aX (c:={dQi with cuts:=[2,4]}) Qa Tryz.func150 rfl rfl rfl ?_;refine new (λw1 Qd Q3 Qh=>?_);have h1:=h.ext Qd;refine call (gQj p.r 157 5 (kT p m v) m.BA m.bc v.g.tx.length w1 h1.blk rfl) ?_;rintro _ _ ⟨rfl,rfl⟩;refine ON [] Qa (λw2=>w1=w2/\¬(1048576<v.g.tx.length+s.length∨(v.g.fr=true/\v.g.sg.length=65536))) ?_ ?_
 ·refine Qj ((v.g.tx.length+s.length:Nat):Int) (by rw[rG];omega) (by omega) ?_;refine Qt (λc1=>?_) (λc1=>?_)
  ·refine XP (aI 2 w1 h1) (λ_ _ hf=>hf.elim) ?_;rintro ch w2 ⟨rfl,Qg⟩;exact⟨SC (.inl (by omega)),rfl,Qd.trans Qg⟩
  refine Qp h1.blk rfl ?_;refine Kq (λf1=>?_) (λf1=>?_)
  ·refine Qp h1.blk rfl ?_;refine XU (λc2=>?_) (λc2=>?_)
   ·refine XP (aI 2 w1 h1) (λ_ _ hf=>hf.elim) ?_;rintro ch w2 ⟨rfl,Qg⟩;exact⟨SC (.inr ⟨f1,by omega⟩),rfl,Qd.trans Qg⟩
   ·exact⟨rfl,rfl,by omega⟩
  ·exact⟨rfl,rfl,by rw[f1];intro hh;rcases hh with hh | ⟨hh,_⟩;omega;cases hh⟩
 rintro _ ⟨rfl,rC⟩;have mQp:=gQQ (s:=s) (fl:=v.fl) (at_:=at_) (k:=o) (g:=v.g) rC;refine ON [] Qa (Gv w0 w1 base p m {v with g:=⟨v.g.tx,if v.g.fr then v.g.sg++ [⟨v.g.tx.length,0,v.fl,at_,o⟩] else v.g.sg,false⟩}) ?_ ?_
 ·refine Qp h1.blk rfl ?_;refine Kq (λf1=>?_) (λf1=>?_)
  ·have f1:v.g.fr=true:=f1;have Es:v.g.sg.length<65536:=by
    rcases Nat.lt_or_ge v.g.sg.length 65536 with hh | hh
    ·exact hh
    ·exact Xd (Or.inr ⟨f1,by omega⟩) rC
   have lT:=h.hi;have lR:¬RS p m w.heap.size:=λhh=>by have:=lT _ hh;omega
   have nrow:=h.nrow;refine Xy Qa (Mod (Qk m.OA) w1) 18 [(true,0),(true,1),(true,2),(true,3),(true,4),(true,5),(true,6),(true,7),(true,8),(true,9),(true,10),(true,11),(false,12),(true,13),(false,14),(false,15),(true,16),(true,17)] (by kernel_rfl) (Mod.of_ext _ (Ext.drew w1)) ?_;refine QJ (v:=.slice m.OA v.g.sg.length m.oc) (λw' Qb=>by rw[(h1.blk.mod Qb nrow.1).cell];rfl) ?_;refine QJ (v:=.int .i64 v.fl) (λw' Qb=>by rw[(h1.blk.mod Qb nrow.1).cell];rfl) ?_;refine Xr (vs:=k.cells) rfl (λw' Qb j u hj=>by rw[(Qh.mod Qb (λhh=>lR (.inr (.inr (.inl hh))))).cell];exact hj) ?_;have hd:=Ext.drew w1;have CO:=hk.ext Qd;refine call (gQM p.nm.length hP.nmk k o w1.drew (CO.sb.ext hd) CO.st) ?_;rintro _ w2 ⟨x,rfl,Qg,HQ,hxs,En⟩;have Xu:=hd.trans Qg;refine⟨Mod.of_ext _ Xu,?_⟩;refine Xm Qa [mW (⟨v.g.tx.length,0,v.fl,at_,o⟩,x)] rfl rfl rfl rfl rfl ⟨rfl,rfl,⟨⟩⟩ rfl (λcs hh=>by simp only[QF] at hh;subst hh;rfl) rfl (by decide) (by decide) ?_;intro w3 Qi JF Qw;have Xq:=Xu.trans Qi;refine⟨Mod.of_ext _ Xq,?_⟩;have h3:=h1.ext Xq;have qy:Sl w3 6 (some ⟨w2.heap.size,0,none⟩) 1 1 (mW (⟨v.g.tx.length,0,v.fl,at_,o⟩,x)):=Sl.own (sz:=6) (n:=1) Qw (QD _) (by decide) (by simp[mW]);refine Zk Qa rfl rfl rfl rfl rfl (by decide) rfl rfl ⟨_,rfl⟩ rfl rfl h3.out qy (gQN _) (by unfold maxLen;omega) (by show(v.g.sg.length+1)*64<=_;omega) h3.top ?_;intro A' c' w4 X9 qz CQ;refine⟨(Mod.of_ext (Qk m.OA) Xq).trans X9 (λi hi=>.inl hi),?_⟩;refine XQ (h3.blk.mod X9 nrow.1) (show 7<11 by decide) (λw5 XV QL=>?_);refine XQ QL (show 8<11 by decide) (λw6 VY Xj=>?_);have aQm:Mod (·=p.r) w4 w6:=XV.trans VY (λi hi=>.inl hi);have kQJ:=h1.hiT;have yS:DgO w3 (TS p m) p.nm.length x o:=(DgO.new (S:=TS p m) HQ hxs En (λi hi=>by have:=kQJ i hi;have:=hd.size;omega)).ext Qi;have hx3:DgO w3 (TS p m) p.nm.length x (⟨v.g.tx.length,0,v.fl,at_,o⟩:Sg).o:=yS;rw[f1,Qf rfl];refine⟨rfl,⟨{m with OA:=A',oc:=c',L:=m.L++ [x]},rfl,h3.app ⟨v.g.tx.length,0,v.fl,at_,o⟩ x X9 qz CQ aQm hx3 Es rfl rfl rfl ?_,?_,CQ.back Xq.size,Moved.refl _ _⟩⟩
   ·have e:(v.g.sg++ [(⟨v.g.tx.length,0,v.fl,at_,o⟩:Sg)]).length=v.g.sg.length+1:=by simp
    show Blk w6 p.r 157 [.slice p.NA p.nn p.nc,.slice p.FA p.nf p.cf,.map (some p.nq),.map (some p.q),.int .i64 v.d,m.pa,.slice m.BA v.g.tx.length m.bc,.slice A' (v.g.sg++ [(⟨v.g.tx.length,0,v.fl,at_,o⟩:Sg)]).length c',.bool false,.int .i64 v.fl,.int .i64 v.ln];rw[e];exact Xj
   ·exact((Mod.of_ext (RS p m) Xq).trans X9 (λi hi=>.inl (.inr (.inr (.inl hi))))).trans aQm (λi hi=>.inl (.inl hi))
  ·have f1:v.g.fr=false:=f1;have e:({v with g:=⟨v.g.tx,if v.g.fr then v.g.sg++ [⟨v.g.tx.length,0,v.fl,at_,o⟩] else v.g.sg,false⟩}:RV)=v:=by
    obtain⟨d,fl,ln,rd,⟨tx,sg,fr⟩⟩:=v;simp only at f1;subst f1;rfl
   rw[e];exact⟨rfl,m,rfl,h1,Mod.refl _ _,Moved.refl _ _,Moved.refl _ _⟩
 rintro w2 ⟨m2,WG,h2,XR,Kd,Cr⟩;generalize mQ5:(if v.g.fr then v.g.sg++ [(⟨v.g.tx.length,0,v.fl,at_,o⟩:Sg)] else v.g.sg)=Wn at*;have QK:Wn≠ []:=(h2.nf rfl).resolve_right mQo;have Ke:=h2.sl;simp only at Ke;obtain⟨l',s0,L',x0,e1,e2,e3⟩:=gQS (l:=Wn) h2.len QK;have jy:0<Wn.length:=zV.2 QK;obtain⟨oa,VO,_⟩:=h2.out.sl.at_ jy;have VO:m2.OA=some oa:=VO;have mQq:wE 157 (kT p m2 {v with g:=⟨v.g.tx,Wn,false⟩}).length 5:=by rw[show(kT p m2 {v with g:=⟨v.g.tx,Wn,false⟩}).length=11 from rfl];exact gQR
 refine call (gQi base p.r 157 5 m2.pa (kT p m2 {v with g:=⟨v.g.tx,Wn,false⟩}) m2.BA m2.bc v.g.tx (Qe s) w2 mQq (show 6<11 by decide) h2.pa h2.blk rfl rfl h2.txt h2.rb h2.top (by rw[rG];omega)) ?_;rintro _ w3 ⟨B',b',Qw,xJ,XE,aN⟩;rw[rG,Wa h8] at xJ;rw[rG] at Qw;have aQn:=h2.nrow;have aQo:Own w3 base 48 6 m2.OA Wn.length m2.oc (cJ Wn m2.L):=h2.out.mod XE (λi hi hj=>by
  rcases hj with rfl | hj
  ·exact aQn.1 hi
  ·exact h2.out.apart h2.txt (by decide) hi hj)
 have hd:=Ext.drew w3;have aQp:=Qw.ext hd;refine pE Qa 16 (by kernel_rfl) ?_;refine QJ (v:=.slice m2.OA Wn.length m2.oc) (λw' Qb=>by subst Qb;rw[aQp.cell];rfl) ?_;refine QJ (v:=.slice m2.OA Wn.length m2.oc) (λw' Qb=>by subst Qb;rw[aQp.cell];rfl) ?_;refine Qj ((Wn.length-1:Nat):Int) (by omega) (by omega) ?_;refine Qj ((v.g.tx.length+s.length:Nat):Int) (by rw[rG];omega) (by omega) ?_;rw[VO];refine JZ (j:=Wn.length-1) (by omega) ?_;have aQq:=aQo.ext hd;rw[VO] at aQq;have ZO:Wn.length=l'.length+1:=by rw[e1];simp
 show eD _ ((oa.add ((Wn.length-1)*6)).add 1) _ _;rw[add_add];refine Bz aQq jy (by omega) (λw4 X9 ID=>?_);have QR:(cJ Wn m2.L).set ((Wn.length-1)*6+1) (.int .i64 ((v.g.tx.length+s.length:Nat):Int))=cJ (mU (v.g.tx.length+s.length) Wn) m2.L:=by
  have e:(l'++ [s0]).length-1=l'.length:=by simp
  rw[e1,e2,kO,e,gQO e3]
 rw[QR] at ID;have xK:(mU (v.g.tx.length+s.length) Wn).length=Wn.length:=by rw[e1,kO];simp
 have xL:Mod (Qk m2.OA) w3 w4:=by rw[VO];exact(Mod.of_ext _ hd).trans X9 (λi hi=>.inl hi)
 have mQr:∀i,Qk B' i->¬Qk m2.OA i:=λi hi hj=>aQo.apart xJ (by decide) hj hi
 have hall:Mod (RS p m2) w2 w4:=(XE.mono (S':=RS p m2) (λi hi=>by
   rcases hi with rfl | hi
   ·exact .inl (.inl rfl)
   ·exact .inl (.inr (.inr (.inr hi))))).trans xL (λi hi=>.inl (.inr (.inr (.inl hi))))
 have JF:=XE.size;have K5:=xL.size;have mQ6:=h2.top;refine⟨_,mQp,{m2 with BA:=B',bc:=b',pa:=.pointer (some (J1 p.r 5))},WG,⟨hall.ext h2.e0 h2.lo,h2.lor,h2.loq,h2.rb,h2.qb,h2.ne,by omega,.inr rfl,?_,?_,?_,?_,?_,?_,?_,?_,?_,λ_=>?_,λi hi=>YL (h2.tt i hi) (by omega)⟩,?_,?_,?_⟩
 all_goals try simp only
 ·have e:(v.g.tx++s).length=v.g.tx.length+s.length:=by simp
  show Blk w4 p.r 157 [.slice p.NA p.nn p.nc,.slice p.FA p.nf p.cf,.map (some p.nq),.map (some p.q),.int .i64 v.d,.pointer (some (J1 p.r 5)),.slice B' (v.g.tx++s).length b',.slice m2.OA (mU (v.g.tx.length+s.length) Wn).length m2.oc,.bool false,.int .i64 v.fl,.int .i64 v.ln];rw[e,xK];exact Qw.mod xL aQn.1
 ·rw[Qy];exact xJ.mod xL mQr
 ·rw[xK];rw[<-VO] at ID;exact ID
 ·rw[xK];exact h2.len
 ·intro j s1 x1 bX eZ;have Q1:=TS.moved (p:=p) (m:=m2) (m':={m2 with BA:=B',bc:=b',pa:=.pointer (some (J1 p.r 5))}) rfl (Moved.refl w2 m2.OA) aN;have key:∃s2,Wn[j]? =some s2/\s2.o=s1.o:=by
   rw[e1,kO] at bX;rw[e1];rcases pQ bX with⟨hj,bX⟩ | ⟨hj,bX⟩
   ·exact⟨s1,by rw[ew hj];exact bX,rfl⟩
   ·obtain⟨h0,rfl⟩:=kL bX;exact⟨s0,by rw[aU hj,h0];rfl,rfl⟩
  obtain⟨s2,lj,lS⟩:=key;rw[<-lS];exact(h2.dgs j s2 x1 lj eZ).step (hall.mono (λi hi=>.inl (.inl hi))) Q1
 ·obtain⟨mp,k1,k2⟩:=h2.rdm;refine⟨mp,(k1.mod XE (λhj=>?_)).mod xL (k1.apart h2.out),k2⟩;rcases hj with e | hj
  ·exact h2.ne e.symm
  ·exact k1.apart h2.txt hj
 ·rw[Qy];omega
 ·rw[xK];exact Ke
 ·exact gQP h.b8 h8
 ·exact .inl (by rw[<-zV,xK];exact jy)
 ·exact(((Mod.of_ext (RS p m) Qd).trans XR (λi hi=>.inl hi)).trans hall (λi hi=>by
   rcases RS.moved (p:=p) Kd Cr i hi with hh | hh
   ·exact .inl hh
   ·exact .inr (by have:=Qd.size;omega)))
 ·exact Kd.back Qd.size
 ·exact(Cr.trans aN XR.size).back Qd.size
end
end
section
theorem Rr.modT {w0 w w':World}{base:Nat}{p:RP}{m:RM}{v:RV}{U T':Nat->Prop}(h:Rr w0 w base p m v)(hm:Mod U w w')(hU:∀i,U i->m.T i)(aQ:∀i,U i->¬RS p m i)(iN:∀i,U i->w0.heap.size<=i)(hT:∀i,T' i->m.T i∨w.heap.size<=i)(Q5:∀i,T' i->i<w'.heap.size):
  Rr w0 w' base p {m with T:=T'} v:=
 ⟨hm.ext h.e0 iN,h.lor,h.loq,h.rb,h.qb,h.ne,X2 h.top hm.size,h.pa,h.blk.mod hm (λhu=>aQ _ hu (.inl rfl)),h.txt.mod hm (λi hi hu=>aQ _ hu (.inr (.inr (.inr hi)))),h.out.mod hm (λi hi hu=>aQ _ hu (.inr (.inr (.inl hi)))),h.len,
  λj s x h1 h2=>(h.dgs j s x h1 h2).step (hm.mono (λi hi=>.inl (.inr (hU i hi)))) (λi hi=>hi.elim (λhr=>.inl (.inl hr)) (λht=>(hT i ht).elim (λh=>.inl (.inr h)) .inr)),
  let ⟨mp,h1,h2⟩:=h.rdm;⟨mp,h1.mod hm (λhu=>aQ _ hu (.inr (.inl rfl))),h2⟩,h.tl,h.sl,h.b8,h.nf,Q5⟩
theorem gQT {j m:Nat}{vs l:List Value}(h:j+vs.length<=m)(hm:m<=l.length):(K2 j vs l).take m=K2 j vs (l.take m):=by
 have hx:(l.take m).length=m:=by rw[KZ];omega
 rw[jf j vs l (by omega),jf j vs (l.take m) (by omega)];rw[EJ,EJ,Qy,KZ];rw[sm,Zz (l:=vs) (by omega),sm];rw[show min m j=j by omega,show min j m=j by omega,gL];congr 2;omega
theorem tK {P:Program}{w:World}{base e sz n c j:Nat}{a:Addr}{xs vs:List Value}{K:World->Prop}(h:Own w base e sz (some a) n c xs)(hj:j+vs.length<=n*sz)(gB:∀u∈vs,Jw u=true)
  (k:∀w1,Mod (Qk (some a)) w w1->Own w1 base e sz (some a) n c (K2 j vs xs)->K w1):fX P w (a.add j) vs K:=by
 have hr:=h.row;have Xf:=hr.1;rcases hr.2 with⟨hv,_⟩ | ⟨g,cap,Ju,hv,hb,hg,iE,WO,Zf,rB⟩
 ·cases hv
 ·cases hv;have hB:Blk w g e Ju.toList:=by unfold Blk;rw[hg]
  have jO:Ju.toList.length=c*sz:=by simpa using Zf
  have h2:n*sz<=c*sz:=Y4 _ iE;refine ko hB (by omega) gB (λw1 hm _ Qh=>k w1 (oQh hm ⟨_,rfl,rfl⟩) ⟨⟨by rw[OP _ _ _ (by omega)];exact Xf,.inr ⟨g,c,(K2 j vs Ju.toList).toArray,rfl,hb,Qh,iE,WO,?_,?_⟩⟩⟩)
  ·have:=OP j vs Ju.toList (by omega);simp only[List.size_toArray];omega
  ·have ht:Ju.toList.take (n*sz)=xs:=rB;show((K2 j vs Ju.toList).toArray.toList).take (n*sz)=_;rw[<-ht,<-gQT hj (by omega)]
theorem SD {w:World}{base e sz n c o i:Nat}{a:Addr}{xs:List Value}{u:Value}{K:Value->Prop}(h:Own w base e sz (some a) n c xs)(hn:0<n)(hv:xs[o+i]? =some u)(k:K u):gM w ((a.add o).add i) K:=by
 obtain⟨ad,e1,hc⟩:=h.sl.at_ hn;cases e1;exact load (by rw[add_add];exact hc _ _ hv) k
theorem wM {w:World}{base e sz n c o i:Nat}{a:Addr}{xs:List Value}{u:Value}(h:Own w base e sz (some a) n c xs)(hn:0<n)(hv:xs[o+i]? =some u):w.cell? ((a.add o).add i)=some u:=by
 obtain⟨ad,e1,hc⟩:=h.sl.at_ hn;cases e1;rw[add_add];exact hc _ _ hv
structure SeV where
 s:Se
 x:DV
 y:DV
def SeV.cells (z:SeV):List Value:=[.slice z.x.A z.x.n z.x.c,.int .i64 z.x.r,.slice z.y.A z.y.n z.y.c,.int .i64 z.y.r,.bool z.s.ot,.int .i64 z.s.ln]
theorem gQU (z:SeV):z.cells.length=6:=rfl
theorem gQV (z:SeV):∀u∈z.cells,Jw u=true:=sc rfl
abbrev W7:TypeId:=232
theorem wN {pre:List Value}{z:SeV}{i:Nat}{u:Value}(h:z.cells[i]? =some u):(pre++z.cells)[pre.length+i]? =some u:=by rw[aU (by omega)];rw[show pre.length+i-pre.length=i by omega];exact h
theorem gQW {pre:List Value}{z:SeV}{i:Nat}{u:Value}:(pre++z.cells).set (pre.length+i) u=pre++z.cells.set i u:=by rw[NV _ _ (by omega)];rw[show pre.length+i-pre.length=i by omega]
theorem SE (vs:List Value)(i:Nat)(z:List Value):∀(pre:List Value),K2 (pre.length+i) vs (pre++z)=pre++K2 i vs z
 | []=>by simp
 | a::pre=>by
  rw[Xs,show pre.length+1+i=(pre.length+i)+1 by omega];show a::K2 (pre.length+i) vs (pre++z)=_;rw[SE vs i z pre]<;>rfl
section
variable {w0:World} {base:Nat} {p:RP}
def gQX (w:World)(k:Nat)(nm:List (List Nat))(base n c:Nat)(a:Addr)(pre:List Value)(z:SeV)(rM:Bool)(s:List Nat)(u:Value)(w':World):Prop:=
 z.s.ot=false/\Mod (Qk (some a)) w w'/\if rM then u=Xg z.y.A z.y.n z.y.c z.y.r/\Own w' base W7 6 (some a) n c (pre++(⟨{z.s with ot:=true},z.x,z.y⟩:SeV).cells)
  else∃(o:BF) (b d:DV),YT nm s= .ok o/\u=Xg b.A b.n b.c b.r/\SB w' b.A b.n b.c b.nd/\Set1 k b.nd b.r (JQ z.s.re o)/\(∀i,Qk b.A i->w.heap.size<=i)/\SB w' d.A d.n d.c d.nd/\Set1 k d.nd d.r (YD z.s.re o)/\(∀i,Qk d.A i->w.heap.size<=i)/\
   Own w' base W7 6 (some a) n c (pre++(⟨{z.s with re:=YD z.s.re o},z.x,d⟩:SeV).cells)
theorem SG (m:RM)(v:RV)(a:Addr)(n c:Nat)(pre:List Value)(z:SeV)(rM:Bool)(s:List Nat)(w:World)(hP:RPok w0 p)(h:Rr w0 w base p m v)(ho:Own w base W7 6 (some a) n c (pre++z.cells))(hT:∀i,Qk (some a) i->m.T i)(uL:pre.length+6=n*6)
  (hy:DgO w (TS p m) p.nm.length z.y z.s.re) (h8:∀x∈s,x<256) (hl:s.length<=1000000000000) (ir:w0.heap.size<=base):
  FnP Tryz.prog 149 [.pointer (some ⟨p.r,0,none⟩),.pointer (some (a.add pre.length)),.bool rM,.string (Qe s)] w (gQX w p.nm.length p.nm base n c a pre z rM s)
   (λch w'=>∃e,(z.s.ot=true/\e=71∨z.s.ot=false/\rM=false/\YT p.nm s= .error e)/\ch=gh e v.fl v.ln/\Mod (Qk (some a)) w w'):=by
 have jy:0<n:=by omega
 have Wy:Qk (some a) a.block:=⟨a,rfl,rfl⟩
 have aQ:∀i,Qk (some a) i->¬RS p m i:=λi hi hr=>by
  have hb:=(ho.rows i hi).1;have:=h.rb;have:=h.qb;rcases hr with rfl | rfl | hr | hr
  ·omega
  ·omega
  ·exact ho.apart h.out (by decide) hi hr
  ·exact ho.apart h.txt (by decide) hi hr
 have iN:∀i,Qk (some a) i->w0.heap.size<=i:=λi hi=>by have:=(ho.rows i hi).1;omega
 refine aX (c:={dQh with cuts:=[]}) Qa Tryz.func149 rfl rfl rfl ?_;refine new (λw1 Qd Q3 Qh=>?_);have dR:=ho.ext Qd;have h1:=h.ext Qd;refine SD dR jy (wN (i:=4) (u:=.bool z.s.ot) rfl) ?_;refine Kq (λht=>?_) (λht=>?_)
 ·refine XP (aI 71 w1 h1) (λ_ _ hf=>hf.elim) ?_;rintro ch w2 ⟨rfl,Qg⟩;exact⟨71,.inl ⟨ht,rfl⟩,rfl,Mod.of_ext _ (Qd.trans Qg)⟩
 have ht:z.s.ot=false:=ht;have yget:∀(i:Nat) (u:Value),z.y.cells[i]? =some u->z.cells[2+i]? =some u:=λi u hi=>match i,hi with
  | 0,hi=>hi
  | 1,hi=>hi
  | _+2,hi=>nomatch hi
 refine Kb (vs:=z.y.cells) rfl (λi u hi=>?_) ?_
 ·show w1.cell? (((a.add pre.length).add 2).add i)=some u;rw[add_add];exact wM dR jy (wN (yget i u hi))
 refine new (λw2 Qg X0 Qv=>?_);have gp:=dR.ext Qg;have h2:=h1.ext Qg;refine QB Qv rfl (sc rfl) (λw3 ZZ JF Qw=>?_);have Xq:Ext w1 w3:=XY Qg Qv ZZ;have xJ:=dR.ext Xq;have h3:=h1.ext Xq;show eD w3 ((a.add pre.length).add 4) _ _;rw[add_add];refine Bz xJ jy (by omega) (λw4 X9 xM=>?_);rw[gQW] at xM;have xM:Own w4 base W7 6 (some a) n c (pre++(⟨{z.s with ot:=rM},z.x,z.y⟩:SeV).cells):=xM;have QQ:=Qd.trans Xq;have bm:Mod (Qk (some a)) w w4:=(Mod.of_ext _ QQ).trans X9 (λi hi=>.inl hi);have h4:Rr w0 w4 base p m v:=h3.modT X9 hT aQ iN (λi hi=>.inl hi) (λi hi=>YL (h3.tt i hi) X9.size);have CR:¬Qk (some a) w.heap.size:=λhi=>by have:=(ho.rows _ hi).2;omega
 have IE:¬Qk (some a) w1.heap.size:=λhi=>by have:=(ho.rows _ hi).2;omega
 have up:=Xq.size;have Jc:=(Qh.ext Xq).mod X9 CR;have jz:=Qw.mod X9 IE;have K5:=X9.size;cases rM with
 | true=>
  refine Xv rfl ?_;refine Qs jz rfl ?_;refine QB Jc rfl (sc rfl) (λw5 Jr _ QL=>?_);have Z9:Mod (·=w.heap.size) w4 w5:=oQh Jr rfl;refine Qs QL rfl ?_;exact⟨ht,bm.trans Z9 (λi hi=>.inr (by omega)),rfl,xM.mod Z9 (λi hi e=>by subst e;exact CR hi)⟩
 | false=>
  refine Xe rfl ?_;have Vr:z.cells=(⟨{z.s with ot:=false},z.x,z.y⟩:SeV).cells:=by
   obtain⟨⟨ou,re,ot,ln⟩,x,y⟩:=z;simp only at ht;subst ht;rfl
  have hoC:∀w',Mod (·=w1.heap.size) w4 w'->Own w' base W7 6 (some a) n c (pre++z.cells):=λw' Qb=>by
   rw[Vr];exact xM.mod Qb (λi hi e=>by subst e;exact IE hi)
  refine gQw Qa (λch w'=>∃e,(z.s.ot=true/\e=71∨z.s.ot=false/\false=false/\YT p.nm s= .error e)/\ch=gh e v.fl v.ln/\Mod (Qk (some a)) w w') (λch S w' hp=>hp) (Mod (·=w1.heap.size) w4) 14 [(true,0),(true,1),(true,2),(true,3),(true,4),(true,5),(true,6),(true,7),(false,8),(false,9),(true,10),(true,11),(true,12),(false,13)] (by kernel_rfl) (Mod.of_ext _ (Ext.drew w4)) ?_;refine Xr (vs:=z.y.cells) rfl (λw' Qb i u hi=>?_) ?_
  ·show w'.cell? (((a.add pre.length).add 2).add i)=some u;rw[add_add];exact wM (hoC w' Qb) jy (wN (yget i u hi))
  have hd:=Ext.drew w4;refine XP (Sv s w4.drew hP (h4.ext hd) h8 hl) ?_ ?_
  rotate_left
  ·rintro ch w5 ⟨e,he,rfl,Qz⟩;exact⟨e,.inr ⟨ht,rfl,he⟩,rfl,bm.trans (Mod.of_ext _ (hd.trans Qz)) (λi hi=>.inl hi)⟩
  rintro _ w5 ⟨o,he,t,rfl,Qz,ht5,gy,Er⟩;have aO:=hd.trans Qz;have IC:SB w4 z.y.A z.y.n z.y.c z.y.nd:=SB.modo (hy.sb.ext QQ) X9 (λad e h0 hi=>hy.off ad e h0 (.inr (hT _ hi)));refine⟨Mod.of_ext _ aO,?_⟩;refine call (Sw p.nm.length hP.nmk z.y t z.s.re o w5 (IC.ext aO) hy.st ht5 gy) ?_;rintro _ w6 ⟨b,d,rfl,Xh,hb6,zf,oY,qH,iK,ep⟩;have XF:=aO.trans Xh;have aQg:=XF.size;have aQf:=aO.size;refine⟨Mod.of_ext _ XF,?_⟩;refine QB (jz.ext XF) rfl (sc rfl) (λw7 ZC _ Q4=>?_);have Xi:Mod (·=w1.heap.size) w6 w7:=oQh ZC rfl;have uf:Mod (·=w1.heap.size) w4 w7:=(Mod.of_ext _ XF).trans Xi (λi hi=>.inl hi);refine⟨uf,?_⟩;have IF:=hoC w7 uf;show fX _ w7 ((a.add pre.length).add 2) _ _;rw[add_add];refine tK IF (by show pre.length+2+2<=_;omega) (sc rfl) (λw8 Jq CT=>?_);rw[SE] at CT;have CT:Own w8 base W7 6 (some a) n c (pre++(⟨{z.s with re:=YD z.s.re o},z.x,d⟩:SeV).cells):=CT;have kQK:=Q4.mod Jq IE;refine Qs kQK rfl ?_;have qI:=((Jc.ext XF).mod Xi (by show¬w.heap.size=w1.heap.size;omega)).mod Jq CR;refine QB qI rfl (sc rfl) (λw9 bt _ Z8=>?_);have X4:Mod (·=w.heap.size) w8 w9:=oQh bt rfl;refine Qs Z8 rfl ?_;have mQ7:=bm.size;have keep:∀x:DV,(∀i,Qk x.A i->w5.heap.size<=i)->SB w6 x.A x.n x.c x.nd->SB w9 x.A x.n x.c x.nd:=λx hr hx=>
   SB.mod (SB.mod (SB.mod hx Xi (λi hi e=>by have:=hr i hi;omega)) Jq (λi hi hj=>by have:=hr i hi;have:=(ho.rows i hj).2;omega)) X4 (λi hi e=>by have:=hr i hi;omega)
  have hall:Mod (Qk (some a)) w w9:=((bm.trans uf (λi hi=>.inr (by omega))).trans Jq (λi hi=>.inl hi)).trans X4 (λi hi=>.inr (by omega));refine⟨ht,hall,o,b,d,he,rfl,keep b oY hb6,zf,λi hi=>by have:=oY i hi;omega,keep d ep qH,iK,λi hi=>by have:=ep i hi;omega,CT.mod X4 (λi hi e=>by subst e;exact CR hi)⟩
end
end
end
section
section
theorem gQY (l:List Nat)(w:World)(hl:∀x∈l,x<256)(Xf:l.length<=1000000000000):
  Fn Tryz.prog 143 [.string (Qe l),.string (Qe [32])] w (λv w'=>v= .tuple #[.string (Qe (JR l)),.string (Qe (if 32∈l then Vm l else [])),.bool (decide (32∈l))]/\Ext w w'):=
 (gQq l w hl Xf).mono λv w' h=>by
  obtain⟨h1,h2⟩:=h;refine⟨?_,h2⟩;rw[h1];by_cases hm:32∈l
  ·rw[Qf hm,Qf hm,XT hm]
  ·rw[if_neg hm,if_neg hm,XS hm,Gk hm]
section
variable {nm:List (List Nat)} {fl d0:Nat} {inc:List Nat->Nat->Nat->BF->Gs->Except Pl Gs} {s:List Nat} {ls:List (List Nat)} {ln at_:Nat} {k:BF} {op:List Se} {g:Gs} {r:List Nat}
theorem Gy (h:JC s= .ifd r):Z2 nm fl d0 inc (s::ls) ln at_ k op g=match YT nm r with
   | .error e=>.error ⟨e,fl,((ln+1:Nat):Int)⟩
   | .ok d=>if d0+op.length=64 then .error ⟨2,fl,((ln+1:Nat):Int)⟩else Z2 nm fl d0 inc ls (ln+1) (at_+s.length+1) (JQ k d) (⟨k,YD k d,false,ln+1⟩::op) {g with fr:=true}:=by
 rw[Z2.eq_def];simp only[h]<;>rfl
theorem BB (h:JC s= .inc r):Z2 nm fl d0 inc (s::ls) ln at_ k op g=match inc r (ln+1) (d0+op.length) k g with
   | .error p=>.error p
   | .ok g'=>Z2 nm fl d0 inc ls (ln+1) (at_+s.length+1) k op {g' with fr:=true}:=by
 rw[Z2.eq_def];simp only[h]<;>rfl
theorem Gz (h:JC s= .elif r):Z2 nm fl d0 inc (s::ls) ln at_ k op g=match op with
   | []=>.error ⟨72,fl,((ln+1:Nat):Int)⟩
   | x::bC=>if x.ot then .error ⟨71,fl,((ln+1:Nat):Int)⟩else match YT nm r with
    | .error e=>.error ⟨e,fl,((ln+1:Nat):Int)⟩
    | .ok d=>Z2 nm fl d0 inc ls (ln+1) (at_+s.length+1) (JQ x.re d) ({x with re:=YD x.re d}::bC) {g with fr:=true}:=by
 rw[Z2.eq_def];simp only[h]<;>rfl
theorem GA (h:JC s= .els):Z2 nm fl d0 inc (s::ls) ln at_ k op g=match op with
   | []=>.error ⟨72,fl,((ln+1:Nat):Int)⟩
   | x::bC=>if x.ot then .error ⟨71,fl,((ln+1:Nat):Int)⟩else Z2 nm fl d0 inc ls (ln+1) (at_+s.length+1) x.re ({x with ot:=true}::bC) {g with fr:=true}:=by
 rw[Z2.eq_def];simp only[h]<;>rfl
theorem SH (h:JC s= .en):Z2 nm fl d0 inc (s::ls) ln at_ k op g=match op with
   | []=>.error ⟨72,fl,((ln+1:Nat):Int)⟩
   | x::bC=>Z2 nm fl d0 inc ls (ln+1) (at_+s.length+1) x.ou bC {g with fr:=true}:=by
 rw[Z2.eq_def];simp only[h]<;>rfl
theorem mX (h:JC s= .txt):Z2 nm fl d0 inc (s::ls) ln at_ k op g=match Yb (s++ [10]) fl at_ k g with
   | none=>.error ⟨2,fl,((ln+1:Nat):Int)⟩
   | some g'=>Z2 nm fl d0 inc ls (ln+1) (at_+s.length+1) k op g':=by
 rw[Z2.eq_def];simp only[h]<;>rfl
end
theorem Own.take {w:World}{base e sz n c k:Nat}{A:Option Addr}{cs:List Value}(h:Own w base e sz A n c cs)(hk:k<=n):Own w base e sz A k c (cs.take (k*sz)):=by
 have hr:=h.row;have hl:=hr.1;have Xp:k*sz<=n*sz:=Y4 _ hk;refine⟨⟨by rw[KZ];omega,?_⟩⟩;rcases hr.2 with⟨hv,hx⟩ | ⟨g,cap,Ju,hv,hb,hg,iE,WO,Zf,rB⟩
 ·cases hv;obtain rfl:k=0:=by omega
  exact .inl ⟨rfl,by simp⟩
 ·cases hv;refine .inr ⟨g,c,Ju,rfl,hb,hg,by omega,WO,Zf,?_⟩;have ht:Ju.toList.take (n*sz)=cs:=rB;rw[<-ht,sm,mi Xp]
theorem GC {ix:List Nat->Option Nat}{rd s:List Nat}{n:Nat}(h:dK ix rd s= .ok n):n∉rd/\∃t,ix t=some n:=by
 unfold dK at h;split at h
 ·cases h
 split at h
 ·cases h
 ·rename_i m hm;split at h
  ·cases h
  ·rename_i hn;cases h;exact⟨hn,_,hm⟩
structure LS where
 k:DV
 o:BF
 z:List SeV
 m:RM
 g:Gs
 ln:Nat
 at_:Nat
 ls:List (List Nat)
 A:Option Addr
 c:Nat
def Yc (z:List SeV):List Value:=z.flatMap SeV.cells
theorem BC (z:List SeV):(Yc z).length=z.length*6:=dD gQU z
theorem mY (z:List SeV)(x:SeV):Yc (z++ [x])=Yc z++x.cells:=by simp[Yc]
def Jo (p:RP)(m:RM)(A:Option Addr)(bk:Nat):Nat->Prop:=λi=>RS p m i∨Qk A i∨i=bk
abbrev pY:=List Nat->Nat->Nat->BF->Gs->Except Pl Gs
structure FrI (w0 w:World) (base:Nat) (p:RP) (m:RM) (v:RV) (n bk:Nat) (text:List Nat) (inc:pY) (res:Except Pl Gs) (s:LS) (w':World):Prop where
 rr:Rr w0 w' base p s.m ⟨v.d+s.z.length,n,s.ln,n::v.rd,s.g⟩
 tt:s.m.T=λi=>m.T i∨Qk s.A i∨i=bk
 kb:Blk w' bk 32 s.k.cells
 kd:DgO w' (TS p s.m) p.nm.length s.k s.o
 ow:Own w' base W7 6 s.A s.z.length s.c (Yc s.z)
 zx:∀z∈s.z,DgO w' (TS p s.m) p.nm.length z.x z.s.ou
 zy:∀z∈s.z,DgO w' (TS p s.m) p.nm.length z.y z.s.re
 dr:text.drop s.at_=Qo s.ls
 al:s.at_+(Qo s.ls).length=text.length
 li:gg s.ls
 rs:Z2 p.nm n v.d inc s.ls s.ln s.at_ s.o (s.z.reverse.map (·.s)) s.g=res
 mw:Mod (RS p m) w w'
 ma:Moved w m.OA s.m.OA
 mb:Moved w m.BA s.m.BA
 nw:∀i,Qk s.A i->w.heap.size<=i
 dl:v.d+s.z.length<=64
 lb:s.ln+s.ls.length<=1048576
section
variable {w0 w w' KI:World} {base:Nat} {p:RP} {m:RM} {v:RV} {n bk:Nat} {text:List Nat} {inc:pY} {res:Except Pl Gs} {s s':LS}
theorem FrI.sub (h:FrI w0 w base p m v n bk text inc res s w'):∀i,Jo p s.m s.A bk i->TS p s.m i:=λi hi=>by
 rcases hi with hi | hi | hi
 ·exact .inl hi
 ·exact .inr (by rw[h.tt];exact .inr (.inl hi))
 ·exact .inr (by rw[h.tt];exact .inr (.inr hi))
theorem FrI.kp (h:FrI w0 w base p m v n bk text inc res s w')(hm:Mod (Jo p s.m s.A bk) w' KI)(tt:s'.m.T=λi=>m.T i∨Qk s'.A i∨i=bk)(hA:Moved w' s.A s'.A)(hO:Moved w' s.m.OA s'.m.OA)(hB:Moved w' s.m.BA s'.m.BA){x:DV}{o:BF}(hx:DgO w' (TS p s.m) p.nm.length x o):DgO KI (TS p s'.m) p.nm.length x o:=
 hx.step (hm.mono (λi hi=>.inl (h.sub i hi))) (λi hi=>by
  rcases hi with hi | hi
  ·rcases RS.moved (p:=p) hO hB i hi with h1 | h1
   ·exact .inl (.inl h1)
   ·exact .inr h1
  ·rw[tt] at hi;rcases hi with hi | hi | hi
   ·exact .inl (.inr (by rw[h.tt];exact .inl hi))
   ·rcases hA.rows i hi with h1 | h1
    ·exact .inl (.inr (by rw[h.tt];exact .inr (.inl h1)))
    ·exact .inr h1
   ·exact .inl (.inr (by rw[h.tt];exact .inr (.inr hi))))
theorem FrI.mw' (h:FrI w0 w base p m v n bk text inc res s w')(jM:w.heap.size<=bk)(hm:Mod (Jo p s.m s.A bk) w' KI):Mod (RS p m) w KI:=
 h.mw.trans hm (λi hi=>by
  rcases hi with hi | hi | hi
  ·exact RS.moved (p:=p) h.ma h.mb i hi
  ·exact .inr (h.nw i hi)
  ·exact .inr (by omega))
theorem FrI.go (h:FrI w0 w base p m v n bk text inc res s w')(jM:w.heap.size<=bk)(hm:Mod (Jo p s.m s.A bk) w' KI)(rr:Rr w0 KI base p s'.m ⟨v.d+s'.z.length,n,s'.ln,n::v.rd,s'.g⟩)(tt:s'.m.T=λi=>m.T i∨Qk s'.A i∨i=bk)(hA:Moved w' s.A s'.A)(hO:Moved w' s.m.OA s'.m.OA)(hB:Moved w' s.m.BA s'.m.BA)
  (kb:Blk KI bk 32 s'.k.cells) (kd:DgO KI (TS p s'.m) p.nm.length s'.k s'.o) (ow:Own KI base W7 6 s'.A s'.z.length s'.c (Yc s'.z)) (zx:∀z∈s'.z,DgO KI (TS p s'.m) p.nm.length z.x z.s.ou) (zy:∀z∈s'.z,DgO KI (TS p s'.m) p.nm.length z.y z.s.re)
  {l:List Nat} (K8:s.ls=l::s'.ls) (eo:s'.at_=s.at_+l.length+1) (rs:Z2 p.nm n v.d inc s'.ls s'.ln s'.at_ s'.o (s'.z.reverse.map (·.s)) s'.g=res) (dl:v.d+s'.z.length<=64) (jR:s'.ln=s.ln+1):FrI w0 w base p m v n bk text inc res s' KI:=by
 have ep:=h.dr;have Ka:=h.al;have uS:=h.lb;have zg:=h.li;rw[K8,W0] at ep Ka;rw[K8] at uS zg;have hz:=h.mw.size;refine⟨rr,tt,kb,kd,ow,zx,zy,?_,?_,λt ht=>zg t (by simp[ht]),rs,h.mw' jM hm,h.ma.trans hO hz,h.mb.trans hB hz,λi hi=>?_,dl,?_⟩
 ·rw[eo,show s.at_+l.length+1=s.at_+(l.length+1) by omega,<-sj,ep,<-sj,List.drop_left' rfl]<;>rfl
 ·rw[eo];simp only[Qy,Xs] at Ka;omega
 ·rcases hA.rows i hi with h1 | h1
  ·exact h.nw i h1
  ·omega
 ·rw[jR];simp only[Xs] at uS;omega
theorem FrI.line (h:FrI w0 w base p m v n bk text inc res s w')(ht:text.length<=1048576){l:List Nat}{ls:List (List Nat)}(K8:s.ls=l::ls):10∉l/\s.at_+l.length+1<=text.length/\text.drop s.at_=l++10::Qo ls/\(text.drop s.at_).take l.length=l/\(text.drop s.at_).take (l.length+1)=l++ [10]:=by
 have ep:=h.dr;have Ka:=h.al;have zg:=h.li;have _:=ht;rw[K8,W0] at ep Ka;rw[K8] at zg;simp only[Qy,Xs] at Ka;refine⟨zg l (by simp),by omega,ep,by rw[ep];exact List.take_left' rfl,?_⟩;rw[ep,show l++10::Qo ls=(l++ [10])++Qo ls by simp];exact List.take_left' (by simp)
theorem Rr.putq (h:Rr w0 w base p m v){v':RV}(hm:Mod (λi=>i=p.r∨i=p.q) w w')(hB:Blk w' p.r 157 (kT p m v'))(h1:v'.g.tx=v.g.tx)(h2:v'.g.sg=v.g.sg)(h4:v'.g.fr=false->v'.g.sg≠ []∨v'.rd=[])
  (hq:∃mp,MapAt aZ w' p.q mp/\(mp.map (·.1)).Nodup/\∀n:Nat,XJ (n:Int) mp=if n∈v'.rd then some (.bool true)else none):Rr w0 w' base p m v':=by
 have hE:=hm.ext h.e0 (λi hi=>by rcases hi with rfl | rfl;exact h.lor;exact h.loq);have uq:=h.rb;have hb2:=h.qb;refine⟨hE,h.lor,h.loq,h.rb,h.qb,h.ne,X2 h.top hm.size,h.pa,hB,?_,?_,by rw[h2];exact h.len,λj s x hs hx=>?_,hq,by rw[h1];exact h.tl,by rw[h2];exact h.sl,by rw[h1];exact h.b8,h4,λi hi=>YL (h.tt i hi) hm.size⟩
 ·rw[h1];exact h.txt.mod hm (λi hi e=>by have:=(h.txt.rows i hi).1;rcases e with rfl | rfl<;>omega)
 ·rw[h2];exact h.out.mod hm (λi hi e=>by have:=(h.out.rows i hi).1;rcases e with rfl | rfl<;>omega)
 ·rw[h2] at hs;exact(h.dgs j s x hs hx).keep hm (λi hi=>.inl (.inl (hi.elim .inl (λe=>.inr (.inl e)))))
end
end
section
def mZ (p:RP)(f n:Nat)(rd:List Nat):pY:=λr ln d k g=>match dK (JB (p.fs.map (·.1))) (n::rd) r with
 | .error e=>.error ⟨e,n,ln⟩
 | .ok m=>if d=64 then .error ⟨2,n,ln⟩else be p.nm p.fs f (n::rd) (d+1) m k g
def gQZ (w0:World)(base:Nat)(p:RP)(f:Nat):Prop:=∀(m:RM)(v:RV)(n:Nat)(k:DV)(o:BF)(w:World),Rr w0 w base p m v->DgO w (TS p m) p.nm.length k o->n<p.fs.length->n∉v.rd->v.d<=64->65<=f+v.d->
 FnP Tryz.prog 92 [.pointer (some ⟨p.r,0,none⟩),.int .i64 n,Xg k.A k.n k.c k.r] w (λ_ w'=>∃g',be p.nm p.fs f v.rd v.d n o v.g= .ok g'/\Gv w0 w base p m {v with g:=g'} w') (λch w'=>∃q,be p.nm p.fs f v.rd v.d n o v.g= .error q/\ch=gh q.e q.f q.l/\Mod (RS p m) w w')
set_option maxRecDepth 2000 in
theorem SI (w0:World)(base:Nat)(p:RP)(hP:RPok w0 p)(ir:w0.heap.size<=base):∀f,gQZ w0 base p f
 | 0=>λm v n k o w h hk hn hr hd hf=>Xd hf (by omega)
 | f+1=>λm v n k o w h hk hn hr hd hf=>by
  have ih:=SI w0 base p hP ir f;have hx:p.fs[n]? =some p.fs[n]:=Xb hn;have rN:=hP.flb _ (EV hn);have mQs:be p.nm p.fs (f+1) v.rd v.d n o v.g=Z2 p.nm n v.d (mZ p f n v.rd) (QZ (p.fs[n].2)) 0 0 o [] {v.g with fr:=true}:=by
   rw[be,hx]<;>rfl
  generalize aS:be p.nm p.fs (f+1) v.rd v.d n o v.g=res at*;generalize Et:p.fs[n].2=text at*;have Yf:∀x∈text,x<256:=by rw[<-Et];exact rN.t8
  have V5:text.length<=1048576:=by rw[<-Et];exact rN.tl
  have MS:Qo (QZ text)=text:=aG (by rw[<-Et];exact rN.ok);have er:=hP.fls.2;refine aX (c:={c92 with cuts:=[]}) Qa Tryz.func92 rfl rfl rfl ?_;refine new (λw1 Qd Q3 Qh=>?_)
  let m1:RM:={m with T:=λi=>m.T i∨Qk (none:Option Addr) i∨i=w.heap.size}
  have yV:=h.tt;have h1:Rr w0 w1 base p m1 v:=h.modT (U:=λ_=>False) (Mod.of_ext _ Qd) (λi hi=>hi.elim) (λi hi=>hi.elim) (λi hi=>hi.elim) (λi hi=>by
    rcases hi with hi | hi | hi
    ·exact .inl hi
    ·obtain⟨_,e,_⟩:=hi;cases e
    ·exact .inr (by omega)) (λi hi=>by
    rcases hi with hi | hi | hi
    ·have:=yV i hi;omega
    ·obtain⟨_,e,_⟩:=hi;cases e
    ·omega)
  refine Xy Qa (Ext w1) 10 [(true,0),(true,1),(true,2),(true,3),(true,4),(true,5),(true,6),(true,7),(true,8),(true,9)] (by kernel_rfl) (Ext.drew w1) ?_;refine QJ (v:=.int .i64 v.fl) (λw' Qb=>by rw[(h1.blk.ext Qb).cell];rfl) ?_;refine QJ (v:=.int .i64 v.ln) (λw' Qb=>by rw[(h1.blk.ext Qb).cell];rfl) ?_;have af:=Ext.drew w1;have h2:=h1.ext af;have Qv:=Qh.ext af;generalize w1.drew=w2 at*;obtain⟨mp,uO,hnd,rO⟩:=h2.rdm;refine Qp h2.blk rfl ?_;refine kr (kv:=aZ) (a:=(n:Int)) Qa rfl rfl rfl rfl rfl (KeyV.int .i64) rfl rfl rfl uO (λw3 ZZ JF XE=>?_);have Z3:Mod (·=p.q) w2 w3:=oQh ZZ rfl;have kQL:((Zg (n:Int) (Value.bool true) mp).map (·.1)).Nodup:=(Si _ _ _ hnd).1;have kQM:∀j:Nat,XJ (j:Int) (Zg (n:Int) (Value.bool true) mp)=if j∈n::v.rd then some (.bool true)else none:=λj=>by
   rw[aY];by_cases hj:j=n
   ·subst hj;simp
   ·rw[if_neg (λe=>hj (by omega)),rO j];simp[hj]
  have oY:=h2.blk.mod Z3 h2.ne;refine XQ oY (show 9<11 by decide) (λw4 X9 Q6=>?_);refine XQ Q6 (show 10<11 by decide) (λw5 XV QL=>?_);refine XQ QL (show 8<11 by decide) (λw6 VY Xj=>?_);have aQr:Mod (·=p.r) w3 w6:=(X9.trans XV (λi hi=>.inl hi)).trans VY (λi hi=>.inl hi);have CU:Mod (λi=>i=p.r∨i=p.q) w2 w6:=(Z3.mono (S':=λi=>i=p.r∨i=p.q) (λi hi=>.inl (.inr hi))).trans aQr (λi hi=>.inl (.inl hi));have h6:Rr w0 w6 base p m1 ⟨v.d,n,0,n::v.rd,{v.g with fr:=true}⟩:=h2.putq CU Xj rfl rfl (λe=>by cases e) ⟨_,XE.mod aQr (λe=>h2.ne e.symm),kQL,kQM⟩;have jM:¬(w.heap.size=p.r∨w.heap.size=p.q):=λe=>by have:=h.rb;have:=h.qb;have:=h.top;rcases e with e | e<;>omega
  have mQt:=Qv.mod CU jM;have XD:Mod (RS p m) w w6:=((Mod.of_ext (RS p m) Qd).trans (Mod.of_ext (RS p m) af) (λi hi=>.inl hi)).trans (CU.mono (S':=RS p m) (λi hi=>.inl (hi.elim .inl (λe=>.inr (.inl e))))) (λi hi=>.inl hi);refine Qp Xj rfl ?_;refine Zh Gu (hP.fls.ext h6.e0) rfl (by omega) (λpp x Yq hc=>?_);obtain rfl:p.fs[n]=x:=Option.some.inj (hx.symm.trans Yq);refine load (hc 1 _ rfl) ?_;rw[Et];have CO:DgO w1 (TS p m1) p.nm.length k o:=hk.step (Mod.of_ext _ Qd) (λi hi=>by
   rcases hi with hi | hi | hi | hi
   ·exact .inl (.inl hi)
   ·exact .inl (.inr hi)
   ·obtain⟨_,e,_⟩:=hi;cases e
   ·exact .inr (by omega))
  have IG:DgO w6 (TS p m1) p.nm.length k o:=(CO.ext af).keep CU (λi hi=>.inl (.inl (hi.elim .inl (λe=>.inr (.inl e)))));have jN:(QZ text).length<=text.length:=by have:=tF (QZ text);rw[MS] at this;exact this
  refine loop Qa [8,10] (λs:LS=>[.slice s.A s.z.length s.c,.int .i64 s.at_]) (λs w'=>FrI w0 w base p m v n w.heap.size text (mZ p f n v.rd) res s w') (λs _=>s.ls.length) ⟨k,o,[],m1,{v.g with fr:=true},0,0,QZ text,none,0⟩ rfl
   ⟨h6,rfl,mQt,IG,Own.nil _ _ _ _,(λz hz=>by cases hz),(λz hz=>by cases hz),(by rw[MS];rfl),(by rw[MS];simp),mT text,mQs.symm,XD,Moved.refl _ _,Moved.refl _ _,(λi hi=>by obtain⟨_,e,_⟩:=hi;cases e),hd,(by show 0+(QZ text).length<=_;omega)⟩ ?_
  rintro s w7 hI;have h7:=hI.rr;have Ka:=hI.al;refine Qt (λc1=>?_) (λc1=>?_)
  rotate_left
  ·have K8:s.ls=[]:=by
    have hs:=XC text;have:=tF s.ls;exact Ys (by omega)
   have h7z:=hI.rr;have Q1:=hI.rs;rw[K8] at Q1;refine Qt (λhz=>?_) (λhz=>?_)
   ·obtain⟨z',x,Vr⟩:∃z' x,s.z=z'++ [x]:=by
     rcases vq s.z with h0 | ⟨z',x,h0⟩
     ·rw[h0] at hz;exact Xd hz (by decide)
     ·exact⟨z',x,by rw[h0];simp⟩
    have uT:s.z.length=z'.length+1:=by rw[Vr];simp
    have lU:s.z.reverse.map (·.s)=x.s::z'.reverse.map (·.s):=by rw[Vr];simp
    obtain⟨oa,VO,_⟩:=hI.ow.sl.at_ (by omega:0<s.z.length);have IF:Own w7 base W7 6 (some oa) s.z.length s.c (Yc z'++x.cells):=by rw[<-VO,<-mY,<-Vr];exact hI.ow
    have YI:=hI.dl;refine Qj ((z'.length:Nat):Int) (by omega) (by omega) ?_;rw[VO];refine JZ (j:=z'.length) (by omega) ?_;rw[show z'.length*6=(Yc z').length from (BC z').symm];refine SD IF (by omega) (wN (i:=5) (u:=.int .i64 x.s.ln) rfl) ?_;refine XQ h7.blk (show 10<11 by decide) (λw8 Jq XB=>?_);have h8:Rr w0 w8 base p s.m ⟨v.d+s.z.length,n,x.s.ln,n::v.rd,s.g⟩:=h7.put Jq XB rfl rfl rfl h7.nf;refine XP (aI 72 w8 h8) (λ_ _ hf=>hf.elim) ?_;rintro ch w9 ⟨rfl,Xo⟩;refine⟨⟨72,n,x.s.ln⟩,?_,rfl,hI.mw' (QD _) ((Jq.mono (S':=Jo p s.m s.A w.heap.size) (λi hi=>.inl (.inl (.inl hi)))).trans (Mod.of_ext _ Xo) (λi hi=>.inl hi))⟩;rw[<-Q1,Z2.eq_def,lU]
   ·have lG:s.z=[]:=Ys (by omega);obtain⟨mq,k1,k2,k3⟩:=h7.rdm;refine Qp h7.blk rfl ?_;refine gQl (kv:=aZ) (a:=(n:Int)) Qa rfl rfl rfl rfl rfl (KeyV.int .i64) rfl rfl k1 (λw8 Zo Ve Jq=>?_);refine XQ (h7.blk.mod Zo h7.ne) (show 9<11 by decide) (λw9 YY Z8=>?_);refine XQ Z8 (show 10<11 by decide) (λQE Js Jb=>?_);refine XQ Jb (show 8<11 by decide) (λQH gt ZJ=>?_);have aQs:Mod (·=p.r) w8 QH:=(YY.trans Js (λi hi=>.inl hi)).trans gt (λi hi=>.inl hi);have IH:Mod (λi=>i=p.r∨i=p.q) w7 QH:=(Zo.mono (S':=λi=>i=p.r∨i=p.q) (λi hi=>.inl (.inr hi))).trans aQs (λi hi=>.inl (.inl hi));have hd0:v.d+s.z.length=v.d:=by rw[lG]<;>rfl
    rw[hd0] at ZJ;have ZU:Rr w0 QH base p s.m ⟨v.d,v.fl,v.ln,v.rd,{s.g with fr:=true}⟩:=h7.putq IH ZJ rfl rfl (λe=>by cases e) ⟨_,Jq.mod aQs (λe=>h7.ne e.symm),(k2.sublist ((Sd (n:Int) mq).map _)),λj=>by
     rw[Sh _ _ _ k2];by_cases hj:j=n
     ·subst hj;rw[Qf rfl,if_neg hr]
     ·rw[if_neg (λe=>hj (by omega)),k3 j];simp[hj]⟩
    have X5:Rr w0 QH base p {s.m with T:=m.T} ⟨v.d,v.fl,v.ln,v.rd,{s.g with fr:=true}⟩:=ZU.modT (U:=λ_=>False) (Mod.refl _ _) (λi hi=>hi.elim) (λi hi=>hi.elim) (λi hi=>hi.elim) (λi hi=>.inl (by rw[hI.tt];exact .inl hi)) (λi hi=>by
     have:=yV i hi;have:=hI.mw.size;have:=IH.size;omega)
    refine⟨{s.g with fr:=true},?_,{s.m with T:=m.T},rfl,X5,hI.mw' (QD _) (IH.mono (λi hi=>.inl (.inl (hi.elim .inl (λe=>.inr (.inl e)))))),hI.ma,hI.mb⟩;rw[<-Q1,Z2.eq_def,lG]<;>rfl
  ·cases K8:s.ls with
   | nil=>
    have hs:=XC text;rw[K8] at Ka;have:(Qo ([]:List (List Nat))).length=0:=rfl;omega
   | cons l ls=>
    obtain⟨l1,l2,l3,l4,l5⟩:=hI.line V5 K8;have XG:=XC text;have dW:∀x∈l,x<256:=λx hx=>Yf x (av (by rw[l3];simp[hx]:x∈text.drop s.at_))
    have uS:=hI.lb;refine Jz (v':=.string (Qe (text.drop s.at_))) ⟨by omega,by rw[XG];omega,by rw[XG];omega⟩ ?_ ?_
    ·rw[Vc,XG];simp only[fT];rw[Zz (QD _)]
    refine call (Gj (text.drop s.at_) 10 w7 (λx hx=>Yf x (av hx)) (by decide)) ?_;rintro _ _ ⟨rfl,rfl⟩;have Km:gW 10 (text.drop s.at_)=(l.length:Nat):=by
     unfold gW;rw[Qf (by rw[l3];simp),l3,List.takeWhile_append_of_pos (λx hx=>by simpa using λe=>l1 (by rw[<-e];exact hx))];simp
    rw[Km];refine Qj ((s.at_+l.length:Nat):Int) (by show((s.at_:Nat):Int)+_=_;omega) (by omega) ?_;refine Qj ((s.at_+l.length+1:Nat):Int) (by omega) (by omega) ?_;refine Qj ((s.at_+l.length:Nat):Int) (by omega) (by omega) ?_;refine Jz (v':=.string (Qe l)) ⟨by omega,by omega,by rw[XG];omega⟩ ?_ ?_
    ·rw[Vc];simp only[fT];rw[gL,show s.at_+l.length-s.at_=l.length by omega,l4]
    refine Qp h7.blk rfl ?_;refine Qj ((s.ln+1:Nat):Int) (by show((s.ln:Nat):Int)+1=_;omega) (by omega) ?_;refine XQ h7.blk (show 10<11 by decide) (λw8 Jq XB=>?_);have h8:Rr w0 w8 base p s.m ⟨v.d+s.z.length,n,s.ln+1,n::v.rd,s.g⟩:=h7.put Jq XB rfl rfl rfl h7.nf;refine call (gQY l w8 dW (by omega)) ?_;rintro _ w9 ⟨rfl,Xo⟩;have h9:=h8.ext Xo;have jT:w.heap.size<=w.heap.size:=QD _;have fo:Mod (Jo p s.m s.A w.heap.size) w7 w9:=(Jq.mono (S':=Jo p s.m s.A w.heap.size) (λi hi=>.inl (.inl (.inl hi)))).trans (Mod.of_ext _ Xo) (λi hi=>.inl hi);have npr:¬w.heap.size=p.r:=λe=>jM (.inl e)
    have bY:Blk w9 w.heap.size 32 s.k.cells:=(hI.kb.mod Jq npr).ext Xo;have qJ:∀{x:DV} {o:BF},DgO w7 (TS p s.m) p.nm.length x o->DgO w9 (TS p s.m) p.nm.length x o:=λhx=>hI.kp fo hI.tt (Moved.refl _ _) (Moved.refl _ _) (Moved.refl _ _) hx
    have dX:=qJ hI.kd;have nopr:∀i,Qk s.A i->¬i=p.r:=λi hi e=>by have:=(hI.ow.rows i hi).1;have:=h7.rb;omega
    have WI:Own w9 base W7 6 s.A s.z.length s.c (Yc s.z):=(hI.ow.mod Jq nopr).ext Xo;have Q1:=hI.rs;rw[K8] at Q1;have oV:(((Qe (JR l)).size:Int)<(Qe l).size)↔32∈l:=by rw[XC,XC,<-So];omega
    have YI:=hI.dl;have mQ8:l.length<=1048576:=by omega
    have mQ9:=fo.size;have nQa:=hI.mw.size;have Xk:∀(q:Pl) (ch:List PanicEntry) (w':World),res= .error q->ch=gh q.e q.f q.l->Mod (Jo p s.m s.A w.heap.size) w9 w'->∃q,res= .error q/\ch=gh q.e q.f q.l/\Mod (RS p m) w w':=λq ch w' h1 h2 h3=>⟨q,h1,h2,hI.mw' jT (fo.trans h3 (λi hi=>.inl hi))⟩
    have MT:∀i,Qk s.A i->w0.heap.size<=i:=λi hi=>by have:=(WI.rows i hi).1;omega
    have oZ:∀i,Qk s.A i->¬RS p s.m i:=λi hi hr=>by
     have hb:=(WI.rows i hi).1;have:=h9.rb;have:=h9.qb;rcases hr with rfl | rfl | hr | hr
     ·omega
     ·omega
     ·exact WI.apart h9.out (by decide) hi hr
     ·exact WI.apart h9.txt (by decide) hi hr
    have zh:∀i,Qk s.A i->s.m.T i:=λi hi=>by rw[hI.tt];exact .inr (.inl hi)
    have nbk:¬RS p s.m w.heap.size:=λhr=>by
     have:=h.rb;have:=h.qb;have:=h.top;rcases hr with e | e | hr | hr
     ·omega
     ·omega
     ·exact bY.apart h9.out (by decide) hr
     ·exact bY.apart h9.txt (by decide) hr
    have hhA:∀i,Qk s.A i->i<w9.heap.size:=λi hi=>(WI.rows i hi).2
    have nbA:¬Qk s.A w.heap.size:=bY.apart WI (by decide);have nprA:¬Qk s.A p.r:=λhi=>nopr _ hi rfl
    by_cases P1:JR l=mV/\32∈l
    ·have Za:=gQr P1.1 P1.2;rw[Qf P1.2];have jD:∀x∈Vm l,x<256:=λx hx=>dW x (av hx)
     have jS:(Vm l).length<=1000000000000:=by unfold Vm;rw[Y5];omega
     refine Zd (by rw[P1.1];rfl) ?_;refine Zd (oV.2 P1.2) ?_;refine XP (Sv (Vm l) w9 hP h9 jD jS) ?_ ?_
     rotate_left
     ·rintro ch QE ⟨e,he,rfl,X7⟩;refine Xk ⟨e,n,((s.ln+1:Nat):Int)⟩ _ QE ?_ rfl (Mod.of_ext _ X7);rw[<-Q1,Gy Za,he]
     rintro _ QE ⟨d,he,t,rfl,X7,kQN,gy,Er⟩;refine new (λQH Z4 qC ZJ=>?_);refine QB ZJ rfl (sc rfl) (λQW lD _ Ji=>?_);have fp:Ext QE QW:=XY Z4 ZJ lD;have qK:=X7.trans fp;have X5:=h9.ext qK;have nQb:=qK.size;have kQO:=X7.size;refine XP (Sy QW X5 YI) ?_ ?_
     rotate_left
     ·rintro ch XM ⟨iu,rfl,Xq⟩;refine Xk ⟨2,n,((s.ln+1:Nat):Int)⟩ _ XM ?_ rfl (Mod.of_ext _ (qK.trans Xq));have iu:v.d+(s.z.reverse.map (·.s)).length=64:=by simpa using iu
      rw[<-Q1,Gy Za,he];simp only[Qf iu]
     rintro _ XM ⟨qM,KW,Yj⟩;have qM:¬v.d+s.z.length=64:=qM;have aQt:=(bY.ext qK).mod Yj npr;have n10r:¬QE.heap.size=p.r:=λe=>by have:=h9.rb;have:=h9.top;omega
     have kQP:=Ji.mod Yj n10r;refine Qs aQt rfl ?_;refine Qs kQP rfl ?_;have II:=(dX.ext qK).keep Yj (λi hi=>.inl (.inl (.inl hi)));have kQQ:SB XM t.A t.n t.c t.nd:=SB.mod (kQN.ext fp) Yj (λi hi e=>by have:=Er i hi;have:=h9.rb;have:=h9.top;omega);refine call (Sw p.nm.length hP.nmk s.k t s.o d XM II.sb II.st kQQ gy) ?_;rintro _ X1 ⟨a,b,rfl,Jd,kQR,has,yR,kQS,zf,oY⟩;refine new (λJM VF nQc jE=>?_);refine new (λag Yk kQT Wo=>?_);have ur:=VF.trans Yk;refine QB (jE.ext Yk) rfl (sc rfl) (λVH IJ _ nQ=>?_);have qO:Mod (·=X1.heap.size) ag VH:=oQh IJ rfl;have nR:Ext X1 VH:=qO.ext ur (λi hi=>by omega);refine QB (Wo.mod qO (by show¬JM.heap.size=X1.heap.size;omega)) rfl (sc rfl) (λVp kQU _ qI=>?_);have xN:Mod (·=JM.heap.size) VH Vp:=oQh kQU rfl;have aQu:Ext X1 Vp:=xN.ext nR (λi hi=>by omega);have kQV:=nQ.mod xN (by show¬X1.heap.size=JM.heap.size;omega);have nT:=Jd.trans aQu;have aP:=KW.ext nT;have CV:=aQt.ext nT;have nQd:=II.ext nT;have kQW:=(WI.ext qK).mod Yj nopr;have kQX:=kQW.ext nT;have hd:=Ext.drew Vp;have nQe:=nT.size;have nQf:=Yj.size;have nQg:=Jd.size;have nQh:=ur.size;have n15A:¬Qk s.A JM.heap.size:=λhi=>by have:=hhA _ hi;omega
     refine Xy Qa (Mod (Qk s.A) Vp) 11 [(true,0),(true,1),(true,2),(true,3),(true,4),(true,5),(true,6),(true,7),(false,8),(false,9),(true,10)] (by kernel_rfl) (Mod.of_ext _ hd) ?_;refine Xr (vs:=s.k.cells) rfl (λw' Qb j u hj=>by rw[(CV.mod Qb nbA).cell];exact hj) ?_;refine Xr (vs:=b.cells) rfl (λw' Qb j u hj=>by rw[(qI.mod Qb n15A).cell];exact hj) ?_;refine QJ (v:=.int .i64 ((s.ln+1:Nat):Int)) (λw' Qb=>by rw[(aP.blk.mod Qb nprA).cell];rfl) ?_
     let zn:SeV:=⟨⟨s.o,YD s.o d,false,s.ln+1⟩,s.k,b⟩
     refine Xm Qa [zn.cells] rfl rfl rfl rfl rfl ⟨rfl,rfl,⟨⟩⟩ rfl (λcs hh=>by simp only[QF] at hh;subst hh;rfl) rfl (by decide) (by decide) ?_;intro bZ lH aQv xO;have qP:=hd.trans lH;refine⟨Mod.of_ext _ qP,?_⟩;have kQY:Sl bZ 6 (some ⟨Vp.drew.heap.size,0,none⟩) 1 1 zn.cells:=Sl.own (sz:=6) (n:=1) xO (QD _) (by decide) (by simp[SeV.cells]);refine Zk Qa rfl rfl rfl rfl rfl (by decide) rfl rfl ⟨_,rfl⟩ rfl rfl (kQX.ext qP) kQY (gQV zn) (by unfold maxLen;omega) (by show(s.z.length+1)*80<=_;omega) (aP.ext qP).top ?_;intro A' c' VJ CW CX CY;have qQ:Mod (Qk s.A) Vp VJ:=(Mod.of_ext (Qk s.A) qP).trans CW (λi hi=>.inl hi);refine⟨qQ,?_⟩;have n14A:¬Qk s.A X1.heap.size:=λhi=>by have:=hhA _ hi;omega
     refine Qs (kQV.mod qQ n14A) rfl ?_;refine QB (CV.mod qQ nbA) rfl (sc rfl) (λfq xP _ ut=>?_);have jF:Mod (·=w.heap.size) VJ fq:=oQh xP rfl;have kQZ:Mod (Jo p s.m s.A w.heap.size) Vp fq:=(qQ.mono (S':=Jo p s.m s.A w.heap.size) (λi hi=>.inl (.inr (.inl hi)))).trans jF (λi hi=>.inl (.inr (.inr hi)));have aQw:=qQ.size;have dY:Rr w0 VJ base p {s.m with T:=λi=>m.T i∨Qk A' i∨i=w.heap.size} ⟨v.d+s.z.length+1,n,s.ln+1,n::v.rd,s.g⟩:=aP.modT qQ zh oZ MT (λi hi=>by
       rcases hi with hi | hi | hi
       ·exact .inl (by rw[hI.tt];exact .inl hi)
       ·rcases CY.rows i hi with h1 | h1
        ·exact .inl (by rw[hI.tt];exact .inr (.inl h1))
        ·exact .inr (by have:=qP.size;omega)
       ·exact .inl (by rw[hI.tt];exact .inr (.inr hi))) (λi hi=>by
       rcases hi with hi | hi | hi
       ·have:=yV i hi;omega
       ·exact(CX.rows i hi).2
       ·have:=CV.lt;omega)
     have fu:Rr w0 fq base p {s.m with T:=λi=>m.T i∨Qk A' i∨i=w.heap.size} ⟨v.d+s.z.length+1,n,s.ln+1,n::v.rd,s.g⟩:=dY.modT jF (λi hi=>.inr (.inr hi)) (λi hi=>by subst hi;exact nbk) (λi hi=>by have:=h.e0.size;omega) (λi hi=>.inl hi) (λi hi=>YL (dY.tt i hi) jF.size);refine XQ fu.blk (show 8<11 by decide) (λWp CZ qR=>?_);have jG:Rr w0 Wp base p {s.m with T:=λi=>m.T i∨Qk A' i∨i=w.heap.size} ⟨v.d+s.z.length+1,n,s.ln+1,n::v.rd,{s.g with fr:=true}⟩:=fu.put CZ qR rfl rfl rfl (λe=>by cases e);have bQq:Mod (Jo p s.m s.A w.heap.size) w9 Vp:=((Mod.of_ext _ qK).trans (Yj.mono (S':=Jo p s.m s.A w.heap.size) (λi hi=>.inl (.inl (.inl hi)))) (λi hi=>.inl hi)).trans (Mod.of_ext _ nT) (λi hi=>.inl hi);have bQr:Mod (Jo p s.m s.A w.heap.size) Vp Wp:=kQZ.trans CZ (λi hi=>.inl (.inl (.inl hi)));have bQs:Mod (Jo p s.m s.A w.heap.size) w7 Wp:=(fo.trans bQq (λi hi=>.inl hi)).trans bQr (λi hi=>.inl hi);have bQt:Moved w7 s.A A':=CY.back (by have:=fo.size;have:=bQq.size;have:=qP.size;omega);have nQ5:(λi=>m.T i∨Qk A' i∨i=w.heap.size)=(λi=>m.T i∨Qk A' i∨i=w.heap.size):=rfl
     let s':LS:=⟨a,JQ s.o d,s.z++ [zn],{s.m with T:=λi=>m.T i∨Qk A' i∨i=w.heap.size},{s.g with fr:=true},s.ln+1,s.at_+l.length+1,ls,A',c'⟩
     have kp:∀{x:DV} {o:BF},DgO w7 (TS p s.m) p.nm.length x o->DgO Wp (TS p s'.m) p.nm.length x o:=λhx=>hI.kp (s':=s') bQs rfl bQt (Moved.refl _ _) (Moved.refl _ _) hx
     have zi:(s.z++ [zn]).length=s.z.length+1:=by simp
     have mQu:∀i,TS p s.m i->i<XM.heap.size:=λi hi=>by
      have:=h9.hiT i hi;omega
     have fresh:∀(x:DV) (ox:BF),(∀i,Qk x.A i->XM.heap.size<=i)->SB X1 x.A x.n x.c x.nd->Set1 p.nm.length x.nd x.r ox->DgO Wp (TS p s'.m) p.nm.length x ox:=λx ox hr hx hs=>by
      have e1:DgO Vp (TS p s.m) p.nm.length x ox:=⟨hx.ext aQu,hs,λad e _ hh=>by have:=hr _ ⟨ad,e,rfl⟩;have:=mQu _ hh;omega⟩
      exact e1.step (bQr.mono (λi hi=>.inl (hI.sub i hi))) (λi hi=>by
       rcases hi with hi | hi
       ·exact .inl (.inl hi)
       ·rcases hi with hi | hi | hi
        ·exact .inl (.inr (by rw[hI.tt];exact .inl hi))
        ·rcases CY.rows i hi with h1 | h1
         ·exact .inl (.inr (by rw[hI.tt];exact .inr (.inl h1)))
         ·exact .inr (by have:=qP.size;omega)
        ·exact .inl (.inr (by rw[hI.tt];exact .inr (.inr hi))))
     refine⟨s',?_,?_,?_⟩
     ·show Has _ _;have e:(((s.z++ [zn]).length:Nat):Int)=((s.z.length+1:Nat):Int):=by rw[zi]
      simp only[s',zi];rfl
     ·refine hI.go (s':=s') jT bQs ?_ rfl bQt (Moved.refl _ _) (Moved.refl _ _) ?_ ?_ ?_ ?_ ?_ K8 rfl ?_ ?_ rfl
      ·show Rr w0 Wp base p _ ⟨v.d+(s.z++ [zn]).length,n,s.ln+1,n::v.rd,{s.g with fr:=true}⟩;rw[zi];exact jG
      ·exact ut.mod CZ npr
      ·exact fresh a _ yR kQR has
      ·show Own Wp base W7 6 A' (s.z++ [zn]).length c' (Yc (s.z++ [zn]));rw[zi,mY];exact(CX.mod jF (λi hi e=>by subst e;exact(CV.mod qQ nbA).apart CX (by decide) hi)).mod CZ (λi hi e=>by subst e;have:=(CX.rows _ hi).1;have:=h.rb;omega)
      ·intro z hz;simp only[s',XH,QF] at hz;rcases hz with hz | rfl
       ·exact kp (hI.zx z hz)
       ·exact kp hI.kd
      ·intro z hz;simp only[s',XH,QF] at hz;rcases hz with hz | rfl
       ·exact kp (hI.zy z hz)
       ·exact fresh b _ oY kQS zf
      ·have iu:¬v.d+(s.z.reverse.map (·.s)).length=64:=by simpa using qM
       rw[Gy Za,he] at Q1;simp only[if_neg iu] at Q1;rw[<-Q1];simp[s',zn]
      ·show v.d+(s.z++ [zn]).length<=64;rw[zi];omega
     ·show ls.length<(l::ls).length;simp
    have JH:v.d+(s.z.reverse.map (·.s)).length=v.d+s.z.length:=by simp
    have jD:∀x∈Vm l,x<256:=λx hx=>dW x (av hx)
    have jS:(Vm l).length<=1000000000000:=by unfold Vm;rw[Y5];omega
    by_cases P2:JR l=pV/\32∈l
    ·have Za:=gQs P2.1 P2.2;rw[Qf P2.2];refine Xx (by rw[P2.1];decide) ?_;refine Zd (by rw[P2.1];rfl) ?_;refine Zd (oV.2 P2.2) ?_;refine XP (gQJ (Vm l) w9 hP h9 jD jS) ?_ ?_
     rotate_left
     ·rintro ch QE ⟨e,he,rfl,X7⟩;refine Xk ⟨e,n,((s.ln+1:Nat):Int)⟩ _ QE ?_ rfl (Mod.of_ext _ X7);rw[<-Q1,BB Za];have hi:mZ p f n v.rd (Vm l) (s.ln+1) (v.d+(s.z.reverse.map (·.s)).length) s.o s.g= .error ⟨e,n,((s.ln+1:Nat):Int)⟩:=by
       unfold mZ;rw[show dK (JB (p.fs.map (·.1))) (n::v.rd) (Vm l)= .error e from he]
      rw[hi]
     rintro _ QE ⟨n',he,rfl,X7⟩;have he:dK (JB (p.fs.map (·.1))) (n::v.rd) (Vm l)= .ok n':=he;have XO:=h9.ext X7;refine XP (Sy QE XO YI) ?_ ?_
     rotate_left
     ·rintro ch QH ⟨iu,rfl,Z4⟩;refine Xk ⟨2,n,((s.ln+1:Nat):Int)⟩ _ QH ?_ rfl (Mod.of_ext _ (X7.trans Z4));have iu:v.d+(s.z.reverse.map (·.s)).length=64:=by simpa using iu
      rw[<-Q1,BB Za];have hi:mZ p f n v.rd (Vm l) (s.ln+1) (v.d+(s.z.reverse.map (·.s)).length) s.o s.g= .error ⟨2,n,((s.ln+1:Nat):Int)⟩:=by
       unfold mZ;rw[he];simp only[Qf iu]
      rw[hi]
     rintro _ QH ⟨qM,ZU,gt⟩;have qM:¬v.d+s.z.length=64:=qM;have iu:¬v.d+(s.z.reverse.map (·.s)).length=64:=by simpa using qM
     have aQx:=(bY.ext X7).mod gt npr;refine Qs aQx rfl ?_;obtain⟨uM,tn,zj⟩:=GC he;have Kz:n'<p.fs.length:=by have:=kN zj;simpa using this
     have kQ0:=(dX.ext X7).keep gt (λi hi=>.inl (.inl (.inl hi)));have iM:∀R,be p.nm p.fs f (n::v.rd) (v.d+s.z.length+1) n' s.o s.g=R->mZ p f n v.rd (Vm l) (s.ln+1) (v.d+(s.z.reverse.map (·.s)).length) s.o s.g=R:=λR hR=>by
      unfold mZ;rw[he];simp only[if_neg iu];rw[JH];exact hR
     have MU:Mod (Jo p s.m s.A w.heap.size) w9 QH:=(Mod.of_ext _ X7).trans (gt.mono (S':=Jo p s.m s.A w.heap.size) (λi hi=>.inl (.inl (.inl hi)))) (λi hi=>.inl hi);refine XP (ih s.m ⟨v.d+s.z.length+1,n,s.ln+1,n::v.rd,s.g⟩ n' s.k s.o QH ZU kQ0 Kz uM (by show v.d+s.z.length+1<=64;omega) (by show 65<=f+(v.d+s.z.length+1);omega)) ?_ ?_
     rotate_left
     ·rintro ch QW ⟨q,hq,rfl,Yl⟩;refine Xk q _ QW ?_ rfl (MU.trans Yl (λi hi=>.inl (.inl hi)));rw[<-Q1,BB Za,iM _ hq]
     rintro _ QW ⟨g',VM,m',gE,X5,Yl,kQ1,kQ2⟩;refine Qp X5.blk rfl ?_;refine Qj ((v.d+s.z.length:Nat):Int) (by show((v.d+s.z.length+1:Nat):Int)-1=_;omega) (by omega) ?_;refine XQ X5.blk (show 4<11 by decide) (λXM Yj Kh=>?_);have KW:Rr w0 XM base p m' ⟨v.d+s.z.length,n,s.ln+1,n::v.rd,g'⟩:=X5.put Yj Kh rfl rfl rfl X5.nf;refine XQ KW.blk (show 8<11 by decide) (λX1 uu Jc=>?_);have VL:Rr w0 X1 base p m' ⟨v.d+s.z.length,n,s.ln+1,n::v.rd,{g' with fr:=true}⟩:=KW.put uu Jc rfl rfl rfl (λe=>by cases e);have IK:Mod (·=p.r) QW X1:=Yj.trans uu (λi hi=>.inl hi);have mQv:Mod (Jo p s.m s.A w.heap.size) w9 X1:=(MU.trans Yl (λi hi=>.inl (.inl hi))).trans IK (λi hi=>.inl (.inl (.inl hi)));have bQu:Mod (Jo p s.m s.A w.heap.size) w7 X1:=fo.trans mQv (λi hi=>.inl hi);have hzm:=MU.size;have KT:Moved w7 s.m.OA m'.OA:=kQ1.back (by omega);have dZ:Moved w7 s.m.BA m'.BA:=kQ2.back (by omega)
     let s':LS:=⟨s.k,s.o,s.z,m',{g' with fr:=true},s.ln+1,s.at_+l.length+1,ls,s.A,s.c⟩
     have WG:s'.m.T=λi=>m.T i∨Qk s'.A i∨i=w.heap.size:=by show m'.T=_;rw[gE,hI.tt]
     have kp:∀{x:DV} {o:BF},DgO w7 (TS p s.m) p.nm.length x o->DgO X1 (TS p s'.m) p.nm.length x o:=λhx=>hI.kp (s':=s') bQu WG (Moved.refl _ _) KT dZ hx
     have kQ3:Own X1 base W7 6 s.A s.z.length s.c (Yc s.z):=((((WI.ext X7).mod gt nopr).mod Yl oZ).mod IK nopr)
     have kQ4:=(aQx.mod Yl nbk).mod IK npr;refine⟨s',rfl,?_,?_⟩
     ·refine hI.go (s':=s') jT bQu VL WG (Moved.refl _ _) KT dZ kQ4 (kp hI.kd) kQ3 (λz hz=>kp (hI.zx z hz)) (λz hz=>kp (hI.zy z hz)) K8 rfl ?_ YI rfl;rw[BB Za,iM _ VM] at Q1;exact Q1
     ·show ls.length<(l::ls).length;simp
    by_cases P3:JR l=tH/\32∈l
    ·have Za:=gQt P3.1 P3.2;rw[Qf P3.2];refine Xx (by rw[P3.1];decide) ?_;refine Xx (by rw[P3.1];decide) ?_;refine Zd (by rw[P3.1];rfl) ?_;refine Zd (oV.2 P3.2) ?_;refine XU (λhz=>?_) (λhz=>?_)
     ·have lG:s.z=[]:=Ys (by omega);refine XP (aI 72 w9 h9) (λ_ _ hf=>hf.elim) ?_;rintro ch QE ⟨rfl,X7⟩;refine Xk ⟨72,n,((s.ln+1:Nat):Int)⟩ _ QE ?_ rfl (Mod.of_ext _ X7);rw[<-Q1,Gz Za,lG]<;>rfl
     obtain⟨z',x,Vr⟩:∃z' x,s.z=z'++ [x]:=by
      rcases vq s.z with h0 | ⟨z',x,h0⟩
      ·exact Xd (by rw[h0];rfl) hz
      ·exact⟨z',x,by rw[h0];simp⟩
     have uT:s.z.length=z'.length+1:=by rw[Vr];simp
     have lU:s.z.reverse.map (·.s)=x.s::z'.reverse.map (·.s):=by rw[Vr];simp
     obtain⟨oa,VO,_⟩:=WI.sl.at_ (by omega:0<s.z.length);have o0:Qk (some oa)=Qk s.A:=by rw[VO]
     have xQ:Own w9 base W7 6 (some oa) s.z.length s.c (Yc z'++x.cells):=by rw[<-VO,<-mY,<-Vr];exact WI
     have fN:x∈s.z:=by rw[Vr];simp
     have Yq:=qJ (hI.zx x fN);have Xl:=qJ (hI.zy x fN);have Jt:=BC z';have Eu:∀i,TS p s.m i->i<w9.heap.size:=h9.hiT
     refine Qj ((z'.length:Nat):Int) (by omega) (by omega) ?_;rw[VO];refine JZ (j:=z'.length) (by omega) ?_;rw[show z'.length*6=(Yc z').length from Jt.symm];refine Xx (λe=>by have e2:l=Zq:=Z6 dW (by decide) e;have:=P3.2;rw[e2] at this;exact Xd this (by decide)) ?_;have zk:decide (Qe l=(⟨#[35,101,108,115,101]⟩:ByteArray))=false:=XS (λe=>by have e2:l=Vl:=Z6 dW (by decide) e;have:=P3.2;rw[e2] at this;exact Xd this (by decide));refine XP (SG s.m ⟨v.d+s.z.length,n,s.ln+1,n::v.rd,s.g⟩ oa s.z.length s.c (Yc z') x (decide (Qe l=(⟨#[35,101,108,115,101]⟩:ByteArray))) (Vm l) w9 hP h9 xQ (by rw[o0];exact zh) (by rw[Jt];omega) Xl jD jS ir) ?_ ?_
     rotate_left
     ·rintro ch QE ⟨e,he,rfl,Js⟩;refine Xk ⟨e,n,((s.ln+1:Nat):Int)⟩ _ QE ?_ rfl (Js.mono (λi hi=>.inl (.inr (.inl (by rw[<-o0];exact hi)))));rw[zk] at he;rw[<-Q1,Gz Za,lU];rcases he with⟨h1,rfl⟩ | ⟨h1,_,h3⟩
      ·simp only[h1,if_true]
      ·simp only[h1,h3];rfl
     rintro u QE ⟨oT,Js,aS⟩;rw[zk,if_neg (by decide)] at aS;obtain⟨o',b,d',fD,rfl,qS,zf,oY,xR,iK,ep,IL⟩:=aS
     let zn:SeV:=⟨{x.s with re:=YD x.s.re o'},x.x,d'⟩
     let nk:DV:=b
     let no:BF:=JQ x.s.re o'
     rw[o0] at Js;have IM:=bY.mod Js nbA;have XO:Rr w0 QE base p s.m ⟨v.d+s.z.length,n,s.ln+1,n::v.rd,s.g⟩:=h9.modT Js zh oZ MT (λi hi=>.inl hi) (λi hi=>YL (h9.tt i hi) Js.size);refine QB IM rfl (sc rfl) (λQH xS _ ZJ=>?_);have Zy:Mod (·=w.heap.size) QE QH:=oQh xS rfl;have ZU:Rr w0 QH base p s.m ⟨v.d+s.z.length,n,s.ln+1,n::v.rd,s.g⟩:=XO.modT Zy (λi hi=>by rw[hI.tt];exact .inr (.inr hi)) (λi hi=>by subst hi;exact nbk) (λi hi=>by have:=h.e0.size;omega) (λi hi=>.inl hi) (λi hi=>YL (XO.tt i hi) Zy.size);refine XQ ZU.blk (show 8<11 by decide) (λQW Yl Ji=>?_);have X5:Rr w0 QW base p s.m ⟨v.d+s.z.length,n,s.ln+1,n::v.rd,{s.g with fr:=true}⟩:=ZU.put Yl Ji rfl rfl rfl (λe=>by cases e);have zl:Mod (Jo p s.m s.A w.heap.size) QE QW:=(Zy.mono (S':=Jo p s.m s.A w.heap.size) (λi hi=>.inl (.inr (.inr hi)))).trans Yl (λi hi=>.inl (.inl (.inl hi)));have zm:Mod (Jo p s.m s.A w.heap.size) w9 QW:=(Js.mono (S':=Jo p s.m s.A w.heap.size) (λi hi=>.inl (.inr (.inl hi)))).trans zl (λi hi=>.inl hi);have o6:Mod (Jo p s.m s.A w.heap.size) w7 QW:=fo.trans zm (λi hi=>.inl hi);have lV:(z'++ [zn]).length=s.z.length:=by rw[uT];simp
     let s':LS:=⟨nk,no,z'++ [zn],s.m,{s.g with fr:=true},s.ln+1,s.at_+l.length+1,ls,s.A,s.c⟩
     have kp:∀{x:DV} {o:BF},DgO w7 (TS p s.m) p.nm.length x o->DgO QW (TS p s'.m) p.nm.length x o:=λhx=>hI.kp (s':=s') o6 hI.tt (Moved.refl _ _) (Moved.refl _ _) (Moved.refl _ _) hx
     have fresh:∀(x:DV) (ox:BF),(∀i,Qk x.A i->w9.heap.size<=i)->SB QE x.A x.n x.c x.nd->Set1 p.nm.length x.nd x.r ox->DgO QW (TS p s'.m) p.nm.length x ox:=λx ox hr hx hs=>by
      have e1:DgO QE (TS p s.m) p.nm.length x ox:=⟨hx,hs,λad e _ hh=>by have:=hr _ ⟨ad,e,rfl⟩;have:=Eu _ hh;omega⟩
      exact e1.step (zl.mono (λi hi=>.inl (hI.sub i hi))) (λi hi=>.inl hi)
     refine⟨s',?_,?_,?_⟩
     ·show Has _ _;simp only[s',lV];rw[VO]<;>rfl
     ·refine hI.go (s':=s') jT o6 ?_ hI.tt (Moved.refl _ _) (Moved.refl _ _) (Moved.refl _ _) ?_ ?_ ?_ ?_ ?_ K8 rfl ?_ ?_ rfl
      ·show Rr w0 QW base p _ ⟨v.d+(z'++ [zn]).length,n,s.ln+1,n::v.rd,{s.g with fr:=true}⟩;rw[lV];exact X5
      ·exact ZJ.mod Yl npr
      ·exact fresh b _ oY qS zf
      ·show Own QW base W7 6 s.A (z'++ [zn]).length s.c (Yc (z'++ [zn]));rw[lV,mY];have IN:Own QE base W7 6 s.A s.z.length s.c (Yc z'++zn.cells):=by rw[VO];exact IL
       exact(IN.mod Zy (λi hi e=>by subst e;exact nbA hi)).mod Yl nopr
      ·intro z hz;simp only[s',XH,QF] at hz;rcases hz with hz | rfl
       ·exact kp (hI.zx z (by rw[Vr];simp[hz]))
       ·exact kp (hI.zx x fN)
      ·intro z hz;simp only[s',XH,QF] at hz;rcases hz with hz | rfl
       ·exact kp (hI.zy z (by rw[Vr];simp[hz]))
       ·exact fresh d' _ ep xR iK
      ·rw[Gz Za,lU] at Q1;simp only[oT,fD] at Q1;rw[<-Q1];simp[s',zn,no,oT]
      ·show v.d+(z'++ [zn]).length<=64;rw[lV];omega
     ·show ls.length<(l::ls).length;simp
    have mQw:=gQu P1 P2 P3;by_cases nU:l=Vl
    ·have Za:JC l= .els:=by rw[nU]<;>rfl
     have Xa:32∉l:=by rw[nU];decide
     have ZV:JR l=Vl:=by rw[Gk Xa,nU]
     rw[if_neg Xa];refine Xx (by rw[ZV];decide) ?_;refine Xx (by rw[ZV];decide) ?_;refine Xx (by rw[ZV];decide) ?_;refine Zd (by rw[nU];rfl) ?_;refine XU (λhz=>?_) (λhz=>?_)
     ·have lG:s.z=[]:=Ys (by omega);refine XP (aI 72 w9 h9) (λ_ _ hf=>hf.elim) ?_;rintro ch QE ⟨rfl,X7⟩;refine Xk ⟨72,n,((s.ln+1:Nat):Int)⟩ _ QE ?_ rfl (Mod.of_ext _ X7);rw[<-Q1,GA Za,lG]<;>rfl
     obtain⟨z',x,Vr⟩:∃z' x,s.z=z'++ [x]:=by
      rcases vq s.z with h0 | ⟨z',x,h0⟩
      ·exact Xd (by rw[h0];rfl) hz
      ·exact⟨z',x,by rw[h0];simp⟩
     have uT:s.z.length=z'.length+1:=by rw[Vr];simp
     have lU:s.z.reverse.map (·.s)=x.s::z'.reverse.map (·.s):=by rw[Vr];simp
     obtain⟨oa,VO,_⟩:=WI.sl.at_ (by omega:0<s.z.length);have o0:Qk (some oa)=Qk s.A:=by rw[VO]
     have xQ:Own w9 base W7 6 (some oa) s.z.length s.c (Yc z'++x.cells):=by rw[<-VO,<-mY,<-Vr];exact WI
     have fN:x∈s.z:=by rw[Vr];simp
     have Yq:=qJ (hI.zx x fN);have Xl:=qJ (hI.zy x fN);have Jt:=BC z';have Eu:∀i,TS p s.m i->i<w9.heap.size:=h9.hiT
     refine Qj ((z'.length:Nat):Int) (by omega) (by omega) ?_;rw[VO];refine JZ (j:=z'.length) (by omega) ?_;rw[show z'.length*6=(Yc z').length from Jt.symm];refine Xx (by rw[nU];decide) ?_;have zk:decide (Qe l=(⟨#[35,101,108,115,101]⟩:ByteArray))=true:=XT (by rw[nU];rfl);refine XP (SG s.m ⟨v.d+s.z.length,n,s.ln+1,n::v.rd,s.g⟩ oa s.z.length s.c (Yc z') x (decide (Qe l=(⟨#[35,101,108,115,101]⟩:ByteArray))) [] w9 hP h9 xQ (by rw[o0];exact zh) (by rw[Jt];omega) Xl (λx hx=>by cases hx) (by decide) ir) ?_ ?_
     rotate_left
     ·rintro ch QE ⟨e,he,rfl,Js⟩;refine Xk ⟨e,n,((s.ln+1:Nat):Int)⟩ _ QE ?_ rfl (Js.mono (λi hi=>.inl (.inr (.inl (by rw[<-o0];exact hi)))));rw[zk] at he;rw[<-Q1,GA Za,lU];rcases he with⟨h1,rfl⟩ | ⟨_,h2,_⟩
      ·simp only[h1,if_true]
      ·cases h2
     rintro u QE ⟨oT,Js,aS⟩;rw[zk,Qf rfl] at aS;obtain⟨rfl,IL⟩:=aS
     let zn:SeV:=⟨{x.s with ot:=true},x.x,x.y⟩
     let nk:DV:=x.y
     let no:BF:=x.s.re
     rw[o0] at Js;have IM:=bY.mod Js nbA;have XO:Rr w0 QE base p s.m ⟨v.d+s.z.length,n,s.ln+1,n::v.rd,s.g⟩:=h9.modT Js zh oZ MT (λi hi=>.inl hi) (λi hi=>YL (h9.tt i hi) Js.size);refine QB IM rfl (sc rfl) (λQH xS _ ZJ=>?_);have Zy:Mod (·=w.heap.size) QE QH:=oQh xS rfl;have ZU:Rr w0 QH base p s.m ⟨v.d+s.z.length,n,s.ln+1,n::v.rd,s.g⟩:=XO.modT Zy (λi hi=>by rw[hI.tt];exact .inr (.inr hi)) (λi hi=>by subst hi;exact nbk) (λi hi=>by have:=h.e0.size;omega) (λi hi=>.inl hi) (λi hi=>YL (XO.tt i hi) Zy.size);refine XQ ZU.blk (show 8<11 by decide) (λQW Yl Ji=>?_);have X5:Rr w0 QW base p s.m ⟨v.d+s.z.length,n,s.ln+1,n::v.rd,{s.g with fr:=true}⟩:=ZU.put Yl Ji rfl rfl rfl (λe=>by cases e);have zl:Mod (Jo p s.m s.A w.heap.size) QE QW:=(Zy.mono (S':=Jo p s.m s.A w.heap.size) (λi hi=>.inl (.inr (.inr hi)))).trans Yl (λi hi=>.inl (.inl (.inl hi)));have zm:Mod (Jo p s.m s.A w.heap.size) w9 QW:=(Js.mono (S':=Jo p s.m s.A w.heap.size) (λi hi=>.inl (.inr (.inl hi)))).trans zl (λi hi=>.inl hi);have o6:Mod (Jo p s.m s.A w.heap.size) w7 QW:=fo.trans zm (λi hi=>.inl hi);have lV:(z'++ [zn]).length=s.z.length:=by rw[uT];simp
     let s':LS:=⟨nk,no,z'++ [zn],s.m,{s.g with fr:=true},s.ln+1,s.at_+l.length+1,ls,s.A,s.c⟩
     have kp:∀{x:DV} {o:BF},DgO w7 (TS p s.m) p.nm.length x o->DgO QW (TS p s'.m) p.nm.length x o:=λhx=>hI.kp (s':=s') o6 hI.tt (Moved.refl _ _) (Moved.refl _ _) (Moved.refl _ _) hx
     have fresh:∀(x:DV) (ox:BF),(∀i,Qk x.A i->w9.heap.size<=i)->SB QE x.A x.n x.c x.nd->Set1 p.nm.length x.nd x.r ox->DgO QW (TS p s'.m) p.nm.length x ox:=λx ox hr hx hs=>by
      have e1:DgO QE (TS p s.m) p.nm.length x ox:=⟨hx,hs,λad e _ hh=>by have:=hr _ ⟨ad,e,rfl⟩;have:=Eu _ hh;omega⟩
      exact e1.step (zl.mono (λi hi=>.inl (hI.sub i hi))) (λi hi=>.inl hi)
     refine⟨s',?_,?_,?_⟩
     ·show Has _ _;simp only[s',lV];rw[VO]<;>rfl
     ·refine hI.go (s':=s') jT o6 ?_ hI.tt (Moved.refl _ _) (Moved.refl _ _) (Moved.refl _ _) ?_ ?_ ?_ ?_ ?_ K8 rfl ?_ ?_ rfl
      ·show Rr w0 QW base p _ ⟨v.d+(z'++ [zn]).length,n,s.ln+1,n::v.rd,{s.g with fr:=true}⟩;rw[lV];exact X5
      ·exact ZJ.mod Yl npr
      ·exact kp (hI.zy x fN)
      ·show Own QW base W7 6 s.A (z'++ [zn]).length s.c (Yc (z'++ [zn]));rw[lV,mY];have IN:Own QE base W7 6 s.A s.z.length s.c (Yc z'++zn.cells):=by rw[VO];exact IL
       exact(IN.mod Zy (λi hi e=>by subst e;exact nbA hi)).mod Yl nopr
      ·intro z hz;simp only[s',XH,QF] at hz;rcases hz with hz | rfl
       ·exact kp (hI.zx z (by rw[Vr];simp[hz]))
       ·exact kp (hI.zx x fN)
      ·intro z hz;simp only[s',XH,QF] at hz;rcases hz with hz | rfl
       ·exact kp (hI.zy z (by rw[Vr];simp[hz]))
       ·exact kp (hI.zy x fN)
      ·rw[GA Za,lU] at Q1;simp only[oT] at Q1;rw[<-Q1];simp[s',zn,no]
      ·show v.d+(z'++ [zn]).length<=64;rw[lV];omega
     ·show ls.length<(l::ls).length;simp
    by_cases nV:l=Zq
    ·have Za:JC l= .en:=by rw[nV]<;>rfl
     have Xa:32∉l:=by rw[nV];decide
     have ZV:JR l=Zq:=by rw[Gk Xa,nV]
     refine Xx (by rw[ZV];decide) ?_;refine Xx (by rw[ZV];decide) ?_;refine Xx (by rw[ZV];decide) ?_;refine Xx (by rw[nV];decide) ?_;refine Zd (by rw[nV];rfl) ?_;refine XU (λhz=>?_) (λhz=>?_)
     ·have lG:s.z=[]:=Ys (by omega);refine XP (aI 72 w9 h9) (λ_ _ hf=>hf.elim) ?_;rintro ch QE ⟨rfl,X7⟩;refine Xk ⟨72,n,((s.ln+1:Nat):Int)⟩ _ QE ?_ rfl (Mod.of_ext _ X7);rw[<-Q1,SH Za,lG]<;>rfl
     obtain⟨z',x,Vr⟩:∃z' x,s.z=z'++ [x]:=by
      rcases vq s.z with h0 | ⟨z',x,h0⟩
      ·exact Xd (by rw[h0];rfl) hz
      ·exact⟨z',x,by rw[h0];simp⟩
     have uT:s.z.length=z'.length+1:=by rw[Vr];simp
     have lU:s.z.reverse.map (·.s)=x.s::z'.reverse.map (·.s):=by rw[Vr];simp
     obtain⟨oa,VO,_⟩:=WI.sl.at_ (by omega:0<s.z.length);have o0:Qk (some oa)=Qk s.A:=by rw[VO]
     have xQ:Own w9 base W7 6 (some oa) s.z.length s.c (Yc z'++x.cells):=by rw[<-VO,<-mY,<-Vr];exact WI
     have fN:x∈s.z:=by rw[Vr];simp
     have Yq:=qJ (hI.zx x fN);have Xl:=qJ (hI.zy x fN);have Jt:=BC z';have Eu:∀i,TS p s.m i->i<w9.heap.size:=h9.hiT
     refine Qj ((z'.length:Nat):Int) (by omega) (by omega) ?_;rw[VO];refine JZ (j:=z'.length) (by omega) ?_;rw[show z'.length*6=(Yc z').length from Jt.symm];refine Zd (by rw[nV];rfl) ?_;refine Kb (vs:=x.x.cells) rfl (λi u hi=>?_) ?_
     ·show w9.cell? (((oa.add (Yc z').length).add 0).add i)=some u;rw[add_add];refine wM xQ (by omega) (wN ?_)
      match i,hi with
      | 0,hi=>exact hi
      | 1,hi=>exact hi
      | _+2,hi=>exact nomatch hi
     refine QB bY rfl (sc rfl) (λQE lI _ Jb=>?_);have Zu:Mod (·=w.heap.size) w9 QE:=oQh lI rfl;have XO:Rr w0 QE base p s.m ⟨v.d+s.z.length,n,s.ln+1,n::v.rd,s.g⟩:=h9.modT Zu (λi hi=>by rw[hI.tt];exact .inr (.inr hi)) (λi hi=>by subst hi;exact nbk) (λi hi=>by have:=h.e0.size;omega) (λi hi=>.inl hi) (λi hi=>YL (h9.tt i hi) Zu.size);refine Qj ((z'.length:Nat):Int) (by omega) (by omega) ?_;refine ct (h:=z'.length) Qa rfl rfl rfl rfl rfl rfl (by have:=WI.sl.le;omega) ?_;refine Qp XO.blk rfl ?_;refine Qj ((v.d+z'.length:Nat):Int) (by show((v.d+s.z.length:Nat):Int)-1=_;omega) (by omega) ?_;refine XQ XO.blk (show 4<11 by decide) (λQH gt ZJ=>?_);have ZU:Rr w0 QH base p s.m ⟨v.d+z'.length,n,s.ln+1,n::v.rd,s.g⟩:=XO.put gt ZJ rfl rfl rfl XO.nf;refine XQ ZU.blk (show 8<11 by decide) (λQW Yl Ji=>?_);have X5:Rr w0 QW base p s.m ⟨v.d+z'.length,n,s.ln+1,n::v.rd,{s.g with fr:=true}⟩:=ZU.put Yl Ji rfl rfl rfl (λe=>by cases e);have jZq:Mod (·=p.r) QE QW:=gt.trans Yl (λi hi=>.inl hi);have zm:Mod (Jo p s.m s.A w.heap.size) w9 QW:=(Zu.mono (S':=Jo p s.m s.A w.heap.size) (λi hi=>.inl (.inr (.inr hi)))).trans jZq (λi hi=>.inl (.inl (.inl hi)));have o6:Mod (Jo p s.m s.A w.heap.size) w7 QW:=fo.trans zm (λi hi=>.inl hi)
     let s':LS:=⟨x.x,x.s.ou,z',s.m,{s.g with fr:=true},s.ln+1,s.at_+l.length+1,ls,s.A,s.c⟩
     have kp:∀{x:DV} {o:BF},DgO w7 (TS p s.m) p.nm.length x o->DgO QW (TS p s'.m) p.nm.length x o:=λhx=>hI.kp (s':=s') o6 hI.tt (Moved.refl _ _) (Moved.refl _ _) (Moved.refl _ _) hx
     refine⟨s',?_,?_,?_⟩
     ·show Has _ _;simp only[s'];rw[VO]<;>rfl
     ·refine hI.go (s':=s') jT o6 X5 hI.tt (Moved.refl _ _) (Moved.refl _ _) (Moved.refl _ _) (Jb.mod jZq npr) (kp (hI.zx x fN)) ?_ (λz hz=>kp (hI.zx z (by rw[Vr];simp[show z∈z' from hz]))) (λz hz=>kp (hI.zy z (by rw[Vr];simp[show z∈z' from hz]))) K8 rfl ?_ ?_ rfl
      ·have ht:=WI.take (k:=z'.length) (by omega);rw[Vr,mY,List.take_left' (by rw[Jt])] at ht;exact(ht.mod Zu (λi hi e=>by subst e;exact nbA hi)).mod jZq nopr
      ·rw[SH Za,lU] at Q1;rw[<-Q1]
      ·show v.d+z'.length<=64;omega
     ·show ls.length<(l::ls).length;simp
    have Za:JC l= .txt:=by rw[mQw,if_neg nU,if_neg nV]
    have C0:¬Qe l=(⟨#[35,101,108,115,101]⟩:ByteArray):=λe=>nU (Z6 dW (by decide) e)
    have C1:¬Qe l=(⟨#[35,101,110,100]⟩:ByteArray):=λe=>nV (Z6 dW (by decide) e)
    have nW:∀x∈JR l,x<256:=λx hx=>dW x ((EO _).subset hx)
    by_cases q1:JR l=mV
    ·refine Zd (by rw[q1];rfl) ?_;refine Xx (λe=>P1 ⟨q1,oV.1 e⟩) ?_;refine Xx (by rw[q1];decide) ?_;refine Xx (by rw[q1];decide) ?_;refine Xx C0 ?_;refine Xx C1 ?_;have JG:=Ext.drew w9;refine pE Qa 7 (by kernel_rfl) ?_;refine Jz (v':=.string (Qe (l++ [10]))) ⟨by omega,by omega,by rw[XG];omega⟩ ?_ ?_
     ·rw[Vc];simp only[fT];rw[gL,show s.at_+l.length+1-s.at_=l.length+1 by omega,l5]
     refine Xr (vs:=s.k.cells) rfl (λw' Qb j u hj=>by subst Qb;rw[(bY.ext JG).cell];exact hj) ?_;have rP:=h9.ext JG;have rQ:DgO w9.drew (RS p s.m) p.nm.length s.k s.o:=⟨dX.sb.ext JG,dX.st,λad e h0 hh=>dX.off ad e h0 (.inl hh)⟩
     refine XP (add_fn s.m ⟨v.d+s.z.length,n,s.ln+1,n::v.rd,s.g⟩ (l++ [10]) s.at_ s.k s.o w9.drew hP rP rQ (λx hx=>by
      rcases XH.1 hx with hx | hx
      ·exact dW x hx
      ·simp only[QF] at hx;omega) (by rw[Qy];simp;omega) (NW _ _)) ?_ ?_
     rotate_left
     ·rintro ch QE ⟨hg,rfl,X7⟩;refine Xk ⟨2,n,((s.ln+1:Nat):Int)⟩ _ QE ?_ rfl (Mod.of_ext _ (JG.trans X7));rw[<-Q1,mX Za,show Yb (l++ [10]) n s.at_ s.o s.g=none from hg]
     rintro _ QE ⟨g',VM,m',gE,XO,Js,qT,qU⟩;have rR:Mod (Jo p s.m s.A w.heap.size) w9 QE:=(Mod.of_ext _ JG).trans Js (λi hi=>.inl (.inl hi));have iO:Mod (Jo p s.m s.A w.heap.size) w7 QE:=fo.trans rR (λi hi=>.inl hi);have zo:=JG.size;have KT:Moved w7 s.m.OA m'.OA:=qT.back (by omega);have dZ:Moved w7 s.m.BA m'.BA:=qU.back (by omega)
     let s':LS:=⟨s.k,s.o,s.z,m',g',s.ln+1,s.at_+l.length+1,ls,s.A,s.c⟩
     have WG:s'.m.T=λi=>m.T i∨Qk s'.A i∨i=w.heap.size:=by show m'.T=_;rw[gE,hI.tt]
     have kp:∀{x:DV} {o:BF},DgO w7 (TS p s.m) p.nm.length x o->DgO QE (TS p s'.m) p.nm.length x o:=λhx=>hI.kp (s':=s') iO WG (Moved.refl _ _) KT dZ hx
     refine⟨s',rfl,?_,?_⟩
     ·refine hI.go (s':=s') jT iO XO WG (Moved.refl _ _) KT dZ ((bY.ext JG).mod Js nbk) (kp hI.kd) ((WI.ext JG).mod Js oZ) (λz hz=>kp (hI.zx z hz)) (λz hz=>kp (hI.zy z hz)) K8 rfl ?_ YI rfl;rw[mX Za,show Yb (l++ [10]) n s.at_ s.o s.g=some g' from VM] at Q1;exact Q1
     ·show ls.length<(l::ls).length;simp
    refine Xx (λe=>q1 (Z6 nW (by decide) e)) ?_;by_cases q2:JR l=pV
    ·refine Zd (by rw[q2];rfl) ?_;refine Xx (λe=>P2 ⟨q2,oV.1 e⟩) ?_;refine Xx (by rw[q2];decide) ?_;refine Xx C0 ?_;refine Xx C1 ?_;have JG:=Ext.drew w9;refine pE Qa 7 (by kernel_rfl) ?_;refine Jz (v':=.string (Qe (l++ [10]))) ⟨by omega,by omega,by rw[XG];omega⟩ ?_ ?_
     ·rw[Vc];simp only[fT];rw[gL,show s.at_+l.length+1-s.at_=l.length+1 by omega,l5]
     refine Xr (vs:=s.k.cells) rfl (λw' Qb j u hj=>by subst Qb;rw[(bY.ext JG).cell];exact hj) ?_;have rP:=h9.ext JG;have rQ:DgO w9.drew (RS p s.m) p.nm.length s.k s.o:=⟨dX.sb.ext JG,dX.st,λad e h0 hh=>dX.off ad e h0 (.inl hh)⟩
     refine XP (add_fn s.m ⟨v.d+s.z.length,n,s.ln+1,n::v.rd,s.g⟩ (l++ [10]) s.at_ s.k s.o w9.drew hP rP rQ (λx hx=>by
      rcases XH.1 hx with hx | hx
      ·exact dW x hx
      ·simp only[QF] at hx;omega) (by rw[Qy];simp;omega) (NW _ _)) ?_ ?_
     rotate_left
     ·rintro ch QE ⟨hg,rfl,X7⟩;refine Xk ⟨2,n,((s.ln+1:Nat):Int)⟩ _ QE ?_ rfl (Mod.of_ext _ (JG.trans X7));rw[<-Q1,mX Za,show Yb (l++ [10]) n s.at_ s.o s.g=none from hg]
     rintro _ QE ⟨g',VM,m',gE,XO,Js,qT,qU⟩;have rR:Mod (Jo p s.m s.A w.heap.size) w9 QE:=(Mod.of_ext _ JG).trans Js (λi hi=>.inl (.inl hi));have iO:Mod (Jo p s.m s.A w.heap.size) w7 QE:=fo.trans rR (λi hi=>.inl hi);have zo:=JG.size;have KT:Moved w7 s.m.OA m'.OA:=qT.back (by omega);have dZ:Moved w7 s.m.BA m'.BA:=qU.back (by omega)
     let s':LS:=⟨s.k,s.o,s.z,m',g',s.ln+1,s.at_+l.length+1,ls,s.A,s.c⟩
     have WG:s'.m.T=λi=>m.T i∨Qk s'.A i∨i=w.heap.size:=by show m'.T=_;rw[gE,hI.tt]
     have kp:∀{x:DV} {o:BF},DgO w7 (TS p s.m) p.nm.length x o->DgO QE (TS p s'.m) p.nm.length x o:=λhx=>hI.kp (s':=s') iO WG (Moved.refl _ _) KT dZ hx
     refine⟨s',rfl,?_,?_⟩
     ·refine hI.go (s':=s') jT iO XO WG (Moved.refl _ _) KT dZ ((bY.ext JG).mod Js nbk) (kp hI.kd) ((WI.ext JG).mod Js oZ) (λz hz=>kp (hI.zx z hz)) (λz hz=>kp (hI.zy z hz)) K8 rfl ?_ YI rfl;rw[mX Za,show Yb (l++ [10]) n s.at_ s.o s.g=some g' from VM] at Q1;exact Q1
     ·show ls.length<(l::ls).length;simp
    refine Xx (λe=>q2 (Z6 nW (by decide) e)) ?_;by_cases q3:JR l=tH
    ·refine Zd (by rw[q3];rfl) ?_;refine Xx (λe=>P3 ⟨q3,oV.1 e⟩) ?_;refine Xx C0 ?_;refine Xx C1 ?_;have JG:=Ext.drew w9;refine pE Qa 7 (by kernel_rfl) ?_;refine Jz (v':=.string (Qe (l++ [10]))) ⟨by omega,by omega,by rw[XG];omega⟩ ?_ ?_
     ·rw[Vc];simp only[fT];rw[gL,show s.at_+l.length+1-s.at_=l.length+1 by omega,l5]
     refine Xr (vs:=s.k.cells) rfl (λw' Qb j u hj=>by subst Qb;rw[(bY.ext JG).cell];exact hj) ?_;have rP:=h9.ext JG;have rQ:DgO w9.drew (RS p s.m) p.nm.length s.k s.o:=⟨dX.sb.ext JG,dX.st,λad e h0 hh=>dX.off ad e h0 (.inl hh)⟩
     refine XP (add_fn s.m ⟨v.d+s.z.length,n,s.ln+1,n::v.rd,s.g⟩ (l++ [10]) s.at_ s.k s.o w9.drew hP rP rQ (λx hx=>by
      rcases XH.1 hx with hx | hx
      ·exact dW x hx
      ·simp only[QF] at hx;omega) (by rw[Qy];simp;omega) (NW _ _)) ?_ ?_
     rotate_left
     ·rintro ch QE ⟨hg,rfl,X7⟩;refine Xk ⟨2,n,((s.ln+1:Nat):Int)⟩ _ QE ?_ rfl (Mod.of_ext _ (JG.trans X7));rw[<-Q1,mX Za,show Yb (l++ [10]) n s.at_ s.o s.g=none from hg]
     rintro _ QE ⟨g',VM,m',gE,XO,Js,qT,qU⟩;have rR:Mod (Jo p s.m s.A w.heap.size) w9 QE:=(Mod.of_ext _ JG).trans Js (λi hi=>.inl (.inl hi));have iO:Mod (Jo p s.m s.A w.heap.size) w7 QE:=fo.trans rR (λi hi=>.inl hi);have zo:=JG.size;have KT:Moved w7 s.m.OA m'.OA:=qT.back (by omega);have dZ:Moved w7 s.m.BA m'.BA:=qU.back (by omega)
     let s':LS:=⟨s.k,s.o,s.z,m',g',s.ln+1,s.at_+l.length+1,ls,s.A,s.c⟩
     have WG:s'.m.T=λi=>m.T i∨Qk s'.A i∨i=w.heap.size:=by show m'.T=_;rw[gE,hI.tt]
     have kp:∀{x:DV} {o:BF},DgO w7 (TS p s.m) p.nm.length x o->DgO QE (TS p s'.m) p.nm.length x o:=λhx=>hI.kp (s':=s') iO WG (Moved.refl _ _) KT dZ hx
     refine⟨s',rfl,?_,?_⟩
     ·refine hI.go (s':=s') jT iO XO WG (Moved.refl _ _) KT dZ ((bY.ext JG).mod Js nbk) (kp hI.kd) ((WI.ext JG).mod Js oZ) (λz hz=>kp (hI.zx z hz)) (λz hz=>kp (hI.zy z hz)) K8 rfl ?_ YI rfl;rw[mX Za,show Yb (l++ [10]) n s.at_ s.o s.g=some g' from VM] at Q1;exact Q1
     ·show ls.length<(l::ls).length;simp
    ·refine Xx (λe=>q3 (Z6 nW (by decide) e)) ?_;refine Xx C0 ?_;refine Xx C1 ?_;have JG:=Ext.drew w9;refine pE Qa 7 (by kernel_rfl) ?_;refine Jz (v':=.string (Qe (l++ [10]))) ⟨by omega,by omega,by rw[XG];omega⟩ ?_ ?_
     ·rw[Vc];simp only[fT];rw[gL,show s.at_+l.length+1-s.at_=l.length+1 by omega,l5]
     refine Xr (vs:=s.k.cells) rfl (λw' Qb j u hj=>by subst Qb;rw[(bY.ext JG).cell];exact hj) ?_;have rP:=h9.ext JG;have rQ:DgO w9.drew (RS p s.m) p.nm.length s.k s.o:=⟨dX.sb.ext JG,dX.st,λad e h0 hh=>dX.off ad e h0 (.inl hh)⟩
     refine XP (add_fn s.m ⟨v.d+s.z.length,n,s.ln+1,n::v.rd,s.g⟩ (l++ [10]) s.at_ s.k s.o w9.drew hP rP rQ (λx hx=>by
      rcases XH.1 hx with hx | hx
      ·exact dW x hx
      ·simp only[QF] at hx;omega) (by rw[Qy];simp;omega) (NW _ _)) ?_ ?_
     rotate_left
     ·rintro ch QE ⟨hg,rfl,X7⟩;refine Xk ⟨2,n,((s.ln+1:Nat):Int)⟩ _ QE ?_ rfl (Mod.of_ext _ (JG.trans X7));rw[<-Q1,mX Za,show Yb (l++ [10]) n s.at_ s.o s.g=none from hg]
     rintro _ QE ⟨g',VM,m',gE,XO,Js,qT,qU⟩;have rR:Mod (Jo p s.m s.A w.heap.size) w9 QE:=(Mod.of_ext _ JG).trans Js (λi hi=>.inl (.inl hi));have iO:Mod (Jo p s.m s.A w.heap.size) w7 QE:=fo.trans rR (λi hi=>.inl hi);have zo:=JG.size;have KT:Moved w7 s.m.OA m'.OA:=qT.back (by omega);have dZ:Moved w7 s.m.BA m'.BA:=qU.back (by omega)
     let s':LS:=⟨s.k,s.o,s.z,m',g',s.ln+1,s.at_+l.length+1,ls,s.A,s.c⟩
     have WG:s'.m.T=λi=>m.T i∨Qk s'.A i∨i=w.heap.size:=by show m'.T=_;rw[gE,hI.tt]
     have kp:∀{x:DV} {o:BF},DgO w7 (TS p s.m) p.nm.length x o->DgO QE (TS p s'.m) p.nm.length x o:=λhx=>hI.kp (s':=s') iO WG (Moved.refl _ _) KT dZ hx
     refine⟨s',rfl,?_,?_⟩
     ·refine hI.go (s':=s') jT iO XO WG (Moved.refl _ _) KT dZ ((bY.ext JG).mod Js nbk) (kp hI.kd) ((WI.ext JG).mod Js oZ) (λz hz=>kp (hI.zx z hz)) (λz hz=>kp (hI.zy z hz)) K8 rfl ?_ YI rfl;rw[mX Za,show Yb (l++ [10]) n s.at_ s.o s.g=some g' from VM] at Q1;exact Q1
     ·show ls.length<(l::ls).length;simp
end
end
end Go.Proofs.YtjabbbcdgmlojaaGreatDoor
