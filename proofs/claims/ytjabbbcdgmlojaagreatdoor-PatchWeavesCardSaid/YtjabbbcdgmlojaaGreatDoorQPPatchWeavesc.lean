/-
  What PPatchWeaves rests on, part 3 (wip/shake.py).
  Conditions: none.
-/
import Derived.Test.YtjabbbcdgmlojaaGreatDoorQPPatchWeavesb
set_option linter.all false
set_option linter.deprecated false
namespace Go.Proofs.YtjabbbcdgmlojaaGreatDoor
section
open Go Go.RowKit
def aQF:List (List Nat):=[[65],[66],[67],[68],[108,111,110,103,95,110,97,109,101],[95],[120,49],[84,82,85,69],[116],[102],[116,114,117],[102,97,108,115,101,101]]
theorem oQJ (k:Nat)(w:World)(hk:k<=12):
  Fn Tryz.prog 51 [.int .i64 k] w (fun v w'=>∃A c,v= .slice A k c/\Ext w w'/\Sl w' 1 A k c (aQ6 (aQF.take k))):=by
 refine aQf (c:={c51 with cuts:=[]}) aQb Tryz.func51 rfl rfl rfl ?_;refine aQl aQb (aQF.map (fun s=>[.string (aQh s)])) rfl rfl rfl rfl rfl ⟨rfl,rfl,rfl,rfl,rfl,rfl,rfl,rfl,rfl,rfl,rfl,rfl,rfl,rfl,rfl,rfl,rfl,rfl,rfl,rfl,rfl,rfl,rfl,rfl,⟨⟩⟩ rfl (fun cs h=>by simp only[List.mem_map] at h;obtain⟨s,_,rfl⟩:=h;rfl) rfl (by decide) (by decide) ?_;intro w1 hE1 hz1 hB1;refine bQ1 aQb rfl rfl rfl rfl rfl rfl hk ?_;have hS:Sl w1 1 (some ⟨w.heap.size,0,none⟩) 12 12 (aQ6 aQF):=Sl.own' (n:=12) hB1 rfl (by decide);have:=hS.take (m:=k) hk;rw[Nat.mul_one] at this;exact⟨_,12,rfl,hE1,by rw[show aQ6 (aQF.take k)=(aQ6 aQF).take k by simp[aQ6]];exact this⟩
theorem oQK (k:Nat)(hk:k<=12):aQ2 (aQF.take k)/\aQV (aQF.take k)=true/\(aQF.take k).length=k:=by
 have hb:aQ2 aQF:=oQI (by decide);have hb':aQ2 (aQF.take k):=fun s hs=>hb s (List.mem_of_mem_take hs)
 have hl:(aQF.take k).length=k:=by rw[List.length_take];show min k 12=k;omega
 refine⟨hb',(iQS hb').2 ⟨?_,List.Nodup.sublist (List.take_sublist k aQF) (by decide),by omega⟩,hl⟩;have:aQF.all cQy=true:=by decide
 exact List.all_eq_true.2 (fun s hs=>List.all_eq_true.1 this s (List.mem_of_mem_take hs))
def iQT (v:Nat)(pos:Bool):Fm:=if pos then .v v else .not (.v v)
def cfT (nd:List Br):Nat->Int->Fm
 | 0,_=>.c false
 | m+1,n=>if n<2 then .c (decide (n=1))else match nd[(n-2).toNat]? with
  | none=>.c false
  | some b=>if b.h<2/\b.l<2 then iQT b.v.toNat (decide (b.h=1))
   else if b.l=0 then .and (iQT b.v.toNat true) (cfT nd m b.h)
   else if b.h=0 then .and (iQT b.v.toNat false) (cfT nd m b.l)
   else if b.h=1 then .or (iQT b.v.toNat true) (cfT nd m b.l)
   else if b.l=1 then .or (iQT b.v.toNat false) (cfT nd m b.h)
   else .or (.and (iQT b.v.toNat true) (cfT nd m b.h)) (.and (iQT b.v.toNat false) (cfT nd m b.l))
def cf (nd:List Br)(n:Int):Fm:=cfT nd (n.toNat+1) n
theorem tQm {nd:List Br}{m:Nat}{n:Int}(h:n<2):cfT nd (m+1) n= .c (decide (n=1)):=by rw[cfT,if_pos h]
theorem tQn {nd:List Br}{m:Nat}{n:Int}{b:Br}(h:¬n<2)(hb:nd[(n-2).toNat]? =some b):cfT nd (m+1) n=if b.h<2/\b.l<2 then iQT b.v.toNat (decide (b.h=1))
   else if b.l=0 then .and (iQT b.v.toNat true) (cfT nd m b.h)
   else if b.h=0 then .and (iQT b.v.toNat false) (cfT nd m b.l)
   else if b.h=1 then .or (iQT b.v.toNat true) (cfT nd m b.l)
   else if b.l=1 then .or (iQT b.v.toNat false) (cfT nd m b.h)
   else .or (.and (iQT b.v.toNat true) (cfT nd m b.h)) (.and (iQT b.v.toNat false) (cfT nd m b.l)):=by rw[cfT,if_neg h,hb]
def evF:Fm->(Nat->Bool)->Bool
 | .c b,_=>b
 | .v n,e=>e n
 | .not a,e=> !evF a e
 | .and a b,e=>evF a e&&evF b e
 | .or a b,e=>evF a e||evF b e
theorem fQe (v:Nat)(pos:Bool)(e:Nat->Bool):evF (iQT v pos) e=(e v==pos):=by
 cases pos<;>cases h:e v<;>simp[iQT,evF,h]
theorem tQo {nd:List Br}(h:Rd0 nd)(e:Nat->Bool):∀(m:Nat)(n:Int),0<=n->n<m->n<nd.length+2->evF (cfT nd m n) e=ev nd n e
 | 0,n,h0,hm,_=>by omega
 | m+1,n,h0,hm,hn=>by
  by_cases h2:n<2
  ·rw[tQm h2,bQP h2];rfl
  obtain⟨b,hb⟩:=iQL h2 hn;obtain⟨b1,b2,b3,b4,b5,b6,b7,b8,b9,b10⟩:=h _ _ hb;have ihl:=tQo h e m b.l b3 (by omega) (by omega);have ihh:=tQo h e m b.h b5 (by omega) (by omega);rw[tQn h2 hb,eQX h.wf h2 hb];split
  ·rename_i hc;rw[fQe,bQP hc.1,bQP hc.2];have:b.l=1↔¬b.h=1:=by omega
   by_cases hh:b.h=1
   ·rw[decide_eq_true hh,decide_eq_false (fun hl=>(this.1 hl) hh)];cases e b.v.toNat<;>rfl
   ·rw[decide_eq_false hh,decide_eq_true (this.2 hh)];cases e b.v.toNat<;>rfl
  ·split
   ·rename_i hl;simp only[evF];rw[fQe,ihh,bQP (n:=b.l) (by omega),hl];cases e b.v.toNat<;>simp
   ·split
    ·rename_i hh;simp only[evF];rw[fQe,ihl,bQP (n:=b.h) (by omega),hh];cases e b.v.toNat<;>simp
    ·split
     ·rename_i hh;simp only[evF];rw[fQe,ihl,bQP (n:=b.h) (by omega),hh];cases e b.v.toNat<;>simp
     ·split
      ·rename_i hl;simp only[evF];rw[fQe,ihh,bQP (n:=b.l) (by omega),hl];cases e b.v.toNat<;>simp
      ·simp only[evF];rw[fQe,fQe,ihh,ihl];cases e b.v.toNat<;>simp
theorem dQ6 (x:Fz){f:List Fz}(h:f.length<=513):(dQy x f).2.length=min 513 (f.length+1):=by
 unfold dQy;split
 ·simp;omega
 ·simp only;omega
theorem hQC (x:Fz){f:List Fz}(h:f.length+1<=513):dQy x f=(f.length,f++ [x]):=by unfold dQy;rw[if_pos (by omega)]
structure BldOk (bld:List Fz->Nat×List Fz) (t:Fm):Prop where
 len:∀f,f.length<=513->(bld f).2.length=min 513 (f.length+szF t)
 eq:∀f,f.length+szF t<=513->bld f=(f.length+szF t-1,f++aQ4 t f.length)
def wQc (v:Int)(pos:Bool)(f:List Fz):Nat×List Fz:=let p:=dQy ⟨2,v,0,0⟩ f;if pos then p else dQy ⟨3,0,(p.1:Nat),0⟩ p.2
theorem wQd {v:Int}(hv:0<=v)(pos:Bool):BldOk (wQc v pos) (iQT v.toNat pos):=by
 have e:(⟨2,v,0,0⟩:Fz)=⟨2,(v.toNat:Nat),0,0⟩:=by rw[Int.toNat_of_nonneg hv]
 cases pos with
 | true=>exact⟨fun f hf=>by show(dQy _ f).2.length=_;rw[dQ6 _ hf];rfl,fun f hf=>by show dQy _ f=_;rw[hQC _ hf,e];rfl⟩
 | false=>
  refine⟨fun f hf=>?_,fun f hf=>?_⟩
  ·show(dQy _ (dQy _ f).2).2.length=min 513 (f.length+2);rw[dQ6 _ (by rw[dQ6 _ hf];omega),dQ6 _ hf];omega
  ·have hf':f.length+2<=513:=hf;show dQy _ (dQy _ f).2=_;rw[hQC _ (f:=f) (by omega)];simp only;rw[hQC _ (by simp;omega),e];simp[iQT,szF,aQ4]
theorem mQv {b1 b2:List Fz->Nat×List Fz}{t1 t2:Fm}(h1:BldOk b1 t1)(h2:BldOk b2 t2)(op:Int)(mk:Fm->Fm->Fm)(hs:∀a b,szF (mk a b)=szF a+szF b+1)
  (hp:∀a b k,aQ4 (mk a b) k=aQ4 a k++aQ4 b (k+szF a)++ [⟨op,0,((k+szF a-1:Nat):Int),((k+szF a+szF b-1:Nat):Int)⟩]):
  BldOk (fun f=>let a:=b1 f;let c:=b2 a.2;dQy ⟨op,0,(a.1:Nat),(c.1:Nat)⟩ c.2) (mk t1 t2):=by
 refine⟨fun f hf=>?_,fun f hf=>?_⟩
 ·have e1:=h1.len f hf;have e2:=h2.len (b1 f).2 (by omega);simp only;rw[dQ6 _ (by omega),e2,e1,hs];omega
 ·rw[hs] at hf;have p1:=bQl t1;have p2:=bQl t2;simp only;rw[h1.eq f (by omega)];simp only;have l1:(f++aQ4 t1 f.length).length=f.length+szF t1:=by rw[List.length_append,aQE]
  rw[h2.eq _ (by rw[l1];omega)];simp only;have l2:(f++aQ4 t1 f.length++aQ4 t2 (f++aQ4 t1 f.length).length).length=f.length+szF t1+szF t2:=by rw[List.length_append,l1,aQE]
  rw[hQC _ (by rw[l2];omega),l2,hs,hp,l1];simp;omega
theorem pQ1 (bld:Int->List Fz->Nat×List Fz)(op v:Int)(pos:Bool)(num:Int)(f:List Fz):cQa bld op v pos num f=if op=4/\num=1 then wQc v pos f else let a:=wQc v pos f;let c:=bld num a.2;dQy ⟨op,0,(a.1:Nat),(c.1:Nat)⟩ c.2:=rfl
theorem pQ2 {nd:List Br}(h:Rd0 nd):∀(m:Nat)(n:Int),0<=n->n<m->n<nd.length+2->BldOk (cQM nd m n) (cfT nd m n)
 | 0,n,h0,hm,_=>by omega
 | m+1,n,h0,hm,hn=>by
  by_cases h2:n<2
  ·have e:(⟨min n 1,0,0,0⟩:Fz)=⟨if decide (n=1)then 1 else 0,0,0,0⟩:=by
    rcases(by omega:n=0∨n=1)with rfl | rfl<;>rfl
   rw[tQm h2];refine⟨fun f hf=>?_,fun f hf=>?_⟩
   ·rw[cQM,if_pos (.inl h2),dQ6 _ hf];rfl
   ·rw[cQM,if_pos (.inl h2),hQC _ hf,e];rfl
  obtain⟨b,hb⟩:=iQL h2 hn;obtain⟨b1,b2,b3,b4,b5,b6,b7,b8,b9,b10⟩:=h _ _ hb;have ihl:=pQ2 h m b.l b3 (by omega) (by omega);have ihh:=pQ2 h m b.h b5 (by omega) (by omega);have lit:=fun p=>wQd (v:=b.v) b1 p
  have sd:∀(op:Int) (pos:Bool) (num:Int) (t:Fm),¬(op=4/\num=1)->BldOk (cQM nd m num) t->(op=4->BldOk (cQa (cQM nd m) op b.v pos num) (.and (iQT b.v.toNat pos) t))/\(op=5->BldOk (cQa (cQM nd m) op b.v pos num) (.or (iQT b.v.toNat pos) t)):=fun op pos num t hno ht=>by
   have e:cQa (cQM nd m) op b.v pos num=fun f=>let a:=wQc b.v pos f;let c:=cQM nd m num a.2;dQy ⟨op,0,(a.1:Nat),(c.1:Nat)⟩ c.2:=by
    funext f;rw[pQ1,if_neg hno]
   rw[e];refine⟨fun h4=>?_,fun h5=>?_⟩
   ·subst h4;exact mQv (lit pos) ht 4 .and (fun _ _=>rfl) (fun _ _ _=>rfl)
   ·subst h5;exact mQv (lit pos) ht 5 .or (fun _ _=>rfl) (fun _ _ _=>rfl)
  have short:∀(pos:Bool),cQa (cQM nd m) 4 b.v pos 1=wQc b.v pos:=fun pos=>by funext f;rw[pQ1,if_pos ⟨rfl,rfl⟩]
  have main:∃B,BldOk B (cfT nd (m+1) n)/\∀f,¬512<f.length->cQM nd (m+1) n f=B f:=by
   rw[tQn h2 hb];have unf:∀f,¬512<f.length->cQM nd (m+1) n f=if b.l=0 then cQa (cQM nd m) 4 b.v true b.h f else
     if b.h=0 then cQa (cQM nd m) 4 b.v false b.l f else
     if b.h=1 then cQa (cQM nd m) 5 b.v true b.l f else
     if b.l=1 then cQa (cQM nd m) 5 b.v false b.h f else
      let hi:=cQa (cQM nd m) 4 b.v true b.h f
      let lo:=cQa (cQM nd m) 4 b.v false b.l hi.2
      dQy ⟨5,0,(hi.1:Nat),(lo.1:Nat)⟩ lo.2:=fun f hf=>by
    rw[cQM,if_neg (fun hh=>hh.elim h2 hf),hb]
   split
   ·rename_i hc;by_cases hl:b.l=0
    ·have hh:b.h=1:=by omega
     rw[decide_eq_true hh];exact⟨_,lit true,fun f hf=>by rw[unf f hf,if_pos hl,hh,short]⟩
    ·have hh:b.h=0:=by omega
     have hl1:b.l=1:=by omega
     rw[decide_eq_false (by omega)];exact⟨_,lit false,fun f hf=>by rw[unf f hf,if_neg hl,if_pos hh,hl1,short]⟩
   ·rename_i hc;split
    ·rename_i hl;exact⟨_,(sd 4 true b.h _ (by omega) ihh).1 rfl,fun f hf=>by rw[unf f hf,if_pos hl]⟩
    ·rename_i hl;split
     ·rename_i hh;exact⟨_,(sd 4 false b.l _ (by omega) ihl).1 rfl,fun f hf=>by rw[unf f hf,if_neg hl,if_pos hh]⟩
     ·rename_i hh;split
      ·rename_i hh1;exact⟨_,(sd 5 true b.l _ (by omega) ihl).2 rfl,fun f hf=>by rw[unf f hf,if_neg hl,if_neg hh,if_pos hh1]⟩
      ·rename_i hh1;split
       ·rename_i hl1;exact⟨_,(sd 5 false b.h _ (by omega) ihh).2 rfl,fun f hf=>by rw[unf f hf,if_neg hl,if_neg hh,if_neg hh1,if_pos hl1]⟩
       ·rename_i hl1;exact⟨_,mQv ((sd 4 true b.h _ (by omega) ihh).1 rfl) ((sd 4 false b.l _ (by omega) ihl).1 rfl) 5 .or (fun _ _=>rfl) (fun _ _ _=>rfl),fun f hf=>by rw[unf f hf,if_neg hl,if_neg hh,if_neg hh1,if_neg hl1]⟩
  obtain⟨B,hB,hBe⟩:=main;refine⟨fun f hf=>?_,fun f hf=>?_⟩
  ·by_cases h5:512<f.length
   ·rw[cQM,if_pos (.inr h5),dQ6 _ hf];have:=bQl (cfT nd (m+1) n);omega
   ·rw[hBe f h5,hB.len f hf]
  ·have:=bQl (cfT nd (m+1) n);rw[hBe f (by omega),hB.eq f hf]
theorem tQp {nd:List Br}{root:Int}(hv:bQS nd root=0):ofP nd root=if 512<szF (cf nd root)then([],2)else(aQ4 (cf nd root) 0,0):=by
 obtain⟨_,vd⟩:=bQC.1 hv;have B:=pQ2 vd.rd0 (root.toNat+1) root vd.2.1 (by have:=vd.2.1;omega) vd.2.2.1;have e1:=B.len [] (by simp);unfold ofP;rw[if_pos hv];simp only[List.length_nil,Nat.zero_add] at e1;have:cfT nd (root.toNat+1) root=cf nd root:=rfl;rw[this] at e1;by_cases h:512<szF (cf nd root)
 ·rw[if_pos h,if_pos (by rw[e1];omega)]
 ·rw[if_neg h,if_neg (by rw[e1];omega)];have e2:=B.eq [] (by simp only[List.length_nil];rw[this];omega);rw[e2,this];rfl
def VIn (k:Nat)(nd:List Br):Prop:=∀b∈nd,b.v<k
theorem VIn.nil (k:Nat):VIn k []:=fun b hb=>by simp at hb
theorem VIn.lvl {k:Nat}{nd:List Br}(h:VIn k nd){n:Int}(h2:¬n<2)(hn:n<nd.length+2):aQz nd n<k:=by
 obtain⟨b,hb⟩:=iQL h2 hn;rw[bQU h2 hb];exact h b (List.mem_of_getElem? hb)
theorem Rd0.lvl0 {nd:List Br}(h:Rd0 nd){n:Int}(hn:n<nd.length+2):0<=aQz nd n:=by
 by_cases h2:n<2
 ·rw[cQ2 h2];omega
 ·obtain⟨z,hz⟩:=iQL h2 hn;rw[bQU h2 hz];exact(h _ _ hz).1
theorem sQq {a b c:Nat}(ha:a<c)(hb:b<c):2^a+2^b<=2^c:=by
 obtain⟨d,rfl⟩:∃d,c=d+1:=⟨c-1,by omega⟩
 have h1:2^a<=2^d:=Nat.pow_le_pow_right (by decide) (by omega);have h2:2^b<=2^d:=Nat.pow_le_pow_right (by decide) (by omega);rw[Nat.pow_succ];omega
theorem sQr (a:Nat):1<=2^a:=Nat.one_le_two_pow
theorem mQw {nd:List Br}(h:Rd0 nd){k:Nat}(hk:VIn k nd):∀(m:Nat)(n:Int)(st:List Br×List Nat),0<=n->n<m->n<nd.length+2->(vis nd m n st).2.1.length+1<=st.1.length+2^((k:Int)-aQz nd n).toNat
 | 0,n,st,h0,hm,_=>by omega
 | m+1,n,st,h0,hm,hn=>by
  have p:=sQr ((k:Int)-aQz nd n).toNat;by_cases h2:n<2
  ·rw[fQz h2];simp only;omega
  by_cases h3:0<st.2[(n-2).toNat]?.getD 0
  ·rw[dQ4 h2 h3];simp only;omega
  obtain⟨b,hb⟩:=iQL h2 hn;obtain⟨b1,b2,b3,b4,b5,b6,b7,b8,b9,b10⟩:=h _ _ hb;have hbk:=hk b (List.mem_of_getElem? hb);have hlv:=bQU h2 hb;rw[eQv h2 h3 hb];have i1:=mQw h hk m b.l st b3 (by omega) (by omega);generalize (vis nd m b.l st)=p1 at*;have i2:=mQw h hk m b.h p1.2 b5 (by omega) (by omega);generalize (vis nd m b.h p1.2)=p2 at*;have:=sQq (a:=((k:Int)-aQz nd b.l).toNat) (b:=((k:Int)-aQz nd b.h).toNat) (c:=((k:Int)-aQz nd n).toNat) (by omega) (by omega);simp only[List.length_append,List.length_cons,List.length_nil];omega
theorem jQI {nd:List Br}{k:Nat}(hk:VIn k nd):∀(m:Nat)(n:Int)(st:List Br×List Nat),VIn k st.1->VIn k (vis nd m n st).2.1
 | 0,n,st,h=>h
 | m+1,n,st,h=>by
  by_cases h2:n<2
  ·rw[fQz h2];exact h
  by_cases h3:0<st.2[(n-2).toNat]?.getD 0
  ·rw[dQ4 h2 h3];exact h
  cases hb:nd[(n-2).toNat]? with
  | none=>rw[vis,if_neg h2,if_neg h3,hb];exact h
  | some b=>
   rw[eQv h2 h3 hb];have i1:=jQI hk m b.l st h;generalize (vis nd m b.l st)=p1 at*;have i2:=jQI hk m b.h p1.2 i1;generalize (vis nd m b.h p1.2)=p2 at*;intro x hx;simp only[List.mem_append,List.mem_singleton] at hx;rcases hx with hx | rfl
   ·exact i2 x hx
   ·exact hk b (List.mem_of_getElem? hb)
theorem jQJ {nd:List Br}{k:Nat}(hk:VIn k nd)(r:Int):VIn k (bQh nd r).1:=jQI hk _ _ _ (VIn.nil k)
theorem VD.len {nd:List Br}{r:Int}(h:VD nd r){k:Nat}(hk:VIn k nd):nd.length+1<=2^k:=by
 have i:=mQw h.rd0 hk (r.toNat+1) r ([],List.replicate nd.length 0) h.2.1 (by have:=h.2.1;omega) h.2.2.1;have e:(vis nd (r.toNat+1) r ([],List.replicate nd.length 0)).2.1=nd:=congrArg Prod.fst h.2.2.2;rw[e] at i;have:=h.rd0.lvl0 h.2.2.1;have p:2^((k:Int)-aQz nd r).toNat<=2^k:=Nat.pow_le_pow_right (by decide) (by omega);simp only[List.length_nil] at i;omega
theorem pQ3 {k:Nat}{l:List Br}(h:VIn k l){b:Br}(hb:b.v<k):VIn k (bQu b l).1:=by
 unfold bQu;split
 ·exact h
 ·split
  ·exact h
  ·intro x hx;simp only[List.mem_append,List.mem_singleton] at hx;rcases hx with hx | rfl
   ·exact h x hx
   ·exact hb
theorem jQK {a b:List Br}(ha:DOk a)(hb:DOk b){k:Nat}(ka:VIn k a)(kb:VIn k b)(op:Int):∀(m:Nat)(x y:Int)(st:List Br×List Tr3),0<=x->0<=y->x<a.length+2->y<b.length+2->VIn k st.1->VIn k (at2 a b op m x y st).2.1
 | 0,_,_,st,_,_,_,_,h=>h
 | m+1,x,y,st,x0,y0,hx,hy,h=>by
  by_cases hxy:x<2/\y<2
  ·rw[jQA hxy];exact h
  cases k3:st.2.find? (fun t=>decide (t.1=x/\t.2.1=y))with
  | some t=>rw[jQB hxy k3];exact h
  | none=>
   have hvk:min (aQz a x) (aQz b y)<k:=by
    by_cases c:x<2
    ·have:=kb.lvl (n:=y) (fun c2=>hxy ⟨c,c2⟩) hy;rw[Int.min_def];split<;>omega
    ·have:=ka.lvl (n:=x) c hx;rw[Int.min_def];split<;>omega
   have hv64:min (aQz a x) (aQz b y)<64:=by
    by_cases c:x<2
    ·have:=cQz hb (n:=y) (fun c2=>hxy ⟨c,c2⟩) (by omega);rw[Int.min_def];split<;>omega
    ·have:=cQz ha (n:=x) c (by omega);rw[Int.min_def];split<;>omega
   rw[jQC hxy k3 _ rfl];generalize min (aQz a x) (aQz b y)=v at*;obtain⟨s1,s2,s3,s4,s5⟩:=bQg ha (n:=x) x0 hv64;obtain⟨t1,t2,t3,t4,t5⟩:=bQg hb (n:=y) y0 hv64;have i1:=jQK ha hb ka kb op m (aQk a x v).1 (aQk b y v).1 st s1 t1 (by omega) (by omega) h;generalize (at2 a b op m (aQk a x v).1 (aQk b y v).1 st)=r0 at*;have i2:=jQK ha hb ka kb op m (aQk a x v).2 (aQk b y v).2 r0.2 s3 t3 (by omega) (by omega) i1;exact pQ3 i2 hvk
structure Set1 (k:Nat) (nd:List Br) (r:Int) (o:(Nat->Bool)->Bool):Prop where
 vd:VD nd r
 vin:VIn k nd
 mean:∀e,ev nd r e=o e
theorem Set1.len {k:Nat}{nd:List Br}{r:Int}{o:(Nat->Bool)->Bool}(h:Set1 k nd r o)(hk:k<=12):nd.length<=4095:=by
 have:=h.vd.len h.vin;have p:2^k<=2^12:=Nat.pow_le_pow_right (by decide) hk;omega
theorem Set1.chk {k:Nat}{nd:List Br}{r:Int}{o:(Nat->Bool)->Bool}(h:Set1 k nd r o)(hk:k<=12):bQS nd r=0:=mQj (by have:=h.len hk;omega) h.vd
theorem Set1.unique {k k':Nat}{nd nd':List Br}{r r':Int}{o o':(Nat->Bool)->Bool}(h:Set1 k nd r o)(h':Set1 k' nd' r' o')(e:∀x,o x=o' x):(nd,r)=(nd',r'):=
 h.vd.eqv h'.vd (fun x=>by rw[h.mean,h'.mean,e])
theorem Set1.congr {k:Nat}{nd:List Br}{r:Int}{o o':(Nat->Bool)->Bool}(h:Set1 k nd r o)(e:∀x,o x=o' x):Set1 k nd r o':=⟨h.vd,h.vin,fun x=>(h.mean x).trans (e x)⟩
theorem bQ4 {k:Nat}{a b:List Br}{ra rb:Int}{o o':(Nat->Bool)->Bool}(h:Set1 k a ra o)(h':Set1 k b rb o')(op:Int):Set1 k (cQO a ra b rb op).1 (cQO a ra b rb op).2 (fun e=>opB op (o e) (o' e)):=by
 obtain⟨v,m⟩:=uQo h.vd h'.vd op;refine⟨v,jQJ (jQK h.vd.dok h'.vd.dok h.vin h'.vin op _ _ _ _ h.vd.2.1 h'.vd.2.1 h.vd.2.2.1 h'.vd.2.2.1 (VIn.nil k)) _,fun e=>?_⟩;rw[m e,h.mean,h'.mean]
theorem eQB {k:Nat}(hk:k<=12){a b:List Br}{ra rb:Int}{o o':(Nat->Bool)->Bool}(h:Set1 k a ra o)(h':Set1 k b rb o')(op:Int):opD a ra b rb op=(cQO a ra b rb op,0):=by
 have l:=(bQ4 h h' op).len hk;unfold opD;rw[if_neg (fun hh=>hh (h.chk hk)),if_neg (fun hh=>hh (h'.chk hk))];unfold rQP;rw[if_neg (by omega)]
theorem bQi (k:Nat)(b:Bool):Set1 k [] (if b then 1 else 0) (fun _=>b):=by
 refine⟨⟨fun j x hx=>by simp at hx,by cases b<;>decide,by cases b<;>decide,by cases b<;>rfl⟩,VIn.nil k,fun e=>?_⟩;rw[bQP (by cases b<;>decide)];cases b<;>rfl
def eQ0 (nm:List (List Nat))(s:List Nat):Except Int Fm:=if aQV nm then
  if(cQe s).2 then match iQP (ixN nm) (s.length+1) (cQe s).1 with
   | none=>.error 31
   | some (t,u,ts)=>if ts≠ [] then .error 31 else if u then .error 3 else if 512<szF t then .error 2 else .ok t
  else .error 31
 else .error 1
theorem uQD (nm:List (List Nat))(s:List Nat):dQj nm s=match eQ0 nm s with
  | .ok t=>(aQ4 t 0,0)
  | .error e=>([],e):=by
 rw[kQ5];unfold nQy eQ0;cases aQV nm with
 | false=>rfl
 | true=>
  cases (cQe s).2 with
  | false=>rfl
  | true=>
   simp only[if_true];cases iQP (ixN nm) (s.length+1) (cQe s).1 with
   | none=>rfl
   | some q=>
    obtain⟨t,u,ts⟩:=q;simp only;by_cases h1:ts≠ []
    ·rw[if_pos h1,if_pos h1]
    ·rw[if_neg h1,if_neg h1];by_cases h2:u=true
     ·rw[if_pos h2,if_pos h2]
     ·rw[if_neg h2,if_neg h2];by_cases h3:512<szF t
      ·rw[if_pos h3,if_pos h3]
      ·rw[if_neg h3,if_neg h3]
def nQE (N:Nat)(opd:List (List Nat)->Option (Fm×Bool×List (List Nat))):Prop:=∀ts t ts',opd ts=some (t,false,ts')->VarsIn N t
theorem hQD {N:Nat}{op:List Nat}{mk:Fm->Fm->Fm}{opd:List (List Nat)->Option (Fm×Bool×List (List Nat))}(hm:∀a b,VarsIn N a->VarsIn N b->VarsIn N (mk a b))(h:nQE N opd):
  ∀(m:Nat) (a:Fm) (u:Bool) (ts:List (List Nat)) (t:Fm) (ts':List (List Nat)),(u=false->VarsIn N a)->cQ4 op mk opd m a u ts=some (t,false,ts')->VarsIn N t
 | 0,a,u,ts,t,ts',_,hh=>by cases hh
 | m+1,a,u,ts,t,ts',ha,hh=>by
  unfold cQ4 at hh;split at hh
  ·cases ho:opd ts.tail with
   | none=>rw[ho] at hh;cases hh
   | some q=>
    obtain⟨b,v,ts2⟩:=q;rw[ho] at hh;refine hQD hm h m _ _ _ t ts' (fun huv=>?_) hh;cases u<;>cases v<;>simp at huv
    exact hm _ _ (ha rfl) (h _ _ _ ho)
  ·cases hh;exact ha rfl
theorem dQp {N:Nat}{op:List Nat}{mk:Fm->Fm->Fm}{opd:List (List Nat)->Option (Fm×Bool×List (List Nat))}(hm:∀a b,VarsIn N a->VarsIn N b->VarsIn N (mk a b))(h:nQE N opd):nQE N (bQ5 op mk opd):=fun ts t ts' hh=>by
 unfold bQ5 at hh;cases ho:opd ts with
 | none=>rw[ho] at hh;cases hh
 | some q=>
  obtain⟨a,u,ts2⟩:=q;rw[ho] at hh;exact hQD hm h _ _ _ _ t ts' (fun hu=>by subst hu;exact h _ _ _ ho) hh
theorem iQU {N:Nat}{ix:List Nat->Option Nat}(hx:∀l n,ix l=some n->n<N):∀n,nQE N (fQm ix n)
 | 0=>fun ts t ts' h=>by cases h
 | n+1=>fun ts t ts' h=>by
  have ih:=iQU hx n;cases ts with
  | nil=>cases h
  | cons w ts=>
   unfold fQm at h;split at h
   ·cases ho:fQm ix n ts with
    | none=>rw[ho] at h;cases h
    | some q=>
     obtain⟨a,u,ts2⟩:=q;rw[ho] at h;cases h;exact show VarsIn N a from ih _ _ _ ho
   split at h
   ·cases ho:bQ5 [124,124] Fm.or (bQ5 [38,38] Fm.and (fQm ix n)) ts with
    | none=>rw[ho] at h;cases h
    | some q=>
     obtain⟨a,u,ts2⟩:=q;rw[ho] at h;simp only at h;split at h
     ·cases h;exact dQp (mk:=Fm.or) (fun _ _ h h'=>⟨h,h'⟩) (dQp (mk:=Fm.and) (fun _ _ h h'=>⟨h,h'⟩) ih) _ _ _ ho
     ·cases h
   split at h
   ·simp only[Option.some.injEq,Prod.mk.injEq] at h;obtain⟨rfl,h2,_⟩:=h;unfold jQG at h2 ⊢;split
    ·trivial
    ·split
     ·trivial
     ·rename_i h3 h4;rw[if_neg h3,if_neg h4] at h2;simp only at h2;cases hi:ix w with
      | none=>rw[hi] at h2;cases h2
      | some k=>exact hx _ _ hi
   ·cases h
theorem tQq (l:List Nat)(N:Nat):∀(names:List (List Nat))(i:Nat)(acc:Option Nat),(∀n,acc=some n->n<N)->i+names.length<=N->∀n,ixR l names i acc=some n->n<N
 | [],i,acc,ha,_,n,h=>ha n h
 | s::names,i,acc,ha,hl,n,h=>by
  unfold ixR at h;refine tQq l N names (i+1) _ (fun m hm=>?_) (by simp at hl;omega) n h;split at hm
  ·cases hm;simp at hl;omega
  ·exact ha m hm
theorem fQD {names:List (List Nat)}{l:List Nat}{n:Nat}(h:ixN names l=some n):n<names.length:=tQq l _ names 0 none (fun _ h=>by cases h) (by omega) n h
theorem pQ4 {nm:List (List Nat)}{s:List Nat}{t:Fm}(h:eQ0 nm s= .ok t):aQV nm=true/\VarsIn nm.length t/\szF t<=512:=by
 unfold eQ0 at h;split at h
 ·rename_i hn;split at h
  ·split at h
   ·cases h
   ·rename_i t' u ts hw;split at h
    ·cases h
    split at h
    ·cases h
    split at h
    ·cases h
    ·rename_i hu hs;cases h;have hu:u=false:=by simpa using hu
     subst hu;exact⟨hn,dQp (mk:=Fm.or) (fun _ _ h h'=>⟨h,h'⟩) (dQp (mk:=Fm.and) (fun _ _ h h'=>⟨h,h'⟩) (iQU (fun l n h=>fQD h) _)) _ _ _ hw,by omega⟩
  ·cases h
 ·cases h
theorem oQL {nm:List (List Nat)}{s:List Nat}{e:Int}(h:eQ0 nm s= .error e):e=1∨e=2∨e=3∨e=31:=by
 unfold eQ0 at h
 repeat' split at h
 all_goals first | cases h | skip
 all_goals simp
abbrev BF:=(Nat->Bool)->Bool
def gQ9 (nm:List (List Nat))(s:List Nat):Except Int BF:=match eQ0 nm s with
 | .ok t=>.ok (evF t)
 | .error e=>.error (if e=2 then 2 else 71)
inductive Dir where
 | txt
 | ifd (s:List Nat)
 | elif (s:List Nat)
 | els
 | en
 | inc (s:List Nat)
def pIf:List Nat:=[35,105,102,32]
def fQf:List Nat:=[35,101,108,105,102,32]
def mQx:List Nat:=[35,105,110,99,108,117,100,101,32]
def cQi:List Nat:=[35,101,108,115,101]
def cQQ:List Nat:=[35,101,110,100]
def bQc (s:List Nat):Dir:=if pIf.isPrefixOf s then .ifd (s.drop 4)else if mQx.isPrefixOf s then .inc (s.drop 9)else if fQf.isPrefixOf s then .elif (s.drop 6)else if s=cQi then .els else if s=cQQ then .en else .txt
def aQi:List Nat->List (List Nat)
 | []=>[]
 | b::l=>if b=10 then []::aQi l else match aQi l with
  | []=>[[b]]
  | s::ls=>(b::s)::ls
def unl (ls:List (List Nat)):List Nat:=ls.flatMap (fun s=>s++ [10])
theorem aQ7 (s:List Nat)(ls:List (List Nat)):unl (s::ls)=s++10::unl ls:=by simp[unl]
theorem lQc (ls:List (List Nat)):ls.length<=(unl ls).length:=by
 induction ls with
 | nil=>exact Nat.le_refl _
 | cons s ls ih=>rw[aQ7];simp only[List.length_cons,List.length_append];omega
def gQn (ls:List (List Nat)):Prop:=∀s∈ls,10∉s
theorem lQd (s l:List Nat)(h:10∉s):aQi (s++10::l)=s::aQi l:=by
 induction s with
 | nil=>simp[aQi]
 | cons b s ih=>
  simp only[List.mem_cons,not_or] at h;rw[List.cons_append,aQi,if_neg (fun e=>h.1 e.symm),ih h.2]
theorem bQY {ls:List (List Nat)}(h:gQn ls):aQi (unl ls)=ls:=by
 induction ls with
 | nil=>rfl
 | cons s ls ih=>rw[aQ7,lQd _ _ (h s (by simp)),ih (fun t ht=>h t (by simp[ht]))]
def cQ6 (l:List Nat):Prop:=l=[]∨l.getLast? =some 10
theorem bQv:∀(l:List Nat),gQn (aQi l)
 | []=>fun s hs=>by simp[aQi] at hs
 | b::l=>by
  have ih:=bQv l;intro s hs;unfold aQi at hs;split at hs
  ·simp only[List.mem_cons] at hs;rcases hs with rfl | hs
   ·simp
   ·exact ih s hs
  ·rename_i hb;cases hl:aQi l with
   | nil=>
    rw[hl] at hs;simp only[List.mem_singleton] at hs;subst hs;simpa using fun e=>hb e.symm
   | cons t ls=>
    rw[hl] at hs ih;simp only[List.mem_cons] at hs;rcases hs with rfl | hs
    ·have:=ih t (by simp);simp only[List.mem_cons,not_or];exact⟨fun e=>hb e.symm,this⟩
    ·exact ih s (by simp[hs])
theorem aQR:∀{l:List Nat},cQ6 l->unl (aQi l)=l
 | [],_=>rfl
 | b::l,h=>by
  have hl:cQ6 l:=by
   cases l with
   | nil=>exact .inl rfl
   | cons c l=>right;rcases h with h | h;cases h;simpa using h
  have ih:=aQR hl;unfold aQi;split
  ·rename_i hb;subst hb;rw[aQ7,ih];rfl
  ·rename_i hb;cases hls:aQi l with
   | nil=>
    rw[hls] at ih;have:l=[]:=ih.symm;subst this;rcases h with h | h
    ·cases h
    ·simp at h;exact absurd h hb
   | cons t ls=>
    rw[hls] at ih;simp only[aQ7] at ih ⊢;rw[List.cons_append,ih]
theorem tQr (ls:List (List Nat)):cQ6 (unl ls):=by
 induction ls with
 | nil=>exact .inl rfl
 | cons s ls ih=>
  right
  rw[aQ7];rcases ih with h | h
  ·rw[h];simp
  ·rw[List.getLast?_append,List.getLast?_cons,h];simp
structure Sg where
 f:Nat
 t:Nat
 fl:Nat
 at_:Nat
 o:BF
structure Gs where
 tx:List Nat
 sg:List Sg
 fr:Bool
structure Se where
 ou:BF
 re:BF
 ot:Bool
 ln:Nat
structure Pl where
 e:Int
 f:Int
 l:Int
def lQe (n:Nat):List Sg->List Sg
 | []=>[]
 | [x]=>[{x with t:=n}]
 | x::y::l=>x::lQe n (y::l)
theorem bQD (n:Nat)(l:List Sg)(x:Sg):lQe n (l++ [x])=l++ [{x with t:=n}]:=by
 induction l with
 | nil=>rfl
 | cons y l ih=>
  cases l with
  | nil=>rfl
  | cons z l=>rw[List.cons_append,List.cons_append] at*;rw[lQe,ih];rfl
def fQ0 (s:List Nat)(fl at_:Nat)(k:BF)(g:Gs):Option Gs:=
 if 1048576<g.tx.length+s.length∨(g.fr=true/\g.sg.length=65536)then none
 else some ⟨g.tx++s,lQe (g.tx.length+s.length) (if g.fr then g.sg++ [⟨g.tx.length,0,fl,at_,k⟩] else g.sg),false⟩
def mQy (ix:List Nat->Option Nat)(rd:List Nat)(s:List Nat):Except Int Nat:=
 if s.length<2∨s.head? ≠some 34∨s.getLast? ≠some 34∨s.count 34≠2 then .error 71
 else match ix ((s.drop 1).take (s.length-2))with
  | none=>.error 73
  | some n=>if n∈rd then .error 73 else .ok n
abbrev dQd (a b:BF):BF:=fun e=>a e&&b e
abbrev eQR (a b:BF):BF:=fun e=>a e && !b e
def rdL (nm:List (List Nat))(fl d0:Nat)(inc:List Nat->Nat->Nat->BF->Gs->Except Pl Gs):List (List Nat)->Nat->Nat->BF->List Se->Gs->Except Pl Gs
 | [],_,_,_,op,g=>match op with
  | []=>.ok {g with fr:=true}
  | x::_=>.error ⟨72,fl,x.ln⟩
 | s::ls,ln,at_,k,op,g=>match bQc s with
  | .ifd r=>match gQ9 nm r with
   | .error e=>.error ⟨e,fl,ln+1⟩
   | .ok d=>if d0+op.length=64 then .error ⟨2,fl,ln+1⟩else rdL nm fl d0 inc ls (ln+1) (at_+s.length+1) (dQd k d) (⟨k,eQR k d,false,ln+1⟩::op) {g with fr:=true}
  | .inc r=>match inc r (ln+1) (d0+op.length) k g with
   | .error p=>.error p
   | .ok g'=>rdL nm fl d0 inc ls (ln+1) (at_+s.length+1) k op {g' with fr:=true}
  | .elif r=>match op with
   | []=>.error ⟨72,fl,ln+1⟩
   | x::op'=>if x.ot then .error ⟨71,fl,ln+1⟩else match gQ9 nm r with
    | .error e=>.error ⟨e,fl,ln+1⟩
    | .ok d=>rdL nm fl d0 inc ls (ln+1) (at_+s.length+1) (dQd x.re d) ({x with re:=eQR x.re d}::op') {g with fr:=true}
  | .els=>match op with
   | []=>.error ⟨72,fl,ln+1⟩
   | x::op'=>if x.ot then .error ⟨71,fl,ln+1⟩else rdL nm fl d0 inc ls (ln+1) (at_+s.length+1) x.re ({x with ot:=true}::op') {g with fr:=true}
  | .en=>match op with
   | []=>.error ⟨72,fl,ln+1⟩
   | x::op'=>rdL nm fl d0 inc ls (ln+1) (at_+s.length+1) x.ou op' {g with fr:=true}
  | .txt=>match fQ0 (s++ [10]) fl at_ k g with
   | none=>.error ⟨2,fl,ln+1⟩
   | some g'=>rdL nm fl d0 inc ls (ln+1) (at_+s.length+1) k op g'
def rdF (nm:List (List Nat))(fs:List (List Nat×List Nat)):Nat->List Nat->Nat->Nat->BF->Gs->Except Pl Gs
 | 0,_,_,_,_,_=>.error ⟨0,0,0⟩
 | f+1,rd,d,n,k,g=>rdL nm n d (fun r ln d k g=>match mQy (ixN (fs.map (·.1))) (n::rd) r with
   | .error e=>.error ⟨e,n,ln⟩
   | .ok m=>if d=64 then .error ⟨2,n,ln⟩else rdF nm fs f (n::rd) (d+1) m k g) (aQi ((fs[n]?.map (·.2)).getD [])) 0 0 k [] {g with fr:=true}
def dQ7 (s:List Nat):Bool:=decide (s≠ [])&&s.all (fun b=>decide (32<=b)&&b !=34&&b !=127)
def eQC (l:List Nat):Bool:=decide (l=[])||l.getLast? ==some 10
def fQg:List (List Nat×List Nat)->List (List Nat)->Nat->Option Pl
 | [],_,_=>none
 | x::l,seen,i=>if¬(dQ7 x.1=true/\x.1∉seen/\eQC x.2=true)then some ⟨70,i,0⟩else if 1048576<x.2.length then some ⟨2,i,0⟩else fQg l (seen++ [x.1]) (i+1)
def bQ6 (fs:List (List Nat×List Nat)):Option Pl:=if 256<fs.length then some ⟨2, -1,0⟩else fQg fs [] 0
def cQJ (nm:List (List Nat))(fs:List (List Nat×List Nat))(root:List Nat):Except Pl Gs:=
 if aQV nm=false then .error ⟨30, -1,0⟩else match bQ6 fs with
  | some p=>.error p
  | none=>match ixN (fs.map (·.1)) root with
   | none=>.error ⟨73, -1,0⟩
   | some n=>rdF nm fs 65 [] 0 n (fun _=>true) ⟨[],[],false⟩
theorem cQb (A:Option Addr)(n c:Nat)(r m v:Int)(nd:List Br)(w:World)(h:SB w A n c nd)(hm:m<n+2)(h64:v<64):
  Fn Tryz.prog 167 [dgV A n c r,.int .i64 m,.int .i64 v] w (fun u w'=>u= .tuple #[.int .i64 (aQk nd m v).1,.int .i64 (aQk nd m v).2]/\Ext w w'):=by
 have hlen:=h.2;have hcap:n<=9223372036854775807:=by have:=h.1.le;have:=h.1.cap;simp only[maxLen] at this;omega
 refine aQf (c:={yQN with cuts:=[]}) aQb Tryz.func167 rfl rfl rfl ?_;refine new (fun w1 hE1 hz1 hB1=>?_);refine aQd hB1 rfl ?_;refine call (bQT A n c r m nd w1 (h.ext hE1) hm) ?_;rintro u w2 ⟨rfl,hE2⟩;have hE02:=hE1.trans hE2;have hB2:=hB1.ext hE2;refine cQj (fun c1=>?_) (fun c1=>?_)
 ·exact⟨by unfold aQk;rw[if_pos c1],hE02⟩
 ·have h2n:¬m<2:=fun h2=>by
   unfold aQz at c1;rw[if_pos h2] at c1;omega
  have hx:=List.getElem?_eq_getElem (show(m-2).toNat<nd.length by omega);generalize nd[(m-2).toNat]=b at hx;have e:aQk nd m v=(b.l,b.h):=by unfold aQk;rw[if_neg (by omega),hx]
  rw[e];refine aQm aQb (Ext w2) 16 [(true,0),(true,1),(true,2),(true,3),(true,4),(true,5),(true,6),(true,7),(true,8),(true,9),(true,10),(true,11),(true,12),(true,13),(true,14),(true,15)] (by kernel_rfl) (Ext.drew w2) ?_;refine aQy (v:=.slice A n c) (fun w' hw'=>by rw[(hB2.ext hw').cell];rfl) ?_;refine aQa (((m-2).toNat:Nat):Int) (by omega) (by omega) ?_;refine aQp cQl (h.ext hE02) rfl (by omega) (fun p z hz hc=>?_);have hzb:z=b:=Option.some.inj (hz.symm.trans hx);subst hzb;refine aQy (v:=.int .i64 z.l) (fun w' hw'=>hw'.cell (hc 1 _ rfl)) ?_;refine aQy (v:=.slice A n c) (fun w' hw'=>by rw[(hB2.ext hw').cell];rfl) ?_;refine aQa (((m-2).toNat:Nat):Int) (by omega) (by omega) ?_;refine aQp cQl (h.ext hE02) rfl (by omega) (fun p' z' hz' hc'=>?_);have hzb':z'=z:=Option.some.inj (hz'.symm.trans hx);subst hzb';refine aQy (v:=.int .i64 z'.h) (fun w' hw'=>hw'.cell (hc' 2 _ rfl)) ?_;exact⟨rfl,hE02.trans (Ext.drew w2)⟩
def wQe (nd:List Br)(b:Br):Option Value:=(bQp b nd).map fun i=>.int .i64 ((i+2:Nat):Int)
structure Bd (w:World) (base pb km:Nat) (NA:Option Addr) (nc:Nat) (nd:List Br):Prop where
 blk:Blk w pb 177 [.slice NA nd.length nc,.map (some km)]
 own:Own w base 105 3 NA nd.length nc (brV nd)
 known:∃m,MapQ brK w km m/\∀b,aQS b m=wQe nd b
 lt:pb<base/\km<base/\pb≠km
 top:base<=w.heap.size
theorem Bd.ext {w w':World}{base pb km:Nat}{NA:Option Addr}{nc:Nat}{nd:List Br}(h:Bd w base pb km NA nc nd)(k:Ext w w'):Bd w' base pb km NA nc nd:=
 ⟨h.blk.ext k,h.own.ext k,let ⟨m,h1,h2⟩:=h.known;⟨m,h1.ext k,h2⟩,h.lt,Nat.le_trans h.top k.size⟩
def BS (pb km:Nat)(NA:Option Addr):Nat->Prop:=fun k=>k=pb∨k=km∨aQx NA k
theorem BS.moved {w:World}{pb km:Nat}{A A':Option Addr}(h:Moved w A A'):∀k,BS pb km A' k->BS pb km A k∨w.heap.size<=k:=by
 rintro k (rfl | rfl | hk)
 ·exact .inl (.inl rfl)
 ·exact .inl (.inr (.inl rfl))
 ·rcases h.rows k hk with h | h
  ·exact .inl (.inr (.inr h))
  ·exact .inr h
def zQn (w:World)(base pb km:Nat)(NA:Option Addr)(nd:List Br)(w':World):Prop:=∃NA' nc',Bd w' base pb km NA' nc' nd/\Mod (BS pb km NA) w w'/\Moved w NA NA'
theorem nQF (b x:Br):∀l:List Br,bQp x l=none->bQp b (l++ [x])=if b=x then some l.length else bQp b l
 | [],_=>by
  show(if x=b then some 0 else(none:Option Nat).map (·+1))=_;by_cases h:x=b
  ·rw[if_pos h,if_pos h.symm];rfl
  ·rw[if_neg h,if_neg (fun e=>h e.symm)];rfl
 | y::l,hx=>by
  have hy:y≠x:=fun e=>by rw[bQp,if_pos e] at hx;cases hx
  have hl:bQp x l=none:=by
   rw[bQp,if_neg hy] at hx;cases hh:bQp x l with
   | none=>rfl
   | some k=>rw[hh] at hx;cases hx
  have ih:=nQF b x l hl;show(if y=b then some 0 else(bQp b (l++ [x])).map (·+1))=if b=x then some (l.length+1)else if y=b then some 0 else(bQp b l).map (·+1)
  rw[ih];by_cases h1:b=x
  ·rw[if_pos h1,if_pos h1,if_neg (fun e=>hy (e.trans h1))];rfl
  ·rw[if_neg h1,if_neg h1]
theorem pQ5 {b:Br}{nd:List Br}{i:Nat}(h:b.l≠b.h)(k:bQp b nd=some i):bQu b nd=(nd,((i+2:Nat):Int)):=by unfold bQu;rw[if_neg h,k]
theorem pQ6 {b:Br}{nd:List Br}(h:b.l≠b.h)(k:bQp b nd=none):bQu b nd=(nd++ [b],((nd.length+2:Nat):Int)):=by unfold bQu;rw[if_neg h,k]
theorem iQV (base pb km:Nat)(NA:Option Addr)(nc:Nat)(nd:List Br)(b:Br)(w:World)(h:Bd w base pb km NA nc nd)(hl:nd.length+1<=1000000000000):
  Fn Tryz.prog 189 [.pointer (some ⟨pb,0,none⟩),.int .i64 b.v,.int .i64 b.l,.int .i64 b.h] w (fun u w'=>u= .int .i64 (bQu b nd).2/\zQn w base pb km NA (bQu b nd).1 w'):=by
 obtain⟨p1,p2,p3⟩:=h.lt;have htop:=h.top;have hrows:=h.own.rows;refine aQf (c:={yQU with cuts:=[]}) aQb Tryz.func189 rfl rfl rfl ?_;refine aQP (fun c1=>?_) (fun c1=>?_)
 ·have e:bQu b nd=(nd,b.l):=by unfold bQu;rw[if_pos c1]
  rw[e];exact⟨rfl,NA,nc,h,Mod.refl _ _,Moved.refl _ _⟩
 refine new (fun w1 hE1 hz1 hB1=>?_);refine aQc hB1 rfl (sc rfl) (fun w2 hg2 hz2 hB2=>?_);have hE2:Ext w w2:=aQJ hE1 hB1 hg2
 replace hB2:Blk w2 w.heap.size 105 b.cells:=hB2;have h2:=h.ext hE2;obtain⟨m,hm,hmem⟩:=h2.known;refine aQm aQb (Ext w2) 11 [(true,0),(true,1),(true,2),(true,3),(true,4),(false,5),(true,6),(true,7),(true,8),(true,9),(true,10)] (by kernel_rfl) (Ext.drew w2) ?_;refine aQy (v:=.map (some km)) (fun w' hw'=>by rw[(h2.blk.ext hw').cell];rfl) ?_;refine aQw (vs:=b.cells) rfl (fun w' hw' j v hj=>by rw[(hB2.ext hw').cell];exact hj) ?_;refine dQ2 (kv:=brK) (a:=b) aQb rfl rfl rfl rfl sQh rfl rfl (hm.ext (Ext.drew w2)) ?_;refine⟨Ext.drew w2,?_⟩;have hE02:=hE2.trans (Ext.drew w2);have hB3:=hB2.ext (Ext.drew w2);have h3:=h2.ext (Ext.drew w2);have hm3:=hm.ext (Ext.drew w2);have hz3:w2.heap.size<=w2.drew.heap.size:=(Ext.drew w2).size;generalize w2.drew=w3 at*;cases hf:bQp b nd with
 | some i=>
  have ha:aQS b m=some (.int .i64 ((i+2:Nat):Int)):=by rw[hmem,wQe,hf];rfl
  have hx0:=pQ5 c1 hf;refine eQl (aQM (by rw[ha];rfl) ?_);rw[hx0];exact⟨by rw[ha];rfl,NA,nc,h3,Mod.of_ext _ hE02,Moved.refl _ _⟩
 | none=>
  have ha:aQS b m=none:=by rw[hmem,wQe,hf];rfl
  have hx0:=pQ6 c1 hf;refine eQl (aQN (by rw[ha];rfl) ?_);rw[hx0];have n3:w1.heap.size=w.heap.size+1:=hz1;have hpr:¬aQx NA pb:=fun hr=>by have:=(hrows _ hr).1;omega
  have hxr:¬aQx NA w.heap.size:=fun hr=>by have:=(hrows _ hr).2;omega
  refine aQm aQb (Mod (aQx NA) w3) 8 [(true,0),(true,1),(true,2),(true,3),(true,4),(true,5),(false,6),(false,7)] (by kernel_rfl) (Mod.of_ext _ (Ext.drew w3)) ?_;refine aQy (v:=.slice NA nd.length nc) (fun w' hw'=>by rw[(h3.blk.mod hw' hpr).cell];rfl) ?_;refine aQw (vs:=b.cells) rfl (fun w' hw' j v hj=>by rw[(hB3.mod hw' hxr).cell];exact hj) ?_;refine aQl aQb [b.cells] rfl rfl rfl rfl rfl ⟨rfl,rfl,⟨⟩⟩ rfl (fun cs h=>by simp only[List.mem_singleton] at h;subst h;rfl) rfl (by decide) (by decide) ?_;intro w4 hE4 hz4 hB4;have hE34:=(Ext.drew w3).trans hE4;have h4:=h3.ext hE34;refine⟨Mod.of_ext _ hE34,?_⟩;have hs4:Sl w4 3 (some ⟨w3.drew.heap.size,0,none⟩) 1 1 b.cells:=Sl.own (sz:=3) (n:=1) hB4 (Nat.le_refl _) (by decide) (by simp[Br.cells]);refine bQf (n:=nd.length) aQb rfl rfl rfl rfl rfl (by decide) rfl rfl ⟨_,rfl⟩ rfl rfl h4.own hs4 (by intro u hu;simp[Br.cells] at hu;rcases hu with rfl | rfl | rfl<;>rfl) (by unfold maxLen;omega) (by show _*24<=_;omega) h4.top ?_;intro A' c' w5 hm5 hown5 hmv5;have hM35:Mod (aQx NA) w3 w5:=(Mod.of_ext (aQx NA) hE34).trans hm5 (fun i hi=>.inl hi);refine⟨hM35,?_⟩;have hz5:=hM35.size;have hz34:=hE34.size;have hz02:=hE02.size;refine aQn (h3.blk.mod hM35 hpr) (by simp) (fun w6 hm6 hB6=>?_);have hz6:=hm6.size;have ar:∀i,aQx A' i->base<=i:=fun i hi=>(hown5.rows i hi).1
  have hB6':Blk w6 pb 177 [.slice A' (nd.length+1) c',.map (some km)]:=hB6;refine aQg hB6' rfl ?_;refine aQa ((nd.length+2:Nat):Int) (by show((nd.length+1:Nat):Int)+1=_;omega) (by omega) ?_;have hx6:=(hB3.mod hM35 hxr).mod hm6 (by show¬w.heap.size=pb;omega);have hq6:MapQ brK w6 km m:=(hm3.mod hM35 (fun hr=>by have:=(hrows _ hr).1;omega)).mod hm6 (by show¬km=pb;omega);refine aQm aQb (Ext w6) 6 [(true,0),(true,1),(true,2),(true,3),(true,4),(true,5)] (by kernel_rfl) (Ext.drew w6) ?_;refine aQy (v:=.map (some km)) (fun w' hw'=>by rw[(hB6'.ext hw').cell];rfl) ?_;refine aQw (vs:=b.cells) rfl (fun w' hw' j v hj=>by rw[(hx6.ext hw').cell];exact hj) ?_;refine bQ3 (kv:=brK) (a:=b) aQb rfl rfl rfl rfl sQh rfl rfl rfl (hq6.ext (Ext.drew w6)) (fun w8 hm8 hz8 hq8=>?_);have hM68:Mod (·=km) w6 w8:=(Mod.of_ext (·=km) (Ext.drew w6)).trans hm8 (fun i hi=>.inl hi);have hM3:Mod (BS pb km NA) w w3:=Mod.of_ext _ hE02;have hM5:Mod (BS pb km NA) w w5:=hM3.trans hM35 (fun i hi=>.inl (.inr (.inr hi)));have hM6:Mod (BS pb km NA) w w6:=hM5.trans hm6 (fun i hi=>.inl (.inl hi));have hM8:Mod (BS pb km NA) w w8:=hM6.trans hM68 (fun i hi=>.inl (.inr (.inl hi)));have el:(nd++ [b]).length=nd.length+1:=by simp
  refine⟨rfl,A',c',⟨?_,?_,⟨_,hq8,fun x=>?_⟩,h.lt,Nat.le_trans htop hM8.size⟩,hM8,hmv5.back (by omega)⟩
  ·rw[el];exact hB6'.mod hM68 (by show¬pb=km;omega)
  ·rw[el,gQ3];exact(hown5.mod hm6 (fun i hi e=>by have:=ar i hi;have e':i=pb:=e;omega)).mod hM68 (fun i hi e=>by have:=ar i hi;have e':i=km:=e;omega)
  ·rw[bQe,hmem,wQe,wQe,nQF x b nd hf];by_cases hxb:x=b
   ·rw[if_pos hxb,if_pos hxb];rfl
   ·rw[if_neg hxb,if_neg hxb]
theorem fQE (F:Option Addr)(m cf:Nat)(L:List DV)(w:World)(h:SlS DV.cells 2 w F m cf L)(hL:∀x∈L,SB w x.A x.n x.c x.nd):
  Fn Tryz.prog 111 [.slice F m cf] w (fun v w'=>v= .int .i64 (cQ1 L)/\Ext w w'):=by
 have hlen:=h.2;have hcap:m<=9223372036854775807:=by have:=h.1.le;have:=h.1.cap;simp only[maxLen] at this;omega
 refine aQf (c:={yQc with cuts:=[]}) aQb Tryz.func111 rfl rfl rfl ?_;refine loop aQb [8] (fun s:Nat=>[.int .i64 s]) (fun s w'=>Ext w w'/\s<=m/\∀(j:Nat) (y:DV),j<s->L[j]? =some y->bQS y.nd y.r=0) (fun s _=>m-s) 0 rfl ⟨Ext.refl w,Nat.zero_le _,fun j y hj=>absurd hj (by omega)⟩ ?_;rintro s w1 ⟨hE1,hs,hall⟩;refine aQq (fun h2=>?_) (fun h2=>?_)
 ·refine aQp dQm (h.ext hE1) rfl (by omega) (fun p x hx hc=>?_);refine aQK (vs:=x.cells) rfl hc ?_;refine new (fun w2 hE2 hz2 hB2=>?_);refine aQc hB2 rfl (sc rfl) (fun w3 hg3 hz3 hB3=>?_);have hE3:Ext w w3:=hE1.trans (aQJ hE2 hB2 hg3);refine aQd hB3 rfl ?_;refine call (dQI x.A x.n x.c x.nd x.r w3 ((hL x (List.mem_of_getElem? hx)).ext hE3)) ?_;rintro v w4 ⟨rfl,hE4⟩;refine cQj (fun c1=>?_) (fun c1=>?_)
  ·exact⟨by rw[oQE hall hx c1],hE3.trans hE4⟩
  ·refine aQa ((s+1:Nat):Int) (by omega) (by omega) ?_;refine⟨s+1,rfl,⟨hE3.trans hE4,by omega,fun j y hj hy=>?_⟩,by show m-(s+1)<m-s;omega⟩;by_cases hjs:j<s
   ·exact hall j y hjs hy
   ·have:j=s:=by omega
    subst this;rw[Option.some.inj (hy.symm.trans hx)];exact c1
 ·exact⟨by rw[mQn (fun j y hj hy=>hall j y (by omega) hy)],hE1⟩
theorem hQE (A:Option Addr)(n c:Nat)(a:List Br)(ra:Int)(w0 w:World)(h:SB w A n c a)(hr:∀i,aQx A i->w0.heap.size<=i)(hE:Ext w0 w):
  Fn Tryz.prog 127 [dgV A n c ra] w (DgE w0 (rQP (a,ra))):=by
 have hal:=h.2;refine aQf (c:={yQj with cuts:=[]}) aQb Tryz.func127 rfl rfl rfl ?_;refine new (fun w1 hE1 hz1 hB1=>?_);refine new (fun w2 hE2 hz2 hB2=>?_);have hE02:=hE1.trans hE2;refine aQg (hB1.ext hE2) rfl ?_;refine aQq (fun c1=>?_) (fun c1=>?_)
 ·have e:rQP (a,ra)=(([],0),2):=by unfold rQP;rw[if_pos (show 4096<(a,ra).1.length by simp only;omega)]
  rw[e];refine aQc hB2 rfl (sc rfl) (fun w3 hg3 _ hB3=>?_);have hM3:Mod (·=w1.heap.size) w2 w3:=zQE hg3 rfl;refine aQd hB3 rfl ?_;exact⟨none,0,0,rfl,hE.trans (hM3.ext hE02 (fun i hi=>by have:=hE1.size;omega)),SlS.nil _,fun i ⟨_,e,_⟩=>by cases e⟩
 ·have e:rQP (a,ra)=((a,ra),0):=by unfold rQP;rw[if_neg (show¬4096<(a,ra).1.length by simp only;omega)]
  rw[e];refine aQd (hB1.ext hE2) rfl ?_;refine aQc hB2 rfl (sc rfl) (fun w3 hg3 _ hB3=>?_);have hM3:Mod (·=w1.heap.size) w2 w3:=zQE hg3 rfl;refine aQd hB3 rfl ?_;refine⟨A,n,c,rfl,hE.trans (hM3.ext hE02 (fun i hi=>by have:=hE1.size;omega)),⟨(h.ext hE02).1.modS hM3 (fun h0 i hi e=>by obtain⟨ad,rfl,rfl⟩:=hi;have:=SB.lt h ad rfl h0;omega),hal⟩,hr⟩
theorem mQz (k:Int)(w:World)(h0:0<=k)(h1:k<=63):Fn Tryz.prog 34 [.int .i64 k] w (DgE w (([⟨k,0,1⟩],2),0)):=by
 refine aQf (c:={c34 with cuts:=[]}) aQb Tryz.func34 rfl rfl rfl ?_;refine new (fun w1 hE1 hz1 hB1=>?_);refine aQB (by omega) ?_;refine aQB (by omega) ?_;refine aQl aQb [(⟨k,0,1⟩:Br).cells] rfl rfl rfl rfl rfl ⟨rfl,rfl,⟨⟩⟩ rfl (fun cs h=>by simp only[List.mem_singleton] at h;subst h;rfl) rfl (by decide) (by decide) ?_;intro w2 hE2 hz2 hB2;refine aQc (hB1.ext hE2) rfl (sc rfl) (fun w3 hg3 _ hB3=>?_);have hM3:Mod (·=w.heap.size) w2 w3:=zQE hg3 rfl;refine aQd hB3 rfl ?_;refine⟨some ⟨w1.heap.size,0,none⟩,1,1,rfl,hM3.ext (hE1.trans hE2) (fun i hi=>by omega),⟨Sl.own (sz:=3) (n:=1) (hB2.mod hM3 (by omega)) (Nat.le_refl _) (by decide) (by simp[Br.cells]),rfl⟩,fun i ⟨ad,e,hi⟩=>by cases e;simp only at hi;omega⟩
theorem bQm (b:Bool)(w:World):Fn Tryz.prog 37 [.bool b] w (fun v w'=>v=dgV none 0 0 (if b then 1 else 0)/\Ext w w'):=by
 refine aQf (c:={c37 with cuts:=[]}) aQb Tryz.func37 rfl rfl rfl ?_;refine new (fun w1 hE1 hz1 hB1=>?_);cases b with
 | true=>
  refine aQM rfl ?_;refine aQc hB1 rfl (sc rfl) (fun w3 hg3 _ hB3=>?_);refine aQd hB3 rfl ?_;exact⟨rfl,aQJ hE1 hB1 hg3⟩
 | false=>
  refine aQN rfl ?_;refine aQc hB1 rfl (sc rfl) (fun w3 hg3 _ hB3=>?_);refine aQd hB3 rfl ?_;exact⟨rfl,aQJ hE1 hB1 hg3⟩
def pQ7 (F:Nat)(op:Int):Prop:=(F=84/\op=0)∨(F=155/\op=1)∨(F=83/\op=3)
theorem pQ8 {F:Nat}{op:Int}(h:pQ7 F op)(x y:Bool)(w:World):Fn Tryz.prog F [.bool x,.bool y] w (fun v w'=>v= .bool (opB op x y)/\w=w'):=by
 rcases h with⟨rfl,rfl⟩ | ⟨rfl,rfl⟩ | ⟨rfl,rfl⟩
 ·refine aQf (c:={c84 with cuts:=[]}) aQb Tryz.func84 rfl rfl rfl ?_;cases x with
  | true=>
   refine aQM rfl ?_;exact⟨rfl,rfl⟩
  | false=>
   refine aQN rfl ?_;exact⟨rfl,rfl⟩
 ·refine aQf (c:={yQE with cuts:=[]}) aQb Tryz.func155 rfl rfl rfl ?_;cases x with
  | true=>
   refine aQM rfl ?_;exact⟨rfl,rfl⟩
  | false=>
   refine aQN rfl ?_;exact⟨rfl,rfl⟩
 ·refine aQf (c:={c83 with cuts:=[]}) aQb Tryz.func83 rfl rfl rfl ?_;exact⟨rfl,rfl⟩
theorem uQE {F:Nat}{op:Int}(h:pQ7 F op)(ob:Nat)(x y z:Bool)(w:World)(hB:Blk w ob 139 [.func (.func F) #[] #[]]):
  Fn Tryz.prog 129 [.bool x,.bool y,.bool z,.pointer (some ⟨ob,0,none⟩)] w (fun v w'=>v= .bool (opB op x y)/\w=w'):=by
 rcases h with⟨rfl,rfl⟩ | ⟨rfl,rfl⟩ | ⟨rfl,rfl⟩
 ·refine aQf (c:={xQp with cuts:=[]}) aQb Tryz.func129 rfl rfl rfl ?_;refine aQg hB rfl ?_;refine call (pQ8 (op:=0) (.inl ⟨rfl,rfl⟩) x y w) ?_;rintro _ _ ⟨rfl,rfl⟩;exact⟨rfl,rfl⟩
 ·refine aQf (c:={xQp with cuts:=[]}) aQb Tryz.func129 rfl rfl rfl ?_;refine aQg hB rfl ?_;refine call (pQ8 (op:=1) (.inr (.inl ⟨rfl,rfl⟩)) x y w) ?_;rintro _ _ ⟨rfl,rfl⟩;exact⟨rfl,rfl⟩
 ·refine aQf (c:={xQp with cuts:=[]}) aQb Tryz.func129 rfl rfl rfl ?_;refine aQg hB rfl ?_;refine call (pQ8 (op:=3) (.inr (.inr ⟨rfl,rfl⟩)) x y w) ?_;rintro _ _ ⟨rfl,rfl⟩;exact⟨rfl,rfl⟩
theorem KeyQ.askingA {α:Type} [DecidableEq α]{P:Program}{ke:Nat}{kv:α->Value}{len elem:Nat}(hu:P.underlying ke=some (.array len elem))
  (heq:∀(a b:α) (w:World),(Op.equal ke (kv a) (kv b)).run P w= .ok (decide (a=b)) w) (hc:∀b a w,(Instr.checkKey b 10000 ke (kv a)).run P w= .ok () w) (hb:∀a,Instr.sameBits 10000 (kv a) (kv a)=true):KeyQ P ke kv:=by
 refine⟨fun a m bs w hl=>?_,hc,hb⟩;have key:=cQZ (P:=P) (ke:=ke) (kv:=kv) a w (fun b=>heq a b w) m bs 0 hl;obtain⟨r,h1,h2,h3,h4⟩:=key;refine⟨r,?_,h2,fun j v hj v'=>by simpa using (h3 j v hj).2 v',h4⟩;unfold Instr.findKey;simp only[Sem.run_bind,run_underlying hu,Result.andThen_ok];cases m with
 | nil=>
  simp only[aQI,List.zip_nil_left,List.map_nil,Instr.findNow,Sem.run_pure];simp[aQI,Instr.findAsking] at h1;rw[h1]
 | cons p m=>
  cases bs with
  | nil=>simp at hl
  | cons s bs=>
   have e:aQI kv (p::m) (s::bs)={key:=kv p.1,val:=p.2,born:=s}::aQI kv m bs:=rfl;rw[e] at h1 ⊢;have hn:Instr.findNow (.array len elem) (kv a) ({key:=kv p.1,val:=p.2,born:=s}::aQI kv m bs) 0=none:=by
    simp[Instr.findNow,Instr.sameNow]
   rw[hn];exact h1
abbrev I3:=Int×Int×Int
abbrev i3C (t:I3):List Value:=[.int .i64 t.1,.int .i64 t.2.1,.int .i64 t.2.2]
abbrev i3K:I3->Value:=fun t=>.agg #[.int .i64 t.1,.int .i64 t.2.1,.int .i64 t.2.2]
theorem ci1:Tryz.prog.cellsOf 3=1:=by kernel_rfl
theorem pQ9 (a b:Int)(n:Nat)(w:World):(Op.equalIn (n+1) 3 (.int .i64 a) (.int .i64 b)).run Tryz.prog w= .ok (a==b) w:=by
 simp[Op.equalIn,run_underlying Tryz.underlying3]
theorem zQo (a b:I3)(n:Nat)(w:World):(Op.equalIn (n+2) 242 (i3K a) (i3K b)).run Tryz.prog w= .ok (decide (a=b)) w:=by
 obtain⟨i,hi⟩:=Option.isSome_iff_exists.1 (show(Tryz.prog.info? 3).isSome=true by kernel_rfl);obtain⟨a0,a1,a2⟩:=a;obtain⟨b0,b1,b2⟩:=b;have e:=run_equalIn_array (w:=w) (n+1) #[.int .i64 a0,.int .i64 a1,.int .i64 a2] #[.int .i64 b0,.int .i64 b1,.int .i64 b2] Tryz.underlying242 hi;rw[ci1,show List.range 3=[0,1,2] from rfl] at e;refine e.trans ?_;have p0:∀x y z:Int,(part 3 #[Value.int .i64 x,.int .i64 y,.int .i64 z] (0*1)).run Tryz.prog w= .ok (.int .i64 x) w:=fun x y z=>bQH k3 rfl w
 have p1:∀x y z:Int,(part 3 #[Value.int .i64 x,.int .i64 y,.int .i64 z] (1*1)).run Tryz.prog w= .ok (.int .i64 y) w:=fun x y z=>bQH k3 rfl w
 have p2:∀x y z:Int,(part 3 #[Value.int .i64 x,.int .i64 y,.int .i64 z] (2*1)).run Tryz.prog w= .ok (.int .i64 z) w:=fun x y z=>bQH k3 rfl w
 have dd:decide ((a0,a1,a2)=(b0,b1,b2))=(a0==b0&&(a1==b1&&a2==b2)):=by
  by_cases h0:a0=b0<;>by_cases h1:a1=b1<;>by_cases h2:a2=b2<;>simp[h0,h1,h2]
 rw[dd];simp only[Op.eqItems,Sem.run_bind,p0,Result.andThen_ok,pQ9];cases h0:a0==b0 with
 | false=>simp
 | true=>
  simp only[Bool.not_true,Bool.false_eq_true,if_false,Sem.run_bind,p1,Result.andThen_ok,pQ9,Bool.true_and];cases h1:a1==b1 with
  | false=>simp
  | true=>
   simp only[Bool.not_true,Bool.false_eq_true,if_false,Sem.run_bind,p2,Result.andThen_ok,pQ9,Bool.true_and];cases h2:a2==b2<;>simp
theorem uQF (b:Bool)(a:I3)(n:Nat)(w:World):(Instr.checkKey b (n+2) 242 (i3K a)).run Tryz.prog w= .ok () w:=by
 obtain⟨i,hi⟩:=Option.isSome_iff_exists.1 (show(Tryz.prog.info? 3).isSome=true by kernel_rfl);have p0:∀x y z:Int,(part 3 #[Value.int .i64 x,.int .i64 y,.int .i64 z] 0).run Tryz.prog w= .ok (.int .i64 x) w:=fun x y z=>bQH k3 rfl w
 have p1:∀x y z:Int,(part 3 #[Value.int .i64 x,.int .i64 y,.int .i64 z] 1).run Tryz.prog w= .ok (.int .i64 y) w:=fun x y z=>bQH k3 rfl w
 have p2:∀x y z:Int,(part 3 #[Value.int .i64 x,.int .i64 y,.int .i64 z] 2).run Tryz.prog w= .ok (.int .i64 z) w:=fun x y z=>bQH k3 rfl w
 have hz:(sizeOf 3).run Tryz.prog w= .ok 1 w:=by rw[<-ci1];exact Go.run_sizeOf w hi
 simp[Instr.checkKey,run_underlying Tryz.underlying242,run_underlying Tryz.underlying3,hz,p0,p1,p2,Std.Legacy.Range.forIn_eq_forIn_range',Std.Legacy.Range.size,List.range'_succ]
theorem sQs:KeyQ Tryz.prog 242 i3K:=
 KeyQ.askingA Tryz.underlying242 (fun a b w=>zQo a b 9998 w) (fun b a w=>uQF b a 9998 w) (fun a=>by simp[Instr.sameBits])
structure CP where
 ox:Nat
 ob:Nat
 mx:Nat
 lx:Nat
 ax:Nat
 bx:Nat
 pb:Nat
 km:Nat
 mm:Nat
 F:Nat
 D:AD
def CP.caps (p:CP):List Value:=[VP.ptr p.ox,VP.ptr p.mx,VP.ptr p.lx,VP.ptr p.ax,VP.ptr p.bx]
def CP.clo (p:CP):Value:=.func (.func 188) #[] #[VP.ptr p.ox,VP.ptr p.mx,VP.ptr p.lx,VP.ptr p.ax,VP.ptr p.bx]
def CP.lC (p:CP):List Value:=[.slice p.D.A p.D.n p.D.c,.int .i64 p.D.ra,.slice p.D.B p.D.m p.D.d,.int .i64 p.D.rb,.slice none 0 0,.int .i64 0]
structure CK (w:World) (base:Nat) (p:CP):Prop where
 hF:pQ7 p.F p.D.op
 oxb:Blk w p.ox 205 [.func (.func 129) #[] #[VP.ptr p.ob]]
 obb:Blk w p.ob 139 [.func (.func p.F) #[] #[]]
 mxb:Blk w p.mx 272 [.map (some p.mm)]
 lxb:Blk w p.lx 204 p.lC
 axb:Blk w p.ax 273 [p.clo]
 bxb:Blk w p.bx 174 [VP.ptr p.pb]
 as_:SB w p.D.A p.D.n p.D.c p.D.a
 bs:SB w p.D.B p.D.m p.D.d p.D.b
 off:∀k,k=p.ox∨k=p.ob∨k=p.mx∨k=p.lx∨k=p.ax∨k=p.bx->k<base/\k≠p.pb/\k≠p.km/\k≠p.mm
 rowA:∀ad,p.D.A=some ad->0<p.D.n->ad.block<base/\ad.block≠p.pb/\ad.block≠p.km/\ad.block≠p.mm
 rowB:∀ad,p.D.B=some ad->0<p.D.m->ad.block<base/\ad.block≠p.pb/\ad.block≠p.km/\ad.block≠p.mm
def CS (p:CP)(NA:Option Addr):Nat->Prop:=fun k=>k=p.mm∨BS p.pb p.km NA k
theorem CS.moved {w:World}{p:CP}{A A':Option Addr}(h:Moved w A A'):∀k,CS p A' k->CS p A k∨w.heap.size<=k:=by
 rintro k (rfl | hk)
 ·exact .inl (.inl rfl)
 ·rcases BS.moved h k hk with h | h
  ·exact .inl (.inr h)
  ·exact .inr h
theorem CS.trans {w w1 w2:World}{p:CP}{A A1:Option Addr}(hm:Mod (CS p A) w w1)(hv:Moved w A A1)(h:Mod (CS p A1) w1 w2):Mod (CS p A) w w2:=hm.trans h (CS.moved hv)
theorem CS.no {p:CP}{base:Nat}{NA:Option Addr}(hr:∀i,aQx NA i->base<=i){k:Nat}(h:k<base/\k≠p.pb/\k≠p.km/\k≠p.mm):¬CS p NA k:=fun e=>by
 obtain⟨h1,h2,h3,h4⟩:=h;rcases e with e | e | e | e
 ·exact h4 e
 ·exact h2 e
 ·exact h3 e
 ·have:=hr k e;omega
theorem CK.mod {w w':World}{base:Nat}{p:CP}{NA:Option Addr}(h:CK w base p)(hr:∀i,aQx NA i->base<=i)(hm:Mod (CS p NA) w w'):CK w' base p:=by
 have k:=fun k hk=>CS.no (p:=p) hr (h.off k hk)
 refine⟨h.hF,h.oxb.mod hm (k _ (by simp)),h.obb.mod hm (k _ (by simp)),h.mxb.mod hm (k _ (by simp)),h.lxb.mod hm (k _ (by simp)),h.axb.mod hm (k _ (by simp)),h.bxb.mod hm (k _ (by simp)),⟨h.as_.1.modS hm ?_,h.as_.2⟩,⟨h.bs.1.modS hm ?_,h.bs.2⟩,h.off,h.rowA,h.rowB⟩
 ·rintro h0 i ⟨ad,e,rfl⟩;exact CS.no hr (h.rowA ad e h0)
 ·rintro h0 i ⟨ad,e,rfl⟩;exact CS.no hr (h.rowB ad e h0)
theorem CK.ext {w w':World}{base:Nat}{p:CP}(h:CK w base p)(k:Ext w w'):CK w' base p:=
 h.mod (NA:=none) (fun i hi=>by obtain⟨_,e,_⟩:=hi;cases e) (Mod.of_ext _ k)
def rQQ (l:List Tr3)(x y:Int):Option Value:=(l.find? (fun t=>decide (t.1=x/\t.2.1=y))).map fun t=>.int .i64 t.2.2
structure CSt (w:World) (base:Nat) (p:CP) (NA:Option Addr) (nc:Nat) (st:List Br×List Tr3):Prop where
 bd:Bd w base p.pb p.km NA nc st.1
 memo:∃m,MapQ i3K w p.mm m/\∀x y:Int,aQS ((x,y,0):I3) m=rQQ st.2 x y
 lt:p.mm<base/\p.mm≠p.pb/\p.mm≠p.km
theorem CSt.ext {w w':World}{base:Nat}{p:CP}{NA:Option Addr}{nc:Nat}{st:List Br×List Tr3}(h:CSt w base p NA nc st)(k:Ext w w'):CSt w' base p NA nc st:=
 ⟨h.bd.ext k,let ⟨m,h1,h2⟩:=h.memo;⟨m,h1.ext k,h2⟩,h.lt⟩
def CTo (w:World)(base:Nat)(p:CP)(NA:Option Addr)(st:List Br×List Tr3)(w':World):Prop:=∃NA' nc',CSt w' base p NA' nc' st/\Mod (CS p NA) w w'/\Moved w NA NA'
theorem tQs {op x y:Int}(x0:0<=x)(x1:x<2)(y0:0<=y)(y1:y<2):dQk op x y=if opB op (decide (x=1)) (decide (y=1))then 1 else 0:=by
 have h1:=iQO (op:=op) x0 x1 y0 y1;have h2:=hQx (op:=op) x0 x1 y0 y1;rw[<-h1];by_cases h:dQk op x y=1
 ·rw[decide_eq_true h];exact h
 ·rw[decide_eq_false h];show dQk op x y=0;omega
theorem gQo {a b:List Br}(ha:DOk a)(hb:DOk b)(op:Int):∀(f:Nat)(x y:Int)(st:List Br×List Tr3),0<=x->0<=y->x<a.length+2->y<b.length+2->
  ∀t∈(at2 a b op f x y st).2.2,t∈st.2∨t.1+t.2.1<=x+y
 | 0,x,y,st,_,_,_,_=>fun t ht=>.inl ht
 | f+1,x,y,st,x0,y0,hx,hy=>by
  by_cases hxy:x<2/\y<2
  ·rw[jQA hxy];exact fun t ht=>.inl ht
  cases k:st.2.find? (fun t=>decide (t.1=x/\t.2.1=y))with
  | some t=>rw[jQB hxy k];exact fun t ht=>.inl ht
  | none=>
   have hv64:min (aQz a x) (aQz b y)<64:=by
    by_cases c:x<2
    ·have:=cQz hb (n:=y) (fun c2=>hxy ⟨c,c2⟩) (by omega);rw[Int.min_def];split<;>omega
    ·have:=cQz ha (n:=x) c (by omega);rw[Int.min_def];split<;>omega
   rw[jQC hxy k _ rfl];generalize min (aQz a x) (aQz b y)=v at*;obtain⟨s1,s2,s3,s4,s5⟩:=bQg ha (n:=x) x0 hv64;obtain⟨t1,t2,t3,t4,t5⟩:=bQg hb (n:=y) y0 hv64;have j1:=gQo ha hb op f _ _ st s1 t1 (by omega) (by omega);generalize (at2 a b op f (aQk a x v).1 (aQk b y v).1 st)=r0 at*;have j2:=gQo ha hb op f _ _ r0.2 s3 t3 (by omega) (by omega);generalize (at2 a b op f (aQk a x v).2 (aQk b y v).2 r0.2)=r1 at*;intro t ht;simp only[List.mem_append,List.mem_singleton] at ht;rcases ht with ht | rfl
   ·rcases j2 t ht with h1 | h1
    ·rcases j1 t h1 with h2 | h2
     ·exact .inl h2
     ·exact .inr (by omega)
    ·exact .inr (by omega)
   ·exact .inr (by simp only;omega)
theorem tQt (base:Nat)(p:CP)(ha:DOk p.D.a)(hb:DOk p.D.b)(hlim:p.D.n<=1000000000000/\p.D.m<=1000000000000):∀(m:Nat)(x y:Int)(st:List Br×List Tr3)(NA:Option Addr)(nc:Nat)(w:World),
  CK w base p->CSt w base p NA nc st->0<=x->0<=y->x+y<m->x<p.D.n+2->y<p.D.m+2->(at2 p.D.a p.D.b p.D.op m x y st).2.1.length<=100000000000->
  Fn Tryz.prog 188 (i3K (x,y,0)::p.caps) w (fun v w'=>v= .int .i64 (at2 p.D.a p.D.b p.D.op m x y st).1/\CTo w base p NA (at2 p.D.a p.D.b p.D.op m x y st).2 w')
 | 0,x,y,st,NA,nc,w,_,_,x0,y0,hm,_,_,_=>by omega
 | m+1,x,y,st,NA,nc,w,hK,hS,x0,y0,hm,hx,hy,hl1=>by
  have ih:=tQt base p ha hb hlim m;have hal:p.D.a.length=p.D.n:=hK.as_.2;have hbl:p.D.b.length=p.D.m:=hK.bs.2;have htop:=hS.bd.top;have hrw:∀i,aQx NA i->base<=i:=fun i hi=>(hS.bd.own.rows i hi).1
  refine aQf (c:={xQU with cuts:=[1]}) aQb Tryz.func188 rfl rfl rfl ?_;refine new (fun w1 hE1 hz1 hB1=>?_)
  replace hB1:Blk w1 w.heap.size 242 (i3C (x,y,0)):=hB1;have hK1:=hK.ext hE1;have hS1:=hS.ext hE1;have oB:w.heap.size<w1.heap.size:=by omega
  refine iQl [] aQb [] (fun _:Unit=>[]) (fun _ w'=>w1=w'/\¬(x<2/\y<2)) ?_ ?_
  ·refine index (j:=0) (by decide) ?_;refine aQe hB1 rfl ?_;refine aQq (fun c1=>?_) (fun c1=>?_)
   ·refine index (j:=1) (by decide) ?_;refine aQe hB1 rfl ?_;refine aQq (fun c2=>?_) (fun c2=>?_)
    ·refine index (j:=2) (by decide) ?_;refine aQe hB1 rfl ?_;refine aQO (show(0:Int)<2 by decide) ?_;refine aQg hK1.oxb rfl ?_;refine index (j:=0) (by decide) ?_;refine aQe hB1 rfl ?_;refine index (j:=1) (by decide) ?_;refine aQe hB1 rfl ?_;refine index (j:=2) (by decide) ?_;refine aQe hB1 rfl ?_;rw[jQA ⟨c1,c2⟩,tQs x0 c1 y0 c2];refine call (uQE hK.hF p.ob (decide (x=1)) (decide (y=1)) (decide ((0:Int)=1)) w1 hK1.obb) ?_;rintro v _ ⟨rfl,rfl⟩;cases opB p.D.op (decide (x=1)) (decide (y=1))with
     | true=>
      refine aQM rfl ?_;exact⟨rfl,NA,nc,hS1,Mod.of_ext _ hE1,Moved.refl _ _⟩
     | false=>
      refine aQN rfl ?_;exact⟨rfl,NA,nc,hS1,Mod.of_ext _ hE1,Moved.refl _ _⟩
    ·exact⟨(),rfl,rfl,fun hh=>c2 hh.2⟩
   ·exact⟨(),rfl,rfl,fun hh=>c1 hh.1⟩
  rintro⟨⟩ _ ⟨rfl,hxy⟩;obtain⟨mq,hmq,hmem⟩:=hS1.memo;refine aQg hK1.mxb rfl ?_;refine aQd hB1 rfl ?_;refine dQ2 (kv:=i3K) (a:=((x,y,0):I3)) aQb rfl rfl rfl rfl sQs rfl rfl hmq ?_;cases k:st.2.find? (fun t=>decide (t.1=x/\t.2.1=y))with
  | some t=>
   have hat:aQS ((x,y,0):I3) mq=some (.int .i64 t.2.2):=by rw[hmem,rQQ,k];rfl
   refine aQM (by rw[hat];rfl) ?_;rw[jQB hxy k];exact⟨by rw[hat];rfl,NA,nc,hS1,Mod.of_ext _ hE1,Moved.refl _ _⟩
  | none=>
  have hat:aQS ((x,y,0):I3) mq=none:=by rw[hmem,rQQ,k];rfl
  refine aQN (by rw[hat];rfl) ?_;have hv64:min (aQz p.D.a x) (aQz p.D.b y)<64:=by
   by_cases c:x<2
   ·have:=cQz hb (n:=y) (fun c2=>hxy ⟨c,c2⟩) (by omega);rw[Int.min_def];split<;>omega
   ·have:=cQz ha (n:=x) c (by omega);rw[Int.min_def];split<;>omega
  have hSC:SB w1 none 0 0 []:=SlS.nil _;have qL:∀w',Ext w1 w'->∀(j:Nat) (v:Value),p.lC[j]? =some v->w'.cell? ((⟨p.lx,0,none⟩:Addr).add j)=some v:=fun w' hw' j v hj=>by rw[(hK1.lxb.ext hw').cell];exact hj
  have qN:∀w',Ext w1 w'->∀(j:Nat) (v:Value),(i3C (x,y,0))[j]? =some v->w'.cell? ((⟨w.heap.size,0,none⟩:Addr).add j)=some v:=fun w' hw' j v hj=>by rw[(hB1.ext hw').cell];exact hj
  refine aQm aQb (Ext w1) 17 [(true,0),(true,1),(true,2),(true,3),(true,5),(true,6),(true,7),(true,8),(true,10),(true,11),(true,12),(true,13),(false,4),(false,9),(false,14),(true,15),(true,16)] (by kernel_rfl) (Ext.drew w1) ?_;refine aQU (j:=0) (by decide) ?_;refine aQw (vs:=[.slice p.D.A p.D.n p.D.c,.int .i64 p.D.ra]) rfl (fun w' hw' j v hj=>by
   rw[add_add,(hK1.lxb.ext hw').cell]
   match j,hj with
   | 0,hj=>exact hj
   | 1,hj=>exact hj) ?_
  refine index (j:=0) (by decide) ?_;refine aQy (v:=.int .i64 x) (fun w' hw'=>qN w' hw' 0 _ rfl) ?_;refine aQU (j:=1) (by decide) ?_;refine aQw (vs:=[.slice p.D.B p.D.m p.D.d,.int .i64 p.D.rb]) rfl (fun w' hw' j v hj=>by
   rw[add_add,(hK1.lxb.ext hw').cell]
   match j,hj with
   | 0,hj=>exact hj
   | 1,hj=>exact hj) ?_
  refine index (j:=1) (by decide) ?_;refine aQy (v:=.int .i64 y) (fun w' hw'=>qN w' hw' 1 _ rfl) ?_;refine aQU (j:=2) (by decide) ?_;refine aQw (vs:=[.slice none 0 0,.int .i64 0]) rfl (fun w' hw' j v hj=>by
   rw[add_add,(hK1.lxb.ext hw').cell]
   match j,hj with
   | 0,hj=>exact hj
   | 1,hj=>exact hj) ?_
  refine index (j:=2) (by decide) ?_;refine aQy (v:=.int .i64 0) (fun w' hw'=>qN w' hw' 2 _ rfl) ?_;refine call (bQT p.D.A p.D.n p.D.c p.D.ra x p.D.a _ (hK1.as_.ext (Ext.drew w1)) (by omega)) ?_;rintro u w2 ⟨rfl,hE2⟩;have hE12:=(Ext.drew w1).trans hE2;refine⟨hE12,?_⟩;refine call (bQT p.D.B p.D.m p.D.d p.D.rb y p.D.b _ (hK1.bs.ext hE12) (by omega)) ?_;rintro u w3 ⟨rfl,hE3⟩;have hE13:=hE12.trans hE3;refine⟨hE13,?_⟩;refine call (bQT none 0 0 0 0 [] _ (hSC.ext hE13) (by simp)) ?_;rintro u w4 ⟨rfl,hE4⟩;have hE14:=hE13.trans hE4;refine⟨hE14,?_⟩;have l64:aQz [] 0=64:=rfl;rw[l64];have hvn: -9223372036854775808<=min (aQz p.D.a x) (aQz p.D.b y):=by
   have pos:∀{d:List Br},DOk d->∀{n:Int},n<d.length+2->0<=aQz d n:=fun{d} hd {n} hn=>by
    by_cases h2:n<2
    ·rw[cQ2 h2];omega
    ·obtain⟨z,hz⟩:=iQL h2 hn;rw[bQU h2 hz];exact(hd.2 _ _ hz).1
   have p1:=pos ha (n:=x) (by omega);have p2:=pos hb (n:=y) (by omega);rw[Int.min_def];split<;>omega
  have hmin3:(if(64:Int)<(if aQz p.D.b y<aQz p.D.a x then aQz p.D.b y else aQz p.D.a x)then 64 else(if aQz p.D.b y<aQz p.D.a x then aQz p.D.b y else aQz p.D.a x))=min (aQz p.D.a x) (aQz p.D.b y):=by
   rw[Int.min_def] at hv64 ⊢;split at hv64<;>split<;>split<;>omega
  refine norm (m:=min (aQz p.D.a x) (aQz p.D.b y)) hmin3 ?_;rw[jQC hxy k _ rfl] at hl1 ⊢;generalize hveq:min (aQz p.D.a x) (aQz p.D.b y)=v at*;have hB4:=hB1.ext hE14;have hK4:=hK1.ext hE14;have hS4:=hS1.ext hE14;have hE04:=hE1.trans hE14;have hz14:=hE14.size;refine new (fun w5 hE5 hz5 hL5=>?_);refine new (fun w6 hE6 hz6 hH6=>?_);have hE46:=hE5.trans hE6;have hL6:=hL5.ext hE6;have hB6:=hB4.ext hE46;have hK6:=hK4.ext hE46;have hS6:=hS4.ext hE46;have hE06:=hE04.trans hE46;obtain⟨s1,s2,s3,s4,s5⟩:=bQg ha (n:=x) x0 hv64;obtain⟨t1,t2,t3,t4,t5⟩:=bQg hb (n:=y) y0 hv64;refine loop aQb [64] (fun s:Nat=>[.int .i64 s]) (fun s w'=>Mod (fun i=>i=w4.heap.size∨i=w5.heap.size) w6 w'/\s<=3/\Blk w' w4.heap.size 242 (i3C (if 0<s then(aQk p.D.a x v).1 else 0,if 1<s then(aQk p.D.b y v).1 else 0,0))/\Blk w' w5.heap.size 242 (i3C (if 0<s then(aQk p.D.a x v).2 else 0,if 1<s then(aQk p.D.b y v).2 else 0,0))) (fun s _=>3-s) 0 rfl ⟨Mod.refl _ _,Nat.zero_le _,hL6,hH6⟩ ?_;rintro s w7 ⟨hM7,hs3,hL7,hH7⟩;have hbz:base<=w4.heap.size:=by have:=hE1.size;omega
  have hz45:w5.heap.size=w4.heap.size+1:=hz5;have hwz:w.heap.size<w4.heap.size:=by omega
  have hlow:∀k,k<w4.heap.size->¬(k=w4.heap.size∨k=w5.heap.size):=fun k hk e=>by omega
  have hlx:=hK.off p.lx (by simp);have hE7:Ext w w7:=hM7.ext hE06 (fun i hi=>by omega);have hE17:Ext w1 w7:=hM7.ext (hE14.trans hE46) (fun i hi=>by omega);have hE47:Ext w4 w7:=hM7.ext hE46 (fun i hi=>by omega);have hB7:=hB4.ext hE47;have hK7:=hK4.ext hE47;have hS7:=hS4.ext hE47;have hz7:=hM7.size;have nLX:=hlow p.lx (by omega);have nB:=hlow w.heap.size hwz;have h0:aQk [] 0 v=(0,0):=by unfold aQk;rw[if_pos (show aQz [] 0≠v by rw[l64];omega)]
  by_cases hs:s<3
  ·rcases(show s=0∨s=1∨s=2 by omega)with rfl | rfl | rfl
   ·refine aQO (show((0:Nat):Int)<3 by decide) ?_;refine aQm aQb (Mod (fun i=>i=w4.heap.size∨i=w5.heap.size) w7) 17 [(true,0),(true,1),(true,2),(true,3),(true,4),(true,5),(true,6),(true,7),(true,8),(false,9),(true,10),(true,11),(true,12),(true,13),(false,14),(true,15),(false,16)] (by kernel_rfl) (Mod.of_ext _ (Ext.drew w7)) ?_;refine aQU (j:=0) (by decide) ?_;refine aQw (vs:=[.slice p.D.A p.D.n p.D.c,.int .i64 p.D.ra]) rfl (fun w' hw' j v hj=>by
     rw[add_add,(hK7.lxb.mod hw' nLX).cell]
     match j,hj with
     | 0,hj=>exact hj
     | 1,hj=>exact hj) ?_
    refine index (j:=0) (by decide) ?_;refine aQy (v:=.int .i64 x) (fun w' hw'=>by rw[(hB7.mod hw' nB).cell];rfl) ?_;refine call (cQb p.D.A p.D.n p.D.c p.D.ra x v p.D.a _ (hK7.as_.ext (Ext.drew w7)) (by omega) hv64) ?_;rintro u w8 ⟨rfl,hE8⟩;have hE78:=(Ext.drew w7).trans hE8;refine⟨Mod.of_ext _ hE78,?_⟩;refine index (j:=0) (by decide) ?_;refine aQn (hL7.ext hE78) (by simp) (fun w9 hM9 hL9=>?_);have hM79:Mod (fun i=>i=w4.heap.size∨i=w5.heap.size) w7 w9:=(Mod.of_ext _ hE78).trans hM9 (fun i hi=>.inl (.inl hi));refine⟨hM79,?_⟩;have hz9:=hM79.size;refine index (j:=0) (by decide) ?_;refine aQn (((hH7.ext hE78).mod hM9 (by show¬w5.heap.size=w4.heap.size;omega))) (by simp) (fun w10 hM10 hH10=>?_);have hM710:Mod (fun i=>i=w4.heap.size∨i=w5.heap.size) w7 w10:=hM79.trans hM10 (fun i hi=>.inl (.inr hi));refine⟨hM710,?_⟩;have hL10:=hL9.mod hM10 (by show¬w4.heap.size=w5.heap.size;omega);refine aQa ((1:Nat):Int) (by decide) (by decide) ?_;exact⟨1,rfl,⟨hM7.trans hM710 (fun i hi=>.inl hi),by decide,hL10,hH10⟩,by show 3-1<3-0;decide⟩
   ·refine aQO (show((1:Nat):Int)<3 by decide) ?_;refine aQm aQb (Mod (fun i=>i=w4.heap.size∨i=w5.heap.size) w7) 17 [(true,0),(true,1),(true,2),(true,3),(true,4),(true,5),(true,6),(true,7),(true,8),(false,9),(true,10),(true,11),(true,12),(true,13),(false,14),(true,15),(false,16)] (by kernel_rfl) (Mod.of_ext _ (Ext.drew w7)) ?_;refine aQU (j:=1) (by decide) ?_;refine aQw (vs:=[.slice p.D.B p.D.m p.D.d,.int .i64 p.D.rb]) rfl (fun w' hw' j v hj=>by
     rw[add_add,(hK7.lxb.mod hw' nLX).cell]
     match j,hj with
     | 0,hj=>exact hj
     | 1,hj=>exact hj) ?_
    refine index (j:=1) (by decide) ?_;refine aQy (v:=.int .i64 y) (fun w' hw'=>by rw[(hB7.mod hw' nB).cell];rfl) ?_;refine call (cQb p.D.B p.D.m p.D.d p.D.rb y v p.D.b _ (hK7.bs.ext (Ext.drew w7)) (by omega) hv64) ?_;rintro u w8 ⟨rfl,hE8⟩;have hE78:=(Ext.drew w7).trans hE8;refine⟨Mod.of_ext _ hE78,?_⟩;refine index (j:=1) (by decide) ?_;refine aQn (hL7.ext hE78) (by simp) (fun w9 hM9 hL9=>?_);have hM79:Mod (fun i=>i=w4.heap.size∨i=w5.heap.size) w7 w9:=(Mod.of_ext _ hE78).trans hM9 (fun i hi=>.inl (.inl hi));refine⟨hM79,?_⟩;have hz9:=hM79.size;refine index (j:=1) (by decide) ?_;refine aQn (((hH7.ext hE78).mod hM9 (by show¬w5.heap.size=w4.heap.size;omega))) (by simp) (fun w10 hM10 hH10=>?_);have hM710:Mod (fun i=>i=w4.heap.size∨i=w5.heap.size) w7 w10:=hM79.trans hM10 (fun i hi=>.inl (.inr hi));refine⟨hM710,?_⟩;have hL10:=hL9.mod hM10 (by show¬w4.heap.size=w5.heap.size;omega);refine aQa ((2:Nat):Int) (by decide) (by decide) ?_;exact⟨2,rfl,⟨hM7.trans hM710 (fun i hi=>.inl hi),by decide,hL10,hH10⟩,by show 3-2<3-1;decide⟩
   ·refine aQO (show((2:Nat):Int)<3 by decide) ?_;refine aQm aQb (Mod (fun i=>i=w4.heap.size∨i=w5.heap.size) w7) 17 [(true,0),(true,1),(true,2),(true,3),(true,4),(true,5),(true,6),(true,7),(true,8),(false,9),(true,10),(true,11),(true,12),(true,13),(false,14),(true,15),(false,16)] (by kernel_rfl) (Mod.of_ext _ (Ext.drew w7)) ?_;refine aQU (j:=2) (by decide) ?_;refine aQw (vs:=[.slice none 0 0,.int .i64 0]) rfl (fun w' hw' j v hj=>by
     rw[add_add,(hK7.lxb.mod hw' nLX).cell]
     match j,hj with
     | 0,hj=>exact hj
     | 1,hj=>exact hj) ?_
    refine index (j:=2) (by decide) ?_;refine aQy (v:=.int .i64 0) (fun w' hw'=>by rw[(hB7.mod hw' nB).cell];rfl) ?_;refine call (cQb none 0 0 0 0 v [] _ (SlS.nil _) (by decide) hv64) ?_;rintro u w8 ⟨rfl,hE8⟩;have hE78:=(Ext.drew w7).trans hE8;refine⟨Mod.of_ext _ hE78,?_⟩;refine index (j:=2) (by decide) ?_;refine aQn (hL7.ext hE78) (by simp) (fun w9 hM9 hL9=>?_);have hM79:Mod (fun i=>i=w4.heap.size∨i=w5.heap.size) w7 w9:=(Mod.of_ext _ hE78).trans hM9 (fun i hi=>.inl (.inl hi));refine⟨hM79,?_⟩;have hz9:=hM79.size;refine index (j:=2) (by decide) ?_;refine aQn (((hH7.ext hE78).mod hM9 (by show¬w5.heap.size=w4.heap.size;omega))) (by simp) (fun w10 hM10 hH10=>?_);have hM710:Mod (fun i=>i=w4.heap.size∨i=w5.heap.size) w7 w10:=hM79.trans hM10 (fun i hi=>.inl (.inr hi));refine⟨hM710,?_⟩;have hL10:=hL9.mod hM10 (by show¬w4.heap.size=w5.heap.size;omega);refine aQa ((3:Nat):Int) (by decide) (by decide) ?_;rw[h0] at hL10 hH10;exact⟨3,rfl,⟨hM7.trans hM710 (fun i hi=>.inl hi),by decide,hL10,hH10⟩,by show 3-3<3-2;decide⟩
  ·have:s=3:=by omega
   subst this;refine aQB (show¬((3:Nat):Int)<3 by decide) ?_
   replace hL7:Blk w7 w4.heap.size 242 (i3C ((aQk p.D.a x v).1,(aQk p.D.b y v).1,0)):=hL7
   replace hH7:Blk w7 w5.heap.size 242 (i3C ((aQk p.D.a x v).2,(aQk p.D.b y v).2,0)):=hH7;have hvx:aQz p.D.a x=v∨aQz p.D.b y=v:=by rw[<-hveq,Int.min_def];split<;>simp
   have dec:(aQk p.D.a x v).1+(aQk p.D.b y v).1<x+y/\(aQk p.D.a x v).2+(aQk p.D.b y v).2<x+y:=by
    rcases hvx with e | e
    ·have:=s5 e;omega
    ·have:=t5 e;omega
   have sm1:=gQo ha hb p.D.op m (aQk p.D.a x v).1 (aQk p.D.b y v).1 st s1 t1 (by omega) (by omega);have sm2:=gQo ha hb p.D.op m (aQk p.D.a x v).2 (aQk p.D.b y v).2 (at2 p.D.a p.D.b p.D.op m (aQk p.D.a x v).1 (aQk p.D.b y v).1 st).2 s3 t3 (by omega) (by omega);have mo2:=dQl p.D.a p.D.b p.D.op m (aQk p.D.a x v).2 (aQk p.D.b y v).2 (at2 p.D.a p.D.b p.D.op m (aQk p.D.a x v).1 (aQk p.D.b y v).1 st).2;have c1:=ih (aQk p.D.a x v).1 (aQk p.D.b y v).1 st NA nc w7 hK7 hS7 s1 t1 (by omega) (by omega) (by omega);have c2:=fun N1 n1 w' h1 h2=>ih (aQk p.D.a x v).2 (aQk p.D.b y v).2 (at2 p.D.a p.D.b p.D.op m (aQk p.D.a x v).1 (aQk p.D.b y v).1 st).2 N1 n1 w' h1 h2 s3 t3 (by omega) (by omega) (by omega)
   generalize (at2 p.D.a p.D.b p.D.op m (aQk p.D.a x v).1 (aQk p.D.b y v).1 st)=r0 at*;generalize (at2 p.D.a p.D.b p.D.op m (aQk p.D.a x v).2 (aQk p.D.b y v).2 r0.2)=r1 at*;have ul:=eQx ⟨v,r0.1,r1.1⟩ r1.2.1;have ul2:(bQu ⟨v,r0.1,r1.1⟩ r1.2.1).1.length<=r1.2.1.length+1:=by
    unfold bQu;split
    ·exact Nat.le_succ _
    ·split
     ·exact Nat.le_succ _
     ·simp
   simp only at hl1;refine aQg hK7.axb rfl ?_;refine aQd hL7 rfl ?_;refine call (c1 (by omega)) ?_;rintro _ w11 ⟨rfl,N1,n1,hS11,hM11,hV11⟩;have hlt5:=hH7.lt;have hr0:=hS.bd.own.rows;obtain⟨l1,l2,l3⟩:=hS.lt;obtain⟨b1,b2,b3⟩:=hS.bd.lt;have new:∀k,w.heap.size<=k->¬CS p NA k:=fun k hk e=>by
    rcases e with e | e | e | e
    ·omega
    ·omega
    ·omega
    ·have:=(hr0 k e).2;omega
   have hK11:=hK7.mod hrw hM11;have hH11:=hH7.mod hM11 (new _ (by omega));have hB11:=hB7.mod hM11 (new _ (Nat.le_refl _));have hr1:∀i,aQx N1 i->base<=i:=fun i hi=>(hS11.bd.own.rows i hi).1
   have nw1:∀k,w.heap.size<=k->k<w7.heap.size->¬CS p N1 k:=fun k hk h7 e=>by
    rcases CS.moved hV11 k e with e | e
    ·exact new k hk e
    ·omega
   have hz11:=hM11.size;have hB7lt:=hB7.lt;refine aQm aQb (Mod (CS p N1) w11) 8 [(true,0),(true,1),(true,2),(true,3),(true,4),(false,5),(false,6),(true,7)] (by kernel_rfl) (Mod.of_ext _ (Ext.drew w11)) ?_;have nof:=fun k hk=>CS.no (p:=p) hr1 (hK11.off k hk)
   refine aQy (v:=VP.ptr p.pb) (fun w' hw'=>by rw[(hK11.bxb.mod hw' (nof _ (by simp))).cell0];rfl) ?_;refine aQy (v:=p.clo) (fun w' hw'=>by rw[(hK11.axb.mod hw' (nof _ (by simp))).cell0];rfl) ?_;refine aQw (vs:=i3C ((aQk p.D.a x v).2,(aQk p.D.b y v).2,0)) rfl (fun w' hw' j v hj=>by rw[(hH11.mod hw' (nw1 _ (by omega) hlt5)).cell];exact hj) ?_;refine call (c2 N1 n1 _ (hK11.ext (Ext.drew w11)) (hS11.ext (Ext.drew w11)) (by omega)) ?_;rintro _ w12 ⟨rfl,N2,n2,hS12,hM12,hV12⟩;have hM112:Mod (CS p N1) w11 w12:=(Mod.of_ext _ (Ext.drew w11)).trans hM12 (fun i hi=>.inl hi);have hV112:Moved w11 N1 N2:=hV12.back (Ext.drew w11).size;refine⟨hM112,?_⟩;have hr2:∀i,aQx N2 i->base<=i:=fun i hi=>(hS12.bd.own.rows i hi).1
   refine call (iQV base p.pb p.km N2 n2 r1.2.1 ⟨v,r0.1,r1.1⟩ w12 hS12.bd (by omega)) ?_;rintro _ w13 ⟨rfl,N3,n3,hD13,hM13,hV13⟩;have hM213:Mod (CS p N2) w12 w13:=hM13.mono (fun i hi=>.inl (.inr hi));have hM113:Mod (CS p N1) w11 w13:=CS.trans hM112 hV112 hM213;refine⟨hM113,?_⟩;have hK12:=hK11.mod hr1 hM112;have hK13:=hK11.mod hr1 hM113;have hB13:=hB11.mod hM113 (nw1 _ (Nat.le_refl _) hB7lt);obtain⟨mq2,hq2,hmem2⟩:=hS12.memo;have hq13:MapQ i3K w13 p.mm mq2:=hq2.mod hM13 (fun e=>by
    rcases e with e | e | e
    ·exact l2 e
    ·exact l3 e
    ·have:=hr2 _ e;omega)
   refine aQg hK13.mxb rfl ?_;refine aQd hB13 rfl ?_;refine bQ3 (kv:=i3K) (a:=((x,y,0):I3)) aQb rfl rfl rfl rfl sQs rfl rfl rfl hq13 (fun w14 hM14 hz14' hq14=>?_);have hmm:∀k,k≠p.mm->¬(k=p.mm):=fun k h=>h
   obtain⟨d1,d2,d3⟩:=hD13.lt;have hr3:∀i,aQx N3 i->base<=i:=fun i hi=>(hD13.own.rows i hi).1
   obtain⟨kq,hkq,hkm⟩:=hD13.known;have hD14:Bd w14 base p.pb p.km N3 n3 (bQu ⟨v,r0.1,r1.1⟩ r1.2.1).1:=⟨hD13.blk.mod hM14 (fun e=>l2 e.symm),hD13.own.mod hM14 (fun i hi e=>by have:=hr3 i hi;have e':i=p.mm:=e;omega),⟨kq,hkq.mod hM14 (fun e=>l3 e.symm),hkm⟩,hD13.lt,Nat.le_trans hD13.top hM14.size⟩
   have hMw7:Mod (CS p NA) w w7:=Mod.of_ext _ hE7;have hVw7:Moved w NA NA:=Moved.refl _ _;have hM011:Mod (CS p NA) w w11:=hMw7.trans hM11 (fun i hi=>.inl hi);have hV011:Moved w NA N1:=hV11.back hE7.size;have hM013:Mod (CS p NA) w w13:=CS.trans hM011 hV011 hM113;have hM014:Mod (CS p NA) w w14:=hM013.trans hM14 (fun i hi=>.inl (.inl hi));have hV013:Moved w NA N3:=hV011.trans (hV112.trans hV13 hM112.size) hM011.size;refine⟨rfl,N3,n3,⟨hD14,⟨_,hq14,fun x' y'=>?_⟩,hS.lt⟩,hM014,hV013⟩;have hno:r1.2.2.find? (fun t=>decide (t.1=x/\t.2.1=y))=none:=by
    rw[List.find?_eq_none];intro t ht hh;simp only[decide_eq_true_eq] at hh;rcases sm2 t ht with h1 | h1
    ·rcases sm1 t h1 with h2 | h2
     ·have:=List.find?_eq_none.1 k t h2;simp only[decide_eq_true_eq] at this;exact this hh
     ·omega
    ·omega
   rw[bQe,hmem2,rQQ,rQQ,List.find?_append];by_cases hxx:(x',y')=(x,y)
   ·cases hxx;rw[if_pos rfl,hno];simp
   ·rw[if_neg (fun e=>hxx (by cases e;rfl))];have: [(x,y,(bQu ⟨v,r0.1,r1.1⟩ r1.2.1).2)].find? (fun t:Tr3=>decide (t.1=x'/\t.2.1=y'))=none:=by
     rw[List.find?_cons_of_neg]
     ·rfl
     ·simp only[decide_eq_true_eq];exact fun e=>hxx (by rw[e.1,e.2])
    rw[this];simp
end
section
open Go Go.RowKit
theorem fQF (w:World):Fn Tryz.prog 187 [] w (fun v w'=>v=VP.ptr (w.heap.size+1)/\Ext w w'/\w'.heap.size=w.heap.size+2/\Blk w' (w.heap.size+1) 177 [.slice none 0 0,.map (some w.heap.size)]/\MapQ brK w' w.heap.size []):=by
 refine aQf (c:={yQT with cuts:=[]}) aQb Tryz.func187 rfl rfl rfl ?_;refine cQD aQb brK rfl ?_;intro w1 hE1 hz1 hm1;refine new (fun w2 hE2 hz2 hB2=>?_);rw[hz1] at hB2;exact⟨by rw[hz1];rfl,hE1.trans hE2,by omega,hB2,hm1.ext hE2⟩
theorem mQA (A:Option Addr)(n c:Nat)(a:List Br)(ra:Int)(B:Option Addr)(m d:Nat)(b:List Br)(rb op:Int)(F ob:Nat)(w:World)(hF:pQ7 F op)(h:SB w A n c a)(h':SB w B m d b)(hob:Blk w ob 139 [.func (.func F) #[] #[]])(ha:DOk a)(hb:DOk b)(r0:0<=ra)(r1:ra<n+2)(s0:0<=rb)(s1:rb<m+2)(hn:n<=1000000000000)(hm:m<=1000000000000)
  (hl1:(sQj a ra b rb op).2.1.length<=100000000000):
  Fn Tryz.prog 128 [.agg #[.slice A n c,.int .i64 ra,.slice B m d,.int .i64 rb,.slice none 0 0,.int .i64 0],.func (.func 129) #[] #[VP.ptr ob]] w (pQI w (cQO a ra b rb op)):=by
 have hal:=h.2;have hbl:=h'.2;have hobl:=hob.lt;refine aQf (c:={xQS with cuts:=[]}) aQb Tryz.func128 rfl rfl rfl ?_;refine new (fun w1 hE1 hz1 hB1=>?_);refine new (fun w2 hE2 hz2 hB2=>?_);refine new (fun w3 hE3 hz3 hB3=>?_);refine call (fQF w3) ?_;rintro _ w4 ⟨rfl,hE4,hz4,hB4,hk4⟩;refine new (fun w5 hE5 hz5 hB5=>?_);refine aQn (j:=0) hB5 (by decide) (fun w6 hM6 hB6=>?_);have hE46:Ext w4 w6:=hM6.ext hE5 (fun i hi=>by omega);refine cQD aQb i3K rfl ?_;intro w7 hE7 hz7 hq7;refine new (fun w8 hE8 hz8 hB8=>?_);refine aQn (j:=0) hB8 (by decide) (fun w9 hM9 hB9=>?_);have hE79:Ext w7 w9:=hM9.ext hE8 (fun i hi=>by omega);refine new (fun w10 hE10 hz10 hB10=>?_);refine aQn (j:=0) hB10 (by decide) (fun w11 hM11 hB11=>?_);have z6:=hM6.size;have z9:=hM9.size;have z11:=hM11.size;have hE911:Ext w9 w11:=hM11.ext hE10 (fun i hi=>by omega);have hE611:Ext w6 w11:=(hE7.trans hE79).trans hE911;have hE411:Ext w4 w11:=hE46.trans hE611;have hE34:=hE4;have hE311:Ext w3 w11:=hE4.trans hE411;have hE011:Ext w w11:=((hE1.trans hE2).trans hE3).trans hE311
 let D:AD:=⟨A,n,c,a,ra,B,m,d,b,rb,op⟩
 let p:CP:=⟨w1.heap.size,ob,w7.heap.size,w.heap.size,w9.heap.size,w4.heap.size,w3.heap.size+1,w3.heap.size,w6.heap.size,F,D⟩
 have g11:=hB11.lt;have hK:CK w11 w11.heap.size p:=by
  refine⟨hF,hB2.ext (hE3.trans hE311),hob.ext hE011,hB9.ext hE911,hB1.ext ((hE2.trans hE3).trans hE311),hB11,hB6.ext hE611,h.ext hE011,h'.ext hE011,fun k hk=>?_,fun ad e h0=>?_,fun ad e h0=>?_⟩
  ·simp only[p] at hk ⊢;rcases hk with rfl | rfl | rfl | rfl | rfl | rfl<;>omega
  ·have:=SB.lt h ad e h0;simp only[p];omega
  ·have:=SB.lt h' ad e h0;simp only[p];omega
 have hS:CSt w11 w11.heap.size p none 0 ([],[]):=by
  refine⟨⟨hB4.ext hE411,Own.nil _ _ _ _,⟨[],hk4.ext hE411,fun _=>rfl⟩,?_,Nat.le_refl _⟩,⟨[],hq7.ext (hE79.trans hE911),fun _ _=>rfl⟩,?_⟩
  ·simp only[p];omega
  ·simp only[p];omega
 have hno:∀i,aQx none i->w11.heap.size<=i:=fun i hi=>by obtain⟨_,e,_⟩:=hi;cases e
 have nof:=fun k hk=>CS.no (p:=p) hno (hK.off k hk)
 refine aQm aQb (Mod (CS p none) w11) 14 [(true,0),(true,1),(true,2),(true,3),(true,4),(true,5),(true,6),(true,7),(true,8),(true,9),(true,10),(true,11),(false,12),(false,13)] (by kernel_rfl) (Mod.of_ext _ (Ext.drew w11)) ?_;refine aQy (v:=VP.ptr p.pb) (fun w' hw'=>by rw[(hK.bxb.mod hw' (nof _ (by simp))).cell0];rfl) ?_;refine aQy (v:=p.clo) (fun w' hw'=>by rw[(hK.axb.mod hw' (nof _ (by simp))).cell0];rfl) ?_;refine aQU (j:=0) (by decide) ?_;refine aQy (v:=.int .i64 ra) (fun w' hw'=>by rw[add_add,(hK.lxb.mod hw' (nof _ (by simp))).cell];rfl) ?_;refine aQU (j:=1) (by decide) ?_;refine aQy (v:=.int .i64 rb) (fun w' hw'=>by rw[add_add,(hK.lxb.mod hw' (nof _ (by simp))).cell];rfl) ?_;refine aQU (j:=2) (by decide) ?_;refine aQy (v:=.int .i64 0) (fun w' hw'=>by rw[add_add,(hK.lxb.mod hw' (nof _ (by simp))).cell];rfl) ?_;have inv:=hQy ha hb op (ra.toNat+rb.toNat+1) ra rb ([],[]) ⟨fun j x hx=>by simp at hx,fun t ht=>by simp at ht⟩ r0 s0 (by omega) (by omega);refine call (tQt w11.heap.size p ha hb ⟨hn,hm⟩ (ra.toNat+rb.toNat+1) ra rb ([],[]) none 0 _ (hK.ext (Ext.drew w11)) (hS.ext (Ext.drew w11)) r0 s0 (by omega) r1 s1 hl1) ?_;rintro _ w12 ⟨rfl,NA,nc,hS12,hM12',hV12⟩;have hM12:Mod (CS p none) w11 w12:=(Mod.of_ext _ (Ext.drew w11)).trans hM12' (fun i hi=>.inl hi);refine⟨hM12,?_⟩;have hl1':(at2 a b op (ra.toNat+rb.toNat+1) ra rb ([],[])).2.1.length<=100000000000:=hl1;have hN12:SB w12 NA _ nc _:=⟨hS12.bd.own.sl,rfl⟩
 refine call (gQh p.pb (.map (some p.km)) NA _ nc _ _ w12 hS12.bd.blk hN12 inv.1.1 (by show(at2 a b op (ra.toNat+rb.toNat+1) ra rb ([],[])).2.1.length<=_;omega) inv.2.1 inv.2.2 (SB.lt hN12)) ?_;rintro _ w13 ⟨OA,k,oc,rfl,hE13,hO13,hR13⟩;have hM13:Mod (CS p none) w11 w13:=hM12.trans (Mod.of_ext (CS p none) hE13) (fun i hi=>.inl hi);refine⟨hM13,?_⟩;have nres:¬CS p none w2.heap.size:=CS.no (p:=p) hno (by simp only[p];omega);have hB13:=(hB3.ext hE311).mod hM13 nres;refine aQc hB13 rfl (sc rfl) (fun w14 hg14 _ hB14=>?_);have hM14:Mod (·=w2.heap.size) w13 w14:=zQE hg14 rfl;refine aQd hB14 rfl ?_;have hE013:Ext w w13:=hM13.ext hE011 (fun i hi=>by
  rcases hi with e | e | e | ⟨_,e,_⟩
  ·simp only[p] at e;omega
  ·simp only[p] at e;omega
  ·simp only[p] at e;omega
  ·cases e)
 have z12:=hM12.size;have nr:∀i,aQx OA i->¬i=w2.heap.size:=fun i hi e=>by have:=hR13 i hi;omega
 refine⟨OA,k,oc,rfl,hM14.ext hE013 (fun i hi=>by omega),⟨hO13.1.modS hM14 (fun _ i hi=>nr i hi),hO13.2⟩,fun i hi=>by have:=hR13 i hi;have:=hE011.size;omega⟩
theorem gQp (A:Option Addr)(n c:Nat)(a:List Br)(ra:Int)(B:Option Addr)(m d:Nat)(b:List Br)(rb op:Int)(F:Nat)(w:World)(hF:pQ7 F op)(h:SB w A n c a)(h':SB w B m d b):
  Fn Tryz.prog 82 [dgV A n c ra,dgV B m d rb,.func (.func F) #[] #[]] w (DgE w (opD a ra b rb op)):=by
 have hal:=h.2;have hbl:=h'.2;refine aQf (c:={c82 with cuts:=[]}) aQb Tryz.func82 rfl rfl rfl ?_;refine new (fun w1 hE1 hz1 hB1=>?_);refine new (fun w2 hE2 hz2 hB2=>?_);refine new (fun w3 hE3 hz3 hB3=>?_);refine new (fun w4 hE4 hz4 hB4=>?_);have hE24:=hE3.trans hE4;have hE04:=(hE1.trans hE2).trans hE24;have hB14:=(hB1.ext hE2).ext hE24;have hB24:=hB2.ext hE24;have hB34:=hB3.ext hE4;refine aQd hB14 rfl ?_;refine aQd hB24 rfl ?_;refine aQl aQb [(⟨A,n,c,a,ra⟩:DV).cells,(⟨B,m,d,b,rb⟩:DV).cells] rfl rfl rfl rfl rfl ⟨rfl,rfl,rfl,rfl,⟨⟩⟩ rfl (fun cs h=>by simp only[List.mem_cons,List.not_mem_nil,or_false] at h;rcases h with rfl | rfl<;>rfl) rfl (by decide) (by decide) ?_;intro w5 hE5 hz5 hB5;have hE05:=hE04.trans hE5;have hL:SlS DV.cells 2 w5 (some ⟨w4.heap.size,0,none⟩) 2 2 [⟨A,n,c,a,ra⟩,⟨B,m,d,b,rb⟩]:=⟨Sl.own (sz:=2) (n:=2) hB5 (Nat.le_refl _) (by decide) (by simp[DV.cells]),rfl⟩
 refine call (fQE _ 2 2 _ w5 hL (fun x hx=>by
  simp only[List.mem_cons,List.not_mem_nil,or_false] at hx;rcases hx with rfl | rfl
  ·exact h.ext hE05
  ·exact h'.ext hE05)) ?_
 rintro v w6 ⟨rfl,hE6⟩;have hE46:=hE5.trans hE6;have hE06:=hE04.trans hE46;have hB46:=hB4.ext hE46;have hz4':=hE46.size;have ef:cQ1 [(⟨A,n,c,a,ra⟩:DV),⟨B,m,d,b,rb⟩]=if bQS a ra≠0 then bQS a ra else if bQS b rb≠0 then bQS b rb else 0:=rfl
 refine cQj (fun c1=>?_) (fun c1=>?_)
 ·have e:opD a ra b rb op=(([],0),cQ1 [(⟨A,n,c,a,ra⟩:DV),⟨B,m,d,b,rb⟩]):=by
   rw[ef] at c1 ⊢;unfold opD;split
   ·rfl
   ·rename_i hh;rw[if_neg hh] at c1;split
    ·rfl
    ·rename_i hh2;rw[if_neg hh2] at c1;exact absurd rfl c1
  rw[e];refine aQc hB46 rfl (sc rfl) (fun w7 hg7 _ hB7=>?_);have hM7:Mod (·=w3.heap.size) w6 w7:=zQE hg7 rfl;refine aQd hB7 rfl ?_;exact⟨none,0,0,rfl,hM7.ext hE06 (fun i hi=>by omega),SlS.nil _,fun i ⟨_,e,_⟩=>by cases e⟩
 ·rw[ef] at c1;have ca:bQS a ra=0:=by
   by_cases hh:bQS a ra=0
   ·exact hh
   ·rw[if_pos hh] at c1;exact c1
  have cb:bQS b rb=0:=by
   rw[if_neg (fun hh=>hh ca)] at c1;by_cases hh:bQS b rb=0
   ·exact hh
   ·rw[if_pos hh] at c1;exact c1
  obtain⟨sa,va⟩:=bQC.1 ca;obtain⟨sb,vb⟩:=bQC.1 cb;have e:opD a ra b rb op=rQP (cQO a ra b rb op):=by unfold opD;rw[if_neg (fun hh=>hh ca),if_neg (fun hh=>hh cb)]
  rw[e];have hb2:=jQE va vb op;have hmul:(a.length+2)*(b.length+2)<=4098*4098:=Nat.mul_le_mul (by omega) (by omega);refine aQd (hB14.ext hE46) rfl ?_;refine aQd (hB24.ext hE46) rfl ?_;have hob:Blk w6 w2.heap.size 139 [.func (.func F) #[] #[]]:=hB34.ext hE46;refine call (mQA A n c a ra B m d b rb op F w2.heap.size w6 hF (h.ext hE06) (h'.ext hE06) hob va.dok vb.dok va.2.1 (by have:=va.2.2.1;omega) vb.2.1 (by have:=vb.2.2.1;omega) (by omega) (by omega) (by omega)) ?_;rintro v w7 ⟨OA,k,oc,rfl,hE7,hO7,hR7⟩;have hE47:=hE46.trans hE7;have hE07:=hE04.trans hE47;have z67:=hE06.size;refine call (hQE OA k oc _ _ w4 w7 hO7 (fun i hi=>by have:=hR7 i hi;omega) hE47) ?_;rintro v w8 ⟨PA,q,pc,rfl,hE8,hP8,hR8⟩;refine aQc (hB4.ext hE8) rfl (sc rfl) (fun w9 hg9 _ hB9=>?_);have hM9:Mod (·=w3.heap.size) w8 w9:=zQE hg9 rfl;refine aQd hB9 rfl ?_;refine⟨PA,q,pc,rfl,hM9.ext (hE04.trans hE8) (fun i hi=>by omega),⟨hP8.1.modS hM9 (fun _ i hi e=>by have:=hR8 i hi;omega),hP8.2⟩,fun i hi=>by have:=hR8 i hi;omega⟩
theorem hQF (A:Option Addr)(n c:Nat)(a:List Br)(ra:Int)(B:Option Addr)(m d:Nat)(b:List Br)(rb:Int)(w:World)(h:SB w A n c a)(h':SB w B m d b):
  Fn Tryz.prog 36 [dgV A n c ra,dgV B m d rb] w (DgE w (opD a ra b rb 0)):=by
 refine aQf (c:={c36 with cuts:=[]}) aQb Tryz.func36 rfl rfl rfl ?_;refine new (fun w1 hE1 hz1 hB1=>?_);refine new (fun w2 hE2 hz2 hB2=>?_);refine new (fun w3 hE3 hz3 hB3=>?_);have hE03:=(hE1.trans hE2).trans hE3;refine aQd ((hB1.ext hE2).ext hE3) rfl ?_;refine aQd (hB2.ext hE3) rfl ?_;refine call (gQp A n c a ra B m d b rb 0 84 w3 (.inl ⟨rfl,rfl⟩) (h.ext hE03) (h'.ext hE03)) ?_;rintro v w4 ⟨PA,q,pc,rfl,hE4,hP4,hR4⟩;refine aQc (hB3.ext hE4) rfl (sc rfl) (fun w5 hg5 _ hB5=>?_);have hM5:Mod (·=w2.heap.size) w4 w5:=zQE hg5 rfl;refine aQd hB5 rfl ?_;obtain⟨g1,g2,g3⟩:=mQu (r:=opD a ra b rb 0) (hE03.trans hE4) hM5 (by omega) hP4 (fun i hi=>by have:=hR4 i hi;omega);exact⟨PA,q,pc,rfl,g1,g2,g3⟩
theorem tQu (A:Option Addr)(n c:Nat)(a:List Br)(ra:Int)(B:Option Addr)(m d:Nat)(b:List Br)(rb:Int)(w:World)(h:SB w A n c a)(h':SB w B m d b):
  Fn Tryz.prog 101 [dgV A n c ra,dgV B m d rb] w (DgE w (opD a ra b rb 1)):=by
 refine aQf (c:={xQ3 with cuts:=[]}) aQb Tryz.func101 rfl rfl rfl ?_;refine new (fun w1 hE1 hz1 hB1=>?_);refine new (fun w2 hE2 hz2 hB2=>?_);refine new (fun w3 hE3 hz3 hB3=>?_);have hE03:=(hE1.trans hE2).trans hE3;refine aQd ((hB1.ext hE2).ext hE3) rfl ?_;refine aQd (hB2.ext hE3) rfl ?_;refine call (gQp A n c a ra B m d b rb 1 155 w3 (.inr (.inl ⟨rfl,rfl⟩)) (h.ext hE03) (h'.ext hE03)) ?_;rintro v w4 ⟨PA,q,pc,rfl,hE4,hP4,hR4⟩;refine aQc (hB3.ext hE4) rfl (sc rfl) (fun w5 hg5 _ hB5=>?_);have hM5:Mod (·=w2.heap.size) w4 w5:=zQE hg5 rfl;refine aQd hB5 rfl ?_;obtain⟨g1,g2,g3⟩:=mQu (r:=opD a ra b rb 1) (hE03.trans hE4) hM5 (by omega) hP4 (fun i hi=>by have:=hR4 i hi;omega);exact⟨PA,q,pc,rfl,g1,g2,g3⟩
theorem mQB (A:Option Addr)(n c:Nat)(a:List Br)(ra:Int)(w:World)(h:SB w A n c a):
  Fn Tryz.prog 35 [dgV A n c ra] w (DgE w (opD a ra [] 0 3)):=by
 refine aQf (c:={c35 with cuts:=[]}) aQb Tryz.func35 rfl rfl rfl ?_;refine new (fun w1 hE1 hz1 hB1=>?_);refine new (fun w2 hE2 hz2 hB2=>?_);have hE02:=hE1.trans hE2;refine aQd (hB1.ext hE2) rfl ?_;refine call (gQp A n c a ra none 0 0 [] 0 3 83 w2 (.inr (.inr ⟨rfl,rfl⟩)) (h.ext hE02) (SlS.nil _)) ?_;rintro v w4 ⟨PA,q,pc,rfl,hE4,hP4,hR4⟩;refine aQc (hB2.ext hE4) rfl (sc rfl) (fun w5 hg5 _ hB5=>?_);have hM5:Mod (·=w1.heap.size) w4 w5:=zQE hg5 rfl;refine aQd hB5 rfl ?_;obtain⟨g1,g2,g3⟩:=mQu (r:=opD a ra [] 0 3) (hE02.trans hE4) hM5 (by omega) hP4 (fun i hi=>by have:=hR4 i hi;omega);exact⟨PA,q,pc,rfl,g1,g2,g3⟩
end
section
open Go Go.RowKit
section
variable {α:Type} {f:α->List Value} {sz:Nat}
theorem lQf (hf:∀x,(f x).length=sz):∀(l:List α)(j:Nat),(l.flatMap f).take (j*sz)=(l.take j).flatMap f
 | [],j=>by simp
 | x::l,0=>by simp
 | x::l,j+1=>by
  rw[List.flatMap_cons,List.take_succ_cons,List.flatMap_cons,<-lQf hf l j,List.take_append];rw[List.take_of_length_le (by rw[hf,Nat.succ_mul];omega),hf,show(j+1)*sz-sz=j*sz by rw[Nat.succ_mul];omega]
theorem lQg (hf:∀x,(f x).length=sz):∀(l:List α)(j:Nat),(l.flatMap f).drop (j*sz)=(l.drop j).flatMap f
 | [],j=>by simp
 | x::l,0=>by simp
 | x::l,j+1=>by
  rw[List.flatMap_cons,List.drop_succ_cons,<-lQg hf l j,List.drop_append];rw[List.drop_of_length_le (by rw[hf,Nat.succ_mul];omega),hf,show(j+1)*sz-sz=j*sz by rw[Nat.succ_mul];omega];rfl
theorem fQG (hf:∀x,(f x).length=sz)(l:List α){j:Nat}(x:α)(hj:j<l.length):fQZ (j*sz) (f x) (l.flatMap f)=(l.set j x).flatMap f:=by
 have hle:(j+1)*sz<=l.length*sz:=Nat.mul_le_mul_right _ hj;rw[Nat.succ_mul] at hle;rw[bQ9 _ _ _ (by rw[hf,aQ5 hf];exact hle),hf,lQf hf,<-Nat.succ_mul,lQg hf,List.set_eq_take_append_cons_drop,if_pos hj];simp
theorem iQo (hf:∀x,(f x).length=sz)(h0:0<sz){z:α}{zc:Array Value}(hz:zc.toList=f z)(n:Nat):(madeCells zc (n*sz)).toList=(List.replicate n z).flatMap f:=by
 have hzs:zc.size=sz:=by rw[<-Array.length_toList,hz,hf]
 apply List.ext_getElem?;intro i;by_cases hi:i<n*sz
 ·have hd:i/sz<n:=Nat.div_lt_of_lt_mul (by rw[Nat.mul_comm];exact hi);have hr:i % sz<sz:=Nat.mod_lt _ h0;have hdm:i/sz*sz+i % sz=i:=by rw[Nat.mul_comm];exact Nat.div_add_mod i sz
  have g1:(List.replicate n z)[i/sz]? =some z:=by rw[List.getElem?_replicate,if_pos hd]
  have g2:=List.getElem?_eq_getElem (l:=f z) (i:=i % sz) (by rw[hf];exact hr);have g3:=cQd hf _ _ _ _ _ g1 g2;rw[hdm] at g3;rw[g3];have e:zc[i % zc.size]! =(f z)[i % sz]'(by rw[hf];exact hr):=by
   have h1:zc[i % sz]? =some ((f z)[i % sz]'(by rw[hf];exact hr)):=by rw[<-Array.getElem?_toList,hz];exact g2
   rw[hzs,Array.getElem!_eq_getD,Array.getD_eq_getD_getElem?,h1];rfl
  simp[madeCells,hi,e]
 ·rw[List.getElem?_eq_none (by simp[madeCells];omega),List.getElem?_eq_none (by rw[aQ5 hf];simp;omega)]
theorem sQt (hf:∀x,(f x).length=sz)(h0:0<sz)(z:α){c:Cx}(hg:c.g.Ok){o:Oper}{S:Env}{w:World}{K:Env->World->Prop}{Q:cQB}{t e:Nat}{x y:Operand}{n:Nat}{r re:TyRow}(ho:o.op= .makeSlice t x y)(hr:aQA c.g.tys t=some r)(hd:r.d= .slice e)(hre:aQA c.g.tys e=some re)(hz:re.z.cells.toList=f z)
  (hs:re.sz=sz) (hx:S.ev x=some (.int .i64 n)) (hy:S.ev y=some (.int .i64 n)) (hb:re.by_*n<=281474976710656) (hn:n<=maxLen)
  (k:∀w1,Ext w w1->w1.heap.size=w.heap.size+1->Blk w1 w.heap.size e ((List.replicate n z).flatMap f)->bQq c S o.dst (.v (.slice (some ⟨w.heap.size,0,none⟩) n n)) (fun S=>K S w1)):cQv c o S w K Q:=by
 obtain⟨_,i,hi,hsz,hby,hiz⟩:=hg.row hre;have hr':=(hg.row hr).1;rw[hd] at hr';have hr1:=run_make (P:=c.g.P) w t e i re.z hr' hi hiz .i64 .i64 n n (by omega) (by omega) (by rw[hby];omega) (by unfold maxLen at hn;omega);have hm:=iQo hf h0 hz n;rw[hsz,hs] at hr1;simp only[Int.toNat_natCast] at hr1;refine aQ9 (w':=w.alloc (.cells (madeCells re.z.cells (n*sz)) e)) (v:=.slice (some ⟨w.heap.size,0,none⟩) n n) (fun a hf=>?_) (k _ (Ext.alloc w _) (by simp) ?_)
 ·have e1:=hf.ev hx;have e2:=hf.ev hy;simp only[execOp,ho,e1,e2];simp at hr1 ⊢;rw[hr1];rfl
 ·rw[<-hm];simpa using Blk.new w e (madeCells re.z.cells (n*sz)).toList
end
end
section
open Go Go.RowKit
structure DgI (w0:World) (g:Nat) (f:List Fz) (k n s:Nat) (L:List DV) (w:World):Prop where
 m:Mod (·=g) w0 w
 blk:Blk w g 32 (L.flatMap DV.cells)
 len:L.length=n
 got:∀j,j<s->∃x t,L[j]? =some x/\RepF f t j/\SB w x.A x.n x.c x.nd/\Set1 k x.nd x.r (evF t)/\∀i,aQx x.A i->g<i
theorem SB.mod {S:Nat->Prop}{w w':World}{A:Option Addr}{n c:Nat}{nd:List Br}(h:SB w A n c nd)(hm:Mod S w w')(hr:∀i,aQx A i->¬S i):SB w' A n c nd:=⟨h.1.modS hm (fun _ i hi=>hr i hi),h.2⟩
theorem DgI.mod {w0 w w':World}{g:Nat}{f:List Fz}{k n s:Nat}{L:List DV}(h:DgI w0 g f k n s L w)(k1:Ext w w'):DgI w0 g f k n s L w':=
 ⟨h.m.trans (Mod.of_ext (·=g) k1) (fun _ hi=>.inl hi),h.blk.ext k1,h.len,fun j hj=>by
  obtain⟨x,t,h1,h2,h3,h4,h5⟩:=h.got j hj;exact⟨x,t,h1,h2,h3.ext k1,h4,h5⟩⟩
theorem DgI.put {w0 w w':World}{g:Nat}{f:List Fz}{k n s:Nat}{L:List DV}(h:DgI w0 g f k n s L w)(hs:s<n){x:DV}{t:Fm}(ht:RepF f t s)(hx:SB w x.A x.n x.c x.nd)(hS:Set1 k x.nd x.r (evF t))(hr:∀i,aQx x.A i->g<i)(hm:Mod (·=g) w w')
  (hb:Blk w' g 32 (fQZ (s*2) x.cells (L.flatMap DV.cells))):DgI w0 g f k n (s+1) (L.set s x) w':=by
 have hl:=h.len;refine⟨h.m.trans hm (fun _ hi=>.inl hi),by rw[<-fQG dQm L x (by omega)];exact hb,by rw[List.length_set];exact hl,fun j hj=>?_⟩;by_cases hjs:j=s
 ·subst hjs;exact⟨x,t,by rw[List.getElem?_set_self (by omega)],ht,hx.mod hm (fun i hi e=>by have:=hr i hi;omega),hS,hr⟩
 ·obtain⟨y,u,h1,h2,h3,h4,h5⟩:=h.got j (by omega);exact⟨y,u,by rw[List.getElem?_set_ne (fun e=>hjs e.symm)];exact h1,h2,h3.mod hm (fun i hi e=>by have:=h5 i hi;omega),h4,h5⟩
def DgC (g s:Nat)(L:List DV)(w w':World):Prop:=Mod (·=g) w w'/\∀(j:Nat)(x:DV),j≠s->L[j]? =some x->∀(i:Nat)(v:Value),x.cells[i]? =some v->w'.cell? ((⟨g,0,none⟩:Addr).add (j*2+i))=some v
theorem DgC.of_ext {g s:Nat}{L:List DV}{w w':World}(hb:Blk w g 32 (L.flatMap DV.cells))(h:Ext w w'):DgC g s L w w':=
 ⟨Mod.of_ext _ h,fun j x _ hx i v hi=>by rw[(hb.ext h).cell];exact cQd dQm _ _ _ _ _ hx hi⟩
theorem DgC.put {g s:Nat}{L:List DV}{w w1 w':World}{x:DV}(hs:s<L.length)(h:Ext w w1)(hm:Mod (·=g) w1 w')(hb:Blk w' g 32 (fQZ (s*2) x.cells (L.flatMap DV.cells))):DgC g s L w w':=
 ⟨(
  Mod.of_ext (·=g) h).trans hm (fun _ hi=>.inl hi),fun j y hj hy i v hi=>by
  rw[hb.cell,fQG dQm L x hs];exact cQd dQm _ _ _ _ _ (by rw[List.getElem?_set_ne (fun e=>hj e.symm)];exact hy) hi⟩
theorem FV.rep {f:List Fz}(h:FV f){i:Nat}(hi:i<f.length):∃t,RepF f t i:=tQe h.2.2.1 i hi
theorem mQC (F:Option Addr)(n cF:Nat)(f:List Fz)(k:Nat)(hk:k<=12)(w:World)(h:SF w F n cF f)(hv:FV f)(hvk:gQG k f):
  Fn Tryz.prog 203 [.slice F n cF] w (fun v w'=>∃A m c nd r,v= .tuple #[dgV A m c r,.int .i64 0]/\Ext w w'/\SB w' A m c nd/\Set1 k nd r (evF (eQd f))/\∀i,aQx A i->w.heap.size<i):=by
 have hn:=h.2;have hvl:=hv.1;have hv0:=hv.2.1;refine aQf (c:={yQ6 with cuts:=[]}) aQb Tryz.func203 rfl rfl rfl ?_;refine new (fun w1 hE1 hz1 hB1=>?_);refine call (nQr F n cF f w1 (h.ext hE1)) ?_;rintro _ w2 ⟨rfl,hE2⟩;refine bQB (jQw hv) ?_;have hE02:=hE1.trans hE2;refine sQt dQm (by decide) (⟨none,0,0,[],0⟩:DV) aQb rfl rfl rfl rfl rfl rfl rfl rfl (by show 32*n<=_;omega) (by unfold maxLen;omega) (fun w3 hE3 hz3 hB3=>?_);have hE03:=hE02.trans hE3;have hz02:=hE02.size;have hz2:w1.heap.size<=w2.heap.size:=hE2.size;refine loop aQb [17] (fun s:Nat×List DV=>[.int .i64 s.1]) (fun s w'=>DgI w3 w2.heap.size f k n s.1 s.2 w'/\s.1<=n) (fun s _=>n-s.1) (0,List.replicate n ⟨none,0,0,[],0⟩) rfl ⟨⟨Mod.refl _ _,hB3,by simp,fun j hj=>absurd hj (by simp)⟩,Nat.zero_le _⟩ ?_;rintro⟨s,L⟩ w4 ⟨hI,hs⟩;simp only at hI hs;have hE4:Ext w w4:=hI.m.ext hE03 (fun i hi=>by omega);have hL:=hI.len;refine aQq (fun h1=>?_) (fun h1=>?_)
 ·have hsn:s<n:=by simp only at h1;omega
  refine aQp nQj (h.ext hE4) rfl hsn (fun p x hx hc=>?_);refine aQK (vs:=x.cells) rfl hc ?_;refine new (fun w5 hE5 hz5 hB5=>?_);refine aQc hB5 rfl (sc rfl) (fun w6 hg6 hz6 hB6=>?_);have hE46:Ext w4 w6:=aQJ hE5 hB5 hg6;have hI6:=hI.mod hE46;obtain⟨t,ht⟩:=hv.rep (i:=s) (by omega);have hz4:=hI.m.size;have hz46:=hE46.size;have c0:Set1 k [] 0 (fun _=>false):=bQi k false;have hrc:∀i,aQx (none:Option Addr) i->w2.heap.size<i:=fun i hi=>by obtain⟨_,e,_⟩:=hi;cases e
  cases t with
  | c b=>
   cases b with
   | false=>
    have hxx:x=⟨0,0,0,0⟩:=Option.some.inj (hx.symm.trans ht);subst hxx;refine aQg hB6 rfl ?_;refine aQZ rfl ?_;refine aQg hB6 rfl ?_;refine call (bQm false w6) ?_;rintro _ w7 ⟨rfl,hE7⟩;have hI7:=hI6.mod hE7;refine aQU (j:=s) hsn ?_;refine bQ2 (j:=s*2) (vs:=(⟨none,0,0,[],0⟩:DV).cells) hI7.blk (by rw[aQ5 dQm,hL];show s*2+2<=n*2;omega) (sc rfl) (fun w8 hg8 hz8 hB8=>?_);have hM8:Mod (·=w2.heap.size) w7 w8:=zQE hg8 rfl;have hI8:=hI7.put hsn (x:=⟨none,0,0,[],0⟩) ht (SlS.nil _) (bQi k false) hrc hM8 hB8;refine bQB rfl ?_;refine aQa ((s+1:Nat):Int) (by show((s:Nat):Int)+1=_;omega) (by omega) ?_;exact⟨(s+1,L.set s ⟨none,0,0,[],0⟩),rfl,⟨hI8,by show s+1<=n;omega⟩,by show n-(s+1)<n-s;omega⟩
   | true=>
    have hxx:x=⟨1,0,0,0⟩:=Option.some.inj (hx.symm.trans ht);subst hxx;refine aQg hB6 rfl ?_;refine aQu (show¬(1:Int)=0 by decide) ?_;refine aQZ rfl ?_;refine aQg hB6 rfl ?_;refine call (bQm true w6) ?_;rintro _ w7 ⟨rfl,hE7⟩;have hI7:=hI6.mod hE7;refine aQU (j:=s) hsn ?_;refine bQ2 (j:=s*2) (vs:=(⟨none,0,0,[],1⟩:DV).cells) hI7.blk (by rw[aQ5 dQm,hL];show s*2+2<=n*2;omega) (sc rfl) (fun w8 hg8 hz8 hB8=>?_);have hM8:Mod (·=w2.heap.size) w7 w8:=zQE hg8 rfl;have hI8:=hI7.put hsn (x:=⟨none,0,0,[],1⟩) ht (SlS.nil _) (bQi k true) hrc hM8 hB8;refine bQB rfl ?_;refine aQa ((s+1:Nat):Int) (by show((s:Nat):Int)+1=_;omega) (by omega) ?_;exact⟨(s+1,L.set s ⟨none,0,0,[],1⟩),rfl,⟨hI8,by show s+1<=n;omega⟩,by show n-(s+1)<n-s;omega⟩
  | v q=>
   have hxx:x=⟨2,(q:Nat),0,0⟩:=Option.some.inj (hx.symm.trans ht);subst hxx;have hq:(q:Int)<k:=hvk _ (List.mem_of_getElem? hx) rfl;refine aQg hB6 rfl ?_;refine aQu (show¬(2:Int)=0 by decide) ?_;refine aQu (show¬(2:Int)=1 by decide) ?_;refine aQZ rfl ?_;refine aQe hB6 rfl ?_;refine call (mQz (q:Nat) w6 (by omega) (by omega)) ?_;rintro _ w7 ⟨PA,pn,pc,rfl,hE7,hP7,hR7⟩;have hI7:=hI6.mod hE7;have hSv:Set1 k [⟨(q:Nat),0,1⟩] 2 (evF (.v q)):=⟨nQD (by omega) (by omega),fun b hb=>by simp only[List.mem_singleton] at hb;subst hb;exact hq,fun e=>by
    rw[eQX (nQD (k:=((q:Nat):Int)) (by omega) (by omega)).wf (by decide) (b:=⟨(q:Nat),0,1⟩) rfl,bQP (by simp),bQP (by simp)];cases h:e q<;>simp[evF,h]⟩
   refine aQU (j:=s) hsn ?_;refine bQ2 (j:=s*2) (vs:=(⟨PA,pn,pc,[⟨(q:Nat),0,1⟩],2⟩:DV).cells) hI7.blk (by rw[aQ5 dQm,hL];show s*2+2<=n*2;omega) (sc rfl) (fun w8 hg8 hz8 hB8=>?_);have hM8:Mod (·=w2.heap.size) w7 w8:=zQE hg8 rfl;have hI8:=hI7.put hsn (x:=⟨PA,pn,pc,[⟨(q:Nat),0,1⟩],2⟩) ht hP7 hSv (fun i hi=>by have:=hR7 i hi;omega) hM8 hB8;refine bQB rfl ?_;refine aQa ((s+1:Nat):Int) (by show((s:Nat):Int)+1=_;omega) (by omega) ?_;exact⟨(s+1,L.set s ⟨PA,pn,pc,[⟨(q:Nat),0,1⟩],2⟩),rfl,⟨hI8,by show s+1<=n;omega⟩,by show n-(s+1)<n-s;omega⟩
  | not a=>
   obtain⟨j,hj,hxj,hra⟩:=ht;have hxx:x=⟨3,0,(j:Nat),0⟩:=Option.some.inj (hx.symm.trans hxj);subst hxx;obtain⟨y,u,hy,hu,hyS,hyM,hyr⟩:=hI6.got j hj;obtain rfl:u=a:=zQH hu hra;have hex:=eQB hk hyM c0 3;have hcs:=bQ4 hyM c0 3;have hjn:j<n:=by omega
   refine aQg hB6 rfl ?_;refine aQu (show¬(3:Int)=0 by decide) ?_;refine aQu (show¬(3:Int)=1 by decide) ?_;refine aQu (show¬(3:Int)=2 by decide) ?_;refine aQZ rfl ?_;refine aQe hB6 rfl ?_;refine aQU (j:=j) hjn ?_;refine bQM (j:=j*2) (vs:=y.cells) hI6.blk rfl (fun i v hi=>cQd dQm _ _ _ _ _ hy hi) ?_;refine call (mQB y.A y.n y.c y.nd y.r w6 hyS) ?_;rw[hex];rintro _ w7 ⟨PA,pn,pc,rfl,hE7,hP7,hR7⟩;have hI7:=hI6.mod hE7;have ht:RepF f (.not u) s:=⟨j,hj,hxj,hra⟩
   generalize cQO y.nd y.r [] 0 3=D at*;obtain⟨D1,D2⟩:=D;have hSv:Set1 k D1 D2 (evF (.not u)):=hcs.congr (fun e=>by simp[opB,evF]);refine aQU (j:=s) hsn ?_;refine bQ2 (j:=s*2) (vs:=(⟨PA,pn,pc,D1,D2⟩:DV).cells) hI7.blk (by rw[aQ5 dQm,hL];show s*2+2<=n*2;omega) (sc rfl) (fun w8 hg8 hz8 hB8=>?_);have hM8:Mod (·=w2.heap.size) w7 w8:=zQE hg8 rfl;have hI8:=hI7.put hsn (x:=⟨PA,pn,pc,D1,D2⟩) ht hP7 hSv (fun i hi=>by have:=hR7 i hi;omega) hM8 hB8;refine bQB rfl ?_;refine aQa ((s+1:Nat):Int) (by show((s:Nat):Int)+1=_;omega) (by omega) ?_;exact⟨(s+1,L.set s ⟨PA,pn,pc,D1,D2⟩),rfl,⟨hI8,by show s+1<=n;omega⟩,by show n-(s+1)<n-s;omega⟩
  | and a b=>
   obtain⟨j,l,hj,hl,hxj,hra,hrb⟩:=ht;have hxx:x=⟨4,0,(j:Nat),(l:Nat)⟩:=Option.some.inj (hx.symm.trans hxj);subst hxx;obtain⟨y,u,hy,hu,hyS,hyM,hyr⟩:=hI6.got j hj;obtain rfl:u=a:=zQH hu hra;obtain⟨z,u',hz,hu',hzS,hzM,hzr⟩:=hI6.got l hl;obtain rfl:u'=b:=zQH hu' hrb;have hex:=eQB hk hyM hzM 0;have hcs:=bQ4 hyM hzM 0;have hjn:j<n:=by omega
   have hln:l<n:=by omega
   refine aQg hB6 rfl ?_;refine aQu (show¬(4:Int)=0 by decide) ?_;refine aQu (show¬(4:Int)=1 by decide) ?_;refine aQu (show¬(4:Int)=2 by decide) ?_;refine aQu (show¬(4:Int)=3 by decide) ?_;refine aQZ rfl ?_;refine aQm aQb (DgC w2.heap.size s L w6) 19 [(true,0),(true,1),(true,2),(true,3),(true,4),(true,5),(true,6),(true,7),(true,8),(true,9),(true,10),(true,11),(false,12),(true,13),(true,14),(true,15),(true,16),(false,17),(true,18)] (by kernel_rfl) (DgC.of_ext hI6.blk (Ext.drew w6)) ?_;have hxn:¬w4.heap.size=w2.heap.size:=by omega
   refine aQy (v:=.int .i64 (j:Nat)) (fun w' hw'=>by rw[(hB6.mod hw'.1 hxn).cell];rfl) ?_;refine aQU (j:=j) hjn ?_;refine aQw (vs:=y.cells) rfl (fun w' hw' i v hi=>by rw[add_add];exact hw'.2 j y (by omega) hy i v hi) ?_;refine aQy (v:=.int .i64 (l:Nat)) (fun w' hw'=>by rw[(hB6.mod hw'.1 hxn).cell];rfl) ?_;refine aQU (j:=l) hln ?_;refine aQw (vs:=z.cells) rfl (fun w' hw' i v hi=>by rw[add_add];exact hw'.2 l z (by omega) hz i v hi) ?_;refine call (hQF y.A y.n y.c y.nd y.r z.A z.n z.c z.nd z.r _ (hyS.ext (Ext.drew w6)) (hzS.ext (Ext.drew w6))) ?_;rw[hex];rintro _ w7 ⟨PA,pn,pc,rfl,hE7',hP7,hR7⟩;have hE7:=(Ext.drew w6).trans hE7';have hz6d:=(Ext.drew w6).size;refine⟨DgC.of_ext hI6.blk hE7,?_⟩;have hI7:=hI6.mod hE7;have ht:RepF f (.and u u') s:=⟨j,l,hj,hl,hxj,hra,hrb⟩
   generalize cQO y.nd y.r z.nd z.r 0=D at*;obtain⟨D1,D2⟩:=D;have hSv:Set1 k D1 D2 (evF (.and u u')):=hcs.congr (fun e=>by simp[opB,evF]);refine aQU (j:=s) hsn ?_;refine bQ2 (j:=s*2) (vs:=(⟨PA,pn,pc,D1,D2⟩:DV).cells) hI7.blk (by rw[aQ5 dQm,hL];show s*2+2<=n*2;omega) (sc rfl) (fun w8 hg8 hz8 hB8=>?_);have hM8:Mod (·=w2.heap.size) w7 w8:=zQE hg8 rfl;have hI8:=hI7.put hsn (x:=⟨PA,pn,pc,D1,D2⟩) ht hP7 hSv (fun i hi=>by have:=hR7 i hi;omega) hM8 hB8;refine⟨DgC.put (by omega) hE7 hM8 hB8,?_⟩;refine bQB rfl ?_;refine aQa ((s+1:Nat):Int) (by show((s:Nat):Int)+1=_;omega) (by omega) ?_;exact⟨(s+1,L.set s ⟨PA,pn,pc,D1,D2⟩),rfl,⟨hI8,by show s+1<=n;omega⟩,by show n-(s+1)<n-s;omega⟩
  | or a b=>
   obtain⟨j,l,hj,hl,hxj,hra,hrb⟩:=ht;have hxx:x=⟨5,0,(j:Nat),(l:Nat)⟩:=Option.some.inj (hx.symm.trans hxj);subst hxx;obtain⟨y,u,hy,hu,hyS,hyM,hyr⟩:=hI6.got j hj;obtain rfl:u=a:=zQH hu hra;obtain⟨z,u',hz,hu',hzS,hzM,hzr⟩:=hI6.got l hl;obtain rfl:u'=b:=zQH hu' hrb;have hex:=eQB hk hyM hzM 1;have hcs:=bQ4 hyM hzM 1;have hjn:j<n:=by omega
   have hln:l<n:=by omega
   refine aQg hB6 rfl ?_;refine aQu (show¬(5:Int)=0 by decide) ?_;refine aQu (show¬(5:Int)=1 by decide) ?_;refine aQu (show¬(5:Int)=2 by decide) ?_;refine aQu (show¬(5:Int)=3 by decide) ?_;refine aQu (show¬(5:Int)=4 by decide) ?_;refine aQZ rfl ?_;refine aQm aQb (DgC w2.heap.size s L w6) 19 [(true,0),(true,1),(true,2),(true,3),(true,4),(true,5),(true,6),(true,7),(true,8),(true,9),(true,10),(true,11),(false,12),(true,13),(true,14),(true,15),(true,16),(false,17),(true,18)] (by kernel_rfl) (DgC.of_ext hI6.blk (Ext.drew w6)) ?_;have hxn:¬w4.heap.size=w2.heap.size:=by omega
   refine aQy (v:=.int .i64 (j:Nat)) (fun w' hw'=>by rw[(hB6.mod hw'.1 hxn).cell];rfl) ?_;refine aQU (j:=j) hjn ?_;refine aQw (vs:=y.cells) rfl (fun w' hw' i v hi=>by rw[add_add];exact hw'.2 j y (by omega) hy i v hi) ?_;refine aQy (v:=.int .i64 (l:Nat)) (fun w' hw'=>by rw[(hB6.mod hw'.1 hxn).cell];rfl) ?_;refine aQU (j:=l) hln ?_;refine aQw (vs:=z.cells) rfl (fun w' hw' i v hi=>by rw[add_add];exact hw'.2 l z (by omega) hz i v hi) ?_;refine call (tQu y.A y.n y.c y.nd y.r z.A z.n z.c z.nd z.r _ (hyS.ext (Ext.drew w6)) (hzS.ext (Ext.drew w6))) ?_;rw[hex];rintro _ w7 ⟨PA,pn,pc,rfl,hE7',hP7,hR7⟩;have hE7:=(Ext.drew w6).trans hE7';have hz6d:=(Ext.drew w6).size;refine⟨DgC.of_ext hI6.blk hE7,?_⟩;have hI7:=hI6.mod hE7;have ht:RepF f (.or u u') s:=⟨j,l,hj,hl,hxj,hra,hrb⟩
   generalize cQO y.nd y.r z.nd z.r 1=D at*;obtain⟨D1,D2⟩:=D;have hSv:Set1 k D1 D2 (evF (.or u u')):=hcs.congr (fun e=>by simp[opB,evF]);refine aQU (j:=s) hsn ?_;refine bQ2 (j:=s*2) (vs:=(⟨PA,pn,pc,D1,D2⟩:DV).cells) hI7.blk (by rw[aQ5 dQm,hL];show s*2+2<=n*2;omega) (sc rfl) (fun w8 hg8 hz8 hB8=>?_);have hM8:Mod (·=w2.heap.size) w7 w8:=zQE hg8 rfl;have hI8:=hI7.put hsn (x:=⟨PA,pn,pc,D1,D2⟩) ht hP7 hSv (fun i hi=>by have:=hR7 i hi;omega) hM8 hB8;refine⟨DgC.put (by omega) hE7 hM8 hB8,?_⟩;refine bQB rfl ?_;refine aQa ((s+1:Nat):Int) (by show((s:Nat):Int)+1=_;omega) (by omega) ?_;exact⟨(s+1,L.set s ⟨PA,pn,pc,D1,D2⟩),rfl,⟨hI8,by show s+1<=n;omega⟩,by show n-(s+1)<n-s;omega⟩
 ·have hsn:s=n:=by simp only at h1;omega
  subst hsn;obtain⟨y,u,hy,hu,hyS,hyM,hyr⟩:=hI.got (s-1) (by omega);have htr:=hQu (f:=f) (t:=u) (by rw[hn];exact hu);refine aQa ((s-1:Nat):Int) (by omega) (by omega) ?_;refine aQU (j:=s-1) (by omega) ?_;refine bQM (j:=(s-1)*2) (vs:=y.cells) hI.blk rfl (fun i v hi=>cQd dQm _ _ _ _ _ hy hi) ?_;have hB4:=((hB1.ext hE2).ext hE3).mod hI.m (by show¬w.heap.size=w2.heap.size;omega);refine aQc hB4 rfl (sc rfl) (fun w5 hg5 hz5 hB5=>?_);have hM5:Mod (·=w.heap.size) w4 w5:=zQE hg5 rfl;refine aQd hB5 rfl ?_;exact⟨y.A,y.n,y.c,y.nd,y.r,rfl,hM5.ext hE4 (fun i hi=>by omega),hyS.mod hM5 (fun i hi e=>by have:=hyr i hi;omega),by rw[htr];exact hyM,fun i hi=>by have:=hyr i hi;omega⟩
end
section
section
open Go Go.RowKit
abbrev adr (g o:Nat):Addr:=(⟨g,0,none⟩:Addr).add o
def qQa (t m o:Nat):Prop:=liesAt Tryz.prog Tryz.prog.depth t (m/Tryz.prog.cellsOf t) o 109 1=true
theorem mQD (g o:Nat):(adr g o).off=o/\(adr g o).block=g:=by unfold adr;rw[eQ8];exact⟨rfl,rfl⟩
theorem mQE {w:World}{g t o j:Nat}{cs:List Value}(h:Blk w g t cs):w.cell? ((adr g o).add j)=cs[o+j]? :=by unfold adr;rw[add_add,h.cell]
theorem hQG {w:World}{g t o j:Nat}{cs:List Value}{v:Value}{K:Value->Prop}(h:Blk w g t cs)(hv:cs[o+j]? =some v)(k:K v):pQi w ((adr g o).add j) K:=load (by rw[mQE h];exact hv) k
theorem nQG {w:World}{g t o j:Nat}{cs:List Value}{v:Value}{K:World->Prop}(h:Blk w g t cs)(hj:o+j<cs.length)(k:∀w1,Mod (·=g) w w1->Blk w1 g t (cs.set (o+j) v)->K w1):hQg w ((adr g o).add j) v K:=by
 unfold adr;rw[add_add];exact aQn h hj k
theorem jQL (g t o:Nat)(pa:Value)(cs:List Value)(w:World)(hl:qQa t cs.length o)(ho:o<cs.length)(hp:pa= .pointer none∨pa= .pointer (some (adr g o)))(hB:Blk w g t cs)(hc:cs[o]? =some pa):
  Fn Tryz.prog 106 [.pointer (some (adr g o))] w (fun _ w'=>Mod (·=g) w w'/\Blk w' g t (cs.set o (.pointer (some (adr g o))))):=by
 obtain⟨j,hj,hj0⟩:=gQD;refine aQf (c:=xQQ) aQb Tryz.func106 rfl rfl rfl ?_;have hsh:w.shape? (adr g o).block=some (t,cs.length):=by rw[(mQD g o).2];exact hB.shape
 have ucs:=Tryz.underlying107;have uus:=Tryz.underlying240;rcases hp with rfl | rfl
 ·refine hQG hB (by simpa using hc) ?_;refine aQM rfl ?_;refine aQ9 (w':=w) (v:=.pointer (some (adr g o))) (fun a hf=>?_) ?_
  ·have e1:=hf.ev (show Env.ev _ (.tmp 8)=some (.pointer (some (adr g o))) from rfl);have:=Lib.run_to_unsafe (P:=Tryz.prog) (src:=107) (dst:=240) w (adr g o) ucs uus hj hj0 hsh (by rw[(mQD g o).1];exact ho);simp only[execOp,e1];simp[gxP,this]
  refine aQ9 (w':=w) (v:=.pointer (some (adr g o))) (fun a hf=>?_) ?_
  ·have e1:=hf.ev (show Env.ev _ (.tmp 9)=some (.pointer (some (adr g o))) from rfl);have:=run_callFunc_extern (P:=Tryz.prog) (e:=Extern.AbiNoEscape.same) Tryz.func159 (by kernel_rfl) (by kernel_rfl) (by kernel_rfl) (by kernel_rfl) #[.pointer (some (adr g o))] w;rw[Lib.run_noEscape] at this;simp only[execOp,resolve,invoke];simp[Deferred.ofValue,Act.eval] at e1 ⊢;simp[e1,gxP,this]
  refine aQ9 (w':=w) (v:=.pointer (some (adr g o))) (fun a hf=>?_) ?_
  ·have e1:=hf.ev (show Env.ev _ (.tmp 10)=some (.pointer (some (adr g o))) from rfl);have:=Lib.run_from_unsafe (P:=Tryz.prog) (src:=240) (dst:=107) (u:=109) w (adr g o) uus ucs hj hsh (by rw[(mQD g o).1];exact hl);simp only[execOp,e1];simp[gxP,this]
  refine nQG hB (by simpa using ho) (fun w1 hm hB1=>?_);exact⟨hm,by simpa using hB1⟩
 ·refine hQG hB (by simpa using hc) ?_;refine aQN rfl ?_;refine hQG hB (by simpa using hc) ?_;refine aQ9 (w':=w) (v:=.bool false) (fun a hf=>?_) ?_
  ·have e1:=hf.ev (show Env.ev _ (.tmp 17)=some (.pointer (some (adr g o))) from rfl);have e2:=hf.ev (show Env.ev _ (.tmp 18)=some (.pointer (some (adr g o))) from rfl);have:=Lib.run_neq_ptr_same (P:=Tryz.prog) (tp:=107) w (adr g o) ucs hj;simp only[execOp,e1,e2,eqGuard];simp[gxP,this]
  refine aQN rfl ?_;refine⟨Mod.refl _ _,?_⟩;have e:cs.set o (.pointer (some (adr g o)))=cs:=by
   apply List.ext_getElem?;intro i;by_cases hi:i=o
   ·subst hi;rw[List.getElem?_set_self ho,hc]
   ·rw[List.getElem?_set_ne (fun e=>hi e.symm)]
  rw[e];exact hB
theorem hQH (base g t o:Nat)(pa:Value)(cs:List Value)(A:Option Addr)(c:Nat)(out:List Nat)(s:ByteArray)(w:World)(hl:qQa t cs.length o)(ho:o+1<cs.length)(hp:pa= .pointer none∨pa= .pointer (some (adr g o)))(hB:Blk w g t cs)
  (hc:cs[o]? =some pa) (hc2:cs[o+1]? =some (.slice A out.length c)) (how:Own w base 5 1 A out.length c (bQa out)) (hg1:g<base) (top:base<=w.heap.size) (hs:out.length+s.size<=140737488355328):
  Fn Tryz.prog 56 [.pointer (some (adr g o)),.string s] w (fun _ w'=>∃A' c',Blk w' g t ((cs.set o (.pointer (some (adr g o)))).set (o+1) (.slice A' (out.length+s.size) c'))/\Own w' base 5 1 A' (out.length+s.size) c' (bQa (out++bQy s))/\Mod (BldS g A) w w'/\Moved w A A'):=by
 refine aQf (c:=c56) aQb Tryz.func56 rfl rfl rfl ?_;refine call (jQL g t o pa cs w hl (by omega) hp hB hc) ?_;rintro v w1 ⟨hm1,hB1⟩;have hrows:=how.rows;have hn:¬aQx A g:=fun h=>by have:=(hrows g h).1;omega
 have hown1:=how.mod hm1 (fun k hk e=>hn (e▸hk));refine hQG hB1 (v:=.slice A out.length c) (show(cs.set o (.pointer (some (adr g o))))[o+1]? =_ by rw[List.getElem?_set_ne (by omega)];exact hc2) ?_;refine iQC aQb rfl rfl rfl rfl rfl rfl rfl rfl rfl rfl rfl hown1 hs (by have:=hm1.size;omega) ?_;intro A' c' w2 hm2 hown2 hmv2;refine nQG (hB1.mod hm2 hn) (by simpa using ho) (fun w3 hm3 hB3=>?_);have hrows2:=hown2.rows;refine⟨A',c',hB3,?_,?_,hmv2.back hm1.size⟩
 ·rw[cQS,<-eQn];exact hown2.mod hm3 (fun k hk e=>by have:=(hrows2 k hk).1;omega)
 ·exact((hm1.mono (S':=BldS g A) (fun i hi=>.inl (.inl hi))).trans hm2 (fun i hi=>.inl (.inr hi))).trans hm3 (fun i hi=>.inl (.inl hi))
theorem uQG (g t o:Nat)(cs:List Value)(A:Option Addr)(c n:Nat)(w:World)(hB:Blk w g t cs)(hc2:cs[o+1]? =some (.slice A n c)):
  Fn Tryz.prog 205 [.pointer (some (adr g o))] w (fun v w'=>v= .int .i64 n/\w=w'):=by
 refine aQf (c:=yQ7) aQb Tryz.func205 rfl rfl rfl ?_;refine hQG hB hc2 ?_;exact⟨rfl,rfl⟩
theorem oQM (base g t o:Nat)(cs:List Value)(A:Option Addr)(c:Nat)(out:List Nat)(w:World)(hB:Blk w g t cs)(hc2:cs[o+1]? =some (.slice A out.length c))(how:Own w base 5 1 A out.length c (bQa out))(h8:∀x∈out,x<256)(hs:out.length<=140737488355328):
  Fn Tryz.prog 57 [.pointer (some (adr g o))] w (fun v w'=>v= .string (aQh out)/\Mod (aQx A) w w'):=by
 refine aQf (c:=c57) aQb Tryz.func57 rfl rfl rfl ?_;have hlen:(bQa out).length=out.length:=cQo out;refine aQm aQb (Ext w) 10 [(true,0),(true,1),(true,2),(true,3),(true,5),(true,6),(true,7),(true,8),(true,9),(false,4)] (by kernel_rfl) (Ext.drew w) ?_;refine aQy (v:=.slice A out.length c) (fun w' hw'=>by rw[mQE (hB.ext hw')];exact hc2) ?_;refine aQy (v:=.slice A out.length c) (fun w' hw'=>by rw[mQE (hB.ext hw')];exact hc2) ?_;have fin0:out.length=0->Value.string ByteArray.empty=Value.string (aQh out):=fun h0=>by
  have:out=[]:=List.eq_nil_of_length_eq_zero h0;subst this;rfl
 by_cases h0:out.length=0
 ·have key:∃p w1,(Builtin.unsafeSliceData_ #[62] 179 #[.slice A out.length c]).run Tryz.prog w.drew= .ok (.pointer p) w1/\Ext w w1:=by
   rcases how.row.2 with⟨hv,_⟩ | ⟨g',cap,cur,hv,hb',hg',_⟩
   ·simp only[Value.slice.injEq] at hv;obtain⟨rfl,_,rfl⟩:=hv;exact⟨none,w.drew,Lib.run_unsafeSliceData_nil _ _ _ _ _,Ext.drew w⟩
   ·simp only[Value.slice.injEq] at hv;obtain⟨rfl,_,rfl⟩:=hv;by_cases hc0:c=0
    ·subst hc0;have hsh:w.drew.shape? g'=some (5,cur.size):=by
      unfold World.shape?;rw[show w.drew.heap[g']? =_ from hg']
     exact⟨_,_,Lib.run_unsafeSliceData_zero (P:=Tryz.prog) w.drew _ _ 5 Tryz.underlying179 ⟨g',0,none⟩ _ _ hsh,(Ext.drew w).trans (Ext.alloc _ _)⟩
    ·exact⟨_,w.drew,Lib.run_unsafeSliceData_row (P:=Tryz.prog) w.drew _ _ ⟨g',0,none⟩ _ _ hc0,Ext.drew w⟩
  obtain⟨p,w1,hrun,hE1⟩:=key;refine aQ9 (w':=w1) (v:=.pointer p) (fun a hf=>?_) ⟨hE1,?_⟩
  ·have e1:=hf.ev (show Env.ev _ (.tmp 6)=some (.slice A out.length c) from rfl);simp only[execOp,resolve,invoke,builtin];simp[gxP,e1,hrun]
  refine aQ9 (w':=w1) (v:=.string ByteArray.empty) (fun a hf=>?_) ?_
  ·have e1:=hf.ev (show Env.ev _ (.tmp 7)=some (.pointer p) from rfl);have e2:=hf.ev (show Env.ev _ (.tmp 12)=some (.int .i64 out.length) from rfl);have:=Lib.run_unsafeString_none (P:=Tryz.prog) w1 179 3 9 p;rw[h0] at e2;simp only[execOp,resolve,invoke,builtin];simp[gxP,e1,e2];rw[this]<;>rfl
  exact⟨fin0 h0,Mod.of_ext _ hE1⟩
 ·obtain⟨g',sp,rfl,hb',hB',hl'⟩:=how.blk (by omega);have hle:=how.sl.le;refine aQ9 (w':=w.drew) (v:=.pointer (some ⟨g',0,none⟩)) (fun a hf=>?_) ⟨Ext.drew w,?_⟩
  ·have e1:=hf.ev (show Env.ev _ (.tmp 6)=some (.slice (some ⟨g',0,none⟩) out.length c) from rfl);have:=Lib.run_unsafeSliceData_row (P:=Tryz.prog) w.drew #[62] 179 ⟨g',0,none⟩ out.length c (by omega);simp only[execOp,resolve,invoke,builtin];simp[gxP,e1,this]
  refine aQ9 (w':=w.drew.freeze ⟨g',0,none⟩ out.length) (v:=.string (aQh out)) (fun a hf=>?_) ?_
  ·have e1:=hf.ev (show Env.ev _ (.tmp 7)=some (.pointer (some ⟨g',0,none⟩)) from rfl);have e2:=hf.ev (show Env.ev _ (.tmp 12)=some (.int .i64 out.length) from rfl);have hsh:w.drew.shape? g'=some (5,(bQa out++sp).length):=(hB'.ext (Ext.drew w)).shape;have hl2:(out.map UInt8.ofNat).length=out.length:=by simp
   have:=Lib.run_unsafeString_row (P:=Tryz.prog) w.drew 179 3 9 5 Tryz.underlying179 (by kernel_rfl) g' _ hsh (out.map UInt8.ofNat) (by intro e;apply h0;rw[<-hl2,e];rfl) (by simp[cQo]) (by rw[hl2];omega) (fun j x hj=>by
    rw[(hB'.ext (Ext.drew w)).cell];simp only[List.getElem?_map,Option.map_eq_some_iff] at hj;obtain⟨y,hy,rfl⟩:=hj;have hjl:j<out.length:=(List.getElem?_eq_some_iff.1 hy).1;rw[List.getElem?_append_left (by rw[hlen];exact hjl),eQ9 hy];have:=h8 y (List.mem_of_getElem? hy);simp[Nat.mod_eq_of_lt this])
   rw[hl2] at this;simp only[execOp,resolve,invoke,builtin];simp[gxP,e1,e2];rw[this]<;>rfl
  exact⟨rfl,(Mod.of_ext (aQx _) (Ext.drew w)).trans (iQD w.drew g' out.length (S:=aQx (some ⟨g',0,none⟩)) ⟨_,rfl,rfl⟩) (fun i hi=>.inl hi)⟩
end
section
open Go Go.RowKit
def bQo {α:Type} [DecidableEq α](a:α):List (α×Value)->List (α×Value)
 | []=>[]
 | (b,v)::l=>if a=b then l else(b,v)::bQo a l
theorem gQJ {α:Type} [DecidableEq α](a:α):∀l:List (α×Value),(bQo a l).Sublist l
 | []=>List.Sublist.refl _
 | (b,v)::l=>by
  unfold bQo;split
  ·exact List.sublist_cons_self _ _
  ·exact(gQJ a l).cons_cons _
theorem hQI {α:Type} [DecidableEq α]{a:α}:∀{l:List (α×Value)},a∉l.map (·.1)->aQS a l=none
 | [],_=>rfl
 | (b,v)::l,h=>by
  simp only[List.map_cons,List.mem_cons,not_or] at h;unfold aQS;rw[if_neg h.1];exact hQI h.2
theorem lQh {α:Type} [DecidableEq α](a b:α):∀l:List (α×Value),(l.map (·.1)).Nodup->aQS b (bQo a l)=if b=a then none else aQS b l
 | [],_=>by simp[bQo,aQS]
 | (d,u)::l,hn=>by
  simp only[List.map_cons,List.nodup_cons] at hn;unfold bQo;split
  ·rename_i h;subst h;by_cases hb:b=a
   ·subst hb;rw[if_pos rfl];exact hQI hn.1
   ·rw[if_neg hb];show _=if b=a then _ else aQS b l;rw[if_neg hb]
  ·rename_i h;have ih:=lQh a b l hn.2;simp only[aQS];by_cases hb:b=d
   ·rw[if_pos hb,if_pos hb,if_neg (fun e=>h (by rw[<-e];exact hb))]
   ·rw[if_neg hb,if_neg hb,ih]
theorem fQH {α:Type} [DecidableEq α](a:α)(v:Value):∀l:List (α×Value),(l.map (·.1)).Nodup->((aQs a v l).map (·.1)).Nodup/\∀x,x∈(aQs a v l).map (·.1)->x=a∨x∈l.map (·.1)
 | [],_=>by simp[aQs]
 | (b,u)::l,h=>by
  simp only[List.map_cons,List.nodup_cons] at h;unfold aQs;split
  ·rename_i hab;exact⟨by simpa using h,fun x hx=>.inr (by simpa using hx)⟩
  ·rename_i hab;obtain⟨h1,h2⟩:=fQH a v l h.2;refine⟨?_,fun x hx=>?_⟩
   ·rw[List.map_cons,List.nodup_cons];exact⟨fun hm=>by rcases h2 b hm with e | e;exact hab e.symm;exact h.1 e,h1⟩
   ·rw[List.map_cons,List.mem_cons] at hx;rcases hx with rfl | hx
    ·exact .inr (by simp)
    ·rcases h2 x hx with e | e
     ·exact .inl e
     ·exact .inr (by rw[List.map_cons,List.mem_cons];exact .inr e)
theorem hQJ {α:Type} [DecidableEq α]{d:TypeDesc}{kv:α->Value}(hk:KeyV d kv)(a:α):∀(m:List (α×Value))(bs:List Nat)(i:Nat),bs.length=m.length->
  ∃r,Instr.findNow d (kv a) (aQI kv m bs) i=some r/\(∀j v,r=some (j,v)->i<=j/\j-i<m.length/\(aQI kv m bs).eraseIdx (j-i)=aQI kv (bQo a m) (bs.eraseIdx (j-i))/\(bQo a m).length+1=m.length)/\(r=none->bQo a m=m)
 | [],bs,i,h=>⟨none,rfl,(fun j v h=>nomatch h),fun _=>rfl⟩
 | (b,u)::m,[],i,h=>by simp at h
 | (b,u)::m,s::bs,i,h=>by
  have e:aQI kv ((b,u)::m) (s::bs)={key:=kv b,val:=u,born:=s}::aQI kv m bs:=rfl;rw[e];unfold Instr.findNow;simp only[hk.same];by_cases hab:a=b
  ·subst hab;simp only[decide_true];refine⟨some (i,u),rfl,fun j v hj=>?_,fun h=>by cases h⟩;cases hj;refine⟨Nat.le_refl _,by simp,?_,?_⟩
   ·rw[Nat.sub_self];simp[bQo]
   ·simp[bQo]
  ·simp only[hab,decide_false];obtain⟨r,h1,h3,h4⟩:=hQJ hk a m bs (i+1) (by simpa using h);refine⟨r,h1,fun j v hj=>?_,fun hn=>by simp[bQo,hab,h4 hn]⟩;obtain⟨h5,h6,h7,h8⟩:=h3 j v hj;refine⟨by omega,by simp;omega,?_,by simp[bQo,hab];omega⟩;rw[show j-i=(j-(i+1))+1 by omega];simp only[List.eraseIdx_cons_succ,h7,bQo,hab,if_false];rfl
theorem qQb {α:Type} [DecidableEq α]{kv:α->Value}{c:Cx}{o:Oper}{S:Env}{w:World}{K:Env->World->Prop}{Q:cQB}{t t2 ke e:Nat}{r rk:TyRow}{x y:Operand}{q:Nat}{m:List (α×Value)}{a:α}(hg:c.g.Ok)
  (ho:o.op= .call ⟨.builtin .delete, #[x,y], #[t,t2]⟩) (hdst:o.dst=none) (hr:aQA c.g.tys t=some r) (hd:r.d= .map ke e) (hrk:aQA c.g.tys ke=some rk) (hk:KeyV rk.d kv)
  (hx:S.ev x=some (.map (some q))) (hy:S.ev y=some (kv a)) (hm:MapAt kv w q m)
  (k:∀w1,Mod (·=q) w w1->w1.heap.size=w.heap.size->MapAt kv w1 q (bQo a m)->K S w1):cQv c o S w K Q:=by
 have hr':=(hg.row hr).1;rw[hd] at hr';have hrk':=(hg.row hrk).1;obtain⟨bs,ck,hl,hb⟩:=hm.ex;have hlt:q<w.heap.size:=(Array.getElem?_eq_some_iff.1 hb).1;obtain⟨res,h1,h3,h4⟩:=hQJ hk a m bs 0 hl;have hgo:(getObj q).run c.g.P w= .ok (.map (aQI kv m bs).toArray ck) w:=by simp[getObj,Sem.run,hb]
 have hset:∀ob,(setObj q ob).run c.g.P w= .ok () {w with heap:=w.heap.setIfInBounds q ob}:=fun ob=>by simp[setObj,Sem.run,hb]
 have main:∃bs',bs'.length=(bQo a m).length/\(Builtin.delete_ #[t,t2] o.type #[.map (some q),kv a]).run c.g.P w= .ok (.tuple #[]) {w with heap:=w.heap.setIfInBounds q (.map (aQI kv (bQo a m) bs').toArray ck)}:=by
  cases res with
  | none=>
   refine⟨bs,by rw[h4 rfl];exact hl,?_⟩;rw[h4 rfl];simp only[Builtin.delete_];simp[run_underlying hr',hgo,bQs hrk' hk.plain,Instr.findKey,run_underlying hrk',h1,hset]
  | some p=>
   obtain⟨j,u⟩:=p;obtain⟨_,h6,h7,h8⟩:=h3 j u rfl;simp only[Nat.sub_zero] at h6 h7;refine⟨bs.eraseIdx j,by rw[List.length_eraseIdx_of_lt (by omega)];omega,?_⟩;simp only[Builtin.delete_];simp[run_underlying hr',hgo,bQs hrk' hk.plain,Instr.findKey,run_underlying hrk',h1,hset];rw[h7]
 obtain⟨bs',hl',hrun⟩:=main;unfold cQv;intro b hf;have e1:=hf.ev hx;have e2:=hf.ev hy;refine bQA (v:=.tuple #[]) (w':={w with heap:=w.heap.setIfInBounds q (.map (aQI kv (bQo a m) bs').toArray ck)}) ?_ ⟨S,by rw[hdst];simpa [Act.put] using hf,k _ ⟨rfl,rfl,rfl,by simp,fun i _ hi=>?_⟩ (by simp) ⟨bs',ck,hl',by simp[hlt]⟩⟩
 ·simp only[execOp,ho,resolve,invoke,builtin];simp[e1,e2,hrun]
 ·simp only[Array.getElem?_setIfInBounds];rw[if_neg (fun e=>hi e.symm)]
theorem Own.kind {w:World}{base e sz n c i:Nat}{A:Option Addr}{cs:List Value}(h:Own w base e sz A n c cs)(hi:aQx A i):∃cur,w.heap[i]? =some (.cells cur e (0,0)):=by
 obtain⟨ad,rfl,rfl⟩:=hi;rcases h.row.2 with⟨hv,_⟩ | ⟨g,cap,cur,hv,_,hg,_⟩
 ·cases hv
 ·cases hv;exact⟨cur,hg⟩
theorem Own.apart {w:World}{b b' e e' sz sz' n n' c c' i:Nat}{A B:Option Addr}{cs cs':List Value}(h:Own w b e sz A n c cs)(h':Own w b' e' sz' B n' c' cs')(hne:e≠e')(hi:aQx A i):¬aQx B i:=fun hj=>by
 obtain⟨c1,h1⟩:=h.kind hi;obtain⟨c2,h2⟩:=h'.kind hj;rw[h1] at h2;simp only[Option.some.injEq,Obj.cells.injEq] at h2;exact hne h2.2.1
theorem Blk.apart {w:World}{b e sz n c g t:Nat}{A:Option Addr}{cs cs':List Value}(h:Blk w g t cs)(h':Own w b e sz A n c cs')(hne:t≠e):¬aQx A g:=fun hj=>by
 obtain⟨c2,h2⟩:=h'.kind hj;rw[show w.heap[g]? =_ from h] at h2;simp only[Option.some.injEq,Obj.cells.injEq] at h2;exact hne h2.2.1
theorem MapAt.apart {α:Type}{kv:α->Value}{w:World}{b e sz n c q:Nat}{A:Option Addr}{cs':List Value}{m:List (α×Value)}(h:MapAt kv w q m)(h':Own w b e sz A n c cs'):¬aQx A q:=fun hj=>by
 obtain⟨c2,h2⟩:=h'.kind hj;obtain⟨bs,ck,_,h1⟩:=h.ex;rw[h1] at h2;cases h2
structure DgO (w:World) (S:Nat->Prop) (k:Nat) (x:DV) (o:BF):Prop where
 sb:SB w x.A x.n x.c x.nd
 st:Set1 k x.nd x.r o
 off:∀ad,x.A=some ad->0<x.n->¬S ad.block
theorem SB.modo {S:Nat->Prop}{w w':World}{A:Option Addr}{n c:Nat}{nd:List Br}(h:SB w A n c nd)(hm:Mod S w w')(hr:∀ad,A=some ad->0<n->¬S ad.block):SB w' A n c nd:=
 ⟨h.1.modS hm (fun h0 i hi=>by obtain⟨ad,e,rfl⟩:=hi;exact hr ad e h0),h.2⟩
theorem DgO.step {w w':World}{S S':Nat->Prop}{k:Nat}{x:DV}{o:BF}(h:DgO w S k x o)(hm:Mod S w w')(hs:∀i,S' i->S i∨w.heap.size<=i):DgO w' S' k x o:=
 ⟨h.sb.modo hm h.off,h.st,fun ad e h0 hS=>by
  rcases hs _ hS with h1 | h1
  ·exact h.off ad e h0 h1
  ·have:=SB.lt h.sb ad e h0;omega⟩
theorem DgO.keep {w w':World}{S T:Nat->Prop}{k:Nat}{x:DV}{o:BF}(h:DgO w S k x o)(hm:Mod T w w')(ht:∀i,T i->S i∨w.heap.size<=i):DgO w' S k x o:=
 ⟨h.sb.modo (hm.mono ht) h.off,h.st,h.off⟩
theorem DgO.ext {w w':World}{S:Nat->Prop}{k:Nat}{x:DV}{o:BF}(h:DgO w S k x o)(hE:Ext w w'):DgO w' S k x o:=⟨h.sb.ext hE,h.st,h.off⟩
theorem DgO.new {w w':World}{S:Nat->Prop}{k:Nat}{A:Option Addr}{n c:Nat}{nd:List Br}{r:Int}{o:BF}(hb:SB w' A n c nd)(hs:Set1 k nd r o)(hr:∀i,aQx A i->w.heap.size<=i)(hS:∀i,S i->i<w.heap.size):DgO w' S k ⟨A,n,c,nd,r⟩ o:=
 ⟨hb,hs,fun ad e _ h=>by have:=hr ad.block ⟨ad,e,rfl⟩;have:=hS _ h;omega⟩
end
section
open Go Go.RowKit
def ixB (c:Nat)(l:List Nat):Int:=if c∈l then((l.takeWhile (fun b=>b !=c)).length:Nat)else -1
theorem wQf {b c:Nat}(hb:b<256)(hc:c<256):(UInt8.ofNat b==UInt8.ofNat c)=(b==c):=by
 rw[Bool.eq_iff_iff];simp only[beq_iff_eq];constructor
 ·intro h;have:=congrArg UInt8.toNat h;simpa [Nat.mod_eq_of_lt hb,Nat.mod_eq_of_lt hc] using this
 ·intro h;rw[h]
theorem dQq {c:Nat}(hc:c<256):∀{l:List Nat},(∀x∈l,x<256)->Lib.indexByte (l.map UInt8.ofNat) (UInt8.ofNat c)=ixB c l
 | [],_=>rfl
 | b::l,h=>by
  have ih:=dQq hc (l:=l) (fun x hx=>h x (by simp[hx]));have hb:b<256:=h b (by simp);rw[List.map_cons,Lib.indexByte,wQf hb hc,ih];unfold ixB;by_cases hbc:b=c
  ·subst hbc;simp
  ·have h1:(b==c)=false:=by simpa using hbc
   rw[h1];by_cases hm:c∈l
   ·have h3:¬c=b:=fun e=>hbc e.symm
    simp[hm,hbc,h3]
   ·have h3:¬c=b:=fun e=>hbc e.symm
    simp[hm,h3]
theorem dQQ (l:List Nat):(aQh l).data.toList=l.map UInt8.ofNat:=by simp[aQh]
theorem cQK {P:Program}{f:FuncId}{l:List Value}{w:World}{v:Value}(h:Calls P f l.toArray w fun e w'=>e= .returned v/\w'=w):Fn P f l w (fun u w'=>u=v/\w=w'):=by
 unfold Fn;exact h.mono fun e w' he=>by obtain⟨rfl,rfl⟩:=he;exact⟨rfl,rfl⟩
theorem eQD (l:List Nat)(c:Nat)(w:World)(hl:∀x∈l,x<256)(hc:c<256):
  Fn Tryz.prog 94 [.string (aQh l),.int .u8 c] w (fun v w'=>v= .int .i64 (ixB c l)/\w=w'):=by
 have h:=Tryz.strings_IndexByte (aQh l) (c:Int) w;have e:((c:Int).toNat.toUInt8)=UInt8.ofNat c:=rfl;rw[dQQ,e,dQq hc hl] at h;exact cQK h
theorem nQH (l:List Nat)(c:Nat)(w:World)(hl:∀x∈l,x<256)(hc:c<256):
  Fn Tryz.prog 204 [.string (aQh l),.string (aQh [c])] w (fun v w'=>v= .int .i64 (l.count c)/\w=w'):=by
 have h:=Tryz.strings_Count_one (aQh l) (UInt8.ofNat c) w;have e:Lib.countByte (aQh l).data.toList (UInt8.ofNat c)=l.count c:=by
  rw[dQQ];unfold Lib.countByte;clear h;induction l with
  | nil=>rfl
  | cons b l ih=>
   rw[List.map_cons,List.count_cons,List.count_cons,ih (fun x hx=>hl x (by simp[hx])),wQf (hl b (by simp)) hc]
 rw[e] at h;exact cQK h
def eQg (l:List Nat):List Nat:=l.takeWhile (fun b=>b !=32)
def gQq (l:List Nat):List Nat:=l.drop ((eQg l).length+1)
theorem qQc (l:List Nat):l.take (eQg l).length=eQg l:=(List.prefix_iff_eq_take.1 (List.takeWhile_prefix _)).symm
theorem qQd {l:List Nat}:(eQg l).length<l.length↔32∈l:=by
 unfold eQg;induction l with
 | nil=>simp
 | cons b l ih=>
  by_cases hb:b=32
  ·subst hb;simp
  ·have:(b !=32)=true:=by simpa using hb
   rw[List.takeWhile_cons,if_pos this];simp only[List.length_cons,Nat.add_lt_add_iff_right,ih,List.mem_cons];constructor
   ·exact fun h=>.inr h
   ·rintro(h | h)
    ·exact absurd h.symm hb
    ·exact h
theorem oQN {l:List Nat}(h:32∈l):l=eQg l++32::gQq l:=by
 unfold gQq eQg;induction l with
 | nil=>simp at h
 | cons b l ih=>
  by_cases hb:b=32
  ·subst hb;simp
  ·have h1:(b !=32)=true:=by simpa using hb
   rw[List.takeWhile_cons,if_pos h1];simp only[List.length_cons,List.drop_succ_cons,List.cons_append];congr 1;refine ih ?_;simp only[List.mem_cons] at h;rcases h with h | h
   ·exact absurd h.symm hb
   ·exact h
theorem mQF {l:List Nat}(h:32∉l):eQg l=l:=by
 unfold eQg;induction l with
 | nil=>rfl
 | cons b l ih=>
  simp only[List.mem_cons,not_or] at h;have h1:(b !=32)=true:=by simpa using fun e=>h.1 e.symm
  rw[List.takeWhile_cons,if_pos h1,ih h.2]
theorem uQH {l:List Nat}(h:32∈l):((l.takeWhile (fun b=>b !=32)).length:Nat)<l.length:=qQd.2 h
theorem uQI (l:List Nat)(w:World)(hl:∀x∈l,x<256)(hlen:l.length<=1000000000000):
  Fn Tryz.prog 201 [.string (aQh l),.string (aQh [32])] w (fun v w'=>(v=if 32∈l then .tuple #[.string (aQh (eQg l)),.string (aQh (gQq l)),.bool true] else .tuple #[.string (aQh l),.string (aQh []),.bool false])/\Ext w w'):=by
 refine aQf (c:=yQ4) aQb Tryz.func201 rfl rfl rfl ?_;have h:=Tryz.stringslite_Index_one (aQh l) (UInt8.ofNat 32) w;rw[dQQ,dQq (by decide) hl] at h;refine call (cQK h) ?_;rintro _ _ ⟨rfl,rfl⟩;unfold ixB;by_cases hm:32∈l
 ·rw[if_pos hm,if_pos hm];have hlt:=uQH hm;refine aQO (by show(0:Int)<=_;omega) ?_;refine vQW aQb (by kernel_rfl) ?_;refine aQ1 (v':=.string (aQh (eQg l))) ⟨Int.le_refl _,by omega,by rw[aQj];omega⟩ ?_ ?_
  ·rw[aQt];exact congrArg (fun x=>Value.string (aQh x)) (qQc l)
  refine aQa (((eQg l).length+1:Nat):Int) (by rw[aQj];show((_:Nat):Int)+1=_;unfold eQg;omega) (by unfold eQg;omega) ?_;refine aQ1 (v':=.string (aQh (gQq l))) ⟨by omega,by rw[aQj];unfold eQg;omega,by rw[aQj];omega⟩ ?_ ?_
  ·rw[aQt];unfold gQq;rw[aQj];show Value.string (aQh ((l.take l.length).drop _))=_;rw[List.take_of_length_le (Nat.le_refl _)];rfl
  exact fun w' hE=>⟨rfl,hE⟩
 ·rw[if_neg hm,if_neg hm];refine aQB (by decide) ?_;exact⟨rfl,Ext.refl _⟩
theorem uQJ (l:List Nat)(w:World)(hl:∀x∈l,x<256)(hlen:l.length<=1000000000000):
  Fn Tryz.prog 143 [.string (aQh l),.string (aQh [32])] w (fun v w'=>(v=if 32∈l then .tuple #[.string (aQh (eQg l)),.string (aQh (gQq l)),.bool true] else .tuple #[.string (aQh l),.string (aQh []),.bool false])/\Ext w w'):=by
 refine aQf (c:=yQu) aQb Tryz.func143 rfl rfl rfl ?_;refine call (uQI l w hl hlen) ?_;rintro v w1 ⟨rfl,hE1⟩;by_cases hm:32∈l
 ·rw[if_pos hm];exact⟨rfl,hE1⟩
 ·rw[if_neg hm];exact⟨rfl,hE1⟩
theorem fQI {kw s:List Nat}(hk:32∉kw):(kw++ [32]).isPrefixOf s=true↔eQg s=kw/\32∈s:=by
 rw[List.isPrefixOf_iff_prefix];constructor
 ·rintro⟨r,rfl⟩;refine⟨?_,by simp⟩;unfold eQg;rw[List.append_assoc,List.takeWhile_append_of_pos (fun x hx=>by simpa using fun e=>hk (by rw[<-e];exact hx))];simp
 ·rintro⟨h1,h2⟩;have:=oQN h2;rw[h1] at this;exact⟨gQq s,by rw[List.append_assoc];exact this.symm⟩
theorem mQG {kw s:List Nat}(h:eQg s=kw):s.drop (kw.length+1)=gQq s:=by unfold gQq;rw[h]
def kIf:List Nat:=[35,105,102]
def oQO:List Nat:=[35,101,108,105,102]
def uQK:List Nat:=[35,105,110,99,108,117,100,101]
theorem wQg {s:List Nat}(h:eQg s=kIf)(hm:32∈s):bQc s= .ifd (gQq s):=by
 unfold bQc;rw[if_pos (show pIf.isPrefixOf s=true from (fQI (kw:=kIf) (by decide)).2 ⟨h,hm⟩),<-mQG h];rfl
theorem uQL {s:List Nat}(h:eQg s=uQK)(hm:32∈s):bQc s= .inc (gQq s):=by
 unfold bQc;rw[if_neg (fun hp=>by have:=((fQI (kw:=kIf) (by decide)).1 hp).1;rw[h] at this;cases this),if_pos (show mQx.isPrefixOf s=true from (fQI (kw:=uQK) (by decide)).2 ⟨h,hm⟩),<-mQG h];rfl
theorem sQu {s:List Nat}(h:eQg s=oQO)(hm:32∈s):bQc s= .elif (gQq s):=by
 unfold bQc;rw[if_neg (fun hp=>by have:=((fQI (kw:=kIf) (by decide)).1 hp).1;rw[h] at this;cases this),if_neg (fun hp=>by have:=((fQI (kw:=uQK) (by decide)).1 hp).1;rw[h] at this;cases this),
  if_pos (show fQf.isPrefixOf s=true from (fQI (kw:=oQO) (by decide)).2 ⟨h,hm⟩),<-mQG h];rfl
theorem wQh {s:List Nat}(h1:¬(eQg s=kIf/\32∈s))(h2:¬(eQg s=uQK/\32∈s))(h3:¬(eQg s=oQO/\32∈s)):bQc s=if s=cQi then .els else if s=cQQ then .en else .txt:=by
 unfold bQc;rw[if_neg (fun(hp:pIf.isPrefixOf s=true)=>h1 ((fQI (kw:=kIf) (by decide)).1 hp)),if_neg (fun(hp:mQx.isPrefixOf s=true)=>h2 ((fQI (kw:=uQK) (by decide)).1 hp)),if_neg (fun(hp:fQf.isPrefixOf s=true)=>h3 ((fQI (kw:=oQO) (by decide)).1 hp))]
theorem sQv:bQc cQi= .els:=rfl
theorem uQM:bQc cQQ= .en:=rfl
end
section
open Go Go.RowKit
section
variable {P:Program} {ops:Array Oper} {md:Region.Mode} {C:World->Prop} {Q:Exit->Act->World->Prop}
def PanW (N:Slots)(pan:List PanicEntry->World->Prop)(Q:Exit->Act->World->Prop):Exit->Act->World->Prop
 | .panic ch,a,w=>a.tmps.size=N.n/\a.defers=N.ds/\pan ch w
 | e,a,w=>Q e a w
theorem PanW.put {N:Slots}{pan:List PanicEntry->World->Prop}{Q:Exit->Act->World->Prop}{ch:List PanicEntry}{a:Act}{d:Option Tmp}{v:Value}{w:World}(h:PanW N pan Q (.panic ch) (a.put d v) w):PanW N pan Q (.panic ch) a w:=by
 obtain⟨h1,h2,h3⟩:=h;cases d with
 | none=>exact⟨h1,h2,h3⟩
 | some d=>exact⟨by simpa [Act.put] using h1,by simpa [Act.put] using h2,h3⟩
theorem PanW.imp {c:Cx}{pan:List PanicEntry->World->Prop}{Q:cQB}(hp:∀ch S w,pan ch w->Q (.panic ch) S w):∀(e:Exit)(a:Act)(w:World),PanW c.N pan (Up c Q) e a w->Up c Q e a w:=fun e a w h=>by
 cases e<;>first | exact h | (obtain⟨h1,h2,h3⟩:=h;exact⟨[],⟨h1,h2,fun k x hk=>by simp[Env.ent] at hk⟩,hp _ _ _ h3⟩)
theorem oQP {N:Slots}{pan:List PanicEntry->World->Prop}{n i:Nat}{oi:Oper}{v:Value}{L:Array Bool->Act->World->Prop}(hi:ops[i]? =some oi)(hsel:∀(j:Nat)(o:Oper) cs b,ops[j]? =some o->o.op≠ .select cs b)
  (hs:rQ3 md ops n) (hin:i<n) (hdone:∀listed a w,L listed a w->∀j∈Region.ready md ops listed,n<=j):
  ∀(f:Nat) (listed:Array Bool) (a:Act) (w:World),HeadInv md ops n listed->
   (∀j oj,ops[j]? =some oj->j≠i->listed.getD j true=false->(∀e∈oj.after,Region.binds md e=true->e.on≠i)->oi.apart ops oj=true)->
   i∈Region.ready md ops listed->YieldsIf P ops C oi v a->C w->
   wpG P md ops (PanW N pan Q) C n L f (listed.setIfInBounds i true) (a.put oi.dst v) w->wpG P md ops (PanW N pan Q) C n L (f+1) listed a w:=by
 intro f;induction f with
 | zero=>
  intro listed a w inv _ hr hy hC H;have hun:=(mem_ready.1 hr).1;refine⟨fun h=>(by rw[h] at hr;cases hr),fun j hj=>?_⟩;have hjn:=fQ8 hs inv hin hun j hj;refine⟨hjn,?_⟩;by_cases hji:j=i
  ·subst hji;exact hy.wpOp hi hC ⟨hC,H⟩
  ·have:=hdone _ _ _ H j (ready_mono hj hji);omega
 | succ f ih=>
  intro listed a w inv hfree hr hy hC H;have hun:=(mem_ready.1 hr).1;refine⟨fun h=>(by rw[h] at hr;cases hr),fun j hj=>?_⟩;have hjn:=fQ8 hs inv hin hun j hj;refine⟨hjn,?_⟩;by_cases hji:j=i
  ·subst hji;exact hy.wpOp hi hC ⟨hC,H⟩
  ·have h1:=(H.2 j (ready_mono hj hji)).2;obtain⟨hjun,oj,hoj,hall⟩:=mem_ready.1 hj;have hnot:∀e∈oj.after,Region.binds md e=true->e.on≠i:=fun e he hb heq=>by
    have h1:=hall e he hb;rw[heq,getD_both hun] at h1;cases h1
   have h2:=wpOp_putIf hoj (hfree j oj hoj hji hjun hnot) (fun cs b=>hsel i oi cs b hi) (fun cs b=>hsel j oj cs b hoj) (fun _ _ _ h=>PanW.put h) hy h1;have hfree':∀k ok,ops[k]? =some ok->k≠i->(listed.setIfInBounds j true).getD k true=false->
     (∀e∈ok.after,Region.binds md e=true->e.on≠i)->oi.apart ops ok=true:=fun k ok hk hki hun hno=>by
    refine hfree k ok hk hki ?_ hno;by_cases hjk:j=k
    ·subst hjk;exact hjun
    ·rw[getD_set_ne true hjk] at hun;exact hun
   refine wpOp_mono (fun a' w' h3=>⟨h3.2.1,ih (listed.setIfInBounds j true) a' w' (inv.set hj hjn) hfree' (ready_mono hr (Ne.symm hji)) h3.1 h3.2.1 ?_⟩) h2;rw[Array.setIfInBounds_comm _ _ hji];exact h3.2.2
end
section
variable {c:Cx} {S:Env} {a:Act}
def fQJ (c:Cx)(pan:List PanicEntry->World->Prop)(all:List Oper)(C:World->Prop):List (Bool×Nat)->Env->World->(Env->World->Prop)->Prop
 | [],S,w,K=>K S w
 | (true,k)::l,S,w,K=>match gQO all k with
  | some o=>eQZ all o S (fun S=>oQu c o S C (fun S=>fQJ c pan all C l S w K)) (fun S=>bQq c S o.dst (.v undef) (fun S=>fQJ c pan all C l S w K))
  | none=>False
 | (false,k)::l,S,w,K=>match gQO all k with
  | some o=>eQZ all o S (fun S=>fQ3 c o S w (fun S w=>C w/\fQJ c pan all C l S w K) (fun e _ w=>match e with
   | .panic ch=>pan ch w
   | _=>False)) (fun S=>bQq c S o.dst (.v undef) (fun S=>fQJ c pan all C l S w K))
  | none=>False
theorem dQr (hg:c.g.Ok){md:Region.Mode}{ops:List Oper}{C:World->Prop}{Q:Exit->Act->World->Prop}{n:Nat}(hs:Region.noSelect ops.toArray=true)(hk:rQ3 md ops.toArray n){K:Env->World->Prop}{pan:List PanicEntry->World->Prop}:
  ∀(l:List (Bool×Nat)) (listed:Array Bool) (S:Env) (a:Act) (w:World),HeadInv md ops.toArray n listed->fQu md ops.toArray n l listed=true->fQJ c pan ops C l S w K->Fits c.N S a->C w->
  wpG c.g.P md ops.toArray (PanW c.N pan Q) C n (fun listed' a' w'=>Region.seqB md ops.toArray (ops.toArray.size-n) n listed'=true/\∃S',Fits c.N S' a'/\K S' w') l.length listed a w
 | [],listed,S,a,w,inv,hB,h,hf,hC=>⟨hB,S,hf,h⟩
 | (true,k)::l,listed,S,a,w,inv,hB,h,hf,hC=>by
  simp only[fQu,Bool.and_eq_true] at hB;obtain⟨⟨⟨hkn,hr⟩,hfr⟩,hB'⟩:=hB;have hkn:k<n:=by rw[Nat.blt_eq] at hkn;exact hkn
  have hr':k∈Region.ready md ops.toArray listed:=by simpa using hr
  obtain⟨_,o,ho,_⟩:=mem_ready.1 hr';have hn:gQO ops k=some o:=by rw[dQx];simpa using ho
  simp only[fQJ,hn] at h;have key:∃v,YieldsIf c.g.P ops.toArray C o v a/\∃S',Fits c.N S' (a.put o.dst v)/\fQJ c pan ops C l S' w K:=by
   rcases bQX h hf with⟨hw,S1,hf1,h1⟩ | ⟨hw,S1,hf1,h1⟩
   ·obtain⟨v,h2,h3⟩:=dQ0 hg h1 hf1;exact⟨v,.inl ⟨hw,h2⟩,h3⟩
   ·exact⟨undef,.inr ⟨hw,rfl⟩,aQo (e:=.v undef) h1 hf1⟩
  obtain⟨v,hy,S',hf',h'⟩:=key;exact oQP ho (Region.noSelect_spec hs) hk hkn (fun listed' a' w' hL=>seqB_ready hL.1) l.length listed a w inv (Region.free_spec ho hfr) hr' hy hC
   (dQr hg hs hk l _ S' _ w (inv.set hr' hkn) hB' h' hf' hC)
 | (false,k)::l,listed,S,a,w,inv,hB,h,hf,hC=>by
  simp only[fQu,Bool.and_eq_true,decide_eq_true_eq] at hB;obtain⟨⟨hkn,hr⟩,hB'⟩:=hB;have hkn:k<n:=by rw[Nat.blt_eq] at hkn;exact hkn
  have hr':k∈Region.ready md ops.toArray listed:=by rw[hr];simp
  obtain⟨_,o,ho,_⟩:=mem_ready.1 hr';have hn:gQO ops k=some o:=by rw[dQx];simpa using ho
  simp only[fQJ,hn] at h;have inv':=inv.set hr' hkn;refine⟨fun h0=>(by rw[hr] at h0;cases h0),fun i hi=>?_⟩;rw[hr] at hi;have hik:i=k:=by simpa using hi
  subst hik;refine⟨hkn,?_⟩;unfold wpOp;simp only[ho];rcases bQX h hf with⟨hw,S1,hf1,h1⟩ | ⟨hw,S1,hf1,h1⟩
  ·rw[if_pos hw];refine .inl ?_;have h2:=cQC hg h1 hf1;have h3:=Oper.wp_mono (K':=fun a' w'=>C w'/\wpG c.g.P md ops.toArray (PanW c.N pan Q) C n (fun listed' a' w'=>Region.seqB md ops.toArray (ops.toArray.size-n) n listed'=true/\∃S',Fits c.N S' a'/\K S' w') l.length (listed.setIfInBounds i true) a' w')
    (fun a' w' ⟨S',hf',hc',hk'⟩=>⟨hc',dQr hg hs hk l _ S' a' w' inv' hB' hk' hf' hc'⟩) h2
   unfold Oper.wp at h3 ⊢;generalize (execOp a.eval o).run c.g.P w=r at*;cases r with
   | ok nx w'=>
    cases nx<;>simp only[Oper.upon] at h3 ⊢ <;> try exact h3
    exact h3.mono fun e w'' he=>by
     cases e with
     | returned v=>exact he
     | panicked ch=>obtain⟨_,hfz,he⟩:=he;exact⟨hfz.size,hfz.defers,he⟩
     | outgrown=>obtain⟨_,_,_,_,he⟩:=he;exact he.elim
   | halt x w'=>cases x<;>simp only[Oper.upon] at h3 ⊢ <;> first | exact h3 | (obtain⟨_,hfz,h3⟩:=h3;exact⟨hfz.size,hfz.defers,h3⟩) | (obtain⟨_,_,h3⟩:=h3;exact h3.elim)
  ·rw[if_neg (by rw[hw];decide)];obtain⟨S',hf',h'⟩:=aQo (e:=.v undef) h1 hf1;exact⟨hC,dQr hg hs hk l _ S' _ w inv' hB' h' hf' hC⟩
theorem oQQ (hg:c.g.Ok){id:Nat}{ops:List Oper}{w:World}{Q:cQB}(pan:List PanicEntry->World->Prop)(hpan:∀ch S w,pan ch w->Q (.panic ch) S w)(C:World->Prop)(n:Nat)(plan:List (Bool×Nat))
  (hB:(Region.noSelect ops.toArray&&Nat.beq plan.length n&&iQy .any ops.toArray n&&fQu .any ops.toArray n plan (Array.replicate ops.toArray.size false))=true) (hC:C w.drew)
  (h:fQJ {c with named:=1000000} pan ops C plan S w.drew (fun S w=>dQa c ops (ops.drop n) S w (fun S w=>Q .normal S w) (fun e _ w=>match e with
   | .panic ch=>pan ch w
   | _=>False))):cQw c id ops S w Q:=by
 unfold cQw;intro a hf;simp only[Bool.and_eq_true] at hB;obtain⟨⟨⟨hs,hl⟩,hsk⟩,hpl⟩:=hB;have hl:=Nat.eq_of_beq_eq_true hl;have hk:=dQZ hsk;have hnle:n<=ops.length:=by
  rcases hk with hk | hk
  ·rw[hk];simp
  ·have:=hk.1;simp at this;omega
 refine Code.wp_mono (PanW.imp hpan) (wp_region_any hg.mixed ?_);have inv0:HeadInv .any ops.toArray n (Array.replicate ops.toArray.size false):=
  ⟨by simp,fun j oj _ hl=>(by rw[getD_replicate_false] at hl;cases hl),fun t _ ht=>getD_in (by simpa using ht) (getD_replicate_false _ _)⟩
 have H:=dQr (c:={c with named:=1000000}) hg (Q:=Up c Q) hs hk plan _ S a _ inv0 hpl h hf hC;have hdl:(ops.drop n).length=ops.toArray.size-n:=by simp
 have H2:=dQC (Q:=PanW c.N pan (Up c Q)) (g:=ops.toArray.size-n) (fun listed' a' w' hL=>by
  obtain⟨hq,S',hf',hk'⟩:=hL;have h2:=bQI (c:=c) hg ops _ _ _ _ hk' hf';have:=wpAny_of_seq (P:=c.g.P) (md:=.any) (ops:=ops.toArray) (Q':=PanW c.N pan (Up c Q)) (ops.drop n) n listed' a' w' (fun j=>by simp) (by rw[hdl];exact hq) (bQF (fun e a w hq=>by
   cases e with
   | normal=>exact hq
   | panic ch=>obtain⟨_,hfz,h⟩:=hq;exact⟨hfz.size,hfz.defers,h⟩
   | _=>exact absurd hq (by rintro⟨_,_,h⟩;exact h)) h2)
  rwa [hdl] at this) _ _ _ _ H
 rw[hl,show n+(ops.toArray.size-n)=ops.toArray.size by simp;omega] at H2;exact H2
end
end
end
section
open Go Go.RowKit
def dpL (l:List Nat):Int:=if pIf.isPrefixOf l then 1 else if l=cQQ then -1 else 0
def dp (ls:List (List Nat)):Int:=(ls.map dpL).sum
theorem bQZ (l:List Nat)(ls:List (List Nat)):dp (l::ls)=dpL l+dp ls:=by simp[dp]
theorem eQE (a b:List (List Nat)):dp (a++b)=dp a+dp b:=by simp[dp]
theorem tQv (a:List (List Nat)):dp a.reverse=dp a:=by
 induction a with
 | nil=>rfl
 | cons x a ih=>rw[List.reverse_cons,eQE,ih,bQZ,bQZ];simp[dp];omega
theorem eQF {l:List Nat}(h:bQc l= .txt):dpL l=0/\l≠cQQ/\l≠cQi/\pIf.isPrefixOf l=false:=by
 unfold bQc at h;split at h
 ·cases h
 rename_i h1;split at h
 ·cases h
 split at h
 ·cases h
 split at h
 ·cases h
 split at h
 ·cases h
 ·rename_i h4 h5;have h1:pIf.isPrefixOf l=false:=Bool.eq_false_iff.2 h1;refine⟨?_,h5,h4,h1⟩;unfold dpL;rw[if_neg (by rw[h1];decide),if_neg h5]
def sQw:List (List Nat)->List (List Nat)->Nat->Nat->Int->Nat
 | x::a,y::b,k,best,o=>if x=y then sQw a b (k+1) (if o+dpL x=0 then k+1 else best) (o+dpL x)else best
 | _,_,_,best,_=>best
def ClP (a b:List (List Nat))(o:Int)(q:Nat):Prop:=1<=q/\q<=a.length/\q<=b.length/\a.take q=b.take q/\o+dp (a.take q)=0
theorem jQM {x y:List Nat}{a b:List (List Nat)}{o:Int}{q:Nat}(hq:1<=q):ClP (x::a) (y::b) o (q+1)↔x=y/\ClP a b (o+dpL x) q:=by
 unfold ClP;simp only[List.length_cons,List.take_succ_cons,List.cons.injEq,bQZ];constructor
 ·rintro⟨_,h2,h3,⟨rfl,h4⟩,h5⟩;exact⟨rfl,hq,by omega,by omega,h4,by omega⟩
 ·rintro⟨rfl,_,h2,h3,h4,h5⟩;exact⟨by omega,by omega,by omega,⟨rfl,h4⟩,by omega⟩
theorem lQi:∀(a b:List (List Nat))(k best:Nat)(o:Int),((∀q,¬ClP a b o q)/\sQw a b k best o=best)∨∃p,ClP a b o p/\(∀q,ClP a b o q->q<=p)/\sQw a b k best o=k+p
 | [],b,k,best,o=>.inl ⟨fun q h=>by have:=h.1;have:=h.2.1;simp at this;omega,by cases b<;>rfl⟩
 | x::a,[],k,best,o=>.inl ⟨fun q h=>by have:=h.1;have:=h.2.2.1;simp at this;omega,rfl⟩
 | x::a,y::b,k,best,o=>by
  rw[sQw];by_cases hxy:x=y
  ·rw[if_pos hxy];have one:ClP (x::a) (y::b) o 1↔o+dpL x=0:=by
    unfold ClP;simp[hxy,dp]
   rcases lQi a b (k+1) (if o+dpL x=0 then k+1 else best) (o+dpL x)with⟨h1,h2⟩ | ⟨p,h1,h2,h3⟩
   ·have lst:∀q,ClP (x::a) (y::b) o q->q=1:=fun q hq=>by
     have:=hq.1
     match q,hq with
     | 1,_=>rfl
     | q+2,hq=>exact absurd ((jQM (by omega)).1 hq).2 (h1 _)
    by_cases h0:o+dpL x=0
    ·rw[if_pos h0] at h2 ⊢;exact .inr ⟨1,one.2 h0,fun q hq=>by rw[lst q hq];exact Nat.le_refl _,h2⟩
    ·rw[if_neg h0] at h2 ⊢;exact .inl ⟨fun q hq=>by have:=lst q hq;subst this;exact h0 (one.1 hq),h2⟩
   ·refine .inr ⟨p+1,(jQM h1.1).2 ⟨hxy,h1⟩,fun q hq=>?_,by rw[h3];omega⟩
    match q,hq with
    | 0,_=>omega
    | 1,_=>omega
    | q+2,hq=>have:=h2 _ ((jQM (by omega)).1 hq).2;omega
  ·rw[if_neg hxy];refine .inl ⟨fun q hq=>?_,rfl⟩
   match q,hq with
   | 0,hq=>exact absurd hq.1 (by omega)
   | q+1,hq=>have:=hq.2.2.2.1;simp at this;exact hxy this.1
def cmn (a b:List (List Nat)):Nat:=sQw a b 0 0 0
theorem nQI (a b:List (List Nat)):cmn a b<=a.length/\cmn a b<=b.length/\a.take (cmn a b)=b.take (cmn a b)/\dp (a.take (cmn a b))=0/\∀q,q<=a.length->q<=b.length->a.take q=b.take q->dp (a.take q)=0->q<=cmn a b:=by
 unfold cmn;rcases lQi a b 0 0 0 with⟨h1,h2⟩ | ⟨p,h1,h2,h3⟩
 ·rw[h2];refine⟨Nat.zero_le _,Nat.zero_le _,rfl,rfl,fun q q1 q2 q3 q4=>?_⟩;by_cases h0:q=0
  ·omega
  ·exact absurd ⟨by omega,q1,q2,q3,by omega⟩ (h1 q)
 ·rw[h3,Nat.zero_add];obtain⟨p1,p2,p3,p4,p5⟩:=h1;refine⟨p2,p3,p4,by omega,fun q q1 q2 q3 q4=>?_⟩;by_cases h0:q=0
  ·omega
  ·exact h2 q ⟨by omega,q1,q2,q3,by omega⟩
def jQN (a b:List (List Nat)):Nat:=cmn a.reverse b.reverse
theorem eQS {α:Type}(a:List α)(q:Nat)(h:q<=a.length):a.reverse.take q=(a.drop (a.length-q)).reverse:=by
 rw[List.take_reverse]
theorem mQH (a b:List (List Nat)):jQN a b<=a.length/\jQN a b<=b.length/\a.drop (a.length-jQN a b)=b.drop (b.length-jQN a b)/\dp (a.drop (a.length-jQN a b))=0/\∀q,q<=a.length->q<=b.length->a.drop (a.length-q)=b.drop (b.length-q)->dp (a.drop (a.length-q))=0->q<=jQN a b:=by
 obtain⟨h1,h2,h3,h4,h5⟩:=nQI a.reverse b.reverse;rw[List.length_reverse] at h1 h2;unfold jQN;rw[eQS _ _ h1,eQS _ _ h2] at h3;rw[eQS _ _ h1,tQv] at h4;refine⟨h1,h2,by simpa using h3,h4,fun q q1 q2 q3 q4=>h5 q (by simpa using q1) (by simpa using q2) ?_ ?_⟩
 ·rw[eQS _ _ q1,eQS _ _ q2,q3]
 ·rw[eQS _ _ q1,tQv];exact q4
def ifT (nm:List (List Nat))(v:Nat)(ng:Bool):List Nat:=pIf++((if ng then [33] else [])++(nm[v]?).getD [])
def dQ8 (nm:List (List Nat))(v:Nat)(h l:List (List Nat)):List (List Nat):=
 let p:=cmn h l
 let h1:=h.drop p
 let l1:=l.drop p
 let s:=jQN h1 l1
 let h2:=h1.take (h1.length-s)
 let l2:=l1.take (l1.length-s)
 h.take p++((if h2=[] then ifT nm v true::l2 else ifT nm v false::(h2++if l2=[] then [] else cQi::l2))++cQQ::h1.drop (h1.length-s))
inductive Tr where
 | nil
 | ln (s:List Nat) (r:Tr)
 | sc (v:Nat) (ng:Bool) (h l r:Tr)
def fl (nm:List (List Nat)):Tr->List (List Nat)
 | .nil=>[]
 | .ln s r=>s::fl nm r
 | .sc v ng h .nil r=>ifT nm v ng::(fl nm h++cQQ::fl nm r)
 | .sc v ng h l r=>ifT nm v ng::(fl nm h++cQi::(fl nm l++cQQ::fl nm r))
def ap:Tr->Tr->Tr
 | .nil,t=>t
 | .ln s r,t=>.ln s (ap r t)
 | .sc v ng h l r,t=>.sc v ng h l (ap r t)
def elT (nm:List (List Nat))(l:Tr):List (List Nat):=match l with
 | .nil=>[]
 | l=>cQi::fl nm l
theorem eQY (nm:List (List Nat))(v:Nat)(ng:Bool)(h l r:Tr):fl nm (.sc v ng h l r)=ifT nm v ng::((fl nm h++elT nm l)++cQQ::fl nm r):=by
 cases l<;>simp[fl,elT]
theorem gQS (nm:List (List Nat)):∀a b:Tr,fl nm (ap a b)=fl nm a++fl nm b
 | .nil,b=>rfl
 | .ln s r,b=>by rw[ap,fl,gQS nm r b];rfl
 | .sc v ng h l r,b=>by rw[ap,eQY,eQY,gQS nm r b];simp
def Wt (n:Nat):Tr->Prop
 | .nil=>True
 | .ln s r=>bQc s= .txt/\Wt n r
 | .sc v _ h l r=>v<n/\Wt n h/\Wt n l/\Wt n r
theorem hQK {n:Nat}:∀{a b:Tr},Wt n (ap a b)↔Wt n a/\Wt n b
 | .nil,b=>by simp[ap,Wt]
 | .ln s r,b=>by simp[ap,Wt,hQK (a:=r) (b:=b),and_assoc]
 | .sc v ng h l r,b=>by simp[ap,Wt,hQK (a:=r) (b:=b),and_assoc]
theorem hQL (nm:List (List Nat))(v:Nat)(ng:Bool):dpL (ifT nm v ng)=1:=by
 unfold dpL ifT;rw[if_pos (by simp[pIf,List.isPrefixOf])]
theorem eQT:dpL cQi=0:=by decide
theorem hQM:dpL cQQ= -1:=by decide
theorem iQp (nm:List (List Nat)){n:Nat}:∀{t:Tr},Wt n t->dp (fl nm t)=0/\∀k,0<=dp ((fl nm t).take k)
 | .nil,_=>⟨rfl,fun k=>by simp[fl,dp]⟩
 | .ln s r,h=>by
  obtain⟨h1,h2⟩:=iQp nm (t:=r) h.2;have e:=(eQF h.1).1;refine⟨by rw[fl,bQZ,e,h1];rfl,fun k=>?_⟩;cases k with
  | zero=>simp[dp]
  | succ k=>rw[fl,List.take_succ_cons,bQZ,e];have:=h2 k;omega
 | .sc v ng h l r,hw=>by
  obtain⟨_,w1,w2,w3⟩:=hw;obtain⟨a1,a2⟩:=iQp nm w1;obtain⟨b1,b2⟩:=iQp nm w2;obtain⟨c1,c2⟩:=iQp nm w3;have e1:dp (elT nm l)=0:=by
   cases l with
   | nil=>rfl
   | _=>rw[elT,bQZ,eQT,b1];rfl;exact fun e=>by cases e
  have e2:∀k,0<=dp ((elT nm l).take k):=fun k=>by
   cases k with
   | zero=>simp[dp]
   | succ k=>
    cases l with
    | nil=>simp[elT,dp]
    | _=>
     rw[elT,List.take_succ_cons,bQZ,eQT]
     ·have:=b2 k;omega
     ·exact fun e=>by cases e
  rw[eQY];refine⟨by rw[bQZ,eQE,eQE,bQZ,hQL,hQM,a1,e1,c1];rfl,fun k=>?_⟩;cases k with
  | zero=>simp[dp]
  | succ k=>
   rw[List.take_succ_cons,bQZ,hQL,List.take_append,List.take_append,eQE,eQE];have h1:=a2 k;have h2:=e2 (k-(fl nm h).length);generalize k-(fl nm h++elT nm l).length=q;cases q with
   | zero=>simp only[List.take_zero];show 0<=_+(_+_+dp []);simp only[dp,List.map_nil,List.sum_nil];simp only[dp] at h1 h2;omega
   | succ q=>rw[List.take_succ_cons,bQZ,hQM];have:=c2 q;omega
deriving instance DecidableEq for Dir
def pcs:List Nat->List (List Nat)
 | []=>[[]]
 | b::l=>if b=10 then [10]::pcs l else match pcs l with
  | []=>[[b]]
  | s::ls=>(b::s)::ls
theorem qQe:∀l,pcs l≠ []
 | []=>by simp[pcs]
 | b::l=>by
  unfold pcs;split
  ·simp
  ·split<;>simp
theorem jQO:∀l,(pcs l).length=l.count 10+1
 | []=>rfl
 | b::l=>by
  have ih:=jQO l;unfold pcs;split
  ·rename_i h;subst h;simp[ih]
  ·rename_i h;rw[List.count_cons_of_ne h];split
   ·rename_i e;exact absurd e (qQe l)
   ·rename_i e;rw[e] at ih;exact ih
theorem jQP:∀{l},10∉l->pcs l=[l]
 | [],_=>rfl
 | b::l,h=>by
  simp only[List.mem_cons,not_or] at h;unfold pcs;rw[if_neg (fun e=>h.1 e.symm),jQP h.2]
def hdL (l:List Nat):List Nat:=l.takeWhile (fun b=>b !=10)
theorem wQi {l:List Nat}(h:10∈l):(hdL l).length<l.length:=by
 unfold hdL;induction l with
 | nil=>cases h
 | cons b l ih=>
  by_cases hb:b=10
  ·subst hb;simp
  ·have h1:(b !=10)=true:=by simpa using hb
   rw[List.takeWhile_cons,if_pos h1];simp only[List.length_cons,Nat.add_lt_add_iff_right];exact ih ((List.mem_cons.1 h).resolve_left (fun e=>hb e.symm))
theorem nQJ:∀{l},10∈l->pcs l=l.take ((hdL l).length+1)::pcs (l.drop ((hdL l).length+1))
 | [],h=>by cases h
 | b::l,h=>by
  by_cases hb:b=10
  ·subst hb;rw[pcs,if_pos rfl];have e:hdL (10::l)=[]:=by simp[hdL]
   rw[e];rfl
  ·have h1:(b !=10)=true:=by simpa using hb
   have e:hdL (b::l)=b::hdL l:=by unfold hdL;rw[List.takeWhile_cons,if_pos h1]
   have ih:=nQJ ((List.mem_cons.1 h).resolve_left (fun e=>hb e.symm));rw[pcs,if_neg hb,ih,e];rfl
theorem tQw:∀{l},(∀x∈l,x<256)->∀s∈pcs l,(∀x∈s,x<256)/\s.length<=l.length
 | [],_,s,hs=>by
  have:s=[]:=by simpa [pcs] using hs
  subst this;exact⟨(fun x hx=>by cases hx),Nat.le_refl _⟩
 | b::l,h,s,hs=>by
  have ih:=tQw (l:=l) (fun x hx=>h x (by simp[hx]));unfold pcs at hs;split at hs
  ·rcases List.mem_cons.1 hs with rfl | hs
   ·exact⟨by decide,by simp⟩
   ·exact⟨(ih s hs).1,Nat.le_succ_of_le (ih s hs).2⟩
  ·split at hs
   ·rename_i e;exact absurd e (qQe l)
   ·rename_i t ts e;rw[e] at ih;rcases List.mem_cons.1 hs with rfl | hs
    ·have:=ih t (by simp);exact⟨fun x hx=>(List.mem_cons.1 hx).elim (fun e=>e▸h b (by simp)) (this.1 x),by simp;exact this.2⟩
    ·have:=ih s (by simp[hs]);exact⟨this.1,Nat.le_succ_of_le this.2⟩
def qQf (l:List Nat):List (List Nat):=if(pcs l).getLast? =some [] then(pcs l).dropLast else pcs l
theorem tQx:∀{l},cQ6 l->pcs l=(aQi l).map (·++ [10])++ [[]]
 | [],_=>rfl
 | b::l,h=>by
  have hl:cQ6 l:=by
   cases l with
   | nil=>exact .inl rfl
   | cons c l=>right;rcases h with h | h;cases h;simpa using h
  have ih:=tQx hl;unfold pcs aQi;by_cases hb:b=10
  ·subst hb;rw[if_pos rfl,if_pos rfl,ih];rfl
  ·rw[if_neg hb,if_neg hb,ih];cases hls:aQi l with
   | nil=>
    have:=aQR hl;rw[hls] at this;have:l=[]:=this.symm;subst this;rcases h with h | h
    ·cases h
    ·simp at h;exact absurd h hb
   | cons t ls=>rfl
theorem jQQ {l:List Nat}(h:cQ6 l):qQf l=(aQi l).map (·++ [10]):=by
 unfold qQf;rw[tQx h,if_pos (by simp)];simp
def lQY (s:List Nat):Bool:=pIf.isPrefixOf s||fQf.isPrefixOf s||mQx.isPrefixOf s||decide (s=cQi++ [10])||decide (s=cQQ++ [10])
theorem lQj:∀{p r:List Nat},10∉p->p.isPrefixOf (r++ [10])=p.isPrefixOf r
 | [],r,_=>by simp
 | a::p,[],h=>by
  simp only[List.mem_cons,not_or] at h;have:(a==10)=false:=by simpa using fun e:a=10=>h.1 e.symm
  simp[List.isPrefixOf,this]
 | a::p,b::r,h=>by
  simp only[List.mem_cons,not_or] at h;simp only[List.cons_append,List.isPrefixOf,lQj h.2]
theorem jQR (r:List Nat):lQY (r++ [10])=decide (bQc r≠ .txt):=by
 unfold lQY;rw[lQj (by decide),lQj (by decide),lQj (by decide)];have e1:∀k:List Nat,decide (r++ [10]=k++ [10])=decide (r=k):=fun k=>by simp
 rw[e1,e1];unfold bQc;by_cases h1:pIf.isPrefixOf r=true
 ·rw[if_pos h1,h1];simp
 by_cases h2:mQx.isPrefixOf r=true
 ·rw[if_neg h1,if_pos h2,h2];simp
 by_cases h3:fQf.isPrefixOf r=true
 ·rw[if_neg h1,if_neg h2,if_pos h3,h3];simp
 by_cases h4:r=cQi
 ·rw[if_neg h1,if_neg h2,if_neg h3,if_pos h4,decide_eq_true h4];simp
 by_cases h5:r=cQQ
 ·rw[if_neg h1,if_neg h2,if_neg h3,if_neg h4,if_pos h5,decide_eq_true h5];simp
 rw[if_neg h1,if_neg h2,if_neg h3,if_neg h4,if_neg h5,Bool.eq_false_iff.2 h1,Bool.eq_false_iff.2 h2,Bool.eq_false_iff.2 h3,decide_eq_false h4,decide_eq_false h5];simp
def bQE (l:List Nat):Bool:=eQC l&&(aQi l).all (fun s=>decide (bQc s= .txt))
theorem uQN (ls:List (List Nat)):((ls.map (·++ [10])).any lQY)= !(ls.all (fun s=>decide (bQc s= .txt))):=by
 induction ls with
 | nil=>rfl
 | cons s ls ih=>
  rw[List.map_cons,List.any_cons,List.all_cons,ih,jQR,Bool.not_and];congr 1;by_cases h:bQc s= .txt<;>simp[h]
theorem tQy (r:List Nat):pIf.isPrefixOf (r++ [10])=pIf.isPrefixOf r:=lQj (by decide)
theorem qQg (l:List Nat)(w:World)(hl:∀x∈l,x<256):
  Fn Tryz.prog 209 [.string (aQh l),.string (aQh [10])] w (fun v w'=>v= .int .i64 (ixB 10 l)/\w=w'):=by
 refine aQf (c:=yQ9) aQb Tryz.func209 rfl rfl rfl ?_;have h:=Tryz.stringslite_Index_one (aQh l) (UInt8.ofNat 10) w;rw[dQQ,dQq (by decide) hl] at h;refine call (cQK h) ?_;rintro _ _ ⟨rfl,rfl⟩;exact⟨rfl,rfl⟩
theorem gQr (l p:List Nat)(w:World)(hl:∀x∈l,x<256)(hp:∀x∈p,x<256):
  Fn Tryz.prog 96 [.string (aQh l),.string (aQh p)] w (fun v w'=>v= .bool (p.isPrefixOf l)/\w=w'):=by
 refine aQf (c:=c96) aQb Tryz.func96 rfl rfl rfl ?_;refine call (gQE l p w hl hp) ?_;rintro _ _ ⟨rfl,rfl⟩;exact⟨rfl,rfl⟩
theorem qQh (ds:List (List Nat))(n i:Nat)(s:List Nat)(hi:ds.length=i)(hn:i<n):
  (aQ6 ds++List.replicate (n-i) (Value.string ⟨#[]⟩)).set i (.string (aQh s))=aQ6 (ds++ [s])++List.replicate (n-(i+1)) (Value.string ⟨#[]⟩):=by
 have hl:(aQ6 ds).length=i:=by rw[aQQ,hi]
 rw[List.set_append_right _ _ (by omega),hl,Nat.sub_self,show n-i=(n-(i+1))+1 by omega,List.replicate_succ,List.set_cons_zero];simp[aQ6]
def Sn (w:World)(A:Option Addr)(n c:Nat)(cs:List Value):Prop:=Sl w 1 A n c cs/\(0<n->∃g o,A=some ⟨g,o,none⟩)
theorem Sn.ext {w w':World}{A:Option Addr}{n c:Nat}{cs:List Value}(h:Sn w A n c cs)(k:Ext w w'):Sn w' A n c cs:=⟨h.1.ext k,h.2⟩
set_option maxHeartbeats 800000 in
theorem mQI (l:List Nat)(w:World)(hl:∀x∈l,x<256)(hlen:l.length<=1000000000):
  Fn Tryz.prog 153 [.string (aQh l),.string (aQh [10]),.int .i64 1,.int .i64 (-1)] w (fun u w'=>∃A c,u= .slice A (pcs l).length c/\Ext w w'/\Sn w' A (pcs l).length c (aQ6 (pcs l))):=by
 have hpl:=jQO l;have hcl:l.count 10<=l.length:=List.count_le_length;have hsz:=aQj l;refine aQf (c:={yQC with cuts:=[]}) aQb Tryz.func153 rfl rfl rfl ?_;refine aQu (by decide) ?_;refine aQN rfl ?_;refine aQO (by decide) ?_;refine call (nQH l 10 w hl (by decide)) ?_;rintro _ _ ⟨rfl,rfl⟩;refine aQa ((l.count 10+1:Nat):Int) (by show((_:Nat):Int)+1=_;omega) (by omega) ?_;refine aQa ((l.length+1:Nat):Int) (by rw[hsz];omega) (by omega) ?_;refine norm (m:=((l.count 10+1:Nat):Int)) (by split<;>omega) ?_;refine jQh aQb rfl rfl rfl rfl rfl rfl rfl rfl (by show 16*(l.count 10+1)<=_;omega) (by unfold maxLen;omega) (fun w1 hE1 hz1 hB1=>?_);refine aQa ((l.count 10:Nat):Int) (by omega) (by omega) ?_;generalize hcn:l.count 10=cn at*;refine loop aQb [10,0] (fun s:Nat×List (List Nat)×List Nat=>[.int .i64 s.1,.string (aQh s.2.2)]) (fun s w'=>Mod (·=w.heap.size) w1 w'/\s.1<=cn/\s.2.1.length=s.1/\pcs l=s.2.1++pcs s.2.2/\(∀x∈s.2.2,x<256)/\s.2.2.length<=l.length/\Blk w' w.heap.size 9 (aQ6 s.2.1++List.replicate (cn+1-s.1) (Value.string ⟨#[]⟩))) (fun s _=>cn-s.1) (0,[],l) rfl ⟨Mod.refl _ _,Nat.zero_le _,rfl,rfl,hl,Nat.le_refl _,hB1⟩ ?_;rintro⟨i,ds,r⟩ w2 ⟨hM2,hi,hds,hpc,hr8,hrl,hB2⟩;simp only at hi hds hpc hr8 hrl hB2;have hrs:=aQj r;have hlen2:=congrArg List.length hpc;rw[List.length_append,hpl,hds] at hlen2;refine aQq (fun c1=>?_) (fun c1=>?_)
 ·have hin:i<cn:=by simp only at c1;omega
  have hm:10∈r:=Classical.byContradiction (fun hh=>by rw[jQP hh] at hlen2;simp at hlen2;omega);have hhd:=wQi hm;have e1:ixB 10 r=((hdL r).length:Nat):=by unfold ixB hdL;rw[if_pos hm]
  have hcall:=qQg r w2 hr8;rw[e1] at hcall;refine call hcall ?_;rintro _ _ ⟨rfl,rfl⟩;refine aQB (by omega) ?_;refine aQa (((hdL r).length+1:Nat):Int) (by omega) (by omega) ?_;refine aQ1 (v':=.string (aQh (r.take ((hdL r).length+1)))) ⟨by omega,by omega,by rw[hrs];omega⟩ (by rw[aQt];rfl) ?_;refine index (j:=i) (by omega) ?_;refine aQn hB2 (by rw[List.length_append,aQQ,List.length_replicate];omega) (fun w3 hM3 hB3=>?_);rw[qQh ds (cn+1) i _ hds (by omega)] at hB3;refine aQa (((hdL r).length+1:Nat):Int) (by have:(aQh [10]).size=1:=rfl;omega) (by omega) ?_;refine aQ1 (v':=.string (aQh (r.drop ((hdL r).length+1)))) ⟨by omega,by rw[hrs];omega,by rw[hrs];omega⟩ (by
   rw[aQt,hrs];show Value.string (aQh ((r.take r.length).drop _))=_;rw[List.take_of_length_le (Nat.le_refl _)];rfl) ?_
  refine aQa ((i+1:Nat):Int) (by show((i:Nat):Int)+1=_;omega) (by omega) ?_;refine⟨(i+1,ds++ [r.take ((hdL r).length+1)],r.drop ((hdL r).length+1)),rfl,⟨hM2.trans hM3 (fun i hi=>.inl hi),hin,by simp[hds],?_,fun x hx=>hr8 x (List.mem_of_mem_drop hx),by simp only[List.length_drop];omega,hB3⟩,by show cn-(i+1)<cn-i;omega⟩;simp only;rw[hpc,nQJ hm];simp
 ·have hin:i=cn:=by simp only at c1;omega
  subst hin;have hno:10∉r:=fun hm=>by have h1:=jQO r;have:=List.count_pos_iff.2 hm;omega
  refine index (j:=i) (by omega) ?_;refine aQn hB2 (by rw[List.length_append,aQQ,List.length_replicate];omega) (fun w3 hM3 hB3=>?_);rw[qQh ds (i+1) i _ hds (by omega)] at hB3;refine aQa ((i+1:Nat):Int) (by show((i:Nat):Int)+1=_;omega) (by omega) ?_;refine bQ1 aQb rfl rfl rfl rfl rfl rfl (Nat.le_refl _) ?_;have e2:pcs l=ds++ [r]:=by rw[hpc,jQP hno]
  have hfin:=Sl.own (sz:=1) (n:=i+1) (c:=i+1) hB3 (Nat.le_refl _) (by unfold maxLen;omega) (by rw[List.length_append,aQQ,List.length_append,hds];simp);rw[Nat.sub_self,List.replicate_zero,List.append_nil,Nat.mul_one,List.take_of_length_le (by rw[aQQ,List.length_append,hds];simp)] at hfin;refine⟨_,_,by rw[hpl],(hM2.trans hM3 (fun i hi=>.inl hi)).ext hE1 (fun i hi=>by omega),?_⟩;rw[hpl,e2];exact⟨hfin,fun _=>⟨_,_,rfl⟩⟩
theorem jQS (l:List Nat)(w:World)(hl:∀x∈l,x<256)(hlen:l.length<=1000000000):
  Fn Tryz.prog 95 [.string (aQh l),.string (aQh [10])] w (fun u w'=>∃A c,u= .slice A (pcs l).length c/\Ext w w'/\Sn w' A (pcs l).length c (aQ6 (pcs l))):=by
 refine aQf (c:={c95 with cuts:=[]}) aQb Tryz.func95 rfl rfl rfl ?_;refine call (mQI l w hl hlen) ?_;rintro _ w1 ⟨A,c,rfl,hE1,hS1⟩;exact⟨A,c,rfl,hE1,hS1⟩
def iQW (w:World)(u:Value)(ls:List (List Nat))(w':World):Prop:=∃A c,u= .slice A ls.length c/\Ext w w'/\Sn w' A ls.length c (aQ6 ls)
theorem fQK (l:List Nat)(w:World)(hl:∀x∈l,x<256)(hlen:l.length<=1000000000):
  Fn Tryz.prog 46 [.string (aQh l)] w (fun u w'=>iQW w u (qQf l) w'):=by
 have hpl:=jQO l;have hcl:l.count 10<=l.length:=List.count_le_length;refine aQf (c:={c46 with cuts:=[]}) aQb Tryz.func46 rfl rfl rfl ?_;refine call (jQS l w hl hlen) ?_;rintro _ w1 ⟨A,c,rfl,hE1,hS1⟩;have hle:=hS1.1.le;refine aQa (((pcs l).length-1:Nat):Int) (by omega) (by omega) ?_;obtain⟨z,hz⟩:∃z,(pcs l).getLast? =some z:=⟨_,List.getLast?_eq_some_getLast (qQe l)⟩
 have hz':(pcs l)[(pcs l).length-1]? =some z:=by rw[<-List.getLast?_eq_getElem?];exact hz
 refine aQ3 hS1.1 (by omega) (fun ad u hA hu hcell=>?_);rw[cQI hz'] at hu;cases hu;refine load hcell ?_;have hz8:=(tQw hl z (List.mem_of_getElem? hz')).1;by_cases h0:z=[]
 ·subst h0;refine aQM rfl ?_;refine aQa (((pcs l).length-1:Nat):Int) (by omega) (by omega) ?_;refine bQ1 aQb rfl rfl rfl rfl rfl rfl (by omega) ?_;have e:qQf l=(pcs l).dropLast:=by unfold qQf;rw[if_pos hz]
  have h2:=hS1.1.take (m:=(pcs l).length-1) (by omega);refine⟨A,c,by rw[e,List.length_dropLast],hE1,?_⟩;rw[e,List.length_dropLast];have e3:aQ6 (pcs l).dropLast=(aQ6 (pcs l)).take (((pcs l).length-1)*1):=by
   rw[Nat.mul_one,List.dropLast_eq_take];simp[aQ6,List.map_take]
  rw[e3];exact⟨h2,fun h0=>hS1.2 (by omega)⟩
 ·refine aQB (fun e=>h0 (aQD hz8 (by simp) e)) ?_;have e:qQf l=pcs l:=by unfold qQf;rw[if_neg (fun hh=>h0 (Option.some.inj (hz.symm.trans hh)))]
  exact⟨A,c,by rw[e],hE1,by rw[e];exact hS1⟩
theorem oQR (x z:Bool)(w:World):Fn Tryz.prog 170 [.bool x,.bool false,.bool z] w (fun v w'=>v= .bool (opB 4 x z)/\w=w'):=by
 refine aQf (c:={yQQ with cuts:=[]}) aQb Tryz.func170 rfl rfl rfl ?_;cases x with
 | true=>
  refine aQM rfl ?_;refine aQN rfl ?_;refine aQN rfl ?_;exact⟨rfl,rfl⟩
 | false=>
  refine aQN rfl ?_;refine aQM rfl ?_;exact⟨by cases z<;>rfl,rfl⟩
structure CPz where
 ox:Nat
 mx:Nat
 lx:Nat
 ax:Nat
 bx:Nat
 pb:Nat
 km:Nat
 mm:Nat
 D:AD
def CPz.caps (p:CPz):List Value:=[VP.ptr p.ox,VP.ptr p.mx,VP.ptr p.lx,VP.ptr p.ax,VP.ptr p.bx]
def CPz.clo (p:CPz):Value:=.func (.func 188) #[] #[VP.ptr p.ox,VP.ptr p.mx,VP.ptr p.lx,VP.ptr p.ax,VP.ptr p.bx]
def CPz.lC (p:CPz):List Value:=[.slice p.D.A p.D.n p.D.c,.int .i64 p.D.ra,.slice none 0 0,.int .i64 0,.slice p.D.B p.D.m p.D.d,.int .i64 p.D.rb]
structure CKz (w:World) (base:Nat) (p:CPz):Prop where
 hF:p.D.op=4
 oxb:Blk w p.ox 205 [.func (.func 170) #[] #[]]
 mxb:Blk w p.mx 272 [.map (some p.mm)]
 lxb:Blk w p.lx 204 p.lC
 axb:Blk w p.ax 273 [p.clo]
 bxb:Blk w p.bx 174 [VP.ptr p.pb]
 as_:SB w p.D.A p.D.n p.D.c p.D.a
 bs:SB w p.D.B p.D.m p.D.d p.D.b
 off:∀k,k=p.ox∨k=p.mx∨k=p.lx∨k=p.ax∨k=p.bx->k<base/\k≠p.pb/\k≠p.km/\k≠p.mm
 rowA:∀ad,p.D.A=some ad->0<p.D.n->ad.block<base/\ad.block≠p.pb/\ad.block≠p.km/\ad.block≠p.mm
 rowB:∀ad,p.D.B=some ad->0<p.D.m->ad.block<base/\ad.block≠p.pb/\ad.block≠p.km/\ad.block≠p.mm
def CSz (p:CPz)(NA:Option Addr):Nat->Prop:=fun k=>k=p.mm∨BS p.pb p.km NA k
theorem CSz.moved {w:World}{p:CPz}{A A':Option Addr}(h:Moved w A A'):∀k,CSz p A' k->CSz p A k∨w.heap.size<=k:=by
 rintro k (rfl | hk)
 ·exact .inl (.inl rfl)
 ·rcases BS.moved h k hk with h | h
  ·exact .inl (.inr h)
  ·exact .inr h
theorem CSz.trans {w w1 w2:World}{p:CPz}{A A1:Option Addr}(hm:Mod (CSz p A) w w1)(hv:Moved w A A1)(h:Mod (CSz p A1) w1 w2):Mod (CSz p A) w w2:=hm.trans h (CSz.moved hv)
theorem CSz.no {p:CPz}{base:Nat}{NA:Option Addr}(hr:∀i,aQx NA i->base<=i){k:Nat}(h:k<base/\k≠p.pb/\k≠p.km/\k≠p.mm):¬CSz p NA k:=fun e=>by
 obtain⟨h1,h2,h3,h4⟩:=h;rcases e with e | e | e | e
 ·exact h4 e
 ·exact h2 e
 ·exact h3 e
 ·have:=hr k e;omega
theorem CKz.mod {w w':World}{base:Nat}{p:CPz}{NA:Option Addr}(h:CKz w base p)(hr:∀i,aQx NA i->base<=i)(hm:Mod (CSz p NA) w w'):CKz w' base p:=by
 have k:=fun k hk=>CSz.no (p:=p) hr (h.off k hk)
 refine⟨h.hF,h.oxb.mod hm (k _ (by simp)),h.mxb.mod hm (k _ (by simp)),h.lxb.mod hm (k _ (by simp)),h.axb.mod hm (k _ (by simp)),h.bxb.mod hm (k _ (by simp)),⟨h.as_.1.modS hm ?_,h.as_.2⟩,⟨h.bs.1.modS hm ?_,h.bs.2⟩,h.off,h.rowA,h.rowB⟩
 ·rintro h0 i ⟨ad,e,rfl⟩;exact CSz.no hr (h.rowA ad e h0)
 ·rintro h0 i ⟨ad,e,rfl⟩;exact CSz.no hr (h.rowB ad e h0)
theorem CKz.ext {w w':World}{base:Nat}{p:CPz}(h:CKz w base p)(k:Ext w w'):CKz w' base p:=
 h.mod (NA:=none) (fun i hi=>by obtain⟨_,e,_⟩:=hi;cases e) (Mod.of_ext _ k)
structure CStz (w:World) (base:Nat) (p:CPz) (NA:Option Addr) (nc:Nat) (st:List Br×List Tr3):Prop where
 bd:Bd w base p.pb p.km NA nc st.1
 memo:∃m,MapQ i3K w p.mm m/\∀x y:Int,aQS ((x,0,y):I3) m=rQQ st.2 x y
 lt:p.mm<base/\p.mm≠p.pb/\p.mm≠p.km
theorem CStz.ext {w w':World}{base:Nat}{p:CPz}{NA:Option Addr}{nc:Nat}{st:List Br×List Tr3}(h:CStz w base p NA nc st)(k:Ext w w'):CStz w' base p NA nc st:=
 ⟨h.bd.ext k,let ⟨m,h1,h2⟩:=h.memo;⟨m,h1.ext k,h2⟩,h.lt⟩
def zQp (w:World)(base:Nat)(p:CPz)(NA:Option Addr)(st:List Br×List Tr3)(w':World):Prop:=∃NA' nc',CStz w' base p NA' nc' st/\Mod (CSz p NA) w w'/\Moved w NA NA'
theorem qQi (base:Nat)(p:CPz)(ha:DOk p.D.a)(hb:DOk p.D.b)(hlim:p.D.n<=1000000000000/\p.D.m<=1000000000000):∀(m:Nat)(x y:Int)(st:List Br×List Tr3)(NA:Option Addr)(nc:Nat)(w:World),
  CKz w base p->CStz w base p NA nc st->0<=x->0<=y->x+y<m->x<p.D.n+2->y<p.D.m+2->(at2 p.D.a p.D.b p.D.op m x y st).2.1.length<=100000000000->
  Fn Tryz.prog 188 (i3K (x,0,y)::p.caps) w (fun v w'=>v= .int .i64 (at2 p.D.a p.D.b p.D.op m x y st).1/\zQp w base p NA (at2 p.D.a p.D.b p.D.op m x y st).2 w')
 | 0,x,y,st,NA,nc,w,_,_,x0,y0,hm,_,_,_=>by omega
 | m+1,x,y,st,NA,nc,w,hK,hS,x0,y0,hm,hx,hy,hl1=>by
  have ih:=qQi base p ha hb hlim m;have hal:p.D.a.length=p.D.n:=hK.as_.2;have hbl:p.D.b.length=p.D.m:=hK.bs.2;have htop:=hS.bd.top;have hrw:∀i,aQx NA i->base<=i:=fun i hi=>(hS.bd.own.rows i hi).1
  refine aQf (c:={xQU with cuts:=[1]}) aQb Tryz.func188 rfl rfl rfl ?_;refine new (fun w1 hE1 hz1 hB1=>?_)
  replace hB1:Blk w1 w.heap.size 242 (i3C (x,0,y)):=hB1;have hK1:=hK.ext hE1;have hS1:=hS.ext hE1;have oB:w.heap.size<w1.heap.size:=by omega
  refine iQl [] aQb [] (fun _:Unit=>[]) (fun _ w'=>w1=w'/\¬(x<2/\y<2)) ?_ ?_
  ·refine index (j:=0) (by decide) ?_;refine aQe hB1 rfl ?_;refine aQq (fun c1=>?_) (fun c1=>?_)
   ·refine index (j:=1) (by decide) ?_;refine aQe hB1 rfl ?_;refine aQO (show(0:Int)<2 by decide) ?_;refine index (j:=2) (by decide) ?_;refine aQe hB1 rfl ?_;refine aQq (fun c2=>?_) (fun c2=>?_)
    ·refine aQg hK1.oxb rfl ?_;refine index (j:=0) (by decide) ?_;refine aQe hB1 rfl ?_;refine index (j:=1) (by decide) ?_;refine aQe hB1 rfl ?_;refine index (j:=2) (by decide) ?_;refine aQe hB1 rfl ?_;rw[jQA ⟨c1,c2⟩,tQs x0 c1 y0 c2,hK.hF];refine call (oQR (decide (x=1)) (decide (y=1)) w1) ?_;rintro v _ ⟨rfl,rfl⟩;cases opB 4 (decide (x=1)) (decide (y=1))with
     | true=>
      refine aQM rfl ?_;exact⟨rfl,NA,nc,hS1,Mod.of_ext _ hE1,Moved.refl _ _⟩
     | false=>
      refine aQN rfl ?_;exact⟨rfl,NA,nc,hS1,Mod.of_ext _ hE1,Moved.refl _ _⟩
    ·exact⟨(),rfl,rfl,fun hh=>c2 hh.2⟩
   ·exact⟨(),rfl,rfl,fun hh=>c1 hh.1⟩
  rintro⟨⟩ _ ⟨rfl,hxy⟩;obtain⟨mq,hmq,hmem⟩:=hS1.memo;refine aQg hK1.mxb rfl ?_;refine aQd hB1 rfl ?_;refine dQ2 (kv:=i3K) (a:=((x,0,y):I3)) aQb rfl rfl rfl rfl sQs rfl rfl hmq ?_;cases k:st.2.find? (fun t=>decide (t.1=x/\t.2.1=y))with
  | some t=>
   have hat:aQS ((x,0,y):I3) mq=some (.int .i64 t.2.2):=by rw[hmem,rQQ,k];rfl
   refine aQM (by rw[hat];rfl) ?_;rw[jQB hxy k];exact⟨by rw[hat];rfl,NA,nc,hS1,Mod.of_ext _ hE1,Moved.refl _ _⟩
  | none=>
  have hat:aQS ((x,0,y):I3) mq=none:=by rw[hmem,rQQ,k];rfl
  refine aQN (by rw[hat];rfl) ?_;have hv64:min (aQz p.D.a x) (aQz p.D.b y)<64:=by
   by_cases c:x<2
   ·have:=cQz hb (n:=y) (fun c2=>hxy ⟨c,c2⟩) (by omega);rw[Int.min_def];split<;>omega
   ·have:=cQz ha (n:=x) c (by omega);rw[Int.min_def];split<;>omega
  have hSC:SB w1 none 0 0 []:=SlS.nil _;have qL:∀w',Ext w1 w'->∀(j:Nat) (v:Value),p.lC[j]? =some v->w'.cell? ((⟨p.lx,0,none⟩:Addr).add j)=some v:=fun w' hw' j v hj=>by rw[(hK1.lxb.ext hw').cell];exact hj
  have qN:∀w',Ext w1 w'->∀(j:Nat) (v:Value),(i3C (x,0,y))[j]? =some v->w'.cell? ((⟨w.heap.size,0,none⟩:Addr).add j)=some v:=fun w' hw' j v hj=>by rw[(hB1.ext hw').cell];exact hj
  refine aQm aQb (Ext w1) 17 [(true,0),(true,1),(true,2),(true,3),(true,5),(true,6),(true,7),(true,8),(true,10),(true,11),(true,12),(true,13),(false,4),(false,9),(false,14),(true,15),(true,16)] (by kernel_rfl) (Ext.drew w1) ?_;refine aQU (j:=0) (by decide) ?_;refine aQw (vs:=[.slice p.D.A p.D.n p.D.c,.int .i64 p.D.ra]) rfl (fun w' hw' j v hj=>by
   rw[add_add,(hK1.lxb.ext hw').cell]
   match j,hj with
   | 0,hj=>exact hj
   | 1,hj=>exact hj) ?_
  refine index (j:=0) (by decide) ?_;refine aQy (v:=.int .i64 x) (fun w' hw'=>qN w' hw' 0 _ rfl) ?_;refine aQU (j:=1) (by decide) ?_;refine aQw (vs:=[.slice none 0 0,.int .i64 0]) rfl (fun w' hw' j v hj=>by
   rw[add_add,(hK1.lxb.ext hw').cell]
   match j,hj with
   | 0,hj=>exact hj
   | 1,hj=>exact hj) ?_
  refine index (j:=1) (by decide) ?_;refine aQy (v:=.int .i64 0) (fun w' hw'=>qN w' hw' 1 _ rfl) ?_;refine aQU (j:=2) (by decide) ?_;refine aQw (vs:=[.slice p.D.B p.D.m p.D.d,.int .i64 p.D.rb]) rfl (fun w' hw' j v hj=>by
   rw[add_add,(hK1.lxb.ext hw').cell]
   match j,hj with
   | 0,hj=>exact hj
   | 1,hj=>exact hj) ?_
  refine index (j:=2) (by decide) ?_;refine aQy (v:=.int .i64 y) (fun w' hw'=>qN w' hw' 2 _ rfl) ?_;refine call (bQT p.D.A p.D.n p.D.c p.D.ra x p.D.a _ (hK1.as_.ext (Ext.drew w1)) (by omega)) ?_;rintro u w2 ⟨rfl,hE2⟩;have hE12:=(Ext.drew w1).trans hE2;refine⟨hE12,?_⟩;refine call (bQT none 0 0 0 0 [] _ (hSC.ext hE12) (by simp)) ?_;rintro u w3 ⟨rfl,hE3⟩;have hE13:=hE12.trans hE3;refine⟨hE13,?_⟩;refine call (bQT p.D.B p.D.m p.D.d p.D.rb y p.D.b _ (hK1.bs.ext hE13) (by omega)) ?_;rintro u w4 ⟨rfl,hE4⟩;have hE14:=hE13.trans hE4;refine⟨hE14,?_⟩;have l64:aQz [] 0=64:=rfl;rw[l64];have hvn: -9223372036854775808<=min (aQz p.D.a x) (aQz p.D.b y):=by
   have pos:∀{d:List Br},DOk d->∀{n:Int},n<d.length+2->0<=aQz d n:=fun{d} hd {n} hn=>by
    by_cases h2:n<2
    ·rw[cQ2 h2];omega
    ·obtain⟨z,hz⟩:=iQL h2 hn;rw[bQU h2 hz];exact(hd.2 _ _ hz).1
   have p1:=pos ha (n:=x) (by omega);have p2:=pos hb (n:=y) (by omega);rw[Int.min_def];split<;>omega
  have hmin3:(if aQz p.D.b y<(if(64:Int)<aQz p.D.a x then 64 else aQz p.D.a x)then aQz p.D.b y else(if(64:Int)<aQz p.D.a x then 64 else aQz p.D.a x))=min (aQz p.D.a x) (aQz p.D.b y):=by
   rw[Int.min_def] at hv64 ⊢;split at hv64<;>(try split)<;>(try split)<;>(try split)<;>omega
  refine norm (m:=min (aQz p.D.a x) (aQz p.D.b y)) hmin3 ?_;rw[jQC hxy k _ rfl] at hl1 ⊢;generalize hveq:min (aQz p.D.a x) (aQz p.D.b y)=v at*;have hB4:=hB1.ext hE14;have hK4:=hK1.ext hE14;have hS4:=hS1.ext hE14;have hE04:=hE1.trans hE14;have hz14:=hE14.size;refine new (fun w5 hE5 hz5 hL5=>?_);refine new (fun w6 hE6 hz6 hH6=>?_);have hE46:=hE5.trans hE6;have hL6:=hL5.ext hE6;have hB6:=hB4.ext hE46;have hK6:=hK4.ext hE46;have hS6:=hS4.ext hE46;have hE06:=hE04.trans hE46;obtain⟨s1,s2,s3,s4,s5⟩:=bQg ha (n:=x) x0 hv64;obtain⟨t1,t2,t3,t4,t5⟩:=bQg hb (n:=y) y0 hv64;refine loop aQb [64] (fun s:Nat=>[.int .i64 s]) (fun s w'=>Mod (fun i=>i=w4.heap.size∨i=w5.heap.size) w6 w'/\s<=3/\Blk w' w4.heap.size 242 (i3C (if 0<s then(aQk p.D.a x v).1 else 0,0,if 2<s then(aQk p.D.b y v).1 else 0))/\Blk w' w5.heap.size 242 (i3C (if 0<s then(aQk p.D.a x v).2 else 0,0,if 2<s then(aQk p.D.b y v).2 else 0))) (fun s _=>3-s) 0 rfl ⟨Mod.refl _ _,Nat.zero_le _,hL6,hH6⟩ ?_;rintro s w7 ⟨hM7,hs3,hL7,hH7⟩;have hbz:base<=w4.heap.size:=by have:=hE1.size;omega
  have hz45:w5.heap.size=w4.heap.size+1:=hz5;have hwz:w.heap.size<w4.heap.size:=by omega
  have hlow:∀k,k<w4.heap.size->¬(k=w4.heap.size∨k=w5.heap.size):=fun k hk e=>by omega
  have hlx:=hK.off p.lx (by simp);have hE7:Ext w w7:=hM7.ext hE06 (fun i hi=>by omega);have hE17:Ext w1 w7:=hM7.ext (hE14.trans hE46) (fun i hi=>by omega);have hE47:Ext w4 w7:=hM7.ext hE46 (fun i hi=>by omega);have hB7:=hB4.ext hE47;have hK7:=hK4.ext hE47;have hS7:=hS4.ext hE47;have hz7:=hM7.size;have nLX:=hlow p.lx (by omega);have nB:=hlow w.heap.size hwz;have h0:aQk [] 0 v=(0,0):=by unfold aQk;rw[if_pos (show aQz [] 0≠v by rw[l64];omega)]
  by_cases hs:s<3
  ·rcases(show s=0∨s=1∨s=2 by omega)with rfl | rfl | rfl
   ·refine aQO (show((0:Nat):Int)<3 by decide) ?_;refine aQm aQb (Mod (fun i=>i=w4.heap.size∨i=w5.heap.size) w7) 17 [(true,0),(true,1),(true,2),(true,3),(true,4),(true,5),(true,6),(true,7),(true,8),(false,9),(true,10),(true,11),(true,12),(true,13),(false,14),(true,15),(false,16)] (by kernel_rfl) (Mod.of_ext _ (Ext.drew w7)) ?_;refine aQU (j:=0) (by decide) ?_;refine aQw (vs:=[.slice p.D.A p.D.n p.D.c,.int .i64 p.D.ra]) rfl (fun w' hw' j v hj=>by
     rw[add_add,(hK7.lxb.mod hw' nLX).cell]
     match j,hj with
     | 0,hj=>exact hj
     | 1,hj=>exact hj) ?_
    refine index (j:=0) (by decide) ?_;refine aQy (v:=.int .i64 x) (fun w' hw'=>by rw[(hB7.mod hw' nB).cell];rfl) ?_;refine call (cQb p.D.A p.D.n p.D.c p.D.ra x v p.D.a _ (hK7.as_.ext (Ext.drew w7)) (by omega) hv64) ?_;rintro u w8 ⟨rfl,hE8⟩;have hE78:=(Ext.drew w7).trans hE8;refine⟨Mod.of_ext _ hE78,?_⟩;refine index (j:=0) (by decide) ?_;refine aQn (hL7.ext hE78) (by simp) (fun w9 hM9 hL9=>?_);have hM79:Mod (fun i=>i=w4.heap.size∨i=w5.heap.size) w7 w9:=(Mod.of_ext _ hE78).trans hM9 (fun i hi=>.inl (.inl hi));refine⟨hM79,?_⟩;have hz9:=hM79.size;refine index (j:=0) (by decide) ?_;refine aQn (((hH7.ext hE78).mod hM9 (by show¬w5.heap.size=w4.heap.size;omega))) (by simp) (fun w10 hM10 hH10=>?_);have hM710:Mod (fun i=>i=w4.heap.size∨i=w5.heap.size) w7 w10:=hM79.trans hM10 (fun i hi=>.inl (.inr hi));refine⟨hM710,?_⟩;have hL10:=hL9.mod hM10 (by show¬w4.heap.size=w5.heap.size;omega);refine aQa ((1:Nat):Int) (by decide) (by decide) ?_;exact⟨1,rfl,⟨hM7.trans hM710 (fun i hi=>.inl hi),by decide,hL10,hH10⟩,by show 3-1<3-0;decide⟩
   ·refine aQO (show((1:Nat):Int)<3 by decide) ?_;refine aQm aQb (Mod (fun i=>i=w4.heap.size∨i=w5.heap.size) w7) 17 [(true,0),(true,1),(true,2),(true,3),(true,4),(true,5),(true,6),(true,7),(true,8),(false,9),(true,10),(true,11),(true,12),(true,13),(false,14),(true,15),(false,16)] (by kernel_rfl) (Mod.of_ext _ (Ext.drew w7)) ?_;refine aQU (j:=1) (by decide) ?_;refine aQw (vs:=[.slice none 0 0,.int .i64 0]) rfl (fun w' hw' j v hj=>by
     rw[add_add,(hK7.lxb.mod hw' nLX).cell]
     match j,hj with
     | 0,hj=>exact hj
     | 1,hj=>exact hj) ?_
    refine index (j:=1) (by decide) ?_;refine aQy (v:=.int .i64 0) (fun w' hw'=>by rw[(hB7.mod hw' nB).cell];rfl) ?_;refine call (cQb none 0 0 0 0 v [] _ (SlS.nil _) (by decide) hv64) ?_;rintro u w8 ⟨rfl,hE8⟩;have hE78:=(Ext.drew w7).trans hE8;refine⟨Mod.of_ext _ hE78,?_⟩;refine index (j:=1) (by decide) ?_;refine aQn (hL7.ext hE78) (by simp) (fun w9 hM9 hL9=>?_);have hM79:Mod (fun i=>i=w4.heap.size∨i=w5.heap.size) w7 w9:=(Mod.of_ext _ hE78).trans hM9 (fun i hi=>.inl (.inl hi));refine⟨hM79,?_⟩;have hz9:=hM79.size;refine index (j:=1) (by decide) ?_;refine aQn (((hH7.ext hE78).mod hM9 (by show¬w5.heap.size=w4.heap.size;omega))) (by simp) (fun w10 hM10 hH10=>?_);have hM710:Mod (fun i=>i=w4.heap.size∨i=w5.heap.size) w7 w10:=hM79.trans hM10 (fun i hi=>.inl (.inr hi));refine⟨hM710,?_⟩;have hL10:=hL9.mod hM10 (by show¬w4.heap.size=w5.heap.size;omega);refine aQa ((2:Nat):Int) (by decide) (by decide) ?_;rw[h0] at hL10 hH10;exact⟨2,rfl,⟨hM7.trans hM710 (fun i hi=>.inl hi),by decide,hL10,hH10⟩,by show 3-2<3-1;decide⟩
   ·refine aQO (show((2:Nat):Int)<3 by decide) ?_;refine aQm aQb (Mod (fun i=>i=w4.heap.size∨i=w5.heap.size) w7) 17 [(true,0),(true,1),(true,2),(true,3),(true,4),(true,5),(true,6),(true,7),(true,8),(false,9),(true,10),(true,11),(true,12),(true,13),(false,14),(true,15),(false,16)] (by kernel_rfl) (Mod.of_ext _ (Ext.drew w7)) ?_;refine aQU (j:=2) (by decide) ?_;refine aQw (vs:=[.slice p.D.B p.D.m p.D.d,.int .i64 p.D.rb]) rfl (fun w' hw' j v hj=>by
     rw[add_add,(hK7.lxb.mod hw' nLX).cell]
     match j,hj with
     | 0,hj=>exact hj
     | 1,hj=>exact hj) ?_
    refine index (j:=2) (by decide) ?_;refine aQy (v:=.int .i64 y) (fun w' hw'=>by rw[(hB7.mod hw' nB).cell];rfl) ?_;refine call (cQb p.D.B p.D.m p.D.d p.D.rb y v p.D.b _ (hK7.bs.ext (Ext.drew w7)) (by omega) hv64) ?_;rintro u w8 ⟨rfl,hE8⟩;have hE78:=(Ext.drew w7).trans hE8;refine⟨Mod.of_ext _ hE78,?_⟩;refine index (j:=2) (by decide) ?_;refine aQn (hL7.ext hE78) (by simp) (fun w9 hM9 hL9=>?_);have hM79:Mod (fun i=>i=w4.heap.size∨i=w5.heap.size) w7 w9:=(Mod.of_ext _ hE78).trans hM9 (fun i hi=>.inl (.inl hi));refine⟨hM79,?_⟩;have hz9:=hM79.size;refine index (j:=2) (by decide) ?_;refine aQn (((hH7.ext hE78).mod hM9 (by show¬w5.heap.size=w4.heap.size;omega))) (by simp) (fun w10 hM10 hH10=>?_);have hM710:Mod (fun i=>i=w4.heap.size∨i=w5.heap.size) w7 w10:=hM79.trans hM10 (fun i hi=>.inl (.inr hi));refine⟨hM710,?_⟩;have hL10:=hL9.mod hM10 (by show¬w4.heap.size=w5.heap.size;omega);refine aQa ((3:Nat):Int) (by decide) (by decide) ?_;exact⟨3,rfl,⟨hM7.trans hM710 (fun i hi=>.inl hi),by decide,hL10,hH10⟩,by show 3-3<3-2;decide⟩
  ·have:s=3:=by omega
   subst this;refine aQB (show¬((3:Nat):Int)<3 by decide) ?_
   replace hL7:Blk w7 w4.heap.size 242 (i3C ((aQk p.D.a x v).1,0,(aQk p.D.b y v).1)):=hL7
   replace hH7:Blk w7 w5.heap.size 242 (i3C ((aQk p.D.a x v).2,0,(aQk p.D.b y v).2)):=hH7;have hvx:aQz p.D.a x=v∨aQz p.D.b y=v:=by rw[<-hveq,Int.min_def];split<;>simp
   have dec:(aQk p.D.a x v).1+(aQk p.D.b y v).1<x+y/\(aQk p.D.a x v).2+(aQk p.D.b y v).2<x+y:=by
    rcases hvx with e | e
    ·have:=s5 e;omega
    ·have:=t5 e;omega
   have sm1:=gQo ha hb p.D.op m (aQk p.D.a x v).1 (aQk p.D.b y v).1 st s1 t1 (by omega) (by omega);have sm2:=gQo ha hb p.D.op m (aQk p.D.a x v).2 (aQk p.D.b y v).2 (at2 p.D.a p.D.b p.D.op m (aQk p.D.a x v).1 (aQk p.D.b y v).1 st).2 s3 t3 (by omega) (by omega);have mo2:=dQl p.D.a p.D.b p.D.op m (aQk p.D.a x v).2 (aQk p.D.b y v).2 (at2 p.D.a p.D.b p.D.op m (aQk p.D.a x v).1 (aQk p.D.b y v).1 st).2;have c1:=ih (aQk p.D.a x v).1 (aQk p.D.b y v).1 st NA nc w7 hK7 hS7 s1 t1 (by omega) (by omega) (by omega);have c2:=fun N1 n1 w' h1 h2=>ih (aQk p.D.a x v).2 (aQk p.D.b y v).2 (at2 p.D.a p.D.b p.D.op m (aQk p.D.a x v).1 (aQk p.D.b y v).1 st).2 N1 n1 w' h1 h2 s3 t3 (by omega) (by omega) (by omega)
   generalize (at2 p.D.a p.D.b p.D.op m (aQk p.D.a x v).1 (aQk p.D.b y v).1 st)=r0 at*;generalize (at2 p.D.a p.D.b p.D.op m (aQk p.D.a x v).2 (aQk p.D.b y v).2 r0.2)=r1 at*;have ul:=eQx ⟨v,r0.1,r1.1⟩ r1.2.1;have ul2:(bQu ⟨v,r0.1,r1.1⟩ r1.2.1).1.length<=r1.2.1.length+1:=by
    unfold bQu;split
    ·exact Nat.le_succ _
    ·split
     ·exact Nat.le_succ _
     ·simp
   simp only at hl1;refine aQg hK7.axb rfl ?_;refine aQd hL7 rfl ?_;refine call (c1 (by omega)) ?_;rintro _ w11 ⟨rfl,N1,n1,hS11,hM11,hV11⟩;have hlt5:=hH7.lt;have hr0:=hS.bd.own.rows;obtain⟨l1,l2,l3⟩:=hS.lt;obtain⟨b1,b2,b3⟩:=hS.bd.lt;have new:∀k,w.heap.size<=k->¬CSz p NA k:=fun k hk e=>by
    rcases e with e | e | e | e
    ·omega
    ·omega
    ·omega
    ·have:=(hr0 k e).2;omega
   have hK11:=hK7.mod hrw hM11;have hH11:=hH7.mod hM11 (new _ (by omega));have hB11:=hB7.mod hM11 (new _ (Nat.le_refl _));have hr1:∀i,aQx N1 i->base<=i:=fun i hi=>(hS11.bd.own.rows i hi).1
   have nw1:∀k,w.heap.size<=k->k<w7.heap.size->¬CSz p N1 k:=fun k hk h7 e=>by
    rcases CSz.moved hV11 k e with e | e
    ·exact new k hk e
    ·omega
   have hz11:=hM11.size;have hB7lt:=hB7.lt;refine aQm aQb (Mod (CSz p N1) w11) 8 [(true,0),(true,1),(true,2),(true,3),(true,4),(false,5),(false,6),(true,7)] (by kernel_rfl) (Mod.of_ext _ (Ext.drew w11)) ?_;have nof:=fun k hk=>CSz.no (p:=p) hr1 (hK11.off k hk)
   refine aQy (v:=VP.ptr p.pb) (fun w' hw'=>by rw[(hK11.bxb.mod hw' (nof _ (by simp))).cell0];rfl) ?_;refine aQy (v:=p.clo) (fun w' hw'=>by rw[(hK11.axb.mod hw' (nof _ (by simp))).cell0];rfl) ?_;refine aQw (vs:=i3C ((aQk p.D.a x v).2,0,(aQk p.D.b y v).2)) rfl (fun w' hw' j v hj=>by rw[(hH11.mod hw' (nw1 _ (by omega) hlt5)).cell];exact hj) ?_;refine call (c2 N1 n1 _ (hK11.ext (Ext.drew w11)) (hS11.ext (Ext.drew w11)) (by omega)) ?_;rintro _ w12 ⟨rfl,N2,n2,hS12,hM12,hV12⟩;have hM112:Mod (CSz p N1) w11 w12:=(Mod.of_ext _ (Ext.drew w11)).trans hM12 (fun i hi=>.inl hi);have hV112:Moved w11 N1 N2:=hV12.back (Ext.drew w11).size;refine⟨hM112,?_⟩;have hr2:∀i,aQx N2 i->base<=i:=fun i hi=>(hS12.bd.own.rows i hi).1
   refine call (iQV base p.pb p.km N2 n2 r1.2.1 ⟨v,r0.1,r1.1⟩ w12 hS12.bd (by omega)) ?_;rintro _ w13 ⟨rfl,N3,n3,hD13,hM13,hV13⟩;have hM213:Mod (CSz p N2) w12 w13:=hM13.mono (fun i hi=>.inl (.inr hi));have hM113:Mod (CSz p N1) w11 w13:=CSz.trans hM112 hV112 hM213;refine⟨hM113,?_⟩;have hK12:=hK11.mod hr1 hM112;have hK13:=hK11.mod hr1 hM113;have hB13:=hB11.mod hM113 (nw1 _ (Nat.le_refl _) hB7lt);obtain⟨mq2,hq2,hmem2⟩:=hS12.memo;have hq13:MapQ i3K w13 p.mm mq2:=hq2.mod hM13 (fun e=>by
    rcases e with e | e | e
    ·exact l2 e
    ·exact l3 e
    ·have:=hr2 _ e;omega)
   refine aQg hK13.mxb rfl ?_;refine aQd hB13 rfl ?_;refine bQ3 (kv:=i3K) (a:=((x,0,y):I3)) aQb rfl rfl rfl rfl sQs rfl rfl rfl hq13 (fun w14 hM14 hz14' hq14=>?_);have hmm:∀k,k≠p.mm->¬(k=p.mm):=fun k h=>h
   obtain⟨d1,d2,d3⟩:=hD13.lt;have hr3:∀i,aQx N3 i->base<=i:=fun i hi=>(hD13.own.rows i hi).1
   obtain⟨kq,hkq,hkm⟩:=hD13.known;have hD14:Bd w14 base p.pb p.km N3 n3 (bQu ⟨v,r0.1,r1.1⟩ r1.2.1).1:=⟨hD13.blk.mod hM14 (fun e=>l2 e.symm),hD13.own.mod hM14 (fun i hi e=>by have:=hr3 i hi;have e':i=p.mm:=e;omega),⟨kq,hkq.mod hM14 (fun e=>l3 e.symm),hkm⟩,hD13.lt,Nat.le_trans hD13.top hM14.size⟩
   have hMw7:Mod (CSz p NA) w w7:=Mod.of_ext _ hE7;have hVw7:Moved w NA NA:=Moved.refl _ _;have hM011:Mod (CSz p NA) w w11:=hMw7.trans hM11 (fun i hi=>.inl hi);have hV011:Moved w NA N1:=hV11.back hE7.size;have hM013:Mod (CSz p NA) w w13:=CSz.trans hM011 hV011 hM113;have hM014:Mod (CSz p NA) w w14:=hM013.trans hM14 (fun i hi=>.inl (.inl hi));have hV013:Moved w NA N3:=hV011.trans (hV112.trans hV13 hM112.size) hM011.size;refine⟨rfl,N3,n3,⟨hD14,⟨_,hq14,fun x' y'=>?_⟩,hS.lt⟩,hM014,hV013⟩;have hno:r1.2.2.find? (fun t=>decide (t.1=x/\t.2.1=y))=none:=by
    rw[List.find?_eq_none];intro t ht hh;simp only[decide_eq_true_eq] at hh;rcases sm2 t ht with h1 | h1
    ·rcases sm1 t h1 with h2 | h2
     ·have:=List.find?_eq_none.1 k t h2;simp only[decide_eq_true_eq] at this;exact this hh
     ·omega
    ·omega
   rw[bQe,hmem2,rQQ,rQQ,List.find?_append];by_cases hxx:(x',y')=(x,y)
   ·cases hxx;rw[if_pos rfl,hno];simp
   ·rw[if_neg (fun e=>hxx (by cases e;rfl))];have: [(x,y,(bQu ⟨v,r0.1,r1.1⟩ r1.2.1).2)].find? (fun t:Tr3=>decide (t.1=x'/\t.2.1=y'))=none:=by
     rw[List.find?_cons_of_neg]
     ·rfl
     ·simp only[decide_eq_true_eq];exact fun e=>hxx (by rw[e.1,e.2])
    rw[this];simp
theorem qQj (A:Option Addr)(n c:Nat)(a:List Br)(ra:Int)(B:Option Addr)(m d:Nat)(b:List Br)(rb:Int)(w:World)(h:SB w A n c a)(h':SB w B m d b)(ha:DOk a)(hb:DOk b)(r0:0<=ra)(r1:ra<n+2)(s0:0<=rb)(s1:rb<m+2)(hn:n<=1000000000000)(hm:m<=1000000000000)
  (hl1:(sQj a ra b rb 4).2.1.length<=100000000000):
  Fn Tryz.prog 128 [.agg #[.slice A n c,.int .i64 ra,.slice none 0 0,.int .i64 0,.slice B m d,.int .i64 rb],.func (.func 170) #[] #[]] w (pQI w (cQO a ra b rb 4)):=by
 have hal:=h.2;have hbl:=h'.2;refine aQf (c:={xQS with cuts:=[]}) aQb Tryz.func128 rfl rfl rfl ?_;refine new (fun w1 hE1 hz1 hB1=>?_);refine new (fun w2 hE2 hz2 hB2=>?_);refine new (fun w3 hE3 hz3 hB3=>?_);refine call (fQF w3) ?_;rintro _ w4 ⟨rfl,hE4,hz4,hB4,hk4⟩;refine new (fun w5 hE5 hz5 hB5=>?_);refine aQn (j:=0) hB5 (by decide) (fun w6 hM6 hB6=>?_);have hE46:Ext w4 w6:=hM6.ext hE5 (fun i hi=>by omega);refine cQD aQb i3K rfl ?_;intro w7 hE7 hz7 hq7;refine new (fun w8 hE8 hz8 hB8=>?_);refine aQn (j:=0) hB8 (by decide) (fun w9 hM9 hB9=>?_);have hE79:Ext w7 w9:=hM9.ext hE8 (fun i hi=>by omega);refine new (fun w10 hE10 hz10 hB10=>?_);refine aQn (j:=0) hB10 (by decide) (fun w11 hM11 hB11=>?_);have z6:=hM6.size;have z9:=hM9.size;have z11:=hM11.size;have hE911:Ext w9 w11:=hM11.ext hE10 (fun i hi=>by omega);have hE611:Ext w6 w11:=(hE7.trans hE79).trans hE911;have hE411:Ext w4 w11:=hE46.trans hE611;have hE34:=hE4;have hE311:Ext w3 w11:=hE4.trans hE411;have hE011:Ext w w11:=((hE1.trans hE2).trans hE3).trans hE311
 let D:AD:=⟨A,n,c,a,ra,B,m,d,b,rb,4⟩
 let p:CPz:=⟨w1.heap.size,w7.heap.size,w.heap.size,w9.heap.size,w4.heap.size,w3.heap.size+1,w3.heap.size,w6.heap.size,D⟩
 have g11:=hB11.lt;have hK:CKz w11 w11.heap.size p:=by
  refine⟨rfl,hB2.ext (hE3.trans hE311),hB9.ext hE911,hB1.ext ((hE2.trans hE3).trans hE311),hB11,hB6.ext hE611,h.ext hE011,h'.ext hE011,fun k hk=>?_,fun ad e h0=>?_,fun ad e h0=>?_⟩
  ·simp only[p] at hk ⊢;rcases hk with rfl | rfl | rfl | rfl | rfl<;>omega
  ·have:=SB.lt h ad e h0;simp only[p];omega
  ·have:=SB.lt h' ad e h0;simp only[p];omega
 have hS:CStz w11 w11.heap.size p none 0 ([],[]):=by
  refine⟨⟨hB4.ext hE411,Own.nil _ _ _ _,⟨[],hk4.ext hE411,fun _=>rfl⟩,?_,Nat.le_refl _⟩,⟨[],hq7.ext (hE79.trans hE911),fun _ _=>rfl⟩,?_⟩
  ·simp only[p];omega
  ·simp only[p];omega
 have hno:∀i,aQx none i->w11.heap.size<=i:=fun i hi=>by obtain⟨_,e,_⟩:=hi;cases e
 have nof:=fun k hk=>CSz.no (p:=p) hno (hK.off k hk)
 refine aQm aQb (Mod (CSz p none) w11) 14 [(true,0),(true,1),(true,2),(true,3),(true,4),(true,5),(true,6),(true,7),(true,8),(true,9),(true,10),(true,11),(false,12),(false,13)] (by kernel_rfl) (Mod.of_ext _ (Ext.drew w11)) ?_;refine aQy (v:=VP.ptr p.pb) (fun w' hw'=>by rw[(hK.bxb.mod hw' (nof _ (by simp))).cell0];rfl) ?_;refine aQy (v:=p.clo) (fun w' hw'=>by rw[(hK.axb.mod hw' (nof _ (by simp))).cell0];rfl) ?_;refine aQU (j:=0) (by decide) ?_;refine aQy (v:=.int .i64 ra) (fun w' hw'=>by rw[add_add,(hK.lxb.mod hw' (nof _ (by simp))).cell];rfl) ?_;refine aQU (j:=1) (by decide) ?_;refine aQy (v:=.int .i64 0) (fun w' hw'=>by rw[add_add,(hK.lxb.mod hw' (nof _ (by simp))).cell];rfl) ?_;refine aQU (j:=2) (by decide) ?_;refine aQy (v:=.int .i64 rb) (fun w' hw'=>by rw[add_add,(hK.lxb.mod hw' (nof _ (by simp))).cell];rfl) ?_;have inv:=hQy ha hb 4 (ra.toNat+rb.toNat+1) ra rb ([],[]) ⟨fun j x hx=>by simp at hx,fun t ht=>by simp at ht⟩ r0 s0 (by omega) (by omega);refine call (qQi w11.heap.size p ha hb ⟨hn,hm⟩ (ra.toNat+rb.toNat+1) ra rb ([],[]) none 0 _ (hK.ext (Ext.drew w11)) (hS.ext (Ext.drew w11)) r0 s0 (by omega) r1 s1 hl1) ?_;rintro _ w12 ⟨rfl,NA,nc,hS12,hM12',hV12⟩;have hM12:Mod (CSz p none) w11 w12:=(Mod.of_ext _ (Ext.drew w11)).trans hM12' (fun i hi=>.inl hi);refine⟨hM12,?_⟩;have hl1':(at2 a b 4 (ra.toNat+rb.toNat+1) ra rb ([],[])).2.1.length<=100000000000:=hl1;have hN12:SB w12 NA _ nc _:=⟨hS12.bd.own.sl,rfl⟩
 refine call (gQh p.pb (.map (some p.km)) NA _ nc _ _ w12 hS12.bd.blk hN12 inv.1.1 (by show(at2 a b 4 (ra.toNat+rb.toNat+1) ra rb ([],[])).2.1.length<=_;omega) inv.2.1 inv.2.2 (SB.lt hN12)) ?_;rintro _ w13 ⟨OA,k,oc,rfl,hE13,hO13,hR13⟩;have hM13:Mod (CSz p none) w11 w13:=hM12.trans (Mod.of_ext (CSz p none) hE13) (fun i hi=>.inl hi);refine⟨hM13,?_⟩;have nres:¬CSz p none w2.heap.size:=CSz.no (p:=p) hno (by simp only[p];omega);have hB13:=(hB3.ext hE311).mod hM13 nres;refine aQc hB13 rfl (sc rfl) (fun w14 hg14 _ hB14=>?_);have hM14:Mod (·=w2.heap.size) w13 w14:=zQE hg14 rfl;refine aQd hB14 rfl ?_;have hE013:Ext w w13:=hM13.ext hE011 (fun i hi=>by
  rcases hi with e | e | e | ⟨_,e,_⟩
  ·simp only[p] at e;omega
  ·simp only[p] at e;omega
  ·simp only[p] at e;omega
  ·cases e)
 have z12:=hM12.size;have nr:∀i,aQx OA i->¬i=w2.heap.size:=fun i hi e=>by have:=hR13 i hi;omega
 refine⟨OA,k,oc,rfl,hM14.ext hE013 (fun i hi=>by omega),⟨hO13.1.modS hM14 (fun _ i hi=>nr i hi),hO13.2⟩,fun i hi=>by have:=hR13 i hi;have:=hE011.size;omega⟩
end
section
section
open Go Go.RowKit
structure RP where
 r:Nat
 q:Nat
 nq:Nat
 NA:Option Addr
 nn:Nat
 nc:Nat
 nm:List (List Nat)
 FA:Option Addr
 nf:Nat
 cf:Nat
 fs:List (List Nat×List Nat)
def fQL (x:List Nat×List Nat):List Value:=[.string (aQh x.1),.string (aQh x.2)]
theorem jQT (x:List Nat×List Nat):(fQL x).length=2:=rfl
structure FileOk (x:List Nat×List Nat):Prop where
 n8:∀b∈x.1,b<256
 t8:∀b∈x.2,b<256
 nl:x.1.length<=9223372036854775807
 tl:x.2.length<=1048576
 ok:cQ6 x.2
structure RPok (w0:World) (p:RP):Prop where
 nms:Sl w0 1 p.NA p.nn p.nc (aQ6 p.nm)
 nmb:aQ2 p.nm
 nmk:p.nm.length<=12
 fls:SlS fQL 2 w0 p.FA p.nf p.cf p.fs
 flb:∀x∈p.fs,FileOk x
 nqm:MapAt gQ2 w0 p.nq (dQb (p.fs.map (·.1)) 0 [])
structure RM where
 OA:Option Addr
 oc:Nat
 BA:Option Addr
 bc:Nat
 L:List DV
 pa:Value
 T:Nat->Prop
structure RV where
 d:Nat
 fl:Nat
 ln:Nat
 rd:List Nat
 g:Gs
def sgC (x:Sg×DV):List Value:=[.int .i64 x.1.f,.int .i64 x.1.t,.int .i64 x.1.fl,.int .i64 x.1.at_,.slice x.2.A x.2.n x.2.c,.int .i64 x.2.r]
theorem wQj (x:Sg×DV):(sgC x).length=6:=rfl
def sgV (l:List Sg)(L:List DV):List Value:=(l.zip L).flatMap sgC
abbrev rdC (p:RP)(m:RM)(v:RV):List Value:=[.slice p.NA p.nn p.nc,.slice p.FA p.nf p.cf,.map (some p.nq),.map (some p.q),.int .i64 v.d,m.pa,.slice m.BA v.g.tx.length m.bc,.slice m.OA v.g.sg.length m.oc,.bool v.g.fr,.int .i64 v.fl,.int .i64 v.ln]
def RS (p:RP)(m:RM):Nat->Prop:=fun k=>k=p.r∨k=p.q∨aQx m.OA k∨aQx m.BA k
def TS (p:RP)(m:RM):Nat->Prop:=fun k=>RS p m k∨m.T k
structure Rr (w0 w:World) (base:Nat) (p:RP) (m:RM) (v:RV):Prop where
 e0:Ext w0 w
 lor:w0.heap.size<=p.r
 loq:w0.heap.size<=p.q
 rb:p.r<base
 qb:p.q<base
 ne:p.r≠p.q
 top:base<=w.heap.size
 pa:m.pa= .pointer none∨m.pa= .pointer (some (adr p.r 5))
 blk:Blk w p.r 157 (rdC p m v)
 txt:Own w base 5 1 m.BA v.g.tx.length m.bc (bQa v.g.tx)
 out:Own w base 48 6 m.OA v.g.sg.length m.oc (sgV v.g.sg m.L)
 len:m.L.length=v.g.sg.length
 dgs:∀(j:Nat) (s:Sg) (x:DV),v.g.sg[j]? =some s->m.L[j]? =some x->DgO w (TS p m) p.nm.length x s.o
 rdm:∃mp,MapAt kQY w p.q mp/\(mp.map (·.1)).Nodup/\∀n:Nat,aQS (n:Int) mp=if n∈v.rd then some (.bool true)else none
 tl:v.g.tx.length<=1048576
 sl:v.g.sg.length<=65536
 b8:∀x∈v.g.tx,x<256
 nf:v.g.fr=false->v.g.sg≠ []∨v.rd=[]
 tt:∀i,m.T i->i<w.heap.size
section
variable {w0 w w':World} {base:Nat} {p:RP} {m:RM} {v:RV}
theorem Rr.lo (h:Rr w0 w base p m v):∀i,RS p m i->w0.heap.size<=i:=fun i hi=>by
 have:=h.lor;have:=h.loq;have:=h.rb;rcases hi with rfl | rfl | hi | hi
 ·assumption
 ·assumption
 ·have:=(h.out.rows i hi).1;omega
 ·have:=(h.txt.rows i hi).1;omega
theorem Rr.hi (h:Rr w0 w base p m v):∀i,RS p m i->i<w.heap.size:=fun i hi=>by
 have:=h.rb;have:=h.qb;have:=h.top;rcases hi with rfl | rfl | hi | hi
 ·omega
 ·omega
 ·exact(h.out.rows i hi).2
 ·exact(h.txt.rows i hi).2
theorem Rr.ext (h:Rr w0 w base p m v)(k:Ext w w'):Rr w0 w' base p m v:=
 ⟨h.e0.trans k,h.lor,h.loq,h.rb,h.qb,h.ne,Nat.le_trans h.top k.size,h.pa,h.blk.ext k,h.txt.ext k,h.out.ext k,h.len,fun j s x h1 h2=>(h.dgs j s x h1 h2).ext k,let ⟨mp,h1,h2⟩:=h.rdm;⟨mp,h1.ext k,h2⟩,h.tl,h.sl,h.b8,h.nf,fun i hi=>Nat.lt_of_lt_of_le (h.tt i hi) k.size⟩
theorem RS.moved {m':RM}(h1:Moved w m.OA m'.OA)(h2:Moved w m.BA m'.BA):∀k,RS p m' k->RS p m k∨w.heap.size<=k:=by
 rintro k (rfl | rfl | hk | hk)
 ·exact .inl (.inl rfl)
 ·exact .inl (.inr (.inl rfl))
 ·rcases h1.rows k hk with h | h
  ·exact .inl (.inr (.inr (.inl h)))
  ·exact .inr h
 ·rcases h2.rows k hk with h | h
  ·exact .inl (.inr (.inr (.inr h)))
  ·exact .inr h
theorem TS.moved {m':RM}(hT:m'.T=m.T)(h1:Moved w m.OA m'.OA)(h2:Moved w m.BA m'.BA):∀k,TS p m' k->TS p m k∨w.heap.size<=k:=by
 rintro k (hk | hk)
 ·rcases RS.moved (p:=p) h1 h2 k hk with h | h
  ·exact .inl (.inl h)
  ·exact .inr h
 ·exact .inl (.inr (by rw[<-hT];exact hk))
theorem Rr.hiT (h:Rr w0 w base p m v):∀i,TS p m i->i<w.heap.size:=fun i hi=>hi.elim (h.hi i) (h.tt i)
theorem Rr.nrow (h:Rr w0 w base p m v):¬aQx m.OA p.r/\¬aQx m.BA p.r:=by
 have:=h.rb;exact⟨fun hi=>by have:=(h.out.rows _ hi).1;omega,fun hi=>by have:=(h.txt.rows _ hi).1;omega⟩
theorem Rr.put (h:Rr w0 w base p m v){v':RV}(hm:Mod (·=p.r) w w')(hB:Blk w' p.r 157 (rdC p m v'))(h1:v'.g.tx=v.g.tx)(h2:v'.g.sg=v.g.sg)(h3:v'.rd=v.rd)(h4:v'.g.fr=false->v'.g.sg≠ []∨v'.rd=[]):Rr w0 w' base p m v':=by
 have hE:=hm.ext h.e0 (fun i hi=>by subst hi;exact h.lor);refine⟨hE,h.lor,h.loq,h.rb,h.qb,h.ne,Nat.le_trans h.top hm.size,h.pa,hB,?_,?_,by rw[h2];exact h.len,fun j s x hs hx=>?_,?_,by rw[h1];exact h.tl,by rw[h2];exact h.sl,by rw[h1];exact h.b8,h4,fun i hi=>Nat.lt_of_lt_of_le (h.tt i hi) hm.size⟩
 ·rw[h1];exact h.txt.mod hm (fun i hi e=>by subst e;exact h.nrow.2 hi)
 ·rw[h2];exact h.out.mod hm (fun i hi e=>by subst e;exact h.nrow.1 hi)
 ·rw[h2] at hs;exact(h.dgs j s x hs hx).keep hm (fun i hi=>.inl (.inl (.inl hi)))
 ·obtain⟨mp,k1,k2⟩:=h.rdm;rw[h3];exact⟨mp,k1.mod hm (fun e=>h.ne e.symm),k2⟩
end
def GTo (w0 w:World)(base:Nat)(p:RP)(m:RM)(v:RV)(w':World):Prop:=∃m',m'.T=m.T/\Rr w0 w' base p m' v/\Mod (RS p m) w w'/\Moved w m.OA m'.OA/\Moved w m.BA m'.BA
def cQP (e f l:Int):List PanicEntry:=[{v:=.iface 160 (.agg #[.int .i64 e,.int .i64 f,.int .i64 l]),recovered:=false}]
section
variable {w0:World} {base:Nat} {p:RP} {m:RM} {v:RV}
theorem bQQ (e:Int)(w:World)(h:Rr w0 w base p m v):
  FnP Tryz.prog 148 [.pointer (some ⟨p.r,0,none⟩),.int .i64 e] w (fun _ _=>False) (fun ch w'=>ch=cQP e v.fl v.ln/\Ext w w'):=by
 refine aQT (c:={yQz with cuts:=[]}) aQb Tryz.func148 rfl rfl rfl ?_;have hB:=h.blk;refine cQY aQb 12 (by kernel_rfl) ?_;refine aQy (v:=.int .i64 v.fl) (fun w' hw'=>by subst hw';rw[(hB.ext (Ext.drew w)).cell];rfl) ?_;refine aQy (v:=.int .i64 v.ln) (fun w' hw'=>by subst hw';rw[(hB.ext (Ext.drew w)).cell];rfl) ?_;exact dQ3 rfl rfl ⟨rfl,Ext.drew w⟩
theorem jQU (x:DV)(w:World):Fn Tryz.prog 202 [.pointer (some ⟨p.r,0,none⟩),dgV x.A x.n x.c x.r,.int .i64 0] w (fun u w'=>u=dgV x.A x.n x.c x.r/\Ext w w'):=by
 refine aQf (c:={yQ5 with cuts:=[]}) aQb Tryz.func202 rfl rfl rfl ?_;refine new (fun w1 hE1 hz1 hB1=>?_);refine new (fun w2 hE2 hz2 hB2=>?_);refine bQB rfl ?_;refine aQd (hB1.ext hE2) rfl ?_;refine aQc hB2 rfl (sc rfl) (fun w3 hg3 _ hB3=>?_);have hE3:Ext w1 w3:=aQJ hE2 hB2 hg3;refine aQd hB3 rfl ?_;exact⟨rfl,hE1.trans hE3⟩
def DgF (w:World)(k:Nat)(o:BF)(u:Value)(w':World):Prop:=∃x:DV,u=dgV x.A x.n x.c x.r/\Ext w w'/\SB w' x.A x.n x.c x.nd/\Set1 k x.nd x.r o/\∀i,aQx x.A i->w.heap.size<=i
theorem tQz (s:List Nat)(w:World)(hP:RPok w0 p)(h:Rr w0 w base p m v)(h8:∀x∈s,x<256)(hl:s.length<=1000000000000):
  FnP Tryz.prog 144 [.pointer (some ⟨p.r,0,none⟩),.string (aQh s)] w (fun u w'=>∃o,gQ9 p.nm s= .ok o/\DgF w p.nm.length o u w') (fun ch w'=>∃e,gQ9 p.nm s= .error e/\ch=cQP e v.fl v.ln/\Ext w w'):=by
 refine aQT (c:={yQv with cuts:=[]}) aQb Tryz.func144 rfl rfl rfl ?_;refine new (fun w1 hE1 hz1 hB1=>?_);refine aQg (h.blk.ext hE1) rfl ?_;refine call (nQp p.nm p.NA p.nn p.nc s w1 ((hP.nms.ext h.e0).ext hE1) hP.nmb h8 hl) ?_;rw[uQD];have hse:gQ9 p.nm s=match eQ0 p.nm s with
  | .ok t=>.ok (evF t)
  | .error e=>.error (if e=2 then 2 else 71):=rfl
 cases hpt:eQ0 p.nm s with
 | ok t=>
  rw[hpt] at hse;obtain⟨k1,k2,k3⟩:=pQ4 hpt;rintro _ w2 ⟨G,mg,cG,rfl,hE2,hG⟩;have hk:=hP.nmk;refine aQZ rfl ?_;refine call (mQC G mg cG _ p.nm.length hk w2 hG (pQ0 (k2.mono (by omega)) k3) (dQP t _ 0 k2)) ?_;rintro _ w3 ⟨D,md,cD,nd,r,rfl,hE3,hD,hS,hR⟩;rw[fQc] at hS;refine call (jQU ⟨D,md,cD,nd,r⟩ w3) ?_;rintro _ w4 ⟨rfl,hE4⟩;have hE14:=(hE2.trans hE3).trans hE4;refine aQc (hB1.ext hE14) rfl (sc rfl) (fun w5 hg5 _ hB5=>?_);have hM5:Mod (·=w.heap.size) w4 w5:=zQE hg5 rfl;refine aQd hB5 rfl ?_;have hz2:=hE2.size;exact⟨_,hse,⟨D,md,cD,nd,r⟩,rfl,hM5.ext (hE1.trans hE14) (fun i hi=>by omega),SB.mod (hD.ext hE4) hM5 (fun i hi e=>by have:=hR i hi;omega),hS,fun i hi=>by have:=hR i hi;omega⟩
 | error e=>
  rw[hpt] at hse;rintro _ w2 ⟨G,mg,cG,rfl,hE2,hG⟩;have hE12:=hE1.trans hE2;have h2:=h.ext hE12;rcases oQL hpt with rfl | rfl | rfl | rfl
  ·refine aQu (by decide) ?_;refine aQu (by decide) ?_;refine aQX (bQQ 71 w2 h2) (fun _ _ hf=>hf.elim) ?_;rintro ch w3 ⟨rfl,hE3⟩;exact⟨_,hse,rfl,hE12.trans hE3⟩
  ·refine aQu (by decide) ?_;refine aQZ rfl ?_;refine aQX (bQQ 2 w2 h2) (fun _ _ hf=>hf.elim) ?_;rintro ch w3 ⟨rfl,hE3⟩;exact⟨_,hse,rfl,hE12.trans hE3⟩
  ·refine aQu (by decide) ?_;refine aQu (by decide) ?_;refine aQX (bQQ 71 w2 h2) (fun _ _ hf=>hf.elim) ?_;rintro ch w3 ⟨rfl,hE3⟩;exact⟨_,hse,rfl,hE12.trans hE3⟩
  ·refine aQu (by decide) ?_;refine aQu (by decide) ?_;refine aQX (bQQ 71 w2 h2) (fun _ _ hf=>hf.elim) ?_;rintro ch w3 ⟨rfl,hE3⟩;exact⟨_,hse,rfl,hE12.trans hE3⟩
theorem nQK (k:Nat)(hk:k<=12)(x y:DV)(o o':BF)(w:World)(hx:SB w x.A x.n x.c x.nd)(hxs:Set1 k x.nd x.r o)(hy:SB w y.A y.n y.c y.nd)(hys:Set1 k y.nd y.r o'):
  Fn Tryz.prog 146 [.pointer (some ⟨p.r,0,none⟩),dgV x.A x.n x.c x.r,dgV y.A y.n y.c y.r] w (fun u w'=>∃a b:DV,u= .tuple #[dgV a.A a.n a.c a.r,dgV b.A b.n b.c b.r]/\Ext w w'/\SB w' a.A a.n a.c a.nd/\Set1 k a.nd a.r (dQd o o')/\(∀i,aQx a.A i->w.heap.size<=i)/\SB w' b.A b.n b.c b.nd/\Set1 k b.nd b.r (eQR o o')/\∀i,aQx b.A i->w.heap.size<=i):=by
 refine aQf (c:={yQx with cuts:=[]}) aQb Tryz.func146 rfl rfl rfl ?_;refine new (fun w1 hE1 hz1 hB1=>?_);refine new (fun w2 hE2 hz2 hB2=>?_);refine new (fun w3 hE3 hz3 hB3=>?_);refine new (fun w4 hE4 hz4 hB4=>?_);have hE34:=hE3.trans hE4;have hE24:=hE2.trans hE34;have hE04:=hE1.trans hE24;refine aQd (hB1.ext hE24) rfl ?_;refine aQd (hB2.ext hE34) rfl ?_;have hx4:=hx.ext hE04;have hy4:=hy.ext hE04;refine call (hQF x.A x.n x.c x.nd x.r y.A y.n y.c y.nd y.r w4 hx4 hy4) ?_;rw[eQB hk hxs hys 0];have c1:Set1 k _ _ (dQd o o'):=(bQ4 hxs hys 0).congr (fun e=>by simp[opB]);generalize cQO x.nd x.r y.nd y.r 0=D at*;obtain⟨D1,D2⟩:=D;rintro _ w5 ⟨PA,pn,pc,rfl,hE5,hP5,hR5⟩;refine call (jQU ⟨PA,pn,pc,D1,D2⟩ w5) ?_;rintro _ w6 ⟨rfl,hE6⟩;have hE46:=hE5.trans hE6;refine aQc ((hB3.ext hE4).ext hE46) rfl (sc rfl) (fun w7 hg7 _ hB7=>?_);have hM7:Mod (·=w2.heap.size) w6 w7:=zQE hg7 rfl;have hE06:=hE04.trans hE46;have hE07:Ext w w7:=hM7.ext hE06 (fun i hi=>by omega);have n12:¬w.heap.size=w2.heap.size:=by omega
 have n22:¬w1.heap.size=w2.heap.size:=by omega
 have hB17:=((hB1.ext hE24).ext hE46).mod hM7 n12;have hB27:=((hB2.ext hE34).ext hE46).mod hM7 n22;have hB47:=(hB4.ext hE46).mod hM7 (by show¬w3.heap.size=w2.heap.size;omega);have hP7:=SB.mod (hP5.ext hE6) hM7 (fun i hi e=>by have:=hR5 i hi;omega);refine aQm aQb (Ext w7) 12 [(true,0),(true,1),(true,2),(true,3),(false,4),(true,5),(true,6),(false,7),(false,8),(true,9),(true,10),(false,11)] (by kernel_rfl) (Ext.drew w7) ?_;refine aQw (vs:=x.cells) rfl (fun w' hw' j u hj=>by rw[(hB17.ext hw').cell];exact hj) ?_;refine aQw (vs:=y.cells) rfl (fun w' hw' j u hj=>by rw[(hB27.ext hw').cell];exact hj) ?_;have hd:=Ext.drew w7;refine call (mQB y.A y.n y.c y.nd y.r _ ((hy.ext hE07).ext hd)) ?_;have c0:Set1 k [] 0 (fun _=>false):=bQi k false;rw[eQB hk hys c0 3];have c2:Set1 k _ _ (fun e=> !o' e):=(bQ4 hys c0 3).congr (fun e=>by simp[opB]);generalize cQO y.nd y.r [] 0 3=F at*;obtain⟨F1,F2⟩:=F;rintro _ w8 ⟨QA,qn,qc,rfl,hE8,hQ8,hR8⟩;refine⟨hd.trans hE8,?_⟩;refine call (jQU ⟨QA,qn,qc,F1,F2⟩ w8) ?_;rintro _ w9 ⟨rfl,hE9⟩;have hE79:=(hd.trans hE8).trans hE9;refine⟨hE79,?_⟩;refine call (hQF x.A x.n x.c x.nd x.r QA qn qc F1 F2 w9 ((hx.ext hE07).ext hE79) (hQ8.ext hE9)) ?_;rw[eQB hk hxs c2 0];have c3:Set1 k _ _ (eQR o o'):=(bQ4 hxs c2 0).congr (fun e=>by simp[opB]);generalize cQO x.nd x.r F1 F2 0=G at*;obtain⟨G1,G2⟩:=G;rintro _ w10 ⟨RA,rn,rc,rfl,hE10,hR10,hS10⟩;refine⟨hE79.trans hE10,?_⟩;refine call (jQU ⟨RA,rn,rc,G1,G2⟩ w10) ?_;rintro _ w11 ⟨rfl,hE11⟩;have hE711:=(hE79.trans hE10).trans hE11;refine⟨hE711,?_⟩;refine aQc (hB47.ext hE711) rfl (sc rfl) (fun w12 hg12 _ hB12=>?_);have hM12:Mod (·=w3.heap.size) w11 w12:=zQE hg12 rfl;have hE012:Ext w w12:=hM12.ext (hE07.trans hE711) (fun i hi=>by omega);have hB712:=(hB7.ext hE711).mod hM12 (by show¬w2.heap.size=w3.heap.size;omega);have hz7:=hE07.size;have hz9:=hE79.size;have hz12:=hM12.size;have hz711:=hE711.size;have hz46:=hE46.size;have hz67:=hM7.size;have hP12:=SB.mod (hP7.ext hE711) hM12 (fun i hi e=>by have:=hR5 i hi;omega);have hR12:=SB.mod (hR10.ext hE11) hM12 (fun i hi e=>by have:=hS10 i hi;omega);have hd12:=Ext.drew w12;have n23:¬w3.heap.size=w2.heap.size:=by omega
 refine aQm aQb (fun w'=>Mod (fun i=>i=w2.heap.size∨i=w3.heap.size) w12 w'/\Blk w' w2.heap.size 32 (⟨PA,pn,pc,D1,D2⟩:DV).cells/\Blk w' w3.heap.size 32 (⟨RA,rn,rc,G1,G2⟩:DV).cells) 4 [(true,0),(true,1),(false,2),(false,3)] (by kernel_rfl) ⟨Mod.of_ext _ hd12,hB712.ext hd12,hB12.ext hd12⟩ ?_;refine aQw (vs:=(⟨PA,pn,pc,D1,D2⟩:DV).cells) rfl (fun w' hw' j u hj=>by rw[hw'.2.1.cell];exact hj) ?_;refine aQw (vs:=(⟨RA,rn,rc,G1,G2⟩:DV).cells) rfl (fun w' hw' j u hj=>by rw[hw'.2.2.cell];exact hj) ?_;refine aQc (hB712.ext hd12) rfl (sc rfl) (fun w13 hg13 _ hB13=>?_);have hM13:Mod (·=w2.heap.size) w12.drew w13:=zQE hg13 rfl;have hM13':Mod (fun i=>i=w2.heap.size∨i=w3.heap.size) w12 w13:=(Mod.of_ext _ hd12).trans hM13 (fun i hi=>.inl (.inl hi));have hB313:=(hB12.ext hd12).mod hM13 n23;refine⟨⟨hM13',hB13,hB313⟩,?_⟩;refine aQc hB313 rfl (sc rfl) (fun w14 hg14 _ hB14=>?_);have hM14:Mod (·=w3.heap.size) w13 w14:=zQE hg14 rfl;have hB214:=hB13.mod hM14 (fun e=>n23 e.symm);have hM014:=hM13'.trans hM14 (fun i hi=>.inl (.inr hi));refine⟨⟨hM014,hB214,hB14⟩,?_⟩;refine aQd hB214 rfl ?_;refine aQd hB14 rfl ?_;have hE014:Ext w w14:=hM014.ext hE012 (fun i hi=>by rcases hi with rfl | rfl<;>omega);exact⟨⟨PA,pn,pc,D1,D2⟩,⟨RA,rn,rc,G1,G2⟩,rfl,hE014,SB.mod hP12 hM014 (fun i hi e=>by have:=hR5 i hi;omega),c1,fun i hi=>by have:=hR5 i hi;have:=hE04.size;omega,
  SB.mod hR12 hM014 (fun i hi e=>by have:=hS10 i hi;omega),c3,fun i hi=>by have:=hS10 i hi;omega⟩
theorem lQk (w:World)(h:Rr w0 w base p m v)(hd:v.d<=64):
  FnP Tryz.prog 145 [.pointer (some ⟨p.r,0,none⟩)] w (fun _ w'=>v.d≠64/\Rr w0 w' base p m {v with d:=v.d+1}/\Mod (·=p.r) w w') (fun ch w'=>v.d=64/\ch=cQP 2 v.fl v.ln/\Ext w w'):=by
 refine aQT (c:={yQw with cuts:=[]}) aQb Tryz.func145 rfl rfl rfl ?_;refine aQe h.blk rfl ?_;refine aQP (fun h1=>?_) (fun h1=>?_)
 ·refine aQX (bQQ 2 w h) (fun _ _ hf=>hf.elim) ?_;rintro ch w1 ⟨rfl,hE1⟩;exact⟨by omega,rfl,hE1⟩
 ·refine aQe h.blk rfl ?_;refine aQa ((v.d+1:Nat):Int) (by show((v.d:Nat):Int)+1=_;omega) (by omega) ?_;refine aQn h.blk (show 4<11 by decide) (fun w1 hM1 hB1=>?_);exact⟨fun e=>h1 (by omega),h.put hM1 hB1 rfl rfl rfl h.nf,hM1⟩
theorem uQO (ix:List Nat->Option Nat)(rd s:List Nat):mQy ix rd s=if s.length<2∨s.head? ≠some 34∨s.getLast? ≠some 34∨s.count 34≠2 then .error 71 else match ix ((s.drop 1).take (s.length-2))with
  | none=>.error 73
  | some n=>if n∈rd then .error 73 else .ok n:=rfl
theorem jQV {ix:List Nat->Option Nat}{rd s:List Nat}(h:s.length<2∨s.head? ≠some 34∨s.getLast? ≠some 34∨s.count 34≠2):mQy ix rd s= .error 71:=if_pos h
theorem wQk {p:RP}(hP:RPok w0 p):aQ2 (p.fs.map (·.1)):=fun s hs=>by
 obtain⟨x,hx,rfl⟩:=List.mem_map.1 hs;exact⟨(hP.flb x hx).n8,(hP.flb x hx).nl⟩
theorem jQW {α:Type} [DecidableEq α]{kv:α->Value}{c:Cx}{o:Oper}{S:Env}{t ke e:Nat}{r rk re:TyRow}{x y:Operand}{q:Nat}{mm:List (α×Value)}{a:α}{C:World->Prop}{K:Env->Prop}(hg:c.g.Ok)(ho:o.op= .lookup t x y true)(hr:aQA c.g.tys t=some r)(hd:r.d= .map ke e)(hrk:aQA c.g.tys ke=some rk)(hre:aQA c.g.tys e=some re)(hk:KeyV rk.d kv)
  (hx:S.ev x=some (.map (some q))) (hy:S.ev y=some (kv a)) (hm:∀w,C w->MapAt kv w q mm) {v':Value} {b:Bool} (hv:(aQS a mm).getD re.z=v') (hb:(aQS a mm).isSome=b) (k:bQq c S o.dst (.v (.tuple #[v',.bool b])) K):TOp c o S C K:=by
 subst hv hb;refine vQX (v:=.tuple #[(aQS a mm).getD re.z,.bool (aQS a mm).isSome]) (fun b w hf hw=>?_) k;have e1:=hf.ev hx;have e2:=hf.ev hy;have:=fQ9 (w:=w) (a:=a) hg hr hd hrk hre hk (hm w hw) true;simp only[execOp,ho,e1,e2];simp only[Sem.run_bind,this,Result.andThen_ok];cases aQS a mm<;>simp
theorem qQk (s:List Nat)(w:World)(hP:RPok w0 p)(h:Rr w0 w base p m v)(h8:∀x∈s,x<256)(hl:s.length<=1000000000000):
  FnP Tryz.prog 147 [.pointer (some ⟨p.r,0,none⟩),.string (aQh s)] w (fun u w'=>∃n:Nat,mQy (ixN (p.fs.map (·.1))) v.rd s= .ok n/\u= .int .i64 n/\Ext w w') (fun ch w'=>∃e,mQy (ixN (p.fs.map (·.1))) v.rd s= .error e/\ch=cQP e v.fl v.ln/\Ext w w'):=by
 refine aQT (c:={yQy with cuts:=[]}) aQb Tryz.func147 rfl rfl rfl ?_;have hsz:=aQj s;have hby:=aQG h8;refine aQq (fun h1=>?_) (fun h1=>?_)
 ·have hs:s.length<2:=by rw[hsz] at h1;omega
  refine aQX (bQQ 71 w h) (fun _ _ hf=>hf.elim) ?_;rintro ch w1 ⟨rfl,hE1⟩;exact⟨_,jQV (.inl hs),rfl,hE1⟩
 have hs:¬s.length<2:=by rw[hsz] at h1;omega
 refine cQp (j:=0) (by omega) (fun x hx hxl=>?_);rw[hby] at hx;have hhead:s.head? =some x:=by rw[List.head?_eq_getElem?];exact hx
 refine cQj (fun h2=>?_) (fun h2=>?_)
 ·refine aQX (bQQ 71 w h) (fun _ _ hf=>hf.elim) ?_;rintro ch w1 ⟨rfl,hE1⟩;exact⟨_,jQV (.inr (.inl (by rw[hhead];intro e;cases e;exact h2 rfl))),rfl,hE1⟩
 have hx34:x=34:=by omega
 refine aQa ((s.length-1:Nat):Int) (by rw[hsz];omega) (by omega) ?_;refine cQp (j:=s.length-1) (by omega) (fun y hy hyl=>?_);rw[hby] at hy;have hlast:s.getLast? =some y:=by rw[List.getLast?_eq_getElem?];exact hy
 refine cQj (fun h3=>?_) (fun h3=>?_)
 ·refine aQX (bQQ 71 w h) (fun _ _ hf=>hf.elim) ?_;rintro ch w1 ⟨rfl,hE1⟩;exact⟨_,jQV (.inr (.inr (.inl (by rw[hlast];intro e;cases e;exact h3 rfl)))),rfl,hE1⟩
 have hy34:y=34:=by omega
 refine call (nQH s 34 w h8 (by decide)) ?_;rintro _ _ ⟨rfl,rfl⟩;refine cQj (fun h4=>?_) (fun h4=>?_)
 ·refine aQX (bQQ 71 w h) (fun _ _ hf=>hf.elim) ?_;rintro ch w1 ⟨rfl,hE1⟩;exact⟨_,jQV (.inr (.inr (.inr (by omega)))),rfl,hE1⟩
 have hcond:¬(s.length<2∨s.head? ≠some 34∨s.getLast? ≠some 34∨s.count 34≠2):=by
  rintro(h | h | h | h)
  ·exact hs h
  ·rw[hhead,hx34] at h;exact h rfl
  ·rw[hlast,hy34] at h;exact h rfl
  ·omega
 have hinc:mQy (ixN (p.fs.map (·.1))) v.rd s=match ixN (p.fs.map (·.1)) ((s.drop 1).take (s.length-2))with
  | none=>.error 73
  | some n=>if n∈v.rd then .error 73 else .ok n:=if_neg hcond
 have hn8:∀b∈(s.drop 1).take (s.length-2),b<256:=fun b hb=>h8 b (List.mem_of_mem_drop (List.mem_of_mem_take hb))
 have hlook:=pQx (wQk hP) _ hn8;have hB:=h.blk;refine aQm aQb (Ext w) 15 [(true,0),(true,1),(true,2),(true,3),(true,4),(true,5),(true,6),(true,7),(true,8),(true,9),(true,10),(true,11),(true,12),(true,13),(true,14)] (by kernel_rfl) (Ext.drew w) ?_;refine aQy (v:=.map (some p.nq)) (fun w' hw'=>by rw[(hB.ext hw').cell];rfl) ?_;refine aQa ((s.length-1:Nat):Int) (by rw[hsz];omega) (by omega) ?_;refine aQ1 (v':=.string (aQh ((s.drop 1).take (s.length-2)))) ⟨by omega,by omega,by rw[hsz];omega⟩ ?_ ?_
 ·rw[aQt];simp only[Int.toNat_natCast,Int.toNat_one];rw[List.drop_take];congr 3
 generalize hnm:(s.drop 1).take (s.length-2)=nm at*;refine jQW (kv:=gQ2) (a:=aQh nm) (v':=.int .i64 ((ixN (p.fs.map (·.1)) nm).getD 0:Nat)) (b:=(ixN (p.fs.map (·.1)) nm).isSome) aQb rfl rfl rfl rfl rfl zQF rfl rfl (fun w' hw'=>(hP.nqm.ext h.e0).ext hw') (by rw[hlook];cases ixN (p.fs.map (·.1)) nm<;>rfl) (by rw[hlook];cases ixN (p.fs.map (·.1)) nm<;>rfl) ?_;have hE1:=Ext.drew w;have h1':=h.ext hE1;obtain⟨mp,k1,k2,k3⟩:=h1'.rdm;cases hix:ixN (p.fs.map (·.1)) nm with
 | none=>
  rw[hix] at hinc;refine aQM rfl ?_;refine aQX (bQQ 73 _ h1') (fun _ _ hf=>hf.elim) ?_;rintro ch w1 ⟨rfl,hE2⟩;exact⟨_,hinc,rfl,hE1.trans hE2⟩
 | some n=>
  rw[hix] at hinc;simp only at hinc;refine aQN rfl ?_;refine aQe h1'.blk rfl ?_;refine gQg (kv:=kQY) (a:=(n:Int)) (v:=.bool (decide (n∈v.rd))) aQb rfl rfl rfl rfl rfl (KeyV.int .i64) rfl rfl k1 (by rw[k3 n];by_cases hm:n∈v.rd<;>simp[hm]) ?_;by_cases hm:n∈v.rd
  ·rw[if_pos hm] at hinc;refine aQO hm ?_;refine aQX (bQQ 73 _ h1') (fun _ _ hf=>hf.elim) ?_;rintro ch w1 ⟨rfl,hE2⟩;exact⟨_,hinc,rfl,hE1.trans hE2⟩
  ·rw[if_neg hm] at hinc;refine aQB hm ?_;exact⟨n,hinc,rfl,hE1⟩
end
end
section
open Go Go.RowKit
theorem mQJ {α:Type}{f:α->List Value}(hf:∀x,∀u∈f x,aQ8 u=true)(l:List α):∀u∈l.flatMap f,aQ8 u=true:=fun u hu=>by
 obtain⟨x,_,hx⟩:=List.mem_flatMap.1 hu;exact hf x u hx
theorem qQl (x:Br):∀u∈x.cells,aQ8 u=true:=sc rfl
theorem sQx (k:Nat)(hk:k<=12)(x:DV)(o:BF)(w:World)(hx:SB w x.A x.n x.c x.nd)(hs:Set1 k x.nd x.r o):
  Fn Tryz.prog 206 [dgV x.A x.n x.c x.r] w (DgF w k o):=by
 have hlen:=hx.2;have hl:=hs.len hk;refine aQf (c:={yQ8 with cuts:=[]}) aQb Tryz.func206 rfl rfl rfl ?_;refine new (fun w1 hE1 hz1 hB1=>?_);refine new (fun w2 hE2 hz2 hB2=>?_);have hE02:=hE1.trans hE2;have hB12:=hB1.ext hE2;refine aQm aQb (Ext w2) 6 [(true,0),(true,1),(true,3),(true,4),(false,2),(true,5)] (by kernel_rfl) (Ext.drew w2) ?_;refine aQy (v:=.slice x.A x.n x.c) (fun w' hw'=>by rw[(hB12.ext hw').cell];rfl) ?_;refine aQy (v:=.int .i64 x.r) (fun w' hw'=>by rw[(hB12.ext hw').cell];rfl) ?_;have hd:=Ext.drew w2;have hz:=hd.size;refine bQf (base:=w2.drew.heap.size) aQb rfl rfl rfl rfl rfl (by decide) rfl rfl ⟨_,rfl⟩ rfl rfl (Own.nil _ _ _ _) ((hx.ext hE02).ext hd).1 (mQJ qQl _) (by unfold maxLen;omega) (by show(0+x.n)*24<=_;omega) (Nat.le_refl _) ?_;intro A' c' w3 hm3 hown3 hmv3;have hE23:Ext w2 w3:=hm3.ext hd (fun i hi=>by obtain⟨_,e,_⟩:=hi;cases e);refine⟨hE23,?_⟩;refine aQc (hB2.ext hE23) rfl (sc rfl) (fun w4 hg4 _ hB4=>?_);have hM4:Mod (·=w1.heap.size) w3 w4:=zQE hg4 rfl;refine aQd hB4 rfl ?_;have hrow:∀i,aQx A' i->w2.heap.size<=i:=fun i hi=>by have:=(hown3.rows i hi).1;omega
 refine⟨⟨A',0+x.n,c',x.nd,x.r⟩,rfl,hM4.ext (hE02.trans hE23) (fun i hi=>by omega),?_,hs,fun i hi=>by have:=hrow i hi;have:=hE02.size;omega⟩;refine SB.mod ⟨?_,by show x.nd.length=0+x.n;omega⟩ hM4 (fun i hi e=>by have:=hrow i hi;omega);simpa using hown3.sl
theorem jQX {l:List Sg}{L:List DV}(h:L.length=l.length)(s:Sg)(x:DV):sgV (l++ [s]) (L++ [x])=sgV l L++sgC (s,x):=by
 unfold sgV;rw[List.zip_append h.symm];simp
theorem qQm {l:List Sg}{L:List DV}(h:L.length=l.length):(sgV l L).length=l.length*6:=by
 unfold sgV;rw[aQ5 wQj];simp[h]
theorem oQS (x:Sg×DV):∀u∈sgC x,aQ8 u=true:=sc rfl
theorem iQX {w:World}{base e sz n c j:Nat}{a:Addr}{xs:List Value}{v:Value}{K:World->Prop}(h:Own w base e sz (some a) n c xs)(hn:0<n)(hj:j<n*sz)
  (k:∀w1,Mod (aQx (some a)) w w1->Own w1 base e sz (some a) n c (xs.set j v)->K w1):hQg w (a.add j) v K:=by
 have _:=hn;have hr:=h.row;have hlen:=hr.1;rcases hr.2 with⟨hv,_⟩ | ⟨g,cap,cur,hv,hb,hg,hnc,hcm,hcs,htake⟩
 ·cases hv
 ·cases hv;have hB:Blk w g e cur.toList:=by unfold Blk;rw[hg]
  have hjc:j<cur.toList.length:=by
   have:cur.size=c*sz:=hcs;have h2:n*sz<=c*sz:=Nat.mul_le_mul_right _ hnc;simp only[Array.length_toList];omega
  refine aQn hB hjc (fun w1 hm hB1=>k w1 (hm.mono (fun i hi=>.inl ⟨_,rfl,hi.symm⟩)) ⟨⟨by rw[List.length_set];exact hlen,.inr ⟨g,c,(cur.toList.set j v).toArray,rfl,hb,hB1,hnc,hcm,by simpa using hcs,?_⟩⟩⟩);have ht:cur.toList.take (n*sz)=xs:=htake;show((cur.toList.set j v).toArray.toList).take (n*sz)=xs.set j v;rw[<-ht];simp only[List.take_set]
theorem qQn {l:List Sg}{L:List DV}(h:L.length=l.length)(s:Sg)(x:DV)(t:Nat):(sgV (l++ [s]) (L++ [x])).set (l.length*6+1) (.int .i64 t)=sgV (l++ [{s with t:=t}]) (L++ [x]):=by
 rw[jQX h,jQX h,List.set_append_right _ _ (by rw[qQm h];omega),qQm h];congr 1;rw[show l.length*6+1-l.length*6=1 by omega];rfl
theorem qQo {a b:List Nat}(ha:∀x∈a,x<256)(hb:∀x∈b,x<256):∀x∈a++b,x<256:=fun x hx=>by
 rcases List.mem_append.1 hx with h | h
 ·exact ha x h
 ·exact hb x h
section
variable {w0:World} {base:Nat} {p:RP}
theorem lQl {s:List Nat}{fl at_:Nat}{k:BF}{g:Gs}(h:1048576<g.tx.length+s.length∨(g.fr=true/\g.sg.length=65536)):fQ0 s fl at_ k g=none:=if_pos h
theorem qQp {s:List Nat}{fl at_:Nat}{k:BF}{g:Gs}(h:¬(1048576<g.tx.length+s.length∨(g.fr=true/\g.sg.length=65536))):fQ0 s fl at_ k g=some ⟨g.tx++s,lQe (g.tx.length+s.length) (if g.fr then g.sg++ [⟨g.tx.length,0,fl,at_,k⟩] else g.sg),false⟩:=if_neg h
theorem xQu:qQa 157 11 5:=by unfold qQa;kernel_rfl
theorem Rr.app {m:RM}{v v':RV}{w w1 w2:World}(h:Rr w0 w base p m v)(s:Sg)(x:DV){A':Option Addr}{c':Nat}(hm1:Mod (aQx m.OA) w w1)(ho:Own w1 base 48 6 A' (v.g.sg.length+1) c' (sgV v.g.sg m.L++sgC (s,x)))(hv:Moved w m.OA A')(hm2:Mod (·=p.r) w1 w2)
  (hx:DgO w (TS p m) p.nm.length x s.o) (hl:v.g.sg.length<65536) (e1:v'.g.tx=v.g.tx) (e2:v'.g.sg=v.g.sg++ [s]) (e3:v'.rd=v.rd) (hB:Blk w2 p.r 157 (rdC p {m with OA:=A',oc:=c',L:=m.L++ [x]} v')):Rr w0 w2 base p {m with OA:=A',oc:=c',L:=m.L++ [x]} v':=by
 have hrs:=TS.moved (p:=p) (m:=m) (m':={m with OA:=A',oc:=c',L:=m.L++ [x]}) rfl hv (Moved.refl w m.BA);have hmm:Mod (RS p m) w w2:=(hm1.mono (S':=RS p m) (fun i hi=>.inl (.inr (.inr (.inl hi))))).trans hm2 (fun i hi=>.inl (.inl hi));have hpr:∀i,aQx A' i->¬i=p.r:=fun i hi e=>by subst e;have:=(ho.rows _ hi).1;have:=h.rb;omega
 have hsz:=h.top;have hz1:=hm1.size;have hz2:=hm2.size;refine⟨hmm.ext h.e0 h.lo,h.lor,h.loq,h.rb,h.qb,h.ne,by omega,h.pa,hB,?_,?_,?_,?_,?_,by rw[e1];exact h.tl,?_,by rw[e1];exact h.b8,fun _=>.inl (by rw[e2];simp),fun i hi=>Nat.lt_of_lt_of_le (h.tt i hi) (by omega)⟩
 ·rw[e1];exact(h.txt.mod hm1 (fun i hi hj=>h.txt.apart h.out (by decide) hi hj)).mod hm2 (fun i hi e=>by subst e;exact h.nrow.2 hi)
 ·rw[e2];have:=ho.mod hm2 hpr;rw[jQX h.len,List.length_append];exact this
 ·rw[e2];show(m.L++ [x]).length=_;rw[List.length_append,List.length_append,h.len];rfl
 ·rw[e2];intro j s1 x1 hs1 hx1;have hx1:(m.L++ [x])[j]? =some x1:=hx1;rcases cQ5 hs1 with⟨hj,hs1⟩ | ⟨hj,hs1⟩
  ·rw[List.getElem?_append_left (by rw[h.len];exact hj)] at hx1;exact(h.dgs j s1 x1 hs1 hx1).step (hmm.mono (fun i hi=>.inl (.inl hi))) hrs
  ·rw[List.getElem?_append_right (by rw[h.len];exact hj),h.len] at hx1;obtain⟨h0,rfl⟩:=cQt hs1;obtain⟨_,rfl⟩:=cQt hx1;exact hx.step (hmm.mono (fun i hi=>.inl (.inl hi))) hrs
 ·obtain⟨mp,k1,k2⟩:=h.rdm;rw[e3];exact⟨mp,(k1.mod hm1 (k1.apart h.out)).mod hm2 (fun e=>h.ne e.symm),k2⟩
 ·rw[e2,List.length_append];simp;omega
theorem oQT {l:List Sg}{L:List DV}(h:L.length=l.length)(hn:l≠ []):∃l' s L' x,l=l'++ [s]/\L=L'++ [x]/\L'.length=l'.length:=by
 rcases List.eq_nil_or_concat l with rfl | ⟨l',s,rfl⟩
 ·exact absurd rfl hn
 rcases List.eq_nil_or_concat L with rfl | ⟨L',x,rfl⟩
 ·simp at h
 ·exact⟨l',s,L',x,by simp,by simp,by simpa using h⟩
theorem add_fn (m:RM)(v:RV)(s:List Nat)(at_:Nat)(k:DV)(o:BF)(w:World)(hP:RPok w0 p)(h:Rr w0 w base p m v)(hk:DgO w (RS p m) p.nm.length k o)(h8:∀x∈s,x<256)(hsl:s.length<=1048577)(hrdn:v.rd≠ []):
  FnP Tryz.prog 150 [.pointer (some ⟨p.r,0,none⟩),.string (aQh s),.int .i64 at_,dgV k.A k.n k.c k.r] w (fun _ w'=>∃g',fQ0 s v.fl at_ o v.g=some g'/\GTo w0 w base p m {v with g:=g'} w') (fun ch w'=>fQ0 s v.fl at_ o v.g=none/\ch=cQP 2 v.fl v.ln/\Ext w w'):=by
 have hss:=aQj s;have htl:=h.tl;have hsl':=h.sl;refine aQT (c:={yQB with cuts:=[2,4]}) aQb Tryz.func150 rfl rfl rfl ?_;refine new (fun w1 hE1 hz1 hB1=>?_);have h1:=h.ext hE1;refine call (uQG p.r 157 5 (rdC p m v) m.BA m.bc v.g.tx.length w1 h1.blk rfl) ?_;rintro _ _ ⟨rfl,rfl⟩;refine tQa [] aQb (fun w2=>w1=w2/\¬(1048576<v.g.tx.length+s.length∨(v.g.fr=true/\v.g.sg.length=65536))) ?_ ?_
 ·refine aQa ((v.g.tx.length+s.length:Nat):Int) (by rw[hss];omega) (by omega) ?_;refine aQq (fun c1=>?_) (fun c1=>?_)
  ·refine aQX (bQQ 2 w1 h1) (fun _ _ hf=>hf.elim) ?_;rintro ch w2 ⟨rfl,hE2⟩;exact⟨lQl (.inl (by omega)),rfl,hE1.trans hE2⟩
  refine aQe h1.blk rfl ?_;refine wif (fun f1=>?_) (fun f1=>?_)
  ·refine aQe h1.blk rfl ?_;refine aQP (fun c2=>?_) (fun c2=>?_)
   ·refine aQX (bQQ 2 w1 h1) (fun _ _ hf=>hf.elim) ?_;rintro ch w2 ⟨rfl,hE2⟩;exact⟨lQl (.inr ⟨f1,by omega⟩),rfl,hE1.trans hE2⟩
   ·exact⟨rfl,rfl,by omega⟩
  ·exact⟨rfl,rfl,by rw[f1];intro hh;rcases hh with hh | ⟨hh,_⟩;omega;cases hh⟩
 rintro _ ⟨rfl,hbig⟩;have hadd:=qQp (s:=s) (fl:=v.fl) (at_:=at_) (k:=o) (g:=v.g) hbig;refine tQa [] aQb (GTo w0 w1 base p m {v with g:=⟨v.g.tx,if v.g.fr then v.g.sg++ [⟨v.g.tx.length,0,v.fl,at_,o⟩] else v.g.sg,false⟩}) ?_ ?_
 ·refine aQe h1.blk rfl ?_;refine wif (fun f1=>?_) (fun f1=>?_)
  ·have f1:v.g.fr=true:=f1;have hsg:v.g.sg.length<65536:=by
    rcases Nat.lt_or_ge v.g.sg.length 65536 with hh | hh
    ·exact hh
    ·exact absurd (Or.inr ⟨f1,by omega⟩) hbig
   have hhi:=h.hi;have hbx:¬RS p m w.heap.size:=fun hh=>by have:=hhi _ hh;omega
   have nrow:=h.nrow;refine aQm aQb (Mod (aQx m.OA) w1) 18 [(true,0),(true,1),(true,2),(true,3),(true,4),(true,5),(true,6),(true,7),(true,8),(true,9),(true,10),(true,11),(false,12),(true,13),(false,14),(false,15),(true,16),(true,17)] (by kernel_rfl) (Mod.of_ext _ (Ext.drew w1)) ?_;refine aQy (v:=.slice m.OA v.g.sg.length m.oc) (fun w' hw'=>by rw[(h1.blk.mod hw' nrow.1).cell];rfl) ?_;refine aQy (v:=.int .i64 v.fl) (fun w' hw'=>by rw[(h1.blk.mod hw' nrow.1).cell];rfl) ?_;refine aQw (vs:=k.cells) rfl (fun w' hw' j u hj=>by rw[(hB1.mod hw' (fun hh=>hbx (.inr (.inr (.inl hh))))).cell];exact hj) ?_;have hd:=Ext.drew w1;have hk1:=hk.ext hE1;refine call (sQx p.nm.length hP.nmk k o w1.drew (hk1.sb.ext hd) hk1.st) ?_;rintro _ w2 ⟨x,rfl,hE2,hx2,hxs,hxr⟩;have hE12:=hd.trans hE2;refine⟨Mod.of_ext _ hE12,?_⟩;refine aQl aQb [sgC (⟨v.g.tx.length,0,v.fl,at_,o⟩,x)] rfl rfl rfl rfl rfl ⟨rfl,rfl,⟨⟩⟩ rfl (fun cs hh=>by simp only[List.mem_singleton] at hh;subst hh;rfl) rfl (by decide) (by decide) ?_;intro w3 hE3 hz3 hB3;have hE13:=hE12.trans hE3;refine⟨Mod.of_ext _ hE13,?_⟩;have h3:=h1.ext hE13;have hs3:Sl w3 6 (some ⟨w2.heap.size,0,none⟩) 1 1 (sgC (⟨v.g.tx.length,0,v.fl,at_,o⟩,x)):=Sl.own (sz:=6) (n:=1) hB3 (Nat.le_refl _) (by decide) (by simp[sgC]);refine bQf aQb rfl rfl rfl rfl rfl (by decide) rfl rfl ⟨_,rfl⟩ rfl rfl h3.out hs3 (oQS _) (by unfold maxLen;omega) (by show(v.g.sg.length+1)*64<=_;omega) h3.top ?_;intro A' c' w4 hm4 hown4 hmv4;refine⟨(Mod.of_ext (aQx m.OA) hE13).trans hm4 (fun i hi=>.inl hi),?_⟩;refine aQn (h3.blk.mod hm4 nrow.1) (show 7<11 by decide) (fun w5 hm5 hB5=>?_);refine aQn hB5 (show 8<11 by decide) (fun w6 hm6 hB6=>?_);have hm46:Mod (·=p.r) w4 w6:=hm5.trans hm6 (fun i hi=>.inl hi);have hhi1:=h1.hiT;have hxo:DgO w3 (TS p m) p.nm.length x o:=(DgO.new (S:=TS p m) hx2 hxs hxr (fun i hi=>by have:=hhi1 i hi;have:=hd.size;omega)).ext hE3;have hx3:DgO w3 (TS p m) p.nm.length x (⟨v.g.tx.length,0,v.fl,at_,o⟩:Sg).o:=hxo;rw[f1,if_pos rfl];refine⟨rfl,⟨{m with OA:=A',oc:=c',L:=m.L++ [x]},rfl,h3.app ⟨v.g.tx.length,0,v.fl,at_,o⟩ x hm4 hown4 hmv4 hm46 hx3 hsg rfl rfl rfl ?_,?_,hmv4.back hE13.size,Moved.refl _ _⟩⟩
   ·have e:(v.g.sg++ [(⟨v.g.tx.length,0,v.fl,at_,o⟩:Sg)]).length=v.g.sg.length+1:=by simp
    show Blk w6 p.r 157 [.slice p.NA p.nn p.nc,.slice p.FA p.nf p.cf,.map (some p.nq),.map (some p.q),.int .i64 v.d,m.pa,.slice m.BA v.g.tx.length m.bc,.slice A' (v.g.sg++ [(⟨v.g.tx.length,0,v.fl,at_,o⟩:Sg)]).length c',.bool false,.int .i64 v.fl,.int .i64 v.ln];rw[e];exact hB6
   ·exact((Mod.of_ext (RS p m) hE13).trans hm4 (fun i hi=>.inl (.inr (.inr (.inl hi))))).trans hm46 (fun i hi=>.inl (.inl hi))
  ·have f1:v.g.fr=false:=f1;have e:({v with g:=⟨v.g.tx,if v.g.fr then v.g.sg++ [⟨v.g.tx.length,0,v.fl,at_,o⟩] else v.g.sg,false⟩}:RV)=v:=by
    obtain⟨d,fl,ln,rd,⟨tx,sg,fr⟩⟩:=v;simp only at f1;subst f1;rfl
   rw[e];exact⟨rfl,m,rfl,h1,Mod.refl _ _,Moved.refl _ _,Moved.refl _ _⟩
 rintro w2 ⟨m2,hT2,h2,hm2,hv2,hu2⟩;generalize hsg2:(if v.g.fr then v.g.sg++ [(⟨v.g.tx.length,0,v.fl,at_,o⟩:Sg)] else v.g.sg)=sg2 at*;have hne:sg2≠ []:=(h2.nf rfl).resolve_right hrdn;have hl2:=h2.sl;simp only at hl2;obtain⟨l',s0,L',x0,e1,e2,e3⟩:=oQT (l:=sg2) h2.len hne;have hn0:0<sg2.length:=List.length_pos_iff.2 hne;obtain⟨oa,hoa,_⟩:=h2.out.sl.at_ hn0;have hoa:m2.OA=some oa:=hoa;have hlies:qQa 157 (rdC p m2 {v with g:=⟨v.g.tx,sg2,false⟩}).length 5:=by rw[show(rdC p m2 {v with g:=⟨v.g.tx,sg2,false⟩}).length=11 from rfl];exact xQu
 refine call (hQH base p.r 157 5 m2.pa (rdC p m2 {v with g:=⟨v.g.tx,sg2,false⟩}) m2.BA m2.bc v.g.tx (aQh s) w2 hlies (show 6<11 by decide) h2.pa h2.blk rfl rfl h2.txt h2.rb h2.top (by rw[hss];omega)) ?_;rintro _ w3 ⟨B',b',hB3,ho3,hm3,hv3⟩;rw[hss,aQG h8] at ho3;rw[hss] at hB3;have nrow2:=h2.nrow;have hout3:Own w3 base 48 6 m2.OA sg2.length m2.oc (sgV sg2 m2.L):=h2.out.mod hm3 (fun i hi hj=>by
  rcases hj with rfl | hj
  ·exact nrow2.1 hi
  ·exact h2.out.apart h2.txt (by decide) hi hj)
 have hd:=Ext.drew w3;have hB3':=hB3.ext hd;refine cQY aQb 16 (by kernel_rfl) ?_;refine aQy (v:=.slice m2.OA sg2.length m2.oc) (fun w' hw'=>by subst hw';rw[hB3'.cell];rfl) ?_;refine aQy (v:=.slice m2.OA sg2.length m2.oc) (fun w' hw'=>by subst hw';rw[hB3'.cell];rfl) ?_;refine aQa ((sg2.length-1:Nat):Int) (by omega) (by omega) ?_;refine aQa ((v.g.tx.length+s.length:Nat):Int) (by rw[hss];omega) (by omega) ?_;rw[hoa];refine aQU (j:=sg2.length-1) (by omega) ?_;have hout4:=hout3.ext hd;rw[hoa] at hout4;have hle:sg2.length=l'.length+1:=by rw[e1];simp
 show hQg _ ((oa.add ((sg2.length-1)*6)).add 1) _ _;rw[add_add];refine iQX hout4 hn0 (by omega) (fun w4 hm4 hout5=>?_);have hcell:(sgV sg2 m2.L).set ((sg2.length-1)*6+1) (.int .i64 ((v.g.tx.length+s.length:Nat):Int))=sgV (lQe (v.g.tx.length+s.length) sg2) m2.L:=by
  have e:(l'++ [s0]).length-1=l'.length:=by simp
  rw[e1,e2,bQD,e,qQn e3]
 rw[hcell] at hout5;have hsl2:(lQe (v.g.tx.length+s.length) sg2).length=sg2.length:=by rw[e1,bQD];simp
 have hm34:Mod (aQx m2.OA) w3 w4:=by rw[hoa];exact(Mod.of_ext _ hd).trans hm4 (fun i hi=>.inl hi)
 have hBrow:∀i,aQx B' i->¬aQx m2.OA i:=fun i hi hj=>hout3.apart ho3 (by decide) hj hi
 have hall:Mod (RS p m2) w2 w4:=(hm3.mono (S':=RS p m2) (fun i hi=>by
   rcases hi with rfl | hi
   ·exact .inl (.inl rfl)
   ·exact .inl (.inr (.inr (.inr hi))))).trans hm34 (fun i hi=>.inl (.inr (.inr (.inl hi))))
 have hz3:=hm3.size;have hz4:=hm34.size;have htop2:=h2.top;refine⟨_,hadd,{m2 with BA:=B',bc:=b',pa:=.pointer (some (adr p.r 5))},hT2,⟨hall.ext h2.e0 h2.lo,h2.lor,h2.loq,h2.rb,h2.qb,h2.ne,by omega,.inr rfl,?_,?_,?_,?_,?_,?_,?_,?_,?_,fun _=>?_,fun i hi=>Nat.lt_of_lt_of_le (h2.tt i hi) (by omega)⟩,?_,?_,?_⟩
 all_goals try simp only
 ·have e:(v.g.tx++s).length=v.g.tx.length+s.length:=by simp
  show Blk w4 p.r 157 [.slice p.NA p.nn p.nc,.slice p.FA p.nf p.cf,.map (some p.nq),.map (some p.q),.int .i64 v.d,.pointer (some (adr p.r 5)),.slice B' (v.g.tx++s).length b',.slice m2.OA (lQe (v.g.tx.length+s.length) sg2).length m2.oc,.bool false,.int .i64 v.fl,.int .i64 v.ln];rw[e,hsl2];exact hB3.mod hm34 nrow2.1
 ·rw[List.length_append];exact ho3.mod hm34 hBrow
 ·rw[hsl2];rw[<-hoa] at hout5;exact hout5
 ·rw[hsl2];exact h2.len
 ·intro j s1 x1 hs1 hx1;have hrs:=TS.moved (p:=p) (m:=m2) (m':={m2 with BA:=B',bc:=b',pa:=.pointer (some (adr p.r 5))}) rfl (Moved.refl w2 m2.OA) hv3;have key:∃s2,sg2[j]? =some s2/\s2.o=s1.o:=by
   rw[e1,bQD] at hs1;rw[e1];rcases cQ5 hs1 with⟨hj,hs1⟩ | ⟨hj,hs1⟩
   ·exact⟨s1,by rw[List.getElem?_append_left hj];exact hs1,rfl⟩
   ·obtain⟨h0,rfl⟩:=cQt hs1;exact⟨s0,by rw[List.getElem?_append_right hj,h0];rfl,rfl⟩
  obtain⟨s2,hs2,hse⟩:=key;rw[<-hse];exact(h2.dgs j s2 x1 hs2 hx1).step (hall.mono (fun i hi=>.inl (.inl hi))) hrs
 ·obtain⟨mp,k1,k2⟩:=h2.rdm;refine⟨mp,(k1.mod hm3 (fun hj=>?_)).mod hm34 (k1.apart h2.out),k2⟩;rcases hj with e | hj
  ·exact h2.ne e.symm
  ·exact k1.apart h2.txt hj
 ·rw[List.length_append];omega
 ·rw[hsl2];exact hl2
 ·exact qQo h.b8 h8
 ·exact .inl (by rw[<-List.length_pos_iff,hsl2];exact hn0)
 ·exact(((Mod.of_ext (RS p m) hE1).trans hm2 (fun i hi=>.inl hi)).trans hall (fun i hi=>by
   rcases RS.moved (p:=p) hv2 hu2 i hi with hh | hh
   ·exact .inl hh
   ·exact .inr (by have:=hE1.size;omega)))
 ·exact hv2.back hE1.size
 ·exact(hu2.trans hv3 hm2.size).back hE1.size
end
end
section
open Go Go.RowKit
theorem Rr.modT {w0 w w':World}{base:Nat}{p:RP}{m:RM}{v:RV}{U T':Nat->Prop}(h:Rr w0 w base p m v)(hm:Mod U w w')(hU:∀i,U i->m.T i)(hoff:∀i,U i->¬RS p m i)(hlo:∀i,U i->w0.heap.size<=i)(hT:∀i,T' i->m.T i∨w.heap.size<=i)(hlt:∀i,T' i->i<w'.heap.size):
  Rr w0 w' base p {m with T:=T'} v:=
 ⟨hm.ext h.e0 hlo,h.lor,h.loq,h.rb,h.qb,h.ne,Nat.le_trans h.top hm.size,h.pa,h.blk.mod hm (fun hu=>hoff _ hu (.inl rfl)),h.txt.mod hm (fun i hi hu=>hoff _ hu (.inr (.inr (.inr hi)))),h.out.mod hm (fun i hi hu=>hoff _ hu (.inr (.inr (.inl hi)))),h.len,
  fun j s x h1 h2=>(h.dgs j s x h1 h2).step (hm.mono (fun i hi=>.inl (.inr (hU i hi)))) (fun i hi=>hi.elim (fun hr=>.inl (.inl hr)) (fun ht=>(hT i ht).elim (fun h=>.inl (.inr h)) .inr)),
  let ⟨mp,h1,h2⟩:=h.rdm;⟨mp,h1.mod hm (fun hu=>hoff _ hu (.inr (.inl rfl))),h2⟩,h.tl,h.sl,h.b8,h.nf,hlt⟩
theorem qQq {j m:Nat}{vs l:List Value}(h:j+vs.length<=m)(hm:m<=l.length):(fQZ j vs l).take m=fQZ j vs (l.take m):=by
 have hx:(l.take m).length=m:=by rw[List.length_take];omega
 rw[bQ9 j vs l (by omega),bQ9 j vs (l.take m) (by omega)];rw[List.take_append,List.take_append,List.length_append,List.length_take];rw[List.take_take,List.take_of_length_le (l:=vs) (by omega),List.take_take];rw[show min m j=j by omega,show min j m=j by omega,List.drop_take];congr 2;omega
theorem fQh {P:Program}{w:World}{base e sz n c j:Nat}{a:Addr}{xs vs:List Value}{K:World->Prop}(h:Own w base e sz (some a) n c xs)(hj:j+vs.length<=n*sz)(hsc:∀u∈vs,aQ8 u=true)
  (k:∀w1,Mod (aQx (some a)) w w1->Own w1 base e sz (some a) n c (fQZ j vs xs)->K w1):fQo P w (a.add j) vs K:=by
 have hr:=h.row;have hlen:=hr.1;rcases hr.2 with⟨hv,_⟩ | ⟨g,cap,cur,hv,hb,hg,hnc,hcm,hcs,htake⟩
 ·cases hv
 ·cases hv;have hB:Blk w g e cur.toList:=by unfold Blk;rw[hg]
  have hcl:cur.toList.length=c*sz:=by simpa using hcs
  have h2:n*sz<=c*sz:=Nat.mul_le_mul_right _ hnc;refine bQ2 hB (by omega) hsc (fun w1 hm _ hB1=>k w1 (zQE hm ⟨_,rfl,rfl⟩) ⟨⟨by rw[hQp _ _ _ (by omega)];exact hlen,.inr ⟨g,c,(fQZ j vs cur.toList).toArray,rfl,hb,hB1,hnc,hcm,?_,?_⟩⟩⟩)
  ·have:=hQp j vs cur.toList (by omega);simp only[List.size_toArray];omega
  ·have ht:cur.toList.take (n*sz)=xs:=htake;show((fQZ j vs cur.toList).toArray.toList).take (n*sz)=_;rw[<-ht,<-qQq hj (by omega)]
theorem nQL {w:World}{base e sz n c o i:Nat}{a:Addr}{xs:List Value}{u:Value}{K:Value->Prop}(h:Own w base e sz (some a) n c xs)(hn:0<n)(hv:xs[o+i]? =some u)(k:K u):pQi w ((a.add o).add i) K:=by
 obtain⟨ad,e1,hc⟩:=h.sl.at_ hn;cases e1;exact load (by rw[add_add];exact hc _ _ hv) k
theorem fQM {w:World}{base e sz n c o i:Nat}{a:Addr}{xs:List Value}{u:Value}(h:Own w base e sz (some a) n c xs)(hn:0<n)(hv:xs[o+i]? =some u):w.cell? ((a.add o).add i)=some u:=by
 obtain⟨ad,e1,hc⟩:=h.sl.at_ hn;cases e1;rw[add_add];exact hc _ _ hv
structure SeV where
 s:Se
 x:DV
 y:DV
def SeV.cells (z:SeV):List Value:=[.slice z.x.A z.x.n z.x.c,.int .i64 z.x.r,.slice z.y.A z.y.n z.y.c,.int .i64 z.y.r,.bool z.s.ot,.int .i64 z.s.ln]
theorem uQP (z:SeV):z.cells.length=6:=rfl
theorem oQU (z:SeV):∀u∈z.cells,aQ8 u=true:=sc rfl
abbrev seT:TypeId:=232
theorem hQN {pre:List Value}{z:SeV}{i:Nat}{u:Value}(h:z.cells[i]? =some u):(pre++z.cells)[pre.length+i]? =some u:=by rw[List.getElem?_append_right (by omega)];rw[show pre.length+i-pre.length=i by omega];exact h
theorem uQQ {pre:List Value}{z:SeV}{i:Nat}{u:Value}:(pre++z.cells).set (pre.length+i) u=pre++z.cells.set i u:=by rw[List.set_append_right _ _ (by omega)];rw[show pre.length+i-pre.length=i by omega]
theorem nQM (vs:List Value)(i:Nat)(z:List Value):∀(pre:List Value),fQZ (pre.length+i) vs (pre++z)=pre++fQZ i vs z
 | []=>by simp
 | a::pre=>by
  rw[List.length_cons,show pre.length+1+i=(pre.length+i)+1 by omega];show a::fQZ (pre.length+i) vs (pre++z)=_;rw[nQM vs i z pre];rfl
section
variable {w0:World} {base:Nat} {p:RP}
def zQq (w:World)(k:Nat)(nm:List (List Nat))(base n c:Nat)(a:Addr)(pre:List Value)(z:SeV)(other:Bool)(s:List Nat)(u:Value)(w':World):Prop:=
 z.s.ot=false/\Mod (aQx (some a)) w w'/\if other then u=dgV z.y.A z.y.n z.y.c z.y.r/\Own w' base seT 6 (some a) n c (pre++(⟨{z.s with ot:=true},z.x,z.y⟩:SeV).cells)
  else∃(o:BF) (b d:DV),gQ9 nm s= .ok o/\u=dgV b.A b.n b.c b.r/\SB w' b.A b.n b.c b.nd/\Set1 k b.nd b.r (dQd z.s.re o)/\(∀i,aQx b.A i->w.heap.size<=i)/\SB w' d.A d.n d.c d.nd/\Set1 k d.nd d.r (eQR z.s.re o)/\(∀i,aQx d.A i->w.heap.size<=i)/\
   Own w' base seT 6 (some a) n c (pre++(⟨{z.s with re:=eQR z.s.re o},z.x,d⟩:SeV).cells)
theorem lQm (m:RM)(v:RV)(a:Addr)(n c:Nat)(pre:List Value)(z:SeV)(other:Bool)(s:List Nat)(w:World)(hP:RPok w0 p)(h:Rr w0 w base p m v)(ho:Own w base seT 6 (some a) n c (pre++z.cells))(hT:∀i,aQx (some a) i->m.T i)(hpre:pre.length+6=n*6)
  (hy:DgO w (TS p m) p.nm.length z.y z.s.re) (h8:∀x∈s,x<256) (hl:s.length<=1000000000000) (hb0:w0.heap.size<=base):
  FnP Tryz.prog 149 [.pointer (some ⟨p.r,0,none⟩),.pointer (some (a.add pre.length)),.bool other,.string (aQh s)] w (zQq w p.nm.length p.nm base n c a pre z other s)
   (fun ch w'=>∃e,(z.s.ot=true/\e=71∨z.s.ot=false/\other=false/\gQ9 p.nm s= .error e)/\ch=cQP e v.fl v.ln/\Mod (aQx (some a)) w w'):=by
 have hn0:0<n:=by omega
 have hra:aQx (some a) a.block:=⟨a,rfl,rfl⟩
 have hoff:∀i,aQx (some a) i->¬RS p m i:=fun i hi hr=>by
  have hb:=(ho.rows i hi).1;have:=h.rb;have:=h.qb;rcases hr with rfl | rfl | hr | hr
  ·omega
  ·omega
  ·exact ho.apart h.out (by decide) hi hr
  ·exact ho.apart h.txt (by decide) hi hr
 have hlo:∀i,aQx (some a) i->w0.heap.size<=i:=fun i hi=>by have:=(ho.rows i hi).1;omega
 refine aQT (c:={yQA with cuts:=[]}) aQb Tryz.func149 rfl rfl rfl ?_;refine new (fun w1 hE1 hz1 hB1=>?_);have ho1:=ho.ext hE1;have h1:=h.ext hE1;refine nQL ho1 hn0 (hQN (i:=4) (u:=.bool z.s.ot) rfl) ?_;refine wif (fun ht=>?_) (fun ht=>?_)
 ·refine aQX (bQQ 71 w1 h1) (fun _ _ hf=>hf.elim) ?_;rintro ch w2 ⟨rfl,hE2⟩;exact⟨71,.inl ⟨ht,rfl⟩,rfl,Mod.of_ext _ (hE1.trans hE2)⟩
 have ht:z.s.ot=false:=ht;have yget:∀(i:Nat) (u:Value),z.y.cells[i]? =some u->z.cells[2+i]? =some u:=fun i u hi=>match i,hi with
  | 0,hi=>hi
  | 1,hi=>hi
  | _+2,hi=>nomatch hi
 refine aQK (vs:=z.y.cells) rfl (fun i u hi=>?_) ?_
 ·show w1.cell? (((a.add pre.length).add 2).add i)=some u;rw[add_add];exact fQM ho1 hn0 (hQN (yget i u hi))
 refine new (fun w2 hE2 hz2 hB2=>?_);have ho2:=ho1.ext hE2;have h2:=h1.ext hE2;refine aQc hB2 rfl (sc rfl) (fun w3 hg3 hz3 hB3=>?_);have hE13:Ext w1 w3:=aQJ hE2 hB2 hg3;have ho3:=ho1.ext hE13;have h3:=h1.ext hE13;show hQg w3 ((a.add pre.length).add 4) _ _;rw[add_add];refine iQX ho3 hn0 (by omega) (fun w4 hm4 ho4=>?_);rw[uQQ] at ho4;have ho4:Own w4 base seT 6 (some a) n c (pre++(⟨{z.s with ot:=other},z.x,z.y⟩:SeV).cells):=ho4;have hE03:=hE1.trans hE13;have hm04:Mod (aQx (some a)) w w4:=(Mod.of_ext _ hE03).trans hm4 (fun i hi=>.inl hi);have h4:Rr w0 w4 base p m v:=h3.modT hm4 hT hoff hlo (fun i hi=>.inl hi) (fun i hi=>Nat.lt_of_lt_of_le (h3.tt i hi) hm4.size);have nb1:¬aQx (some a) w.heap.size:=fun hi=>by have:=(ho.rows _ hi).2;omega
 have nb2:¬aQx (some a) w1.heap.size:=fun hi=>by have:=(ho.rows _ hi).2;omega
 have hz13:=hE13.size;have hB14:=(hB1.ext hE13).mod hm4 nb1;have hB34:=hB3.mod hm4 nb2;have hz4:=hm4.size;cases other with
 | true=>
  refine aQN rfl ?_;refine aQd hB34 rfl ?_;refine aQc hB14 rfl (sc rfl) (fun w5 hg5 _ hB5=>?_);have hM5:Mod (·=w.heap.size) w4 w5:=zQE hg5 rfl;refine aQd hB5 rfl ?_;exact⟨ht,hm04.trans hM5 (fun i hi=>.inr (by omega)),rfl,ho4.mod hM5 (fun i hi e=>by subst e;exact nb1 hi)⟩
 | false=>
  refine aQM rfl ?_;have hzz:z.cells=(⟨{z.s with ot:=false},z.x,z.y⟩:SeV).cells:=by
   obtain⟨⟨ou,re,ot,ln⟩,x,y⟩:=z;simp only at ht;subst ht;rfl
  have hoC:∀w',Mod (·=w1.heap.size) w4 w'->Own w' base seT 6 (some a) n c (pre++z.cells):=fun w' hw'=>by
   rw[hzz];exact ho4.mod hw' (fun i hi e=>by subst e;exact nb2 hi)
  refine oQQ aQb (fun ch w'=>∃e,(z.s.ot=true/\e=71∨z.s.ot=false/\false=false/\gQ9 p.nm s= .error e)/\ch=cQP e v.fl v.ln/\Mod (aQx (some a)) w w') (fun ch S w' hp=>hp) (Mod (·=w1.heap.size) w4) 14 [(true,0),(true,1),(true,2),(true,3),(true,4),(true,5),(true,6),(true,7),(false,8),(false,9),(true,10),(true,11),(true,12),(false,13)] (by kernel_rfl) (Mod.of_ext _ (Ext.drew w4)) ?_;refine aQw (vs:=z.y.cells) rfl (fun w' hw' i u hi=>?_) ?_
  ·show w'.cell? (((a.add pre.length).add 2).add i)=some u;rw[add_add];exact fQM (hoC w' hw') hn0 (hQN (yget i u hi))
  have hd:=Ext.drew w4;refine aQX (tQz s w4.drew hP (h4.ext hd) h8 hl) ?_ ?_
  rotate_left
  ·rintro ch w5 ⟨e,he,rfl,hE5⟩;exact⟨e,.inr ⟨ht,rfl,he⟩,rfl,hm04.trans (Mod.of_ext _ (hd.trans hE5)) (fun i hi=>.inl hi)⟩
  rintro _ w5 ⟨o,he,t,rfl,hE5,ht5,hts,htr⟩;have hE45:=hd.trans hE5;have hy4:SB w4 z.y.A z.y.n z.y.c z.y.nd:=SB.modo (hy.sb.ext hE03) hm4 (fun ad e h0 hi=>hy.off ad e h0 (.inr (hT _ hi)));refine⟨Mod.of_ext _ hE45,?_⟩;refine call (nQK p.nm.length hP.nmk z.y t z.s.re o w5 (hy4.ext hE45) hy.st ht5 hts) ?_;rintro _ w6 ⟨b,d,rfl,hE6,hb6,hbs,hbr,hd6,hds,hdr⟩;have hE46:=hE45.trans hE6;have hz46:=hE46.size;have hz45:=hE45.size;refine⟨Mod.of_ext _ hE46,?_⟩;refine aQc (hB34.ext hE46) rfl (sc rfl) (fun w7 hg7 _ hB7=>?_);have hM7:Mod (·=w1.heap.size) w6 w7:=zQE hg7 rfl;have hM47:Mod (·=w1.heap.size) w4 w7:=(Mod.of_ext _ hE46).trans hM7 (fun i hi=>.inl hi);refine⟨hM47,?_⟩;have ho7:=hoC w7 hM47;show fQo _ w7 ((a.add pre.length).add 2) _ _;rw[add_add];refine fQh ho7 (by show pre.length+2+2<=_;omega) (sc rfl) (fun w8 hm8 ho8=>?_);rw[nQM] at ho8;have ho8:Own w8 base seT 6 (some a) n c (pre++(⟨{z.s with re:=eQR z.s.re o},z.x,d⟩:SeV).cells):=ho8;have hB78:=hB7.mod hm8 nb2;refine aQd hB78 rfl ?_;have hB18:=((hB14.ext hE46).mod hM7 (by show¬w.heap.size=w1.heap.size;omega)).mod hm8 nb1;refine aQc hB18 rfl (sc rfl) (fun w9 hg9 _ hB9=>?_);have hM9:Mod (·=w.heap.size) w8 w9:=zQE hg9 rfl;refine aQd hB9 rfl ?_;have hz04:=hm04.size;have keep:∀x:DV,(∀i,aQx x.A i->w5.heap.size<=i)->SB w6 x.A x.n x.c x.nd->SB w9 x.A x.n x.c x.nd:=fun x hr hx=>
   SB.mod (SB.mod (SB.mod hx hM7 (fun i hi e=>by have:=hr i hi;omega)) hm8 (fun i hi hj=>by have:=hr i hi;have:=(ho.rows i hj).2;omega)) hM9 (fun i hi e=>by have:=hr i hi;omega)
  have hall:Mod (aQx (some a)) w w9:=((hm04.trans hM47 (fun i hi=>.inr (by omega))).trans hm8 (fun i hi=>.inl hi)).trans hM9 (fun i hi=>.inr (by omega));refine⟨ht,hall,o,b,d,he,rfl,keep b hbr hb6,hbs,fun i hi=>by have:=hbr i hi;omega,keep d hdr hd6,hds,fun i hi=>by have:=hdr i hi;omega,ho8.mod hM9 (fun i hi e=>by subst e;exact nb1 hi)⟩
end
end
end
section
section
open Go Go.RowKit
theorem sQy (l:List Nat)(w:World)(hl:∀x∈l,x<256)(hlen:l.length<=1000000000000):
  Fn Tryz.prog 143 [.string (aQh l),.string (aQh [32])] w (fun v w'=>v= .tuple #[.string (aQh (eQg l)),.string (aQh (if 32∈l then gQq l else [])),.bool (decide (32∈l))]/\Ext w w'):=
 (uQJ l w hl hlen).mono fun v w' h=>by
  obtain⟨h1,h2⟩:=h;refine⟨?_,h2⟩;rw[h1];by_cases hm:32∈l
  ·rw[if_pos hm,if_pos hm,decide_eq_true hm]
  ·rw[if_neg hm,if_neg hm,decide_eq_false hm,mQF hm]
section
variable {nm:List (List Nat)} {fl d0:Nat} {inc:List Nat->Nat->Nat->BF->Gs->Except Pl Gs} {s:List Nat} {ls:List (List Nat)} {ln at_:Nat} {k:BF} {op:List Se} {g:Gs} {r:List Nat}
theorem jQY (h:bQc s= .ifd r):rdL nm fl d0 inc (s::ls) ln at_ k op g=match gQ9 nm r with
   | .error e=>.error ⟨e,fl,((ln+1:Nat):Int)⟩
   | .ok d=>if d0+op.length=64 then .error ⟨2,fl,((ln+1:Nat):Int)⟩else rdL nm fl d0 inc ls (ln+1) (at_+s.length+1) (dQd k d) (⟨k,eQR k d,false,ln+1⟩::op) {g with fr:=true}:=by
 rw[rdL.eq_def];simp only[h]<;>rfl
theorem hQO (h:bQc s= .inc r):rdL nm fl d0 inc (s::ls) ln at_ k op g=match inc r (ln+1) (d0+op.length) k g with
   | .error p=>.error p
   | .ok g'=>rdL nm fl d0 inc ls (ln+1) (at_+s.length+1) k op {g' with fr:=true}:=by
 rw[rdL.eq_def];simp only[h]<;>rfl
theorem hQa (h:bQc s= .elif r):rdL nm fl d0 inc (s::ls) ln at_ k op g=match op with
   | []=>.error ⟨72,fl,((ln+1:Nat):Int)⟩
   | x::op'=>if x.ot then .error ⟨71,fl,((ln+1:Nat):Int)⟩else match gQ9 nm r with
    | .error e=>.error ⟨e,fl,((ln+1:Nat):Int)⟩
    | .ok d=>rdL nm fl d0 inc ls (ln+1) (at_+s.length+1) (dQd x.re d) ({x with re:=eQR x.re d}::op') {g with fr:=true}:=by
 rw[rdL.eq_def];simp only[h]<;>rfl
theorem jQZ (h:bQc s= .els):rdL nm fl d0 inc (s::ls) ln at_ k op g=match op with
   | []=>.error ⟨72,fl,((ln+1:Nat):Int)⟩
   | x::op'=>if x.ot then .error ⟨71,fl,((ln+1:Nat):Int)⟩else rdL nm fl d0 inc ls (ln+1) (at_+s.length+1) x.re ({x with ot:=true}::op') {g with fr:=true}:=by
 rw[rdL.eq_def];simp only[h]<;>rfl
theorem qQr (h:bQc s= .en):rdL nm fl d0 inc (s::ls) ln at_ k op g=match op with
   | []=>.error ⟨72,fl,((ln+1:Nat):Int)⟩
   | x::op'=>rdL nm fl d0 inc ls (ln+1) (at_+s.length+1) x.ou op' {g with fr:=true}:=by
 rw[rdL.eq_def];simp only[h]<;>rfl
theorem dQ9 (h:bQc s= .txt):rdL nm fl d0 inc (s::ls) ln at_ k op g=match fQ0 (s++ [10]) fl at_ k g with
   | none=>.error ⟨2,fl,((ln+1:Nat):Int)⟩
   | some g'=>rdL nm fl d0 inc ls (ln+1) (at_+s.length+1) k op g':=by
 rw[rdL.eq_def];simp only[h]<;>rfl
end
theorem Own.take {w:World}{base e sz n c k:Nat}{A:Option Addr}{cs:List Value}(h:Own w base e sz A n c cs)(hk:k<=n):Own w base e sz A k c (cs.take (k*sz)):=by
 have hr:=h.row;have hl:=hr.1;have hkn:k*sz<=n*sz:=Nat.mul_le_mul_right _ hk;refine⟨⟨by rw[List.length_take];omega,?_⟩⟩;rcases hr.2 with⟨hv,hx⟩ | ⟨g,cap,cur,hv,hb,hg,hnc,hcm,hcs,htake⟩
 ·cases hv;obtain rfl:k=0:=by omega
  exact .inl ⟨rfl,by simp⟩
 ·cases hv;refine .inr ⟨g,c,cur,rfl,hb,hg,by omega,hcm,hcs,?_⟩;have ht:cur.toList.take (n*sz)=cs:=htake;rw[<-ht,List.take_take,Nat.min_eq_left hkn]
theorem mQK {ix:List Nat->Option Nat}{rd s:List Nat}{n:Nat}(h:mQy ix rd s= .ok n):n∉rd/\∃t,ix t=some n:=by
 unfold mQy at h;split at h
 ·cases h
 split at h
 ·cases h
 ·rename_i m hm;split at h
  ·cases h
  ·rename_i hn;cases h;exact⟨hn,_,hm⟩
structure LS where
 k:DV
 o:BF
 z:List SeV
 m:RM
 g:Gs
 ln:Nat
 at_:Nat
 ls:List (List Nat)
 A:Option Addr
 c:Nat
def seV (z:List SeV):List Value:=z.flatMap SeV.cells
theorem jQ0 (z:List SeV):(seV z).length=z.length*6:=aQ5 uQP z
theorem dQs (z:List SeV)(x:SeV):seV (z++ [x])=seV z++x.cells:=by simp[seV]
def WrS (p:RP)(m:RM)(A:Option Addr)(bk:Nat):Nat->Prop:=fun i=>RS p m i∨aQx A i∨i=bk
abbrev tQA:=List Nat->Nat->Nat->BF->Gs->Except Pl Gs
structure FrI (w0 w:World) (base:Nat) (p:RP) (m:RM) (v:RV) (n bk:Nat) (text:List Nat) (inc:tQA) (res:Except Pl Gs) (s:LS) (w':World):Prop where
 rr:Rr w0 w' base p s.m ⟨v.d+s.z.length,n,s.ln,n::v.rd,s.g⟩
 tt:s.m.T=fun i=>m.T i∨aQx s.A i∨i=bk
 kb:Blk w' bk 32 s.k.cells
 kd:DgO w' (TS p s.m) p.nm.length s.k s.o
 ow:Own w' base seT 6 s.A s.z.length s.c (seV s.z)
 zx:∀z∈s.z,DgO w' (TS p s.m) p.nm.length z.x z.s.ou
 zy:∀z∈s.z,DgO w' (TS p s.m) p.nm.length z.y z.s.re
 dr:text.drop s.at_=unl s.ls
 al:s.at_+(unl s.ls).length=text.length
 li:gQn s.ls
 rs:rdL p.nm n v.d inc s.ls s.ln s.at_ s.o (s.z.reverse.map (·.s)) s.g=res
 mw:Mod (RS p m) w w'
 ma:Moved w m.OA s.m.OA
 mb:Moved w m.BA s.m.BA
 nw:∀i,aQx s.A i->w.heap.size<=i
 dl:v.d+s.z.length<=64
 lb:s.ln+s.ls.length<=1048576
section
variable {w0 w w' w'':World} {base:Nat} {p:RP} {m:RM} {v:RV} {n bk:Nat} {text:List Nat} {inc:tQA} {res:Except Pl Gs} {s s':LS}
theorem FrI.sub (h:FrI w0 w base p m v n bk text inc res s w'):∀i,WrS p s.m s.A bk i->TS p s.m i:=fun i hi=>by
 rcases hi with hi | hi | hi
 ·exact .inl hi
 ·exact .inr (by rw[h.tt];exact .inr (.inl hi))
 ·exact .inr (by rw[h.tt];exact .inr (.inr hi))
theorem FrI.kp (h:FrI w0 w base p m v n bk text inc res s w')(hm:Mod (WrS p s.m s.A bk) w' w'')(tt:s'.m.T=fun i=>m.T i∨aQx s'.A i∨i=bk)(hA:Moved w' s.A s'.A)(hO:Moved w' s.m.OA s'.m.OA)(hB:Moved w' s.m.BA s'.m.BA){x:DV}{o:BF}(hx:DgO w' (TS p s.m) p.nm.length x o):DgO w'' (TS p s'.m) p.nm.length x o:=
 hx.step (hm.mono (fun i hi=>.inl (h.sub i hi))) (fun i hi=>by
  rcases hi with hi | hi
  ·rcases RS.moved (p:=p) hO hB i hi with h1 | h1
   ·exact .inl (.inl h1)
   ·exact .inr h1
  ·rw[tt] at hi;rcases hi with hi | hi | hi
   ·exact .inl (.inr (by rw[h.tt];exact .inl hi))
   ·rcases hA.rows i hi with h1 | h1
    ·exact .inl (.inr (by rw[h.tt];exact .inr (.inl h1)))
    ·exact .inr h1
   ·exact .inl (.inr (by rw[h.tt];exact .inr (.inr hi))))
theorem FrI.mw' (h:FrI w0 w base p m v n bk text inc res s w')(hbk:w.heap.size<=bk)(hm:Mod (WrS p s.m s.A bk) w' w''):Mod (RS p m) w w'':=
 h.mw.trans hm (fun i hi=>by
  rcases hi with hi | hi | hi
  ·exact RS.moved (p:=p) h.ma h.mb i hi
  ·exact .inr (h.nw i hi)
  ·exact .inr (by omega))
theorem FrI.go (h:FrI w0 w base p m v n bk text inc res s w')(hbk:w.heap.size<=bk)(hm:Mod (WrS p s.m s.A bk) w' w'')(rr:Rr w0 w'' base p s'.m ⟨v.d+s'.z.length,n,s'.ln,n::v.rd,s'.g⟩)(tt:s'.m.T=fun i=>m.T i∨aQx s'.A i∨i=bk)(hA:Moved w' s.A s'.A)(hO:Moved w' s.m.OA s'.m.OA)(hB:Moved w' s.m.BA s'.m.BA)
  (kb:Blk w'' bk 32 s'.k.cells) (kd:DgO w'' (TS p s'.m) p.nm.length s'.k s'.o) (ow:Own w'' base seT 6 s'.A s'.z.length s'.c (seV s'.z)) (zx:∀z∈s'.z,DgO w'' (TS p s'.m) p.nm.length z.x z.s.ou) (zy:∀z∈s'.z,DgO w'' (TS p s'.m) p.nm.length z.y z.s.re)
  {l:List Nat} (hls:s.ls=l::s'.ls) (hat:s'.at_=s.at_+l.length+1) (rs:rdL p.nm n v.d inc s'.ls s'.ln s'.at_ s'.o (s'.z.reverse.map (·.s)) s'.g=res) (dl:v.d+s'.z.length<=64) (hln:s'.ln=s.ln+1):FrI w0 w base p m v n bk text inc res s' w'':=by
 have hdr:=h.dr;have hal:=h.al;have hlb:=h.lb;have hli:=h.li;rw[hls,aQ7] at hdr hal;rw[hls] at hlb hli;have hz:=h.mw.size;refine⟨rr,tt,kb,kd,ow,zx,zy,?_,?_,fun t ht=>hli t (by simp[ht]),rs,h.mw' hbk hm,h.ma.trans hO hz,h.mb.trans hB hz,fun i hi=>?_,dl,?_⟩
 ·rw[hat,show s.at_+l.length+1=s.at_+(l.length+1) by omega,<-List.drop_drop,hdr,<-List.drop_drop,List.drop_left' rfl];rfl
 ·rw[hat];simp only[List.length_append,List.length_cons] at hal;omega
 ·rcases hA.rows i hi with h1 | h1
  ·exact h.nw i h1
  ·omega
 ·rw[hln];simp only[List.length_cons] at hlb;omega
theorem FrI.line (h:FrI w0 w base p m v n bk text inc res s w')(ht:text.length<=1048576){l:List Nat}{ls:List (List Nat)}(hls:s.ls=l::ls):10∉l/\s.at_+l.length+1<=text.length/\text.drop s.at_=l++10::unl ls/\(text.drop s.at_).take l.length=l/\(text.drop s.at_).take (l.length+1)=l++ [10]:=by
 have hdr:=h.dr;have hal:=h.al;have hli:=h.li;have _:=ht;rw[hls,aQ7] at hdr hal;rw[hls] at hli;simp only[List.length_append,List.length_cons] at hal;refine⟨hli l (by simp),by omega,hdr,by rw[hdr];exact List.take_left' rfl,?_⟩;rw[hdr,show l++10::unl ls=(l++ [10])++unl ls by simp];exact List.take_left' (by simp)
theorem Rr.putq (h:Rr w0 w base p m v){v':RV}(hm:Mod (fun i=>i=p.r∨i=p.q) w w')(hB:Blk w' p.r 157 (rdC p m v'))(h1:v'.g.tx=v.g.tx)(h2:v'.g.sg=v.g.sg)(h4:v'.g.fr=false->v'.g.sg≠ []∨v'.rd=[])
  (hq:∃mp,MapAt kQY w' p.q mp/\(mp.map (·.1)).Nodup/\∀n:Nat,aQS (n:Int) mp=if n∈v'.rd then some (.bool true)else none):Rr w0 w' base p m v':=by
 have hE:=hm.ext h.e0 (fun i hi=>by rcases hi with rfl | rfl;exact h.lor;exact h.loq);have hb1:=h.rb;have hb2:=h.qb;refine⟨hE,h.lor,h.loq,h.rb,h.qb,h.ne,Nat.le_trans h.top hm.size,h.pa,hB,?_,?_,by rw[h2];exact h.len,fun j s x hs hx=>?_,hq,by rw[h1];exact h.tl,by rw[h2];exact h.sl,by rw[h1];exact h.b8,h4,fun i hi=>Nat.lt_of_lt_of_le (h.tt i hi) hm.size⟩
 ·rw[h1];exact h.txt.mod hm (fun i hi e=>by have:=(h.txt.rows i hi).1;rcases e with rfl | rfl<;>omega)
 ·rw[h2];exact h.out.mod hm (fun i hi e=>by have:=(h.out.rows i hi).1;rcases e with rfl | rfl<;>omega)
 ·rw[h2] at hs;exact(h.dgs j s x hs hx).keep hm (fun i hi=>.inl (.inl (hi.elim .inl (fun e=>.inr (.inl e)))))
end
end
section
open Go Go.RowKit
def tQB (p:RP)(f n:Nat)(rd:List Nat):tQA:=fun r ln d k g=>match mQy (ixN (p.fs.map (·.1))) (n::rd) r with
 | .error e=>.error ⟨e,n,ln⟩
 | .ok m=>if d=64 then .error ⟨2,n,ln⟩else rdF p.nm p.fs f (n::rd) (d+1) m k g
def xQv (w0:World)(base:Nat)(p:RP)(f:Nat):Prop:=∀(m:RM)(v:RV)(n:Nat)(k:DV)(o:BF)(w:World),Rr w0 w base p m v->DgO w (TS p m) p.nm.length k o->n<p.fs.length->n∉v.rd->v.d<=64->65<=f+v.d->
 FnP Tryz.prog 92 [.pointer (some ⟨p.r,0,none⟩),.int .i64 n,dgV k.A k.n k.c k.r] w (fun _ w'=>∃g',rdF p.nm p.fs f v.rd v.d n o v.g= .ok g'/\GTo w0 w base p m {v with g:=g'} w') (fun ch w'=>∃q,rdF p.nm p.fs f v.rd v.d n o v.g= .error q/\ch=cQP q.e q.f q.l/\Mod (RS p m) w w')
set_option maxRecDepth 2000 in
set_option maxHeartbeats 1600000 in
theorem qQs (w0:World)(base:Nat)(p:RP)(hP:RPok w0 p)(hb0:w0.heap.size<=base):∀f,xQv w0 base p f
 | 0=>fun m v n k o w h hk hn hr hd hf=>absurd hf (by omega)
 | f+1=>fun m v n k o w h hk hn hr hd hf=>by
  have ih:=qQs w0 base p hP hb0 f;have hx:p.fs[n]? =some p.fs[n]:=List.getElem?_eq_getElem hn;have hfok:=hP.flb _ (List.getElem_mem hn);have hunf:rdF p.nm p.fs (f+1) v.rd v.d n o v.g=rdL p.nm n v.d (tQB p f n v.rd) (aQi (p.fs[n].2)) 0 0 o [] {v.g with fr:=true}:=by
   rw[rdF,hx];rfl
  generalize hres:rdF p.nm p.fs (f+1) v.rd v.d n o v.g=res at*;generalize htext:p.fs[n].2=text at*;have ht8:∀x∈text,x<256:=by rw[<-htext];exact hfok.t8
  have htl:text.length<=1048576:=by rw[<-htext];exact hfok.tl
  have htok:unl (aQi text)=text:=aQR (by rw[<-htext];exact hfok.ok);have hfs:=hP.fls.2;refine aQT (c:={c92 with cuts:=[]}) aQb Tryz.func92 rfl rfl rfl ?_;refine new (fun w1 hE1 hz1 hB1=>?_)
  let m1:RM:={m with T:=fun i=>m.T i∨aQx (none:Option Addr) i∨i=w.heap.size}
  have htt:=h.tt;have h1:Rr w0 w1 base p m1 v:=h.modT (U:=fun _=>False) (Mod.of_ext _ hE1) (fun i hi=>hi.elim) (fun i hi=>hi.elim) (fun i hi=>hi.elim) (fun i hi=>by
    rcases hi with hi | hi | hi
    ·exact .inl hi
    ·obtain⟨_,e,_⟩:=hi;cases e
    ·exact .inr (by omega)) (fun i hi=>by
    rcases hi with hi | hi | hi
    ·have:=htt i hi;omega
    ·obtain⟨_,e,_⟩:=hi;cases e
    ·omega)
  refine aQm aQb (Ext w1) 10 [(true,0),(true,1),(true,2),(true,3),(true,4),(true,5),(true,6),(true,7),(true,8),(true,9)] (by kernel_rfl) (Ext.drew w1) ?_;refine aQy (v:=.int .i64 v.fl) (fun w' hw'=>by rw[(h1.blk.ext hw').cell];rfl) ?_;refine aQy (v:=.int .i64 v.ln) (fun w' hw'=>by rw[(h1.blk.ext hw').cell];rfl) ?_;have hd1:=Ext.drew w1;have h2:=h1.ext hd1;have hB2:=hB1.ext hd1;generalize w1.drew=w2 at*;obtain⟨mp,hmp,hnd,hlk⟩:=h2.rdm;refine aQe h2.blk rfl ?_;refine bQt (kv:=kQY) (a:=(n:Int)) aQb rfl rfl rfl rfl rfl (KeyV.int .i64) rfl rfl rfl hmp (fun w3 hg3 hz3 hm3=>?_);have hM3:Mod (·=p.q) w2 w3:=zQE hg3 rfl;have hmd3:((aQs (n:Int) (Value.bool true) mp).map (·.1)).Nodup:=(fQH _ _ _ hnd).1;have hlk3:∀j:Nat,aQS (j:Int) (aQs (n:Int) (Value.bool true) mp)=if j∈n::v.rd then some (.bool true)else none:=fun j=>by
   rw[bQe];by_cases hj:j=n
   ·subst hj;simp
   ·rw[if_neg (fun e=>hj (by omega)),hlk j];simp[hj]
  have hbr:=h2.blk.mod hM3 h2.ne;refine aQn hbr (show 9<11 by decide) (fun w4 hm4 hB4=>?_);refine aQn hB4 (show 10<11 by decide) (fun w5 hm5 hB5=>?_);refine aQn hB5 (show 8<11 by decide) (fun w6 hm6 hB6=>?_);have hM36:Mod (·=p.r) w3 w6:=(hm4.trans hm5 (fun i hi=>.inl hi)).trans hm6 (fun i hi=>.inl hi);have hM26:Mod (fun i=>i=p.r∨i=p.q) w2 w6:=(hM3.mono (S':=fun i=>i=p.r∨i=p.q) (fun i hi=>.inl (.inr hi))).trans hM36 (fun i hi=>.inl (.inl hi));have h6:Rr w0 w6 base p m1 ⟨v.d,n,0,n::v.rd,{v.g with fr:=true}⟩:=h2.putq hM26 hB6 rfl rfl (fun e=>by cases e) ⟨_,hm3.mod hM36 (fun e=>h2.ne e.symm),hmd3,hlk3⟩;have hbk:¬(w.heap.size=p.r∨w.heap.size=p.q):=fun e=>by have:=h.rb;have:=h.qb;have:=h.top;rcases e with e | e<;>omega
  have hB6k:=hB2.mod hM26 hbk;have hE06:Mod (RS p m) w w6:=((Mod.of_ext (RS p m) hE1).trans (Mod.of_ext (RS p m) hd1) (fun i hi=>.inl hi)).trans (hM26.mono (S':=RS p m) (fun i hi=>.inl (hi.elim .inl (fun e=>.inr (.inl e))))) (fun i hi=>.inl hi);refine aQe hB6 rfl ?_;refine aQp jQT (hP.fls.ext h6.e0) rfl (by omega) (fun pp x hxx hc=>?_);obtain rfl:p.fs[n]=x:=Option.some.inj (hx.symm.trans hxx);refine load (hc 1 _ rfl) ?_;rw[htext];have hk1:DgO w1 (TS p m1) p.nm.length k o:=hk.step (Mod.of_ext _ hE1) (fun i hi=>by
   rcases hi with hi | hi | hi | hi
   ·exact .inl (.inl hi)
   ·exact .inl (.inr hi)
   ·obtain⟨_,e,_⟩:=hi;cases e
   ·exact .inr (by omega))
  have hk6:DgO w6 (TS p m1) p.nm.length k o:=(hk1.ext hd1).keep hM26 (fun i hi=>.inl (.inl (hi.elim .inl (fun e=>.inr (.inl e)))));have hll:(aQi text).length<=text.length:=by have:=lQc (aQi text);rw[htok] at this;exact this
  refine loop aQb [8,10] (fun s:LS=>[.slice s.A s.z.length s.c,.int .i64 s.at_]) (fun s w'=>FrI w0 w base p m v n w.heap.size text (tQB p f n v.rd) res s w') (fun s _=>s.ls.length) ⟨k,o,[],m1,{v.g with fr:=true},0,0,aQi text,none,0⟩ rfl
   ⟨h6,rfl,hB6k,hk6,Own.nil _ _ _ _,(fun z hz=>by cases hz),(fun z hz=>by cases hz),(by rw[htok];rfl),(by rw[htok];simp),bQv text,hunf.symm,hE06,Moved.refl _ _,Moved.refl _ _,(fun i hi=>by obtain⟨_,e,_⟩:=hi;cases e),hd,(by show 0+(aQi text).length<=_;omega)⟩ ?_
  rintro s w7 hI;have h7:=hI.rr;have hal:=hI.al;refine aQq (fun c1=>?_) (fun c1=>?_)
  rotate_left
  ·have hls:s.ls=[]:=by
    have hs:=aQj text;have:=lQc s.ls;exact List.eq_nil_of_length_eq_zero (by omega)
   have h7z:=hI.rr;have hrs:=hI.rs;rw[hls] at hrs;refine aQq (fun hz=>?_) (fun hz=>?_)
   ·obtain⟨z',x,hzz⟩:∃z' x,s.z=z'++ [x]:=by
     rcases List.eq_nil_or_concat s.z with h0 | ⟨z',x,h0⟩
     ·rw[h0] at hz;exact absurd hz (by decide)
     ·exact⟨z',x,by rw[h0];simp⟩
    have hzl:s.z.length=z'.length+1:=by rw[hzz];simp
    have hrev:s.z.reverse.map (·.s)=x.s::z'.reverse.map (·.s):=by rw[hzz];simp
    obtain⟨oa,hoa,_⟩:=hI.ow.sl.at_ (by omega:0<s.z.length);have ho7:Own w7 base seT 6 (some oa) s.z.length s.c (seV z'++x.cells):=by rw[<-hoa,<-dQs,<-hzz];exact hI.ow
    have hdl:=hI.dl;refine aQa ((z'.length:Nat):Int) (by omega) (by omega) ?_;rw[hoa];refine aQU (j:=z'.length) (by omega) ?_;rw[show z'.length*6=(seV z').length from (jQ0 z').symm];refine nQL ho7 (by omega) (hQN (i:=5) (u:=.int .i64 x.s.ln) rfl) ?_;refine aQn h7.blk (show 10<11 by decide) (fun w8 hm8 hB8=>?_);have h8:Rr w0 w8 base p s.m ⟨v.d+s.z.length,n,x.s.ln,n::v.rd,s.g⟩:=h7.put hm8 hB8 rfl rfl rfl h7.nf;refine aQX (bQQ 72 w8 h8) (fun _ _ hf=>hf.elim) ?_;rintro ch w9 ⟨rfl,hE9⟩;refine⟨⟨72,n,x.s.ln⟩,?_,rfl,hI.mw' (Nat.le_refl _) ((hm8.mono (S':=WrS p s.m s.A w.heap.size) (fun i hi=>.inl (.inl (.inl hi)))).trans (Mod.of_ext _ hE9) (fun i hi=>.inl hi))⟩;rw[<-hrs,rdL.eq_def,hrev]
   ·have hz0:s.z=[]:=List.eq_nil_of_length_eq_zero (by omega);obtain⟨mq,k1,k2,k3⟩:=h7.rdm;refine aQe h7.blk rfl ?_;refine qQb (kv:=kQY) (a:=(n:Int)) aQb rfl rfl rfl rfl rfl (KeyV.int .i64) rfl rfl k1 (fun w8 hM8 hz8 hm8=>?_);refine aQn (h7.blk.mod hM8 h7.ne) (show 9<11 by decide) (fun w9 hm9 hB9=>?_);refine aQn hB9 (show 10<11 by decide) (fun w10 hm10 hB10=>?_);refine aQn hB10 (show 8<11 by decide) (fun w11 hm11 hB11=>?_);have hM811:Mod (·=p.r) w8 w11:=(hm9.trans hm10 (fun i hi=>.inl hi)).trans hm11 (fun i hi=>.inl hi);have hM711:Mod (fun i=>i=p.r∨i=p.q) w7 w11:=(hM8.mono (S':=fun i=>i=p.r∨i=p.q) (fun i hi=>.inl (.inr hi))).trans hM811 (fun i hi=>.inl (.inl hi));have hd0:v.d+s.z.length=v.d:=by rw[hz0];rfl
    rw[hd0] at hB11;have h11:Rr w0 w11 base p s.m ⟨v.d,v.fl,v.ln,v.rd,{s.g with fr:=true}⟩:=h7.putq hM711 hB11 rfl rfl (fun e=>by cases e) ⟨_,hm8.mod hM811 (fun e=>h7.ne e.symm),(k2.sublist ((gQJ (n:Int) mq).map _)),fun j=>by
     rw[lQh _ _ _ k2];by_cases hj:j=n
     ·subst hj;rw[if_pos rfl,if_neg hr]
     ·rw[if_neg (fun e=>hj (by omega)),k3 j];simp[hj]⟩
    have h12:Rr w0 w11 base p {s.m with T:=m.T} ⟨v.d,v.fl,v.ln,v.rd,{s.g with fr:=true}⟩:=h11.modT (U:=fun _=>False) (Mod.refl _ _) (fun i hi=>hi.elim) (fun i hi=>hi.elim) (fun i hi=>hi.elim) (fun i hi=>.inl (by rw[hI.tt];exact .inl hi)) (fun i hi=>by
     have:=htt i hi;have:=hI.mw.size;have:=hM711.size;omega)
    refine⟨{s.g with fr:=true},?_,{s.m with T:=m.T},rfl,h12,hI.mw' (Nat.le_refl _) (hM711.mono (fun i hi=>.inl (.inl (hi.elim .inl (fun e=>.inr (.inl e)))))),hI.ma,hI.mb⟩;rw[<-hrs,rdL.eq_def,hz0];rfl
  ·cases hls:s.ls with
   | nil=>
    have hs:=aQj text;rw[hls] at hal;have:(unl ([]:List (List Nat))).length=0:=rfl;omega
   | cons l ls=>
    obtain⟨l1,l2,l3,l4,l5⟩:=hI.line htl hls;have hsz:=aQj text;have hl8:∀x∈l,x<256:=fun x hx=>ht8 x (List.mem_of_mem_drop (by rw[l3];simp[hx]:x∈text.drop s.at_))
    have hlb:=hI.lb;refine aQ1 (v':=.string (aQh (text.drop s.at_))) ⟨by omega,by rw[hsz];omega,by rw[hsz];omega⟩ ?_ ?_
    ·rw[aQt,hsz];simp only[Int.toNat_natCast];rw[List.take_of_length_le (Nat.le_refl _)]
    refine call (eQD (text.drop s.at_) 10 w7 (fun x hx=>ht8 x (List.mem_of_mem_drop hx)) (by decide)) ?_;rintro _ _ ⟨rfl,rfl⟩;have hix:ixB 10 (text.drop s.at_)=(l.length:Nat):=by
     unfold ixB;rw[if_pos (by rw[l3];simp),l3,List.takeWhile_append_of_pos (fun x hx=>by simpa using fun e=>l1 (by rw[<-e];exact hx))];simp
    rw[hix];refine aQa ((s.at_+l.length:Nat):Int) (by show((s.at_:Nat):Int)+_=_;omega) (by omega) ?_;refine aQa ((s.at_+l.length+1:Nat):Int) (by omega) (by omega) ?_;refine aQa ((s.at_+l.length:Nat):Int) (by omega) (by omega) ?_;refine aQ1 (v':=.string (aQh l)) ⟨by omega,by omega,by rw[hsz];omega⟩ ?_ ?_
    ·rw[aQt];simp only[Int.toNat_natCast];rw[List.drop_take,show s.at_+l.length-s.at_=l.length by omega,l4]
    refine aQe h7.blk rfl ?_;refine aQa ((s.ln+1:Nat):Int) (by show((s.ln:Nat):Int)+1=_;omega) (by omega) ?_;refine aQn h7.blk (show 10<11 by decide) (fun w8 hm8 hB8=>?_);have h8:Rr w0 w8 base p s.m ⟨v.d+s.z.length,n,s.ln+1,n::v.rd,s.g⟩:=h7.put hm8 hB8 rfl rfl rfl h7.nf;refine call (sQy l w8 hl8 (by omega)) ?_;rintro _ w9 ⟨rfl,hE9⟩;have h9:=h8.ext hE9;have hbkk:w.heap.size<=w.heap.size:=Nat.le_refl _;have hm79:Mod (WrS p s.m s.A w.heap.size) w7 w9:=(hm8.mono (S':=WrS p s.m s.A w.heap.size) (fun i hi=>.inl (.inl (.inl hi)))).trans (Mod.of_ext _ hE9) (fun i hi=>.inl hi);have npr:¬w.heap.size=p.r:=fun e=>hbk (.inl e)
    have hkb9:Blk w9 w.heap.size 32 s.k.cells:=(hI.kb.mod hm8 npr).ext hE9;have kp9:∀{x:DV} {o:BF},DgO w7 (TS p s.m) p.nm.length x o->DgO w9 (TS p s.m) p.nm.length x o:=fun hx=>hI.kp hm79 hI.tt (Moved.refl _ _) (Moved.refl _ _) (Moved.refl _ _) hx
    have hkd9:=kp9 hI.kd;have nopr:∀i,aQx s.A i->¬i=p.r:=fun i hi e=>by have:=(hI.ow.rows i hi).1;have:=h7.rb;omega
    have how9:Own w9 base seT 6 s.A s.z.length s.c (seV s.z):=(hI.ow.mod hm8 nopr).ext hE9;have hrs:=hI.rs;rw[hls] at hrs;have hsp:(((aQh (eQg l)).size:Int)<(aQh l).size)↔32∈l:=by rw[aQj,aQj,<-qQd];omega
    have hdl:=hI.dl;have hll2:l.length<=1048576:=by omega
    have hzz9:=hm79.size;have hzw7:=hI.mw.size;have pan:∀(q:Pl) (ch:List PanicEntry) (w':World),res= .error q->ch=cQP q.e q.f q.l->Mod (WrS p s.m s.A w.heap.size) w9 w'->∃q,res= .error q/\ch=cQP q.e q.f q.l/\Mod (RS p m) w w':=fun q ch w' h1 h2 h3=>⟨q,h1,h2,hI.mw' hbkk (hm79.trans h3 (fun i hi=>.inl hi))⟩
    have hloA:∀i,aQx s.A i->w0.heap.size<=i:=fun i hi=>by have:=(how9.rows i hi).1;omega
    have hoffA:∀i,aQx s.A i->¬RS p s.m i:=fun i hi hr=>by
     have hb:=(how9.rows i hi).1;have:=h9.rb;have:=h9.qb;rcases hr with rfl | rfl | hr | hr
     ·omega
     ·omega
     ·exact how9.apart h9.out (by decide) hi hr
     ·exact how9.apart h9.txt (by decide) hi hr
    have htA:∀i,aQx s.A i->s.m.T i:=fun i hi=>by rw[hI.tt];exact .inr (.inl hi)
    have nbk:¬RS p s.m w.heap.size:=fun hr=>by
     have:=h.rb;have:=h.qb;have:=h.top;rcases hr with e | e | hr | hr
     ·omega
     ·omega
     ·exact hkb9.apart h9.out (by decide) hr
     ·exact hkb9.apart h9.txt (by decide) hr
    have hhA:∀i,aQx s.A i->i<w9.heap.size:=fun i hi=>(how9.rows i hi).2
    have nbA:¬aQx s.A w.heap.size:=hkb9.apart how9 (by decide);have nprA:¬aQx s.A p.r:=fun hi=>nopr _ hi rfl
    by_cases P1:eQg l=kIf/\32∈l
    ·have hdir:=wQg P1.1 P1.2;rw[if_pos P1.2];have hr8:∀x∈gQq l,x<256:=fun x hx=>hl8 x (List.mem_of_mem_drop hx)
     have hrl:(gQq l).length<=1000000000000:=by unfold gQq;rw[List.length_drop];omega
     refine aQO (by rw[P1.1];rfl) ?_;refine aQO (hsp.2 P1.2) ?_;refine aQX (tQz (gQq l) w9 hP h9 hr8 hrl) ?_ ?_
     rotate_left
     ·rintro ch w10 ⟨e,he,rfl,hE10⟩;refine pan ⟨e,n,((s.ln+1:Nat):Int)⟩ _ w10 ?_ rfl (Mod.of_ext _ hE10);rw[<-hrs,jQY hdir,he]
     rintro _ w10 ⟨d,he,t,rfl,hE10,ht10,hts,htr⟩;refine new (fun w11 hE11 hz11 hB11=>?_);refine aQc hB11 rfl (sc rfl) (fun w12 hg12 _ hB12=>?_);have hE1012:Ext w10 w12:=aQJ hE11 hB11 hg12;have hE912:=hE10.trans hE1012;have h12:=h9.ext hE912;have hz912:=hE912.size;have hz910:=hE10.size;refine aQX (lQk w12 h12 hdl) ?_ ?_
     rotate_left
     ·rintro ch w13 ⟨e64,rfl,hE13⟩;refine pan ⟨2,n,((s.ln+1:Nat):Int)⟩ _ w13 ?_ rfl (Mod.of_ext _ (hE912.trans hE13));have e64:v.d+(s.z.reverse.map (·.s)).length=64:=by simpa using e64
      rw[<-hrs,jQY hdir,he];simp only[if_pos e64]
     rintro _ w13 ⟨n64,h13,hm13⟩;have n64:¬v.d+s.z.length=64:=n64;have hkb13:=(hkb9.ext hE912).mod hm13 npr;have n10r:¬w10.heap.size=p.r:=fun e=>by have:=h9.rb;have:=h9.top;omega
     have hB1213:=hB12.mod hm13 n10r;refine aQd hkb13 rfl ?_;refine aQd hB1213 rfl ?_;have hkd13:=(hkd9.ext hE912).keep hm13 (fun i hi=>.inl (.inl (.inl hi)));have ht13:SB w13 t.A t.n t.c t.nd:=SB.mod (ht10.ext hE1012) hm13 (fun i hi e=>by have:=htr i hi;have:=h9.rb;have:=h9.top;omega);refine call (nQK p.nm.length hP.nmk s.k t s.o d w13 hkd13.sb hkd13.st ht13 hts) ?_;rintro _ w14 ⟨a,b,rfl,hE14,ha14,has,har,hb14,hbs,hbr⟩;refine new (fun w15 hE15 hz15 hB15=>?_);refine new (fun w16 hE16 hz16 hB16=>?_);have hE1416:=hE15.trans hE16;refine aQc (hB15.ext hE16) rfl (sc rfl) (fun w17 hg17 _ hB17=>?_);have hM17:Mod (·=w14.heap.size) w16 w17:=zQE hg17 rfl;have hE1417:Ext w14 w17:=hM17.ext hE1416 (fun i hi=>by omega);refine aQc (hB16.mod hM17 (by show¬w15.heap.size=w14.heap.size;omega)) rfl (sc rfl) (fun w18 hg18 _ hB18=>?_);have hM18:Mod (·=w15.heap.size) w17 w18:=zQE hg18 rfl;have hE1418:Ext w14 w18:=hM18.ext hE1417 (fun i hi=>by omega);have hB1718:=hB17.mod hM18 (by show¬w14.heap.size=w15.heap.size;omega);have hE1318:=hE14.trans hE1418;have h18:=h13.ext hE1318;have hkb18:=hkb13.ext hE1318;have hkd18:=hkd13.ext hE1318;have how13:=(how9.ext hE912).mod hm13 nopr;have how18:=how13.ext hE1318;have hd:=Ext.drew w18;have hz1318:=hE1318.size;have hz1213:=hm13.size;have hz1314:=hE14.size;have hz1416:=hE1416.size;have n15A:¬aQx s.A w15.heap.size:=fun hi=>by have:=hhA _ hi;omega
     refine aQm aQb (Mod (aQx s.A) w18) 11 [(true,0),(true,1),(true,2),(true,3),(true,4),(true,5),(true,6),(true,7),(false,8),(false,9),(true,10)] (by kernel_rfl) (Mod.of_ext _ hd) ?_;refine aQw (vs:=s.k.cells) rfl (fun w' hw' j u hj=>by rw[(hkb18.mod hw' nbA).cell];exact hj) ?_;refine aQw (vs:=b.cells) rfl (fun w' hw' j u hj=>by rw[(hB18.mod hw' n15A).cell];exact hj) ?_;refine aQy (v:=.int .i64 ((s.ln+1:Nat):Int)) (fun w' hw'=>by rw[(h18.blk.mod hw' nprA).cell];rfl) ?_
     let zn:SeV:=⟨⟨s.o,eQR s.o d,false,s.ln+1⟩,s.k,b⟩
     refine aQl aQb [zn.cells] rfl rfl rfl rfl rfl ⟨rfl,rfl,⟨⟩⟩ rfl (fun cs hh=>by simp only[List.mem_singleton] at hh;subst hh;rfl) rfl (by decide) (by decide) ?_;intro w19 hE19 hz19 hB19;have hE1819:=hd.trans hE19;refine⟨Mod.of_ext _ hE1819,?_⟩;have hs19:Sl w19 6 (some ⟨w18.drew.heap.size,0,none⟩) 1 1 zn.cells:=Sl.own (sz:=6) (n:=1) hB19 (Nat.le_refl _) (by decide) (by simp[SeV.cells]);refine bQf aQb rfl rfl rfl rfl rfl (by decide) rfl rfl ⟨_,rfl⟩ rfl rfl (how18.ext hE1819) hs19 (oQU zn) (by unfold maxLen;omega) (by show(s.z.length+1)*80<=_;omega) (h18.ext hE1819).top ?_;intro A' c' w20 hm20 hown20 hmv20;have hm1820:Mod (aQx s.A) w18 w20:=(Mod.of_ext (aQx s.A) hE1819).trans hm20 (fun i hi=>.inl hi);refine⟨hm1820,?_⟩;have n14A:¬aQx s.A w14.heap.size:=fun hi=>by have:=hhA _ hi;omega
     refine aQd (hB1718.mod hm1820 n14A) rfl ?_;refine aQc (hkb18.mod hm1820 nbA) rfl (sc rfl) (fun w21 hg21 _ hB21=>?_);have hM21:Mod (·=w.heap.size) w20 w21:=zQE hg21 rfl;have hM1821:Mod (WrS p s.m s.A w.heap.size) w18 w21:=(hm1820.mono (S':=WrS p s.m s.A w.heap.size) (fun i hi=>.inl (.inr (.inl hi)))).trans hM21 (fun i hi=>.inl (.inr (.inr hi)));have hz20:=hm1820.size;have h20:Rr w0 w20 base p {s.m with T:=fun i=>m.T i∨aQx A' i∨i=w.heap.size} ⟨v.d+s.z.length+1,n,s.ln+1,n::v.rd,s.g⟩:=h18.modT hm1820 htA hoffA hloA (fun i hi=>by
       rcases hi with hi | hi | hi
       ·exact .inl (by rw[hI.tt];exact .inl hi)
       ·rcases hmv20.rows i hi with h1 | h1
        ·exact .inl (by rw[hI.tt];exact .inr (.inl h1))
        ·exact .inr (by have:=hE1819.size;omega)
       ·exact .inl (by rw[hI.tt];exact .inr (.inr hi))) (fun i hi=>by
       rcases hi with hi | hi | hi
       ·have:=htt i hi;omega
       ·exact(hown20.rows i hi).2
       ·have:=hkb18.lt;omega)
     have h21:Rr w0 w21 base p {s.m with T:=fun i=>m.T i∨aQx A' i∨i=w.heap.size} ⟨v.d+s.z.length+1,n,s.ln+1,n::v.rd,s.g⟩:=h20.modT hM21 (fun i hi=>.inr (.inr hi)) (fun i hi=>by subst hi;exact nbk) (fun i hi=>by have:=h.e0.size;omega) (fun i hi=>.inl hi) (fun i hi=>Nat.lt_of_lt_of_le (h20.tt i hi) hM21.size);refine aQn h21.blk (show 8<11 by decide) (fun w22 hm22 hB22=>?_);have h22:Rr w0 w22 base p {s.m with T:=fun i=>m.T i∨aQx A' i∨i=w.heap.size} ⟨v.d+s.z.length+1,n,s.ln+1,n::v.rd,{s.g with fr:=true}⟩:=h21.put hm22 hB22 rfl rfl rfl (fun e=>by cases e);have hm9_18:Mod (WrS p s.m s.A w.heap.size) w9 w18:=((Mod.of_ext _ hE912).trans (hm13.mono (S':=WrS p s.m s.A w.heap.size) (fun i hi=>.inl (.inl (.inl hi)))) (fun i hi=>.inl hi)).trans (Mod.of_ext _ hE1318) (fun i hi=>.inl hi);have hm18_22:Mod (WrS p s.m s.A w.heap.size) w18 w22:=hM1821.trans hm22 (fun i hi=>.inl (.inl (.inl hi)));have hm7_22:Mod (WrS p s.m s.A w.heap.size) w7 w22:=(hm79.trans hm9_18 (fun i hi=>.inl hi)).trans hm18_22 (fun i hi=>.inl hi);have hmvA:Moved w7 s.A A':=hmv20.back (by have:=hm79.size;have:=hm9_18.size;have:=hE1819.size;omega);have htt':(fun i=>m.T i∨aQx A' i∨i=w.heap.size)=(fun i=>m.T i∨aQx A' i∨i=w.heap.size):=rfl
     let s':LS:=⟨a,dQd s.o d,s.z++ [zn],{s.m with T:=fun i=>m.T i∨aQx A' i∨i=w.heap.size},{s.g with fr:=true},s.ln+1,s.at_+l.length+1,ls,A',c'⟩
     have kp:∀{x:DV} {o:BF},DgO w7 (TS p s.m) p.nm.length x o->DgO w22 (TS p s'.m) p.nm.length x o:=fun hx=>hI.kp (s':=s') hm7_22 rfl hmvA (Moved.refl _ _) (Moved.refl _ _) hx
     have hlen':(s.z++ [zn]).length=s.z.length+1:=by simp
     have hTlt:∀i,TS p s.m i->i<w13.heap.size:=fun i hi=>by
      have:=h9.hiT i hi;omega
     have fresh:∀(x:DV) (ox:BF),(∀i,aQx x.A i->w13.heap.size<=i)->SB w14 x.A x.n x.c x.nd->Set1 p.nm.length x.nd x.r ox->DgO w22 (TS p s'.m) p.nm.length x ox:=fun x ox hr hx hs=>by
      have e1:DgO w18 (TS p s.m) p.nm.length x ox:=⟨hx.ext hE1418,hs,fun ad e _ hh=>by have:=hr _ ⟨ad,e,rfl⟩;have:=hTlt _ hh;omega⟩
      exact e1.step (hm18_22.mono (fun i hi=>.inl (hI.sub i hi))) (fun i hi=>by
       rcases hi with hi | hi
       ·exact .inl (.inl hi)
       ·rcases hi with hi | hi | hi
        ·exact .inl (.inr (by rw[hI.tt];exact .inl hi))
        ·rcases hmv20.rows i hi with h1 | h1
         ·exact .inl (.inr (by rw[hI.tt];exact .inr (.inl h1)))
         ·exact .inr (by have:=hE1819.size;omega)
        ·exact .inl (.inr (by rw[hI.tt];exact .inr (.inr hi))))
     refine⟨s',?_,?_,?_⟩
     ·show Has _ _;have e:(((s.z++ [zn]).length:Nat):Int)=((s.z.length+1:Nat):Int):=by rw[hlen']
      simp only[s',hlen'];rfl
     ·refine hI.go (s':=s') hbkk hm7_22 ?_ rfl hmvA (Moved.refl _ _) (Moved.refl _ _) ?_ ?_ ?_ ?_ ?_ hls rfl ?_ ?_ rfl
      ·show Rr w0 w22 base p _ ⟨v.d+(s.z++ [zn]).length,n,s.ln+1,n::v.rd,{s.g with fr:=true}⟩;rw[hlen'];exact h22
      ·exact hB21.mod hm22 npr
      ·exact fresh a _ har ha14 has
      ·show Own w22 base seT 6 A' (s.z++ [zn]).length c' (seV (s.z++ [zn]));rw[hlen',dQs];exact(hown20.mod hM21 (fun i hi e=>by subst e;exact(hkb18.mod hm1820 nbA).apart hown20 (by decide) hi)).mod hm22 (fun i hi e=>by subst e;have:=(hown20.rows _ hi).1;have:=h.rb;omega)
      ·intro z hz;simp only[s',List.mem_append,List.mem_singleton] at hz;rcases hz with hz | rfl
       ·exact kp (hI.zx z hz)
       ·exact kp hI.kd
      ·intro z hz;simp only[s',List.mem_append,List.mem_singleton] at hz;rcases hz with hz | rfl
       ·exact kp (hI.zy z hz)
       ·exact fresh b _ hbr hb14 hbs
      ·have e64:¬v.d+(s.z.reverse.map (·.s)).length=64:=by simpa using n64
       rw[jQY hdir,he] at hrs;simp only[if_neg e64] at hrs;rw[<-hrs];simp[s',zn]
      ·show v.d+(s.z++ [zn]).length<=64;rw[hlen'];omega
     ·show ls.length<(l::ls).length;simp
    have hop:v.d+(s.z.reverse.map (·.s)).length=v.d+s.z.length:=by simp
    have hr8:∀x∈gQq l,x<256:=fun x hx=>hl8 x (List.mem_of_mem_drop hx)
    have hrl:(gQq l).length<=1000000000000:=by unfold gQq;rw[List.length_drop];omega
    by_cases P2:eQg l=uQK/\32∈l
    ·have hdir:=uQL P2.1 P2.2;rw[if_pos P2.2];refine aQB (by rw[P2.1];decide) ?_;refine aQO (by rw[P2.1];rfl) ?_;refine aQO (hsp.2 P2.2) ?_;refine aQX (qQk (gQq l) w9 hP h9 hr8 hrl) ?_ ?_
     rotate_left
     ·rintro ch w10 ⟨e,he,rfl,hE10⟩;refine pan ⟨e,n,((s.ln+1:Nat):Int)⟩ _ w10 ?_ rfl (Mod.of_ext _ hE10);rw[<-hrs,hQO hdir];have hi:tQB p f n v.rd (gQq l) (s.ln+1) (v.d+(s.z.reverse.map (·.s)).length) s.o s.g= .error ⟨e,n,((s.ln+1:Nat):Int)⟩:=by
       unfold tQB;rw[show mQy (ixN (p.fs.map (·.1))) (n::v.rd) (gQq l)= .error e from he]
      rw[hi]
     rintro _ w10 ⟨n',he,rfl,hE10⟩;have he:mQy (ixN (p.fs.map (·.1))) (n::v.rd) (gQq l)= .ok n':=he;have h10:=h9.ext hE10;refine aQX (lQk w10 h10 hdl) ?_ ?_
     rotate_left
     ·rintro ch w11 ⟨e64,rfl,hE11⟩;refine pan ⟨2,n,((s.ln+1:Nat):Int)⟩ _ w11 ?_ rfl (Mod.of_ext _ (hE10.trans hE11));have e64:v.d+(s.z.reverse.map (·.s)).length=64:=by simpa using e64
      rw[<-hrs,hQO hdir];have hi:tQB p f n v.rd (gQq l) (s.ln+1) (v.d+(s.z.reverse.map (·.s)).length) s.o s.g= .error ⟨2,n,((s.ln+1:Nat):Int)⟩:=by
       unfold tQB;rw[he];simp only[if_pos e64]
      rw[hi]
     rintro _ w11 ⟨n64,h11,hm11⟩;have n64:¬v.d+s.z.length=64:=n64;have e64:¬v.d+(s.z.reverse.map (·.s)).length=64:=by simpa using n64
     have hkb11:=(hkb9.ext hE10).mod hm11 npr;refine aQd hkb11 rfl ?_;obtain⟨hnr,tn,htn⟩:=mQK he;have hn':n'<p.fs.length:=by have:=fQD htn;simpa using this
     have hkd11:=(hkd9.ext hE10).keep hm11 (fun i hi=>.inl (.inl (.inl hi)));have hinc:∀R,rdF p.nm p.fs f (n::v.rd) (v.d+s.z.length+1) n' s.o s.g=R->tQB p f n v.rd (gQq l) (s.ln+1) (v.d+(s.z.reverse.map (·.s)).length) s.o s.g=R:=fun R hR=>by
      unfold tQB;rw[he];simp only[if_neg e64];rw[hop];exact hR
     have hm9_11:Mod (WrS p s.m s.A w.heap.size) w9 w11:=(Mod.of_ext _ hE10).trans (hm11.mono (S':=WrS p s.m s.A w.heap.size) (fun i hi=>.inl (.inl (.inl hi)))) (fun i hi=>.inl hi);refine aQX (ih s.m ⟨v.d+s.z.length+1,n,s.ln+1,n::v.rd,s.g⟩ n' s.k s.o w11 h11 hkd11 hn' hnr (by show v.d+s.z.length+1<=64;omega) (by show 65<=f+(v.d+s.z.length+1);omega)) ?_ ?_
     rotate_left
     ·rintro ch w12 ⟨q,hq,rfl,hm12⟩;refine pan q _ w12 ?_ rfl (hm9_11.trans hm12 (fun i hi=>.inl (.inl hi)));rw[<-hrs,hQO hdir,hinc _ hq]
     rintro _ w12 ⟨g',hg',m',hT',h12,hm12,hv12,hu12⟩;refine aQe h12.blk rfl ?_;refine aQa ((v.d+s.z.length:Nat):Int) (by show((v.d+s.z.length+1:Nat):Int)-1=_;omega) (by omega) ?_;refine aQn h12.blk (show 4<11 by decide) (fun w13 hm13 hB13=>?_);have h13:Rr w0 w13 base p m' ⟨v.d+s.z.length,n,s.ln+1,n::v.rd,g'⟩:=h12.put hm13 hB13 rfl rfl rfl h12.nf;refine aQn h13.blk (show 8<11 by decide) (fun w14 hm14 hB14=>?_);have h14:Rr w0 w14 base p m' ⟨v.d+s.z.length,n,s.ln+1,n::v.rd,{g' with fr:=true}⟩:=h13.put hm14 hB14 rfl rfl rfl (fun e=>by cases e);have hm1214:Mod (·=p.r) w12 w14:=hm13.trans hm14 (fun i hi=>.inl hi);have hm9_14:Mod (WrS p s.m s.A w.heap.size) w9 w14:=(hm9_11.trans hm12 (fun i hi=>.inl (.inl hi))).trans hm1214 (fun i hi=>.inl (.inl (.inl hi)));have hm7_14:Mod (WrS p s.m s.A w.heap.size) w7 w14:=hm79.trans hm9_14 (fun i hi=>.inl hi);have hzm:=hm9_11.size;have hv7:Moved w7 s.m.OA m'.OA:=hv12.back (by omega);have hu7:Moved w7 s.m.BA m'.BA:=hu12.back (by omega)
     let s':LS:=⟨s.k,s.o,s.z,m',{g' with fr:=true},s.ln+1,s.at_+l.length+1,ls,s.A,s.c⟩
     have hT2:s'.m.T=fun i=>m.T i∨aQx s'.A i∨i=w.heap.size:=by show m'.T=_;rw[hT',hI.tt]
     have kp:∀{x:DV} {o:BF},DgO w7 (TS p s.m) p.nm.length x o->DgO w14 (TS p s'.m) p.nm.length x o:=fun hx=>hI.kp (s':=s') hm7_14 hT2 (Moved.refl _ _) hv7 hu7 hx
     have how14:Own w14 base seT 6 s.A s.z.length s.c (seV s.z):=((((how9.ext hE10).mod hm11 nopr).mod hm12 hoffA).mod hm1214 nopr)
     have hkb14:=(hkb11.mod hm12 nbk).mod hm1214 npr;refine⟨s',rfl,?_,?_⟩
     ·refine hI.go (s':=s') hbkk hm7_14 h14 hT2 (Moved.refl _ _) hv7 hu7 hkb14 (kp hI.kd) how14 (fun z hz=>kp (hI.zx z hz)) (fun z hz=>kp (hI.zy z hz)) hls rfl ?_ hdl rfl;rw[hQO hdir,hinc _ hg'] at hrs;exact hrs
     ·show ls.length<(l::ls).length;simp
    by_cases P3:eQg l=oQO/\32∈l
    ·have hdir:=sQu P3.1 P3.2;rw[if_pos P3.2];refine aQB (by rw[P3.1];decide) ?_;refine aQB (by rw[P3.1];decide) ?_;refine aQO (by rw[P3.1];rfl) ?_;refine aQO (hsp.2 P3.2) ?_;refine aQP (fun hz=>?_) (fun hz=>?_)
     ·have hz0:s.z=[]:=List.eq_nil_of_length_eq_zero (by omega);refine aQX (bQQ 72 w9 h9) (fun _ _ hf=>hf.elim) ?_;rintro ch w10 ⟨rfl,hE10⟩;refine pan ⟨72,n,((s.ln+1:Nat):Int)⟩ _ w10 ?_ rfl (Mod.of_ext _ hE10);rw[<-hrs,hQa hdir,hz0];rfl
     obtain⟨z',x,hzz⟩:∃z' x,s.z=z'++ [x]:=by
      rcases List.eq_nil_or_concat s.z with h0 | ⟨z',x,h0⟩
      ·exact absurd (by rw[h0];rfl) hz
      ·exact⟨z',x,by rw[h0];simp⟩
     have hzl:s.z.length=z'.length+1:=by rw[hzz];simp
     have hrev:s.z.reverse.map (·.s)=x.s::z'.reverse.map (·.s):=by rw[hzz];simp
     obtain⟨oa,hoa,_⟩:=how9.sl.at_ (by omega:0<s.z.length);have hoA:aQx (some oa)=aQx s.A:=by rw[hoa]
     have ho9:Own w9 base seT 6 (some oa) s.z.length s.c (seV z'++x.cells):=by rw[<-hoa,<-dQs,<-hzz];exact how9
     have hxz:x∈s.z:=by rw[hzz];simp
     have hxx:=kp9 (hI.zx x hxz);have hxy:=kp9 (hI.zy x hxz);have hpl:=jQ0 z';have htT:∀i,TS p s.m i->i<w9.heap.size:=h9.hiT
     refine aQa ((z'.length:Nat):Int) (by omega) (by omega) ?_;rw[hoa];refine aQU (j:=z'.length) (by omega) ?_;rw[show z'.length*6=(seV z').length from hpl.symm];refine aQB (fun e=>by have e2:l=cQQ:=aQD hl8 (by decide) e;have:=P3.2;rw[e2] at this;exact absurd this (by decide)) ?_;have hoth:decide (aQh l=(⟨#[35,101,108,115,101]⟩:ByteArray))=false:=decide_eq_false (fun e=>by have e2:l=cQi:=aQD hl8 (by decide) e;have:=P3.2;rw[e2] at this;exact absurd this (by decide));refine aQX (lQm s.m ⟨v.d+s.z.length,n,s.ln+1,n::v.rd,s.g⟩ oa s.z.length s.c (seV z') x (decide (aQh l=(⟨#[35,101,108,115,101]⟩:ByteArray))) (gQq l) w9 hP h9 ho9 (by rw[hoA];exact htA) (by rw[hpl];omega) hxy hr8 hrl hb0) ?_ ?_
     rotate_left
     ·rintro ch w10 ⟨e,he,rfl,hm10⟩;refine pan ⟨e,n,((s.ln+1:Nat):Int)⟩ _ w10 ?_ rfl (hm10.mono (fun i hi=>.inl (.inr (.inl (by rw[<-hoA];exact hi)))));rw[hoth] at he;rw[<-hrs,hQa hdir,hrev];rcases he with⟨h1,rfl⟩ | ⟨h1,_,h3⟩
      ·simp only[h1,if_true]
      ·simp only[h1,h3];rfl
     rintro u w10 ⟨hot,hm10,hres⟩;rw[hoth,if_neg (by decide)] at hres;obtain⟨o',b,d',hset,rfl,hb10,hbs,hbr,hd10,hds,hdr,ho10⟩:=hres
     let zn:SeV:=⟨{x.s with re:=eQR x.s.re o'},x.x,d'⟩
     let nk:DV:=b
     let no:BF:=dQd x.s.re o'
     rw[hoA] at hm10;have hkb10:=hkb9.mod hm10 nbA;have h10:Rr w0 w10 base p s.m ⟨v.d+s.z.length,n,s.ln+1,n::v.rd,s.g⟩:=h9.modT hm10 htA hoffA hloA (fun i hi=>.inl hi) (fun i hi=>Nat.lt_of_lt_of_le (h9.tt i hi) hm10.size);refine aQc hkb10 rfl (sc rfl) (fun w11 hg11 _ hB11=>?_);have hM11:Mod (·=w.heap.size) w10 w11:=zQE hg11 rfl;have h11:Rr w0 w11 base p s.m ⟨v.d+s.z.length,n,s.ln+1,n::v.rd,s.g⟩:=h10.modT hM11 (fun i hi=>by rw[hI.tt];exact .inr (.inr hi)) (fun i hi=>by subst hi;exact nbk) (fun i hi=>by have:=h.e0.size;omega) (fun i hi=>.inl hi) (fun i hi=>Nat.lt_of_lt_of_le (h10.tt i hi) hM11.size);refine aQn h11.blk (show 8<11 by decide) (fun w12 hm12 hB12=>?_);have h12:Rr w0 w12 base p s.m ⟨v.d+s.z.length,n,s.ln+1,n::v.rd,{s.g with fr:=true}⟩:=h11.put hm12 hB12 rfl rfl rfl (fun e=>by cases e);have hm10_12:Mod (WrS p s.m s.A w.heap.size) w10 w12:=(hM11.mono (S':=WrS p s.m s.A w.heap.size) (fun i hi=>.inl (.inr (.inr hi)))).trans hm12 (fun i hi=>.inl (.inl (.inl hi)));have hm9_12:Mod (WrS p s.m s.A w.heap.size) w9 w12:=(hm10.mono (S':=WrS p s.m s.A w.heap.size) (fun i hi=>.inl (.inr (.inl hi)))).trans hm10_12 (fun i hi=>.inl hi);have hm7_12:Mod (WrS p s.m s.A w.heap.size) w7 w12:=hm79.trans hm9_12 (fun i hi=>.inl hi);have hzn:(z'++ [zn]).length=s.z.length:=by rw[hzl];simp
     let s':LS:=⟨nk,no,z'++ [zn],s.m,{s.g with fr:=true},s.ln+1,s.at_+l.length+1,ls,s.A,s.c⟩
     have kp:∀{x:DV} {o:BF},DgO w7 (TS p s.m) p.nm.length x o->DgO w12 (TS p s'.m) p.nm.length x o:=fun hx=>hI.kp (s':=s') hm7_12 hI.tt (Moved.refl _ _) (Moved.refl _ _) (Moved.refl _ _) hx
     have fresh:∀(x:DV) (ox:BF),(∀i,aQx x.A i->w9.heap.size<=i)->SB w10 x.A x.n x.c x.nd->Set1 p.nm.length x.nd x.r ox->DgO w12 (TS p s'.m) p.nm.length x ox:=fun x ox hr hx hs=>by
      have e1:DgO w10 (TS p s.m) p.nm.length x ox:=⟨hx,hs,fun ad e _ hh=>by have:=hr _ ⟨ad,e,rfl⟩;have:=htT _ hh;omega⟩
      exact e1.step (hm10_12.mono (fun i hi=>.inl (hI.sub i hi))) (fun i hi=>.inl hi)
     refine⟨s',?_,?_,?_⟩
     ·show Has _ _;simp only[s',hzn];rw[hoa];rfl
     ·refine hI.go (s':=s') hbkk hm7_12 ?_ hI.tt (Moved.refl _ _) (Moved.refl _ _) (Moved.refl _ _) ?_ ?_ ?_ ?_ ?_ hls rfl ?_ ?_ rfl
      ·show Rr w0 w12 base p _ ⟨v.d+(z'++ [zn]).length,n,s.ln+1,n::v.rd,{s.g with fr:=true}⟩;rw[hzn];exact h12
      ·exact hB11.mod hm12 npr
      ·exact fresh b _ hbr hb10 hbs
      ·show Own w12 base seT 6 s.A (z'++ [zn]).length s.c (seV (z'++ [zn]));rw[hzn,dQs];have ho10':Own w10 base seT 6 s.A s.z.length s.c (seV z'++zn.cells):=by rw[hoa];exact ho10
       exact(ho10'.mod hM11 (fun i hi e=>by subst e;exact nbA hi)).mod hm12 nopr
      ·intro z hz;simp only[s',List.mem_append,List.mem_singleton] at hz;rcases hz with hz | rfl
       ·exact kp (hI.zx z (by rw[hzz];simp[hz]))
       ·exact kp (hI.zx x hxz)
      ·intro z hz;simp only[s',List.mem_append,List.mem_singleton] at hz;rcases hz with hz | rfl
       ·exact kp (hI.zy z (by rw[hzz];simp[hz]))
       ·exact fresh d' _ hdr hd10 hds
      ·rw[hQa hdir,hrev] at hrs;simp only[hot,hset] at hrs;rw[<-hrs];simp[s',zn,no,hot]
      ·show v.d+(z'++ [zn]).length<=64;rw[hzn];omega
     ·show ls.length<(l::ls).length;simp
    have hdno:=wQh P1 P2 P3;by_cases hl4:l=cQi
    ·have hdir:bQc l= .els:=by rw[hl4];rfl
     have hno:32∉l:=by rw[hl4];decide
     have hch:eQg l=cQi:=by rw[mQF hno,hl4]
     rw[if_neg hno];refine aQB (by rw[hch];decide) ?_;refine aQB (by rw[hch];decide) ?_;refine aQB (by rw[hch];decide) ?_;refine aQO (by rw[hl4];rfl) ?_;refine aQP (fun hz=>?_) (fun hz=>?_)
     ·have hz0:s.z=[]:=List.eq_nil_of_length_eq_zero (by omega);refine aQX (bQQ 72 w9 h9) (fun _ _ hf=>hf.elim) ?_;rintro ch w10 ⟨rfl,hE10⟩;refine pan ⟨72,n,((s.ln+1:Nat):Int)⟩ _ w10 ?_ rfl (Mod.of_ext _ hE10);rw[<-hrs,jQZ hdir,hz0];rfl
     obtain⟨z',x,hzz⟩:∃z' x,s.z=z'++ [x]:=by
      rcases List.eq_nil_or_concat s.z with h0 | ⟨z',x,h0⟩
      ·exact absurd (by rw[h0];rfl) hz
      ·exact⟨z',x,by rw[h0];simp⟩
     have hzl:s.z.length=z'.length+1:=by rw[hzz];simp
     have hrev:s.z.reverse.map (·.s)=x.s::z'.reverse.map (·.s):=by rw[hzz];simp
     obtain⟨oa,hoa,_⟩:=how9.sl.at_ (by omega:0<s.z.length);have hoA:aQx (some oa)=aQx s.A:=by rw[hoa]
     have ho9:Own w9 base seT 6 (some oa) s.z.length s.c (seV z'++x.cells):=by rw[<-hoa,<-dQs,<-hzz];exact how9
     have hxz:x∈s.z:=by rw[hzz];simp
     have hxx:=kp9 (hI.zx x hxz);have hxy:=kp9 (hI.zy x hxz);have hpl:=jQ0 z';have htT:∀i,TS p s.m i->i<w9.heap.size:=h9.hiT
     refine aQa ((z'.length:Nat):Int) (by omega) (by omega) ?_;rw[hoa];refine aQU (j:=z'.length) (by omega) ?_;rw[show z'.length*6=(seV z').length from hpl.symm];refine aQB (by rw[hl4];decide) ?_;have hoth:decide (aQh l=(⟨#[35,101,108,115,101]⟩:ByteArray))=true:=decide_eq_true (by rw[hl4];rfl);refine aQX (lQm s.m ⟨v.d+s.z.length,n,s.ln+1,n::v.rd,s.g⟩ oa s.z.length s.c (seV z') x (decide (aQh l=(⟨#[35,101,108,115,101]⟩:ByteArray))) [] w9 hP h9 ho9 (by rw[hoA];exact htA) (by rw[hpl];omega) hxy (fun x hx=>by cases hx) (by decide) hb0) ?_ ?_
     rotate_left
     ·rintro ch w10 ⟨e,he,rfl,hm10⟩;refine pan ⟨e,n,((s.ln+1:Nat):Int)⟩ _ w10 ?_ rfl (hm10.mono (fun i hi=>.inl (.inr (.inl (by rw[<-hoA];exact hi)))));rw[hoth] at he;rw[<-hrs,jQZ hdir,hrev];rcases he with⟨h1,rfl⟩ | ⟨_,h2,_⟩
      ·simp only[h1,if_true]
      ·cases h2
     rintro u w10 ⟨hot,hm10,hres⟩;rw[hoth,if_pos rfl] at hres;obtain⟨rfl,ho10⟩:=hres
     let zn:SeV:=⟨{x.s with ot:=true},x.x,x.y⟩
     let nk:DV:=x.y
     let no:BF:=x.s.re
     rw[hoA] at hm10;have hkb10:=hkb9.mod hm10 nbA;have h10:Rr w0 w10 base p s.m ⟨v.d+s.z.length,n,s.ln+1,n::v.rd,s.g⟩:=h9.modT hm10 htA hoffA hloA (fun i hi=>.inl hi) (fun i hi=>Nat.lt_of_lt_of_le (h9.tt i hi) hm10.size);refine aQc hkb10 rfl (sc rfl) (fun w11 hg11 _ hB11=>?_);have hM11:Mod (·=w.heap.size) w10 w11:=zQE hg11 rfl;have h11:Rr w0 w11 base p s.m ⟨v.d+s.z.length,n,s.ln+1,n::v.rd,s.g⟩:=h10.modT hM11 (fun i hi=>by rw[hI.tt];exact .inr (.inr hi)) (fun i hi=>by subst hi;exact nbk) (fun i hi=>by have:=h.e0.size;omega) (fun i hi=>.inl hi) (fun i hi=>Nat.lt_of_lt_of_le (h10.tt i hi) hM11.size);refine aQn h11.blk (show 8<11 by decide) (fun w12 hm12 hB12=>?_);have h12:Rr w0 w12 base p s.m ⟨v.d+s.z.length,n,s.ln+1,n::v.rd,{s.g with fr:=true}⟩:=h11.put hm12 hB12 rfl rfl rfl (fun e=>by cases e);have hm10_12:Mod (WrS p s.m s.A w.heap.size) w10 w12:=(hM11.mono (S':=WrS p s.m s.A w.heap.size) (fun i hi=>.inl (.inr (.inr hi)))).trans hm12 (fun i hi=>.inl (.inl (.inl hi)));have hm9_12:Mod (WrS p s.m s.A w.heap.size) w9 w12:=(hm10.mono (S':=WrS p s.m s.A w.heap.size) (fun i hi=>.inl (.inr (.inl hi)))).trans hm10_12 (fun i hi=>.inl hi);have hm7_12:Mod (WrS p s.m s.A w.heap.size) w7 w12:=hm79.trans hm9_12 (fun i hi=>.inl hi);have hzn:(z'++ [zn]).length=s.z.length:=by rw[hzl];simp
     let s':LS:=⟨nk,no,z'++ [zn],s.m,{s.g with fr:=true},s.ln+1,s.at_+l.length+1,ls,s.A,s.c⟩
     have kp:∀{x:DV} {o:BF},DgO w7 (TS p s.m) p.nm.length x o->DgO w12 (TS p s'.m) p.nm.length x o:=fun hx=>hI.kp (s':=s') hm7_12 hI.tt (Moved.refl _ _) (Moved.refl _ _) (Moved.refl _ _) hx
     have fresh:∀(x:DV) (ox:BF),(∀i,aQx x.A i->w9.heap.size<=i)->SB w10 x.A x.n x.c x.nd->Set1 p.nm.length x.nd x.r ox->DgO w12 (TS p s'.m) p.nm.length x ox:=fun x ox hr hx hs=>by
      have e1:DgO w10 (TS p s.m) p.nm.length x ox:=⟨hx,hs,fun ad e _ hh=>by have:=hr _ ⟨ad,e,rfl⟩;have:=htT _ hh;omega⟩
      exact e1.step (hm10_12.mono (fun i hi=>.inl (hI.sub i hi))) (fun i hi=>.inl hi)
     refine⟨s',?_,?_,?_⟩
     ·show Has _ _;simp only[s',hzn];rw[hoa];rfl
     ·refine hI.go (s':=s') hbkk hm7_12 ?_ hI.tt (Moved.refl _ _) (Moved.refl _ _) (Moved.refl _ _) ?_ ?_ ?_ ?_ ?_ hls rfl ?_ ?_ rfl
      ·show Rr w0 w12 base p _ ⟨v.d+(z'++ [zn]).length,n,s.ln+1,n::v.rd,{s.g with fr:=true}⟩;rw[hzn];exact h12
      ·exact hB11.mod hm12 npr
      ·exact kp (hI.zy x hxz)
      ·show Own w12 base seT 6 s.A (z'++ [zn]).length s.c (seV (z'++ [zn]));rw[hzn,dQs];have ho10':Own w10 base seT 6 s.A s.z.length s.c (seV z'++zn.cells):=by rw[hoa];exact ho10
       exact(ho10'.mod hM11 (fun i hi e=>by subst e;exact nbA hi)).mod hm12 nopr
      ·intro z hz;simp only[s',List.mem_append,List.mem_singleton] at hz;rcases hz with hz | rfl
       ·exact kp (hI.zx z (by rw[hzz];simp[hz]))
       ·exact kp (hI.zx x hxz)
      ·intro z hz;simp only[s',List.mem_append,List.mem_singleton] at hz;rcases hz with hz | rfl
       ·exact kp (hI.zy z (by rw[hzz];simp[hz]))
       ·exact kp (hI.zy x hxz)
      ·rw[jQZ hdir,hrev] at hrs;simp only[hot] at hrs;rw[<-hrs];simp[s',zn,no]
      ·show v.d+(z'++ [zn]).length<=64;rw[hzn];omega
     ·show ls.length<(l::ls).length;simp
    by_cases hl5:l=cQQ
    ·have hdir:bQc l= .en:=by rw[hl5];rfl
     have hno:32∉l:=by rw[hl5];decide
     have hch:eQg l=cQQ:=by rw[mQF hno,hl5]
     refine aQB (by rw[hch];decide) ?_;refine aQB (by rw[hch];decide) ?_;refine aQB (by rw[hch];decide) ?_;refine aQB (by rw[hl5];decide) ?_;refine aQO (by rw[hl5];rfl) ?_;refine aQP (fun hz=>?_) (fun hz=>?_)
     ·have hz0:s.z=[]:=List.eq_nil_of_length_eq_zero (by omega);refine aQX (bQQ 72 w9 h9) (fun _ _ hf=>hf.elim) ?_;rintro ch w10 ⟨rfl,hE10⟩;refine pan ⟨72,n,((s.ln+1:Nat):Int)⟩ _ w10 ?_ rfl (Mod.of_ext _ hE10);rw[<-hrs,qQr hdir,hz0];rfl
     obtain⟨z',x,hzz⟩:∃z' x,s.z=z'++ [x]:=by
      rcases List.eq_nil_or_concat s.z with h0 | ⟨z',x,h0⟩
      ·exact absurd (by rw[h0];rfl) hz
      ·exact⟨z',x,by rw[h0];simp⟩
     have hzl:s.z.length=z'.length+1:=by rw[hzz];simp
     have hrev:s.z.reverse.map (·.s)=x.s::z'.reverse.map (·.s):=by rw[hzz];simp
     obtain⟨oa,hoa,_⟩:=how9.sl.at_ (by omega:0<s.z.length);have hoA:aQx (some oa)=aQx s.A:=by rw[hoa]
     have ho9:Own w9 base seT 6 (some oa) s.z.length s.c (seV z'++x.cells):=by rw[<-hoa,<-dQs,<-hzz];exact how9
     have hxz:x∈s.z:=by rw[hzz];simp
     have hxx:=kp9 (hI.zx x hxz);have hxy:=kp9 (hI.zy x hxz);have hpl:=jQ0 z';have htT:∀i,TS p s.m i->i<w9.heap.size:=h9.hiT
     refine aQa ((z'.length:Nat):Int) (by omega) (by omega) ?_;rw[hoa];refine aQU (j:=z'.length) (by omega) ?_;rw[show z'.length*6=(seV z').length from hpl.symm];refine aQO (by rw[hl5];rfl) ?_;refine aQK (vs:=x.x.cells) rfl (fun i u hi=>?_) ?_
     ·show w9.cell? (((oa.add (seV z').length).add 0).add i)=some u;rw[add_add];refine fQM ho9 (by omega) (hQN ?_)
      match i,hi with
      | 0,hi=>exact hi
      | 1,hi=>exact hi
      | _+2,hi=>exact nomatch hi
     refine aQc hkb9 rfl (sc rfl) (fun w10 hg10 _ hB10=>?_);have hM10:Mod (·=w.heap.size) w9 w10:=zQE hg10 rfl;have h10:Rr w0 w10 base p s.m ⟨v.d+s.z.length,n,s.ln+1,n::v.rd,s.g⟩:=h9.modT hM10 (fun i hi=>by rw[hI.tt];exact .inr (.inr hi)) (fun i hi=>by subst hi;exact nbk) (fun i hi=>by have:=h.e0.size;omega) (fun i hi=>.inl hi) (fun i hi=>Nat.lt_of_lt_of_le (h9.tt i hi) hM10.size);refine aQa ((z'.length:Nat):Int) (by omega) (by omega) ?_;refine bQ1 (h:=z'.length) aQb rfl rfl rfl rfl rfl rfl (by have:=how9.sl.le;omega) ?_;refine aQe h10.blk rfl ?_;refine aQa ((v.d+z'.length:Nat):Int) (by show((v.d+s.z.length:Nat):Int)-1=_;omega) (by omega) ?_;refine aQn h10.blk (show 4<11 by decide) (fun w11 hm11 hB11=>?_);have h11:Rr w0 w11 base p s.m ⟨v.d+z'.length,n,s.ln+1,n::v.rd,s.g⟩:=h10.put hm11 hB11 rfl rfl rfl h10.nf;refine aQn h11.blk (show 8<11 by decide) (fun w12 hm12 hB12=>?_);have h12:Rr w0 w12 base p s.m ⟨v.d+z'.length,n,s.ln+1,n::v.rd,{s.g with fr:=true}⟩:=h11.put hm12 hB12 rfl rfl rfl (fun e=>by cases e);have hm1012:Mod (·=p.r) w10 w12:=hm11.trans hm12 (fun i hi=>.inl hi);have hm9_12:Mod (WrS p s.m s.A w.heap.size) w9 w12:=(hM10.mono (S':=WrS p s.m s.A w.heap.size) (fun i hi=>.inl (.inr (.inr hi)))).trans hm1012 (fun i hi=>.inl (.inl (.inl hi)));have hm7_12:Mod (WrS p s.m s.A w.heap.size) w7 w12:=hm79.trans hm9_12 (fun i hi=>.inl hi)
     let s':LS:=⟨x.x,x.s.ou,z',s.m,{s.g with fr:=true},s.ln+1,s.at_+l.length+1,ls,s.A,s.c⟩
     have kp:∀{x:DV} {o:BF},DgO w7 (TS p s.m) p.nm.length x o->DgO w12 (TS p s'.m) p.nm.length x o:=fun hx=>hI.kp (s':=s') hm7_12 hI.tt (Moved.refl _ _) (Moved.refl _ _) (Moved.refl _ _) hx
     refine⟨s',?_,?_,?_⟩
     ·show Has _ _;simp only[s'];rw[hoa];rfl
     ·refine hI.go (s':=s') hbkk hm7_12 h12 hI.tt (Moved.refl _ _) (Moved.refl _ _) (Moved.refl _ _) (hB10.mod hm1012 npr) (kp (hI.zx x hxz)) ?_ (fun z hz=>kp (hI.zx z (by rw[hzz];simp[show z∈z' from hz]))) (fun z hz=>kp (hI.zy z (by rw[hzz];simp[show z∈z' from hz]))) hls rfl ?_ ?_ rfl
      ·have ht:=how9.take (k:=z'.length) (by omega);rw[hzz,dQs,List.take_left' (by rw[hpl])] at ht;exact(ht.mod hM10 (fun i hi e=>by subst e;exact nbA hi)).mod hm1012 nopr
      ·rw[qQr hdir,hrev] at hrs;rw[<-hrs]
      ·show v.d+z'.length<=64;omega
     ·show ls.length<(l::ls).length;simp
    have hdir:bQc l= .txt:=by rw[hdno,if_neg hl4,if_neg hl5]
    have nl4:¬aQh l=(⟨#[35,101,108,115,101]⟩:ByteArray):=fun e=>hl4 (aQD hl8 (by decide) e)
    have nl5:¬aQh l=(⟨#[35,101,110,100]⟩:ByteArray):=fun e=>hl5 (aQD hl8 (by decide) e)
    have hc8:∀x∈eQg l,x<256:=fun x hx=>hl8 x ((List.takeWhile_sublist _).subset hx)
    by_cases q1:eQg l=kIf
    ·refine aQO (by rw[q1];rfl) ?_;refine aQB (fun e=>P1 ⟨q1,hsp.1 e⟩) ?_;refine aQB (by rw[q1];decide) ?_;refine aQB (by rw[q1];decide) ?_;refine aQB nl4 ?_;refine aQB nl5 ?_;have hd9:=Ext.drew w9;refine cQY aQb 7 (by kernel_rfl) ?_;refine aQ1 (v':=.string (aQh (l++ [10]))) ⟨by omega,by omega,by rw[hsz];omega⟩ ?_ ?_
     ·rw[aQt];simp only[Int.toNat_natCast];rw[List.drop_take,show s.at_+l.length+1-s.at_=l.length+1 by omega,l5]
     refine aQw (vs:=s.k.cells) rfl (fun w' hw' j u hj=>by subst hw';rw[(hkb9.ext hd9).cell];exact hj) ?_;have h9d:=h9.ext hd9;have hkdd:DgO w9.drew (RS p s.m) p.nm.length s.k s.o:=⟨hkd9.sb.ext hd9,hkd9.st,fun ad e h0 hh=>hkd9.off ad e h0 (.inl hh)⟩
     refine aQX (add_fn s.m ⟨v.d+s.z.length,n,s.ln+1,n::v.rd,s.g⟩ (l++ [10]) s.at_ s.k s.o w9.drew hP h9d hkdd (fun x hx=>by
      rcases List.mem_append.1 hx with hx | hx
      ·exact hl8 x hx
      ·simp only[List.mem_singleton] at hx;omega) (by rw[List.length_append];simp;omega) (List.cons_ne_nil _ _)) ?_ ?_
     rotate_left
     ·rintro ch w10 ⟨hg,rfl,hE10⟩;refine pan ⟨2,n,((s.ln+1:Nat):Int)⟩ _ w10 ?_ rfl (Mod.of_ext _ (hd9.trans hE10));rw[<-hrs,dQ9 hdir,show fQ0 (l++ [10]) n s.at_ s.o s.g=none from hg]
     rintro _ w10 ⟨g',hg',m',hT',h10,hm10,hv10,hu10⟩;have hm9_10:Mod (WrS p s.m s.A w.heap.size) w9 w10:=(Mod.of_ext _ hd9).trans hm10 (fun i hi=>.inl (.inl hi));have hm7_10:Mod (WrS p s.m s.A w.heap.size) w7 w10:=hm79.trans hm9_10 (fun i hi=>.inl hi);have hzd:=hd9.size;have hv7:Moved w7 s.m.OA m'.OA:=hv10.back (by omega);have hu7:Moved w7 s.m.BA m'.BA:=hu10.back (by omega)
     let s':LS:=⟨s.k,s.o,s.z,m',g',s.ln+1,s.at_+l.length+1,ls,s.A,s.c⟩
     have hT2:s'.m.T=fun i=>m.T i∨aQx s'.A i∨i=w.heap.size:=by show m'.T=_;rw[hT',hI.tt]
     have kp:∀{x:DV} {o:BF},DgO w7 (TS p s.m) p.nm.length x o->DgO w10 (TS p s'.m) p.nm.length x o:=fun hx=>hI.kp (s':=s') hm7_10 hT2 (Moved.refl _ _) hv7 hu7 hx
     refine⟨s',rfl,?_,?_⟩
     ·refine hI.go (s':=s') hbkk hm7_10 h10 hT2 (Moved.refl _ _) hv7 hu7 ((hkb9.ext hd9).mod hm10 nbk) (kp hI.kd) ((how9.ext hd9).mod hm10 hoffA) (fun z hz=>kp (hI.zx z hz)) (fun z hz=>kp (hI.zy z hz)) hls rfl ?_ hdl rfl;rw[dQ9 hdir,show fQ0 (l++ [10]) n s.at_ s.o s.g=some g' from hg'] at hrs;exact hrs
     ·show ls.length<(l::ls).length;simp
    refine aQB (fun e=>q1 (aQD hc8 (by decide) e)) ?_;by_cases q2:eQg l=uQK
    ·refine aQO (by rw[q2];rfl) ?_;refine aQB (fun e=>P2 ⟨q2,hsp.1 e⟩) ?_;refine aQB (by rw[q2];decide) ?_;refine aQB nl4 ?_;refine aQB nl5 ?_;have hd9:=Ext.drew w9;refine cQY aQb 7 (by kernel_rfl) ?_;refine aQ1 (v':=.string (aQh (l++ [10]))) ⟨by omega,by omega,by rw[hsz];omega⟩ ?_ ?_
     ·rw[aQt];simp only[Int.toNat_natCast];rw[List.drop_take,show s.at_+l.length+1-s.at_=l.length+1 by omega,l5]
     refine aQw (vs:=s.k.cells) rfl (fun w' hw' j u hj=>by subst hw';rw[(hkb9.ext hd9).cell];exact hj) ?_;have h9d:=h9.ext hd9;have hkdd:DgO w9.drew (RS p s.m) p.nm.length s.k s.o:=⟨hkd9.sb.ext hd9,hkd9.st,fun ad e h0 hh=>hkd9.off ad e h0 (.inl hh)⟩
     refine aQX (add_fn s.m ⟨v.d+s.z.length,n,s.ln+1,n::v.rd,s.g⟩ (l++ [10]) s.at_ s.k s.o w9.drew hP h9d hkdd (fun x hx=>by
      rcases List.mem_append.1 hx with hx | hx
      ·exact hl8 x hx
      ·simp only[List.mem_singleton] at hx;omega) (by rw[List.length_append];simp;omega) (List.cons_ne_nil _ _)) ?_ ?_
     rotate_left
     ·rintro ch w10 ⟨hg,rfl,hE10⟩;refine pan ⟨2,n,((s.ln+1:Nat):Int)⟩ _ w10 ?_ rfl (Mod.of_ext _ (hd9.trans hE10));rw[<-hrs,dQ9 hdir,show fQ0 (l++ [10]) n s.at_ s.o s.g=none from hg]
     rintro _ w10 ⟨g',hg',m',hT',h10,hm10,hv10,hu10⟩;have hm9_10:Mod (WrS p s.m s.A w.heap.size) w9 w10:=(Mod.of_ext _ hd9).trans hm10 (fun i hi=>.inl (.inl hi));have hm7_10:Mod (WrS p s.m s.A w.heap.size) w7 w10:=hm79.trans hm9_10 (fun i hi=>.inl hi);have hzd:=hd9.size;have hv7:Moved w7 s.m.OA m'.OA:=hv10.back (by omega);have hu7:Moved w7 s.m.BA m'.BA:=hu10.back (by omega)
     let s':LS:=⟨s.k,s.o,s.z,m',g',s.ln+1,s.at_+l.length+1,ls,s.A,s.c⟩
     have hT2:s'.m.T=fun i=>m.T i∨aQx s'.A i∨i=w.heap.size:=by show m'.T=_;rw[hT',hI.tt]
     have kp:∀{x:DV} {o:BF},DgO w7 (TS p s.m) p.nm.length x o->DgO w10 (TS p s'.m) p.nm.length x o:=fun hx=>hI.kp (s':=s') hm7_10 hT2 (Moved.refl _ _) hv7 hu7 hx
     refine⟨s',rfl,?_,?_⟩
     ·refine hI.go (s':=s') hbkk hm7_10 h10 hT2 (Moved.refl _ _) hv7 hu7 ((hkb9.ext hd9).mod hm10 nbk) (kp hI.kd) ((how9.ext hd9).mod hm10 hoffA) (fun z hz=>kp (hI.zx z hz)) (fun z hz=>kp (hI.zy z hz)) hls rfl ?_ hdl rfl;rw[dQ9 hdir,show fQ0 (l++ [10]) n s.at_ s.o s.g=some g' from hg'] at hrs;exact hrs
     ·show ls.length<(l::ls).length;simp
    refine aQB (fun e=>q2 (aQD hc8 (by decide) e)) ?_;by_cases q3:eQg l=oQO
    ·refine aQO (by rw[q3];rfl) ?_;refine aQB (fun e=>P3 ⟨q3,hsp.1 e⟩) ?_;refine aQB nl4 ?_;refine aQB nl5 ?_;have hd9:=Ext.drew w9;refine cQY aQb 7 (by kernel_rfl) ?_;refine aQ1 (v':=.string (aQh (l++ [10]))) ⟨by omega,by omega,by rw[hsz];omega⟩ ?_ ?_
     ·rw[aQt];simp only[Int.toNat_natCast];rw[List.drop_take,show s.at_+l.length+1-s.at_=l.length+1 by omega,l5]
     refine aQw (vs:=s.k.cells) rfl (fun w' hw' j u hj=>by subst hw';rw[(hkb9.ext hd9).cell];exact hj) ?_;have h9d:=h9.ext hd9;have hkdd:DgO w9.drew (RS p s.m) p.nm.length s.k s.o:=⟨hkd9.sb.ext hd9,hkd9.st,fun ad e h0 hh=>hkd9.off ad e h0 (.inl hh)⟩
     refine aQX (add_fn s.m ⟨v.d+s.z.length,n,s.ln+1,n::v.rd,s.g⟩ (l++ [10]) s.at_ s.k s.o w9.drew hP h9d hkdd (fun x hx=>by
      rcases List.mem_append.1 hx with hx | hx
      ·exact hl8 x hx
      ·simp only[List.mem_singleton] at hx;omega) (by rw[List.length_append];simp;omega) (List.cons_ne_nil _ _)) ?_ ?_
     rotate_left
     ·rintro ch w10 ⟨hg,rfl,hE10⟩;refine pan ⟨2,n,((s.ln+1:Nat):Int)⟩ _ w10 ?_ rfl (Mod.of_ext _ (hd9.trans hE10));rw[<-hrs,dQ9 hdir,show fQ0 (l++ [10]) n s.at_ s.o s.g=none from hg]
     rintro _ w10 ⟨g',hg',m',hT',h10,hm10,hv10,hu10⟩;have hm9_10:Mod (WrS p s.m s.A w.heap.size) w9 w10:=(Mod.of_ext _ hd9).trans hm10 (fun i hi=>.inl (.inl hi));have hm7_10:Mod (WrS p s.m s.A w.heap.size) w7 w10:=hm79.trans hm9_10 (fun i hi=>.inl hi);have hzd:=hd9.size;have hv7:Moved w7 s.m.OA m'.OA:=hv10.back (by omega);have hu7:Moved w7 s.m.BA m'.BA:=hu10.back (by omega)
     let s':LS:=⟨s.k,s.o,s.z,m',g',s.ln+1,s.at_+l.length+1,ls,s.A,s.c⟩
     have hT2:s'.m.T=fun i=>m.T i∨aQx s'.A i∨i=w.heap.size:=by show m'.T=_;rw[hT',hI.tt]
     have kp:∀{x:DV} {o:BF},DgO w7 (TS p s.m) p.nm.length x o->DgO w10 (TS p s'.m) p.nm.length x o:=fun hx=>hI.kp (s':=s') hm7_10 hT2 (Moved.refl _ _) hv7 hu7 hx
     refine⟨s',rfl,?_,?_⟩
     ·refine hI.go (s':=s') hbkk hm7_10 h10 hT2 (Moved.refl _ _) hv7 hu7 ((hkb9.ext hd9).mod hm10 nbk) (kp hI.kd) ((how9.ext hd9).mod hm10 hoffA) (fun z hz=>kp (hI.zx z hz)) (fun z hz=>kp (hI.zy z hz)) hls rfl ?_ hdl rfl;rw[dQ9 hdir,show fQ0 (l++ [10]) n s.at_ s.o s.g=some g' from hg'] at hrs;exact hrs
     ·show ls.length<(l::ls).length;simp
    ·refine aQB (fun e=>q3 (aQD hc8 (by decide) e)) ?_;refine aQB nl4 ?_;refine aQB nl5 ?_;have hd9:=Ext.drew w9;refine cQY aQb 7 (by kernel_rfl) ?_;refine aQ1 (v':=.string (aQh (l++ [10]))) ⟨by omega,by omega,by rw[hsz];omega⟩ ?_ ?_
     ·rw[aQt];simp only[Int.toNat_natCast];rw[List.drop_take,show s.at_+l.length+1-s.at_=l.length+1 by omega,l5]
     refine aQw (vs:=s.k.cells) rfl (fun w' hw' j u hj=>by subst hw';rw[(hkb9.ext hd9).cell];exact hj) ?_;have h9d:=h9.ext hd9;have hkdd:DgO w9.drew (RS p s.m) p.nm.length s.k s.o:=⟨hkd9.sb.ext hd9,hkd9.st,fun ad e h0 hh=>hkd9.off ad e h0 (.inl hh)⟩
     refine aQX (add_fn s.m ⟨v.d+s.z.length,n,s.ln+1,n::v.rd,s.g⟩ (l++ [10]) s.at_ s.k s.o w9.drew hP h9d hkdd (fun x hx=>by
      rcases List.mem_append.1 hx with hx | hx
      ·exact hl8 x hx
      ·simp only[List.mem_singleton] at hx;omega) (by rw[List.length_append];simp;omega) (List.cons_ne_nil _ _)) ?_ ?_
     rotate_left
     ·rintro ch w10 ⟨hg,rfl,hE10⟩;refine pan ⟨2,n,((s.ln+1:Nat):Int)⟩ _ w10 ?_ rfl (Mod.of_ext _ (hd9.trans hE10));rw[<-hrs,dQ9 hdir,show fQ0 (l++ [10]) n s.at_ s.o s.g=none from hg]
     rintro _ w10 ⟨g',hg',m',hT',h10,hm10,hv10,hu10⟩;have hm9_10:Mod (WrS p s.m s.A w.heap.size) w9 w10:=(Mod.of_ext _ hd9).trans hm10 (fun i hi=>.inl (.inl hi));have hm7_10:Mod (WrS p s.m s.A w.heap.size) w7 w10:=hm79.trans hm9_10 (fun i hi=>.inl hi);have hzd:=hd9.size;have hv7:Moved w7 s.m.OA m'.OA:=hv10.back (by omega);have hu7:Moved w7 s.m.BA m'.BA:=hu10.back (by omega)
     let s':LS:=⟨s.k,s.o,s.z,m',g',s.ln+1,s.at_+l.length+1,ls,s.A,s.c⟩
     have hT2:s'.m.T=fun i=>m.T i∨aQx s'.A i∨i=w.heap.size:=by show m'.T=_;rw[hT',hI.tt]
     have kp:∀{x:DV} {o:BF},DgO w7 (TS p s.m) p.nm.length x o->DgO w10 (TS p s'.m) p.nm.length x o:=fun hx=>hI.kp (s':=s') hm7_10 hT2 (Moved.refl _ _) hv7 hu7 hx
     refine⟨s',rfl,?_,?_⟩
     ·refine hI.go (s':=s') hbkk hm7_10 h10 hT2 (Moved.refl _ _) hv7 hu7 ((hkb9.ext hd9).mod hm10 nbk) (kp hI.kd) ((how9.ext hd9).mod hm10 hoffA) (fun z hz=>kp (hI.zx z hz)) (fun z hz=>kp (hI.zy z hz)) hls rfl ?_ hdl rfl;rw[dQ9 hdir,show fQ0 (l++ [10]) n s.at_ s.o s.g=some g' from hg'] at hrs;exact hrs
     ·show ls.length<(l::ls).length;simp
end
end
end Go.Proofs.YtjabbbcdgmlojaaGreatDoor
