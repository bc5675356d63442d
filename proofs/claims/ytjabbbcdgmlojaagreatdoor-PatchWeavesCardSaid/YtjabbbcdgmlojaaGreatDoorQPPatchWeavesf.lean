/-
  What PPatchWeaves rests on, part 6 (wip/shake.py).
  Conditions: none.
-/
import Derived.Test.YtjabbbcdgmlojaaGreatDoorQPPatchWeavese
set_option linter.all false
set_option linter.deprecated false
namespace Go.Proofs.YtjabbbcdgmlojaaGreatDoor
section
open Go Go.RowKit
theorem sQ3 {nm:List (List Nat)}{x:DV}{f:List Nat}{es:List EdV}(h:vQv nm x):iQ7 nm x f es=match cQJ nm (fF f) [102] with
  | .error p=>.error p.e
  | .ok g=>if¬(es.all (fun e=>ovD nm.length e.x.nd e.x.r)=true/\kQn nm.length f 0 (es.map EdV.ed)=true)then .error 291
   else match apL nm (oD x) g f (es.map EdV.ed) (aQi f) 0 with
    | none=>.error 291
    | some l=>if 1048576<(unl l).length then .error 2
     else match cQJ nm (fF (unl l)) [102] with
      | .error p=>if p.e=2 then .error 2 else .ok (unl l)
      | .ok _=>.ok (unl l):=by
 unfold iQ7;rw[if_neg (by rw[h.1,h.2];simp)];by_cases hov:es.all (fun e=>ovD nm.length e.x.nd e.x.r)=true
 ·rw[if_pos hov];unfold rQc;cases cQJ nm (fF f) [102] with
  | error p=>rfl
  | ok g=>
   simp only;by_cases hv:kQn nm.length f 0 (es.map EdV.ed)=true
   ·rw[if_neg (by rw[hv];decide),if_neg (fun hh=>hh ⟨hov,hv⟩)];rfl
   ·rw[if_pos (by simpa using hv),if_pos (fun hh=>hv hh.2)]
 ·rw[if_neg hov];cases cQJ nm (fF f) [102] with
  | error p=>rfl
  | ok g=>simp only;rw[if_pos (fun hh=>hov hh.1)]
theorem rQB {w:World}{w':World}{t:List Nat}{g:Nat}(hB:Blk w' g 85 (fQL ([102],t))):SlS fQL 2 w' (some ⟨g,0,none⟩) 1 1 (fF t):=⟨Sl.own (sz:=2) (n:=1) hB (Nat.le_refl _) (by decide) (by simp[fQL]),rfl⟩
theorem tQZ {t:List Nat}(h:∀b∈t,b<256)(hl:t.length<=9223372036854775807):∀x∈fF t,FileB x:=fun x hx=>by
 rw[List.mem_singleton.1 hx];exact⟨(by decide:∀b∈ [102],b<256),h,by show 1<=_;decide,hl⟩
set_option maxHeartbeats 6400000 in
theorem rQC (NA:Option Addr)(nn nc:Nat)(nm:List (List Nat))(x:DV)(f:List Nat)(EA:Option Addr)(en ec:Nat)(es:List EdV)(hn4:nm.length<=4)(hnb:aQ2 nm)(hnl:∀s∈nm,s.length<=1000)(hf8:∀b∈f,b<256)(hfl:f.length<=60000)
  (hi64:∀e∈es, -9223372036854775808<=e.fr/\e.fr<=9223372036854775807/\ -9223372036854775808<=e.to_/\e.to_<=9223372036854775807) (ht:∀e∈es,(∀b∈e.tx,b<256)/\e.tx.length<=1000) (hel:es.length<=10) (w:World)
  (hN:Sl w 1 NA nn nc (aQ6 nm)) (hx:SB w x.A x.n x.c x.nd) (hEs:SlS edC 5 w EA en ec es) (hEb:∀e∈es,SB w e.x.A e.x.n e.x.c e.x.nd):
  Fn Tryz.prog 15 [.slice NA nn nc,dgV x.A x.n x.c x.r,.string (aQh f),.slice EA en ec] w (fun u w'=>u=vQP (iQ7 nm x f es)/\Ext w w'):=by
 have hk:nm.length<=12:=by omega
 have hlen:nm.length=nn:=by have:=hN.len;rw[aQQ] at this;omega
 refine hQs (c:={c15 with cuts:=[]}) aQb Tryz.func15 rfl rfl rfl ?_;refine aQL (aQv aQb ?_);refine new (fun w0 hE0 hz0 hB0=>?_);refine new (fun w1' hE1 hz1 hB1=>?_);refine new (fun w3 hE3 hz3 hB3=>?_);obtain⟨w1,hw1⟩:∃w1,w1=w0:=⟨_,rfl⟩
 obtain⟨w2,hw2⟩:∃w2,w2=w1':=⟨_,rfl⟩
 subst hw1;subst hw2;have hE23:=hE1.trans hE3;have hE03:=hE0.trans hE23;have hne:w1.heap.size≠w2.heap.size:=by omega
 refine aQL (eQs aQb rfl rfl rfl rfl ⟨_,_,_,_,rfl,rfl,?_⟩);refine aQL (aQv aQb ?_);refine aQd (hB0.ext hE23) rfl ?_;generalize hMM:iQ7 nm x f es=M;refine aQX (lQP NA nn nc nm x hk hnb w3 (hN.ext hE03) (hx.ext hE03)) ?_ ?_
 rotate_left
 ·rintro ch w4 ⟨hno,rfl,hE4⟩;refine eQe aQb (asx:= #[]) (cap:= #[.pointer (some ⟨w1.heap.size,0,none⟩),.pointer (some ⟨w2.heap.size,0,none⟩)]) rfl rfl (args:= #[.pointer (some ⟨w1.heap.size,0,none⟩),.pointer (some ⟨w2.heap.size,0,none⟩)]) (by simp) ((gQv _ _ 1 w4 _ _ hne ((hB1.ext hE3).ext hE4) (hB3.ext hE4)).mono ?_);rintro e u' w50 ⟨v,rfl,hs50,hR50⟩;refine⟨v,rfl,hs50,?_⟩;refine aQg hR50.1 rfl ?_;refine aQg hR50.2.1 rfl ?_;have hres:M= .error 1:=by
     rw[<-hMM];unfold iQ7;rw[if_pos (by
      by_cases h1:aQV nm=true
      ·exact .inr (Bool.eq_false_iff.2 (fun h2=>hno ⟨h1,h2⟩))
      ·exact .inl (by simpa using h1))]
  rw[hres];exact⟨rfl,hR50.2.2.ext (hE03.trans hE4) (fun i hi=>by rcases hi with rfl | rfl<;>omega)⟩
 rintro _ w4 ⟨hok,hE4⟩;have hE04:=hE03.trans hE4;rw[sQ3 hok] at hMM;have sx:=eQH hok.2;have hBx:=(hB0.ext hE23).ext hE4;have hBo:=(hB1.ext hE3).ext hE4;have hBe:=hB3.ext hE4;refine aQL (aQv aQb ?_);refine aQl aQb [fQL ([102],f)] rfl rfl rfl rfl rfl ⟨rfl,rfl,⟨⟩⟩ rfl (fun cs h=>by simp only[List.mem_singleton] at h;subst h;rfl) rfl (by decide) (by decide) ?_;intro w5 hE5 hz5 hB5;have hE05:=hE04.trans hE5;refine call (jQ4 nm NA nn nc (fF f) _ 1 1 [102] w5 (hN.ext hE05) hnb hk (rQB (w:=w) hB5) (tQZ hf8 (by omega)) (by decide) (by decide)) ?_;rintro u6 w6 ⟨hE6,hR6⟩;have hE06:=hE05.trans hE6;have hE46:=hE5.trans hE6;cases hrd:cQJ nm (fF f) [102] with
 | error q=>
  rw[hrd] at hR6 hMM;have hq:=sQ2 hrd;subst hR6;refine new (fun w7 hE7 hz7 hB7=>?_);refine new (fun w8 hE8 hz8 hB8=>?_);refine aQc (hB7.ext hE8) rfl (sc rfl) (fun w9 hg9 hz9 hB9=>?_);have hM9:Mod (·=w6.heap.size) w8 w9:=zQE hg9 rfl;have n67:¬w7.heap.size=w6.heap.size:=by omega
  refine aQc (hB8.mod hM9 n67) rfl (sc rfl) (fun w10 hg10 hz10 hB10=>?_);have hM10:Mod (·=w7.heap.size) w9 w10:=zQE hg10 rfl;have hE610:Ext w6 w10:=hM10.ext (hM9.ext (hE7.trans hE8) (fun i hi=>by omega)) (fun i hi=>by omega);have hE410:=hE46.trans hE610;refine aQL (aQv aQb ?_);refine aQg hB10 rfl ?_;refine aQX (aQY q.e hq w10) (fun _ _ hf=>hf.elim) ?_;rintro ch _ ⟨rfl,rfl⟩;refine eQe aQb (asx:= #[]) (cap:= #[.pointer (some ⟨w1.heap.size,0,none⟩),.pointer (some ⟨w2.heap.size,0,none⟩)]) rfl rfl (args:= #[.pointer (some ⟨w1.heap.size,0,none⟩),.pointer (some ⟨w2.heap.size,0,none⟩)]) (by simp) ((gQv _ _ q.e w10 _ _ hne (hBo.ext hE410) (hBe.ext hE410)).mono ?_);rintro e u' w50 ⟨v,rfl,hs50,hR50⟩;refine⟨v,rfl,hs50,?_⟩;refine aQg hR50.1 rfl ?_;refine aQg hR50.2.1 rfl ?_;have hres:M= .error q.e:=hMM.symm;rw[hres];exact⟨rfl,hR50.2.2.ext (hE04.trans hE410) (fun i hi=>by rcases hi with rfl | rfl<;>omega)⟩
 | ok g=>
  rw[hrd] at hR6 hMM;simp only at hMM;obtain⟨hgok,SA,scp,SL,rfl,hsg⟩:=hR6;obtain⟨htx,hexp,hcha,hginv⟩:=lQN hrd;obtain⟨MX,hSX,hAll⟩:=tQG hsg;have hMl:=hAll.len;refine new (fun w7 hE7 hz7 hB7=>?_);refine new (fun w8 hE8 hz8 hB8=>?_);refine aQc (hB7.ext hE8) rfl (sc rfl) (fun w9 hg9 hz9 hB9=>?_);have hM9:Mod (·=w6.heap.size) w8 w9:=zQE hg9 rfl;have n67:¬w7.heap.size=w6.heap.size:=by omega
  refine aQc (hB8.mod hM9 n67) rfl (sc rfl) (fun w10 hg10 hz10 hB10=>?_);have hM10:Mod (·=w7.heap.size) w9 w10:=zQE hg10 rfl;have hE610:Ext w6 w10:=hM10.ext (hM9.ext (hE7.trans hE8) (fun i hi=>by omega)) (fun i hi=>by omega);have hBs:=hB9.mod hM10 (fun h=>n67 h.symm);refine aQL (aQv aQb ?_);refine aQg hB10 rfl ?_;refine call (gQu w10) ?_;rintro _ _ rfl;have hE410:=hE46.trans hE610;have hE010:=hE04.trans hE410;refine aQL (aQv aQb ?_);refine aQd (hBx.ext hE410) rfl ?_;refine new (fun w11 hE11 hz11 hB11=>?_);have hE011:=hE010.trans hE11;have hE411:=hE410.trans hE11
  let p:EP:=⟨w10.heap.size,NA,nn,nc,nm,x,f,EA,en,ec,es⟩
  have hB:EB p:=⟨hn4,hnb,hnl,hf8,hfl,htx,hi64,fun e he=>(ht e he).1,fun e he=>(ht e he).2,hel⟩
  have K:EK w11 p:=⟨hB11,hN.ext hE011,hEs.ext hE011,fun e he=>(hEb e he).ext hE011⟩
  refine aQL (aQv aQb ?_);refine aQX (rQs p hB w11 K) ?_ ?_
  rotate_left
  ·rintro ch w12 ⟨hno,rfl,hE12⟩;refine eQe aQb (asx:= #[]) (cap:= #[.pointer (some ⟨w1.heap.size,0,none⟩),.pointer (some ⟨w2.heap.size,0,none⟩)]) rfl rfl (args:= #[.pointer (some ⟨w1.heap.size,0,none⟩),.pointer (some ⟨w2.heap.size,0,none⟩)]) (by simp) ((gQv _ _ 291 w12 _ _ hne ((hBo.ext hE411).ext hE12) ((hBe.ext hE411).ext hE12)).mono ?_);rintro e u' w50 ⟨v,rfl,hs50,hR50⟩;refine⟨v,rfl,hs50,?_⟩;refine aQg hR50.1 rfl ?_;refine aQg hR50.2.1 rfl ?_;have hres:M= .error 291:=by rw[<-hMM,if_pos hno]
   rw[hres];exact⟨rfl,hR50.2.2.ext (hE011.trans hE12) (fun i hi=>by rcases hi with rfl | rfl<;>omega)⟩
  rintro _ w12 ⟨hV,hE12⟩;rw[if_neg (fun hh=>hh hV)] at hMM;have hE012:=hE011.trans hE12;have hE412:=hE411.trans hE12;have K12:=K.ext hE12;refine aQL (aQv aQb ?_);refine aQL (aQv aQb ?_);refine aQL (aQv aQb ?_);refine call (fQK f w12 hf8 (by omega)) ?_;rintro _ w13 ⟨PA,pc,rfl,hE13,hP13⟩;have hln:=jQQ htx;have hll:(qQf f).length=(aQi f).length:=by rw[hln,List.length_map]
  rw[hll] at hP13;have hP13:Sn w13 PA (aQi f).length pc (lfV (aQi f)):=by rw[hln] at hP13;exact hP13
  have hLs:=bQv f;have hun:=aQR htx;have hlle:=hQd f;have hE013:=hE012.trans hE13;have hE413:=hE412.trans hE13;have K13:=K12.ext hE13;have hBs13:=hBs.ext (hE11.trans (hE12.trans hE13));have hSX13:=hSX.ext (hE610.trans (hE11.trans (hE12.trans hE13)));have hlsl:(aQi f).length<=60000:=by have:=hlle.1;omega
  have hlnOk:∀s∈(aQi f),vQR s:=fun s hs=>by
   exact⟨fun b hb=>hf8 b (iQf _ s hs b hb),by have:=hlle.2 s hs;omega⟩
  have hedB:∀e∈es.map EdV.ed,(∀b∈e.tx,b<256)/\e.tx.length<=1000:=fun e he=>by
   obtain⟨e0,he0,rfl⟩:=List.mem_map.1 he;exact ht e0 he0
  have hS16:∀o:BF,(aQW nm.length o).length<=16:=fun o=>Nat.le_trans (rQo _ _) (Nat.le_trans (Nat.pow_le_pow_right (by decide) hn4) (by decide))
  have hsgl:g.sg.length<=65536:=hgok.sl;have hatB:∀i,(unl ((aQi f).take i)).length<=60000:=fun i=>by
   have hu:∀a b:List (List Nat),unl (a++b)=unl a++unl b:=fun a b=>by simp[unl]
   have e5:unl (aQi f)=unl ((aQi f).take i)++unl ((aQi f).drop i):=by rw[<-hu,List.take_append_drop]
   have:=congrArg List.length e5;rw[hun,List.length_append] at this;omega
  refine loop aQb [46,13,14,15] (fun t:Nat×List (List Nat)×Option Addr×Nat×Nat=>[.int .i64 t.1,.slice t.2.2.1 t.2.1.length t.2.2.2.1,.int .i64 (unl ((aQi f).take t.1)).length,.int .i64 t.2.2.2.2]) (fun t w'=>Lo w13 w' t.2.2.1 t.2.1.length t.2.2.2.1 t.2.1/\t.1<=(aQi f).length/\ApR nm (oD x) g f (es.map EdV.ed) (aQi f) t.1 t.2.1/\(∀j y,g.sg[j]? =some y->j<t.2.2.2.2->y.at_+(y.t-y.f)<=(unl ((aQi f).take t.1)).length)/\t.2.1.length<=t.1*16000048/\(∀u∈t.2.1,vQR u)/\t.2.2.2.2<=g.sg.length) (fun t _=>(aQi f).length-t.1) (0,[],none,0,0) rfl ⟨⟨Ext.refl _,Own.nil _ _ _ _⟩,Nat.zero_le _,ApR.zero,(fun j y _ hj=>absurd hj (Nat.not_lt_zero _)),Nat.zero_le _,(fun u hu=>by cases hu),Nat.zero_le _⟩ ?_;rintro⟨i,L,LA,lc,seg⟩ w14 ⟨hLo,hi,hap,hsegs,hLl,hLk,hsgn⟩;simp only at hLo hi hap hsegs hLl hLk hsgn;have hE1314:=hLo.e;have hE014:=hE013.trans hE1314;have hE414:=hE413.trans hE1314;refine aQq (fun c1=>?_) (fun c1=>?_)
  ·have hin:i<(aQi f).length:=by simp only at c1;omega
   obtain⟨s,hs⟩:∃s,(aQi f)[i]? =some s:=⟨_,List.getElem?_eq_getElem hin⟩
   have hsm:=List.mem_of_getElem? hs;have hsk:=hlnOk s hsm;have hut:=oQf hs;have hat1:=hatB (i+1);have hoff:=rQy (p:=0) hs;rw[Nat.zero_add] at hoff;refine aQ3 (cs:=lfV (aQi f)) (by rw[hll];exact hP13.1.ext hE1314) (by rw[hll];exact hin) (fun ad u hA hu hcell=>?_);rw[cQ7 hs] at hu;cases hu;refine load hcell ?_;refine call (cQU (s++ [10]) w14 (gQU hsk.1)) ?_;rintro _ w15 ⟨rfl,hE15⟩;have hssz:(aQh (s++ [10])).size=s.length+1:=by rw[aQj];simp
   have hmul:(i+1)*16000048=i*16000048+16000048:=by omega
   rw[jQR];refine aQq (fun d1=>?_) (fun d1=>?_)
   ·refine aQl aQb [[Value.string (aQh (s++ [10]))]] rfl rfl rfl rfl rfl ⟨rfl,rfl,⟨⟩⟩ rfl (fun cs hh=>by simp only[List.mem_singleton] at hh;subst hh;rfl) rfl (by decide) (by decide) ?_;intro w16 hE16 hz16 hB16;have hE1416:=hE15.trans hE16;have hs16:Sl w16 1 (some ⟨w15.heap.size,0,none⟩) 1 1 (lfV [s]):=Sl.own' (n:=1) hB16 rfl (by decide);refine bQf (n:=L.length) aQb rfl rfl rfl rfl rfl (by decide) rfl rfl ⟨_,rfl⟩ rfl rfl (hLo.ext hE1416).ow hs16 (bQJ _) (by unfold maxLen;omega) (by show(L.length+1)*16<=_;omega) (hLo.ext hE1416).e.size ?_;intro LA2 lc2 w17 hm17 hO17 hmv17;have hLo2:=(hLo.ext hE1416).app hm17 hO17;refine aQa ((unl ((aQi f).take (i+1))).length:Int) (by show((unl ((aQi f).take i)).length:Int)+((aQh (s++ [10])).size:Int)=_;rw[hssz,hut];omega) (by omega) ?_;refine aQa ((i+1:Nat):Int) (by show((i:Nat):Int)+1=_;omega) (by omega) ?_;refine⟨(i+1,L++ [s],LA2,lc2,seg),by simp only[List.length_append];rfl,⟨by simp only[List.length_append];exact hLo2,hin,hap.next hs (by rw[if_neg d1]),fun j y hy hj=>by have:=hsegs j y hy hj;simp only;omega,by simp only[List.length_append,List.length_singleton];omega,fun u hu=>?_,hsgn⟩,by show(aQi f).length-(i+1)<(aQi f).length-i;omega⟩;rcases List.mem_append.1 hu with hu | hu
    ·exact hLk u hu
    ·rw[List.mem_singleton.1 hu];exact hsk
   ·have hdt:bQc s= .txt:=Decidable.not_not.1 d1;obtain⟨kk,σ,y,hseg⟩:=rQz hrd hoff hdt;have hseg:SegAt g (unl ((aQi f).take i)).length kk σ y:=hseg;have hcnd:=hseg.cnd;have hσ:σ<g.sg.length:=(List.getElem?_eq_some_iff.1 hseg.get).1;have hsσ:seg<=σ:=by
     apply Classical.byContradiction;intro hh;have:=hsegs σ y hseg.get (by omega);have:=hseg.hi;omega
    have hE1315:=hE1314.trans hE15;have hBs15:=hBs13.ext hE1315;have hSX15:=hSX13.ext hE1315;have hcell:∀{w':World} (_:Ext w15 w') (sg:Nat) (z:Sx),MX[sg]? =some z->∃q,g.sg[sg]? =some q/\z.f=q.f/\z.t=q.t/\z.at_=q.at_/\Set1 nm.length z.x.nd z.x.r q.o:=fun _ sg z hz=>by
     have hlt:=(List.getElem?_eq_some_iff.1 hz).1;obtain⟨q,hq⟩:∃q,g.sg[sg]? =some q:=⟨_,List.getElem?_eq_getElem (by omega)⟩
     obtain⟨a1,a2,a3,a4,a5⟩:=hAll.get hq hz;exact⟨q,hq,a1,a2,a4,a5⟩
    refine loop aQb [15] (fun sg:Nat=>[.int .i64 sg]) (fun sg w'=>Ext w15 w'/\sg<=σ) (fun sg _=>σ-sg) seg rfl ⟨Ext.refl _,hsσ⟩ ?_;rintro sg w16 ⟨hE16,hsg⟩;have hBs16:=hBs15.ext hE16;have hSX16:=hSX15.ext hE16;have hd16:=Ext.drew w16;obtain⟨q0,hq0⟩:∃q0,g.sg[sg]? =some q0:=⟨_,List.getElem?_eq_getElem (by omega)⟩
    have hgk:=hginv.ok q0 (List.mem_of_getElem? hq0);have hqf:=hgk.ft;have hqt:=hgk.tl;obtain⟨x0,hx0,hx1,_⟩:=hgk.src;have hx0l:x0.2.length<=60000:=by
     have:q0.fl=0:=by
      have:=(List.getElem?_eq_some_iff.1 hx0).1;simpa [fF] using this
     rw[this] at hx0;have:x0=([102],f):=(Option.some.inj hx0).symm;rw[this];exact hfl
    have htxl:=hgok.tl;refine aQm aQb (Ext w16) 22 [(true,0),(true,1),(true,2),(true,3),(true,4),(true,5),(true,6),(true,7),(true,8),(true,9),(true,10),(true,11),(true,12),(true,13),(true,14),(true,15),(true,16),(true,17),(true,18),(true,19),(true,20),(true,21)] (by kernel_rfl) hd16 ?_;refine aQy (v:=.slice SA g.sg.length scp) (fun w' hw'=>(hBs16.ext hw').cell 1) ?_;refine aQp hQQ hSX16.sl rfl (by omega) (fun pd z hz hc=>?_);obtain⟨q1,hq1,z1,z2,z3,z4⟩:=hcell hE16 sg z hz;rw[hq0] at hq1;cases hq1;refine aQy (v:=.int .i64 z.at_) (fun w' hw'=>hw'.cell (hc 3 _ rfl)) ?_;refine aQy (v:=.slice SA g.sg.length scp) (fun w' hw'=>(hBs16.ext hw').cell 1) ?_;refine aQp hQQ hSX16.sl rfl (by omega) (fun pd2 z' hz' hc'=>?_);rw[hz] at hz';cases hz';refine aQy (v:=.int .i64 z.t) (fun w' hw'=>hw'.cell (hc' 1 _ rfl)) ?_;refine aQa ((q0.at_+q0.t:Nat):Int) (by omega) (by omega) ?_;refine aQy (v:=.slice SA g.sg.length scp) (fun w' hw'=>(hBs16.ext hw').cell 1) ?_;refine aQp hQQ hSX16.sl rfl (by omega) (fun pd3 z' hz' hc3=>?_);rw[hz] at hz';cases hz';refine aQy (v:=.int .i64 z.f) (fun w' hw'=>hw'.cell (hc3 0 _ rfl)) ?_;refine aQa ((q0.at_+(q0.t-q0.f):Nat):Int) (by omega) (by omega) ?_;refine aQq (fun c3=>?_) (fun c3=>?_)
    ·have hlt:sg<σ:=by
      apply Classical.byContradiction;intro hh;have:sg=σ:=by omega
      subst this;rw[hseg.get] at hq0;cases hq0;have:=hseg.hi;simp only at c3;omega
     refine aQa ((sg+1:Nat):Int) (by show((sg:Nat):Int)+1=_;omega) (by omega) ?_;exact⟨sg+1,rfl,⟨hE16.trans hd16,by omega⟩,by show σ-(sg+1)<σ-sg;omega⟩
    ·have hlt:sg=σ:=by
      apply Classical.byContradiction;intro hh;have:=hseg.first sg q0 hq0 (by omega);simp only at c3;omega
     subst hlt;rw[hseg.get] at hq0;cases hq0;have hset:aQW nm.length (fun e=>oD x e&&y.o e)=aQW nm.length (dQd (oD x) (vQO g (unl ((aQi f).take i)).length)):=by rw[hcnd,<-hseg.o]
     have hE1417:Ext w14 w16.drew:=hE15.trans (hE16.trans hd16);have hE017:=hE014.trans hE1417;have hE1317:=hE1314.trans hE1417;have hLo17:=hLo.ext hE1417;have hrO:=hLo17.ow.rows;generalize w16.drew=w17 at*;have hdd:=Ext.drew w17;have z13:=hE413.size;have hBx17:=hBx.ext (hE413.trans hE1317);have hE617:Ext w6 w17:=(hE610.trans (hE11.trans (hE12.trans hE13))).trans hE1317;have z613:=(hE610.trans (hE11.trans (hE12.trans hE13))).size;have nx:¬aQx LA w.heap.size:=fun h=>by have:=(hrO _ h).1;have:=hBx.lt;omega
     have nS:¬aQx LA w6.heap.size:=fun h=>by have:=(hrO _ h).1;have:=hBs13.lt;omega
     have hBs17:=hBs13.ext hE1317;have hcL:LA=LA:=rfl;refine pQa aQb [(8,.v (.pointer (some ⟨w1.heap.size,0,none⟩))),(9,.v (.pointer (some ⟨w2.heap.size,0,none⟩)))] rfl (fun ch w'=>edL nm f (es.map EdV.ed) (aQW nm.length (fun e=>oD x e&&y.o e)) (unl ((aQi f).take i)).length s=none/\ch=eQ5 291/\Ext w17 w') (fun ch w19 hp=>by
      obtain⟨hno,rfl,hE1719⟩:=hp;refine eQe aQb (asx:= #[]) (cap:= #[.pointer (some ⟨w1.heap.size,0,none⟩),.pointer (some ⟨w2.heap.size,0,none⟩)]) rfl rfl (args:= #[.pointer (some ⟨w1.heap.size,0,none⟩),.pointer (some ⟨w2.heap.size,0,none⟩)]) (by simp) ((gQv _ _ 291 w19 _ _ hne (hBo.ext (hE413.trans (hE1317.trans hE1719))) (hBe.ext (hE413.trans (hE1317.trans hE1719)))).mono ?_);rintro e u' w50 ⟨v,rfl,hs50,hR50⟩;refine⟨v,rfl,hs50,?_⟩;refine aQg hR50.1 rfl ?_;refine aQg hR50.2.1 rfl ?_;have hres:M= .error 291:=by rw[<-hMM,hap.none hs (by rw[if_pos hdt,<-hset];exact hno)]
      rw[hres];exact⟨rfl,hR50.2.2.ext (hE04.trans (hE413.trans (hE1317.trans hE1719))) (fun i hi=>by rcases hi with rfl | rfl<;>omega)⟩) (Mod (aQx LA) w17) 15 [(true,0),(true,1),(true,2),(true,3),(true,4),(true,5),(true,6),(true,7),(true,8),(true,9),(true,10),(false,11),(false,12),(false,13),(true,14)] (by kernel_rfl) (Mod.of_ext _ hdd) ?_
     refine aQw (vs:=x.cells) rfl (fun w' hw' k u hk=>by rw[(hBx17.mod hw' nx).cell];exact hk) ?_;refine aQy (v:=.slice SA g.sg.length scp) (fun w' hw'=>(hBs17.mod hw' nS).cell 1) ?_;refine aQp hQQ hSX.sl rfl (by omega) (fun pd4 z' hz' hc4=>?_);rw[hz] at hz';cases hz';have hpb:pd4.block<w6.heap.size:=by
      have:=World.block_lt_of_cell? w6 _ (hc4 4 _ rfl)
      rwa [cQG] at this
     have npd:¬aQx LA pd4.block:=fun h=>by have:=(hrO _ h).1;have:=hBs13.lt;omega
     refine aQw (vs:=[.slice z.x.A z.x.n z.x.c,.int .i64 z.x.r]) rfl (fun w' hw' k u hk=>by
      rw[add_add];refine hw'.cell (hE617.cell (hc4 (4+k) u (by match k,hk with | 0,hk=>exact hk | 1,hk=>exact hk))) (by rw[cQG];exact npd)) ?_
     have hz4:Set1 nm.length z.x.nd z.x.r y.o:=z4;have hzd:=(hSX.dg z (List.mem_of_getElem? hz)).ext hE617;refine call (dQu hk x z.x w17.drew ((hx.ext hE017).ext hdd) (hzd.ext hdd) sx hz4) ?_;rintro _ w18 ⟨QA,Qn,Qc,Qnd,Qr,rfl,hE18,hQ18,sQ,_⟩;have hE1718:=hdd.trans hE18;refine⟨Mod.of_ext _ hE1718,?_⟩;have hE1318:=hE1317.trans hE1718;refine aQX (sQ1 p hB hV (unl ((aQi f).take i)).length s hoff ⟨QA,Qn,Qc,Qnd,Qr⟩ _ w18 (K13.ext hE1318) hQ18 sQ) ?_ ?_
     rotate_left
     ·rintro ch w19 ⟨hno,rfl,hE19⟩;exact⟨rfl,hno,rfl,hE1718.trans hE19⟩
     rintro u19 w19 ⟨Lx,hLx,A19,c19,rfl,hE19,hS19⟩;have hE1719:=hE1718.trans hE19;refine⟨Mod.of_ext _ hE1719,?_⟩;have hLx:edL nm f (es.map EdV.ed) (aQW nm.length (fun e=>oD x e&&y.o e)) (unl ((aQi f).take i)).length s=some Lx:=hLx;rw[hset] at hLx;obtain⟨lx1,lx2⟩:=xQM hnb hnl hf8 hfl hedB (by rw[List.length_map];exact hel) (hS16 _) hsk hLx;have hmx:(Lx.map (·++ [10])).length=Lx.length:=by rw[List.length_map]
     have hi60:i*16000048<=60000*16000048:=Nat.mul_le_mul_right _ (by omega);have hLo19:=hLo17.ext hE1719;refine bQf (n:=L.length) aQb rfl rfl rfl rfl rfl (by decide) rfl rfl ⟨_,rfl⟩ rfl rfl hLo19.ow hS19.1 (bQJ _) (by unfold maxLen;omega) (by show(L.length+(Lx.map (·++ [10])).length)*16<=_;omega) hLo19.e.size ?_;intro LA2 lc2 w20 hm20 hO20 hmv20;have hM1720:Mod (aQx LA) w17 w20:=(Mod.of_ext (aQx LA) hE1719).trans hm20 (fun i hi=>.inl hi);refine⟨hM1720,?_⟩;have hLo20:=hLo19.app hm20 hO20;refine aQa ((unl ((aQi f).take (i+1))).length:Int) (by show((unl ((aQi f).take i)).length:Int)+((aQh (s++ [10])).size:Int)=_;rw[hssz,hut];omega) (by omega) ?_;refine aQa ((i+1:Nat):Int) (by show((i:Nat):Int)+1=_;omega) (by omega) ?_;refine⟨(i+1,L++Lx,LA2,lc2,sg),by simp only[List.length_append,List.length_map];rfl,⟨by simp only[List.length_append];rw[hmx] at hLo20;exact hLo20,hin,hap.next hs (by rw[if_pos hdt];exact hLx),fun j y' hy' hj=>by have:=hseg.first j y' hy' hj;simp only;omega,by simp only[List.length_append];omega,fun u hu=>?_,by simp only;omega⟩,by show(aQi f).length-(i+1)<(aQi f).length-i;omega⟩;rcases List.mem_append.1 hu with hu | hu
     ·exact hLk u hu
     ·exact lx2 u hu
  ·have hin:i=(aQi f).length:=by simp only at c1;omega
   have hfin:=hap.fin (by omega);rw[hfin] at hMM;simp only at hMM;obtain⟨LA',lc',e14,_,hS14⟩:=hLo.fin (Ext.refl w13);simp only[Value.slice.injEq,List.length_map] at e14;obtain⟨rfl,_,rfl⟩:=e14;have hi60:L.length<=60000*16000048:=Nat.le_trans hLl (Nat.mul_le_mul_right _ (by omega));have hub:(unl L).length<=1000000000000000000:=by
    have h1:=gQw (M:=1000000) (fun u hu=>(hLk u hu).2);have h2:=Nat.mul_le_mul_right (1000000+1) hi60;omega
   have hS14:Sn w14 LA L.length lc (lfV L):=by rw[List.length_map] at hS14;exact hS14
   have hu8:∀b∈unl L,b<256:=fun b hb=>by
    obtain⟨u,hu,hb⟩:=List.mem_flatMap.1 hb;exact gQU (hLk u hu).1 b hb
   refine aQL (aQv aQb ?_);refine aQX (lQO LA L.length lc L w14 hS14 hub) ?_ ?_
   rotate_left
   ·rintro ch _ ⟨hbig,rfl,rfl⟩;refine eQe aQb (asx:= #[]) (cap:= #[.pointer (some ⟨w1.heap.size,0,none⟩),.pointer (some ⟨w2.heap.size,0,none⟩)]) rfl rfl (args:= #[.pointer (some ⟨w1.heap.size,0,none⟩),.pointer (some ⟨w2.heap.size,0,none⟩)]) (by simp) ((gQv _ _ 2 w14 _ _ hne (hBo.ext hE414) (hBe.ext hE414)).mono ?_);rintro e u' w50 ⟨v,rfl,hs50,hR50⟩;refine⟨v,rfl,hs50,?_⟩;refine aQg hR50.1 rfl ?_;refine aQg hR50.2.1 rfl ?_;have hres:M= .error 2:=by rw[<-hMM,if_pos hbig]
    rw[hres];exact⟨rfl,hR50.2.2.ext (hE04.trans hE414) (fun i hi=>by rcases hi with rfl | rfl<;>omega)⟩
   rintro _ w15 ⟨hfit,rfl,hE15⟩;rw[if_neg (by omega)] at hMM;have hE415:=hE414.trans hE15;have hE015:=hE014.trans hE15;refine aQC (hBo.ext hE415) (by simp[bQd]) (fun w16 hM16 hB16=>?_);have hB16:Blk w16 w1.heap.size 9 [.string (aQh (unl L))]:=hB16;have hE016:Ext w w16:=hM16.ext hE015 (fun i hi=>by omega);have hBe16:=(hBe.ext hE415).mod hM16 hne.symm;refine aQL (aQv aQb ?_);refine aQg hB16 rfl ?_;refine aQl aQb [fQL ([102],unl L)] rfl rfl rfl rfl rfl ⟨rfl,rfl,⟨⟩⟩ rfl (fun cs h=>by simp only[List.mem_singleton] at h;subst h;rfl) rfl (by decide) (by decide) ?_;intro w17 hE17 hz17 hB17;have hE017:=hE016.trans hE17;refine call (jQ4 nm NA nn nc (fF (unl L)) _ 1 1 [102] w17 (hN.ext hE017) hnb hk (rQB (w:=w) hB17) (tQZ hu8 (by omega)) (by decide) (by decide)) ?_;rintro u18 w18 ⟨hE18,hR18⟩;have hE1618:=hE17.trans hE18;have fin:∀(P:Value) (q:Pl) (w18:World),True:=fun _ _ _=>trivial
   cases hr2:cQJ nm (fF (unl L)) [102] with
   | error q=>
    rw[hr2] at hR18 hMM;simp only at hMM;subst hR18;refine new (fun w19 hE19 hz19 hB19=>?_);refine new (fun w20 hE20 hz20 hB20=>?_);refine aQc (hB19.ext hE20) rfl (sc rfl) (fun w21 hg21 hz21 hB21=>?_);have hM21:Mod (·=w18.heap.size) w20 w21:=zQE hg21 rfl;have n1819:¬w19.heap.size=w18.heap.size:=by omega
    refine aQc (hB20.mod hM21 n1819) rfl (sc rfl) (fun w22 hg22 hz22 hB22=>?_);have hM22:Mod (·=w19.heap.size) w21 w22:=zQE hg22 rfl;have hE1822:Ext w18 w22:=hM22.ext (hM21.ext (hE19.trans hE20) (fun i hi=>by omega)) (fun i hi=>by omega);have hE1622:=hE1618.trans hE1822;have hB16':=hB16.ext hE1622;have hBe':=hBe16.ext hE1622;have hE022:=hE016.trans hE1622;refine aQg hB22 rfl ?_;refine aQP (fun h2=>?_) (fun h2=>?_)
    ·have h2:q.e=2:=h2;rw[if_pos h2] at hMM;refine aQX (aQY 2 (by decide) w22) (fun _ _ hf=>hf.elim) ?_;rintro ch _ ⟨rfl,rfl⟩;refine eQe aQb (asx:= #[]) (cap:= #[.pointer (some ⟨w1.heap.size,0,none⟩),.pointer (some ⟨w2.heap.size,0,none⟩)]) rfl rfl (args:= #[.pointer (some ⟨w1.heap.size,0,none⟩),.pointer (some ⟨w2.heap.size,0,none⟩)]) (by simp) ((gQv _ _ 2 w22 _ _ hne hB16' hBe').mono ?_);rintro e u' w50 ⟨v,rfl,hs50,hR50⟩;refine⟨v,rfl,hs50,?_⟩;refine aQg hR50.1 rfl ?_;refine aQg hR50.2.1 rfl ?_;have hres:M= .error 2:=hMM.symm;rw[hres];exact⟨rfl,hR50.2.2.ext hE022 (fun i hi=>by rcases hi with rfl | rfl<;>omega)⟩
    have h2:q.e≠2:=h2;rw[if_neg h2] at hMM;refine aQv aQb ?_;refine aQg hB16' rfl ?_;refine aQC hB16' (by simp) (fun w23 hM23 hB23=>?_);refine aQC (hBe'.mod hM23 hne.symm) (by simp[bQd]) (fun w24 hM24 hB24=>?_);refine pQf aQb rfl rfl (.inl rfl) (args:= #[.pointer (some ⟨w1.heap.size,0,none⟩),.pointer (some ⟨w2.heap.size,0,none⟩)]) (by simp) ((rQk _ _ w24).mono ?_);rintro e u' w50 ⟨v,rfl,hs50,rfl⟩;refine⟨v,rfl,hs50,?_⟩;refine aQg (hB23.mod hM24 hne) rfl ?_;refine aQg hB24 rfl ?_;exact⟨by rw[<-hMM];rfl,hM24.ext (hM23.ext hE022 (fun j hj=>by omega)) (fun j hj=>by omega)⟩
   | ok g2=>
    rw[hr2] at hR18 hMM;simp only at hMM;obtain⟨_,SA2,sc2,SL2,rfl,_⟩:=hR18;refine new (fun w19 hE19 hz19 hB19=>?_);refine new (fun w20 hE20 hz20 hB20=>?_);refine aQc (hB19.ext hE20) rfl (sc rfl) (fun w21 hg21 hz21 hB21=>?_);have hM21:Mod (·=w18.heap.size) w20 w21:=zQE hg21 rfl;have n1819:¬w19.heap.size=w18.heap.size:=by omega
    refine aQc (hB20.mod hM21 n1819) rfl (sc rfl) (fun w22 hg22 hz22 hB22=>?_);have hM22:Mod (·=w19.heap.size) w21 w22:=zQE hg22 rfl;have hE1822:Ext w18 w22:=hM22.ext (hM21.ext (hE19.trans hE20) (fun i hi=>by omega)) (fun i hi=>by omega);have hE1622:=hE1618.trans hE1822;have hB16':=hB16.ext hE1622;have hBe':=hBe16.ext hE1622;have hE022:=hE016.trans hE1622;refine aQg hB22 rfl ?_;refine aQu (by decide) ?_;refine aQv aQb ?_;refine aQg hB16' rfl ?_;refine aQC hB16' (by simp) (fun w23 hM23 hB23=>?_);refine aQC (hBe'.mod hM23 hne.symm) (by simp[bQd]) (fun w24 hM24 hB24=>?_);refine pQf aQb rfl rfl (.inl rfl) (args:= #[.pointer (some ⟨w1.heap.size,0,none⟩),.pointer (some ⟨w2.heap.size,0,none⟩)]) (by simp) ((rQk _ _ w24).mono ?_);rintro e u' w50 ⟨v,rfl,hs50,rfl⟩;refine⟨v,rfl,hs50,?_⟩;refine aQg (hB23.mod hM24 hne) rfl ?_;refine aQg hB24 rfl ?_;exact⟨by rw[<-hMM];rfl,hM24.ext (hM23.ext hE022 (fun j hj=>by omega)) (fun j hj=>by omega)⟩
theorem mQ7 {k:Nat}{x:DV}{o:BF}(s:Set1 k x.nd x.r o):oD x=o:=funext (fun e=>s.mean e)
theorem kQs {k v:Nat}(hv:v<k)(hk:k<=12)(w:World):Fn Tryz.prog 34 [.int .i64 v] w (wQl w k (fun e=>e v)):=by
 refine(mQz (v:Int) w (by omega) (by omega)).mono ?_;rintro u w' ⟨A,n,c,rfl,hE,hb,hr⟩;exact⟨A,n,c,_,_,rfl,hE,hb,mQN hv (by omega),hr⟩
theorem kQt {k:Nat}(hk:k<=12)(x:DV){o:BF}(w:World)(h:SB w x.A x.n x.c x.nd)(s:Set1 k x.nd x.r o):Fn Tryz.prog 35 [dgV x.A x.n x.c x.r] w (wQl w k (fun e=> !o e)):=by
 refine(mQB x.A x.n x.c x.nd x.r w h).mono ?_;have s0:Set1 k [] 0 (fun _=>false):=bQi k false;rw[eQB hk s s0 3];have c1:Set1 k _ _ (fun e=> !o e):=(bQ4 s s0 3).congr (fun e=>by simp[opB]);generalize cQO x.nd x.r [] 0 3=D at*;obtain⟨D1,D2⟩:=D;rintro u w' ⟨A,n,c,rfl,hE,hb,hr⟩;exact⟨A,n,c,_,_,rfl,hE,hb,c1,hr⟩
theorem oQg {k:Nat}(hk:k<=12)(x y:DV){o o':BF}(w:World)(h:SB w x.A x.n x.c x.nd)(h':SB w y.A y.n y.c y.nd)(s:Set1 k x.nd x.r o)(s':Set1 k y.nd y.r o'):
  Fn Tryz.prog 36 [dgV x.A x.n x.c x.r,dgV y.A y.n y.c y.r] w (wQl w k (fun e=>o e&&o' e)):=by
 refine(hQF x.A x.n x.c x.nd x.r y.A y.n y.c y.nd y.r w h h').mono ?_;rw[eQB hk s s' 0];have c1:Set1 k _ _ (fun e=>o e&&o' e):=(bQ4 s s' 0).congr (fun e=>by simp[opB]);generalize cQO x.nd x.r y.nd y.r 0=D at*;obtain⟨D1,D2⟩:=D;rintro v w' ⟨PA,q,pc,rfl,hE,hP,hR⟩;exact⟨PA,q,pc,D1,D2,rfl,hE,hP,c1,hR⟩
def zQy (r:Except Int (List Nat))(t:List Nat):Bool:=match r with
 | .ok l=>decide (l=t)
 | .error _=>false
def fQY:List (List Nat):=[[65],[66]]
theorem rQD:aQ2 fQY:=fun s hs=>by
 simp only[fQY,List.mem_cons,List.not_mem_nil,or_false] at hs;rcases hs with rfl | rfl<;>exact⟨by decide,by decide⟩
theorem rQE:∀s∈fQY,s.length<=1000:=by decide
def wvB (yes no:List Nat):Except Int (List Nat):=dQV fQY (fun _=>true) [⟨fun e=>e 0,yes⟩,⟨fun e=> !e 0,no⟩]
set_option maxHeartbeats 1600000 in
theorem iQg (yes no want:List Nat)(hy:(∀b∈yes,b<256)/\yes.length<=2000)(hn:(∀b∈no,b<256)/\no.length<=2000)(w:World)(hok:wvB yes no= .ok want):
  Fn Tryz.prog 38 [.string (aQh yes),.string (aQh no),.string (aQh want)] w (fun u w'=>u= .bool true/\Ext w w'):=by
 refine aQf (c:={c38 with cuts:=[]}) aQb Tryz.func38 rfl rfl rfl ?_;refine call (kQs (k:=2) (v:=0) (by decide) (by decide) w) ?_;rintro _ w1 ⟨A1,n1,c1,d1,r1,rfl,hE1,hb1,s1,_⟩;refine new (fun w2 hE2 hz2 hB2=>?_);refine aQc hB2 rfl (sc rfl) (fun w3 hg3 _ hB3=>?_);have hE13:Ext w1 w3:=aQJ hE2 hB2 hg3;refine aQd hB3 rfl ?_;refine call (kQt (k:=2) (by decide) ⟨A1,n1,c1,d1,r1⟩ w3 (hb1.ext hE13) s1) ?_;rintro _ w4 ⟨A2,n2,c2,d2,r2,rfl,hE4,hb2,s2,_⟩;refine new (fun w5 hE5 hz5 hB5=>?_);refine aQc hB5 rfl (sc rfl) (fun w6 hg6 _ hB6=>?_);have hE46:Ext w4 w6:=aQJ hE5 hB5 hg6;have hE36:=hE4.trans hE46;have hE06:=hE1.trans (hE13.trans hE36);have hB36:=hB3.ext hE36;have hd:=Ext.drew w6;have fin:∀(NA:Option Addr) (nc:Nat) (PA:Option Addr) (pc:Nat) (w':World),Ext w6 w'->Sl w' 1 NA 2 nc (aQ6 fQY)->SlS bQR 3 w' PA 2 pc [(⟨A1,n1,c1,d1,r1⟩,yes),(⟨A2,n2,c2,d2,r2⟩,no)]->
   Fn Tryz.prog 24 [.slice NA 2 nc,dgV none 0 0 1,.slice PA 2 pc] w' (fun u w''=>u= .tuple #[.string (aQh want),.int .i64 0]/\Ext w' w''):=fun NA nc PA pc w' hE' hN' hP'=>by
  refine(fQW NA 2 nc fQY ⟨none,0,0,[],1⟩ PA 2 pc _ (by decide) rQD rQE (fun q hq=>by
   simp only[List.mem_cons,List.not_mem_nil,or_false] at hq;rcases hq with rfl | rfl
   ·exact hy
   ·exact hn) w' hN' (SlS.nil _) hP' (fun q hq=>by
   simp only[List.mem_cons,List.not_mem_nil,or_false] at hq;rcases hq with rfl | rfl
   ·exact hb1.ext (hE13.trans (hE36.trans hE'))
   ·exact hb2.ext (hE46.trans hE'))).mono ?_
  rintro u w'' ⟨rfl,hE''⟩;refine⟨?_,hE''⟩;have sc:Set1 2 [] 1 (fun _=>true):=bQi 2 true;rw[kQo (nm:=fQY) (x:=⟨none,0,0,[],1⟩) (by decide) (eQ1 (x:=⟨none,0,0,[],1⟩) (by decide) sc).1 (fun q hq=>by
   simp only[List.mem_cons,List.not_mem_nil,or_false] at hq;rcases hq with rfl | rfl
   ·exact(eQ1 (by decide) s1).1
   ·exact(eQ1 (by decide) s2).1)]
  have e0:oD ⟨none,0,0,[],1⟩=fun _=>true:=mQ7 (x:=⟨none,0,0,[],1⟩) sc
  have e1:oD ⟨A1,n1,c1,d1,r1⟩=fun e=>e 0:=mQ7 (x:=⟨A1,n1,c1,d1,r1⟩) s1
  have e2:oD ⟨A2,n2,c2,d2,r2⟩=fun e=> !e 0:=mQ7 (x:=⟨A2,n2,c2,d2,r2⟩) s2
  rw[e0];have e3:prs [((⟨A1,n1,c1,d1,r1⟩:DV),yes),(⟨A2,n2,c2,d2,r2⟩,no)]=[⟨fun e=>e 0,yes⟩,⟨fun e=> !e 0,no⟩]:=by
   simp only[prs,List.map_cons,List.map_nil,e1,e2]
  rw[e3];have:dQV fQY (fun _=>true) [⟨fun e=>e 0,yes⟩,⟨fun e=> !e 0,no⟩]= .ok want:=hok;rw[this]<;>rfl
 refine hQ7 aQb (Ext w6) 15 (.quiet 2 (.quiet 3 (.quiet 4 (.quiet 5 (.quiet 6 (.quiet 7 (.fork 0 (.fork 1 (.fork 8 (.fork 9 (.quiet 10 (.quiet 11 (.quiet 12 (.quiet 13 (.quiet 14 .done))))) .skip) .skip) (.fork 8 (.fork 1 (.fork 9 (.quiet 10 (.quiet 11 (.quiet 12 (.quiet 13 (.quiet 14 .done))))) .skip) .skip) .skip)) (.fork 1 (.fork 0 (.fork 8 (.fork 9 (.quiet 10 (.quiet 11 (.quiet 12 (.quiet 13 (.quiet 14 .done))))) .skip) .skip) (.fork 8 (.fork 0 (.fork 9 (.quiet 10 (.quiet 11 (.quiet 12 (.quiet 13 (.quiet 14 .done))))) .skip) .skip) .skip)) (.fork 8 (.fork 0 (.fork 1 (.fork 9 (.quiet 10 (.quiet 11 (.quiet 12 (.quiet 13 (.quiet 14 .done))))) .skip) .skip) (.fork 1 (.fork 0 (.fork 9 (.quiet 10 (.quiet 11 (.quiet 12 (.quiet 13 (.quiet 14 .done))))) .skip) .skip) .skip)) .skip))))))))) (by kernel_rfl) hd ?_;refine aQw (vs:=[.slice A1 n1 c1,.int .i64 r1]) rfl (fun w' hw' k u hk=>by rw[(hB36.ext hw').cell];exact hk) ?_;refine aQw (vs:=[.slice A2 n2 c2,.int .i64 r2]) rfl (fun w' hw' k u hk=>by rw[(hB6.ext hw').cell];exact hk) ?_;refine⟨?_,?_,?_,trivial⟩
 ·refine aQl aQb [[Value.string (aQh [65])],[Value.string (aQh [66])]] rfl rfl rfl rfl rfl ⟨rfl,rfl,rfl,rfl,⟨⟩⟩ rfl (fun cs h=>by simp only[List.mem_cons,List.not_mem_nil,or_false] at h;rcases h with rfl | rfl<;>rfl) rfl (by decide) (by decide) ?_;intro v1 g1 _ hN1;have f1:=hd.trans g1;refine⟨f1,?_⟩;refine⟨?_,?_,trivial⟩
  ·refine call (bQm true _) ?_;rintro _ v2 ⟨rfl,g2⟩;have f2:=f1.trans g2;refine⟨f2,?_⟩;refine⟨?_,trivial⟩
   ·refine aQl aQb [bQR (⟨A1,n1,c1,d1,r1⟩,yes),bQR (⟨A2,n2,c2,d2,r2⟩,no)] rfl rfl rfl rfl rfl ⟨rfl,rfl,rfl,rfl,⟨⟩⟩ rfl (fun cs h=>by simp only[List.mem_cons,List.not_mem_nil,or_false] at h;rcases h with rfl | rfl<;>rfl) rfl (by decide) (by decide) ?_;intro v3 g3 _ hP3;have f3:=f2.trans g3;refine⟨f3,?_⟩;refine⟨?_,trivial⟩;refine call (fin _ 2 _ 2 v3 f3 (Sl.own' (n:=2) (hN1.ext (g2.trans g3)) rfl (by decide)) ⟨Sl.own (sz:=3) (n:=2) hP3 (Nat.le_refl _) (by decide) (by simp[bQR]),rfl⟩) ?_;rintro _ w9 ⟨rfl,hE9⟩;refine⟨f3.trans hE9,?_⟩;refine aQM rfl ?_;exact⟨congrArg Value.bool (decide_eq_true rfl),hE06.trans (f3.trans hE9)⟩
  ·refine aQl aQb [bQR (⟨A1,n1,c1,d1,r1⟩,yes),bQR (⟨A2,n2,c2,d2,r2⟩,no)] rfl rfl rfl rfl rfl ⟨rfl,rfl,rfl,rfl,⟨⟩⟩ rfl (fun cs h=>by simp only[List.mem_cons,List.not_mem_nil,or_false] at h;rcases h with rfl | rfl<;>rfl) rfl (by decide) (by decide) ?_;intro v2 g2 _ hP2;have f2:=f1.trans g2;refine⟨f2,?_⟩;refine⟨?_,trivial⟩
   ·refine call (bQm true _) ?_;rintro _ v3 ⟨rfl,g3⟩;have f3:=f2.trans g3;refine⟨f3,?_⟩;refine⟨?_,trivial⟩;refine call (fin _ 2 _ 2 v3 f3 (Sl.own' (n:=2) (hN1.ext (g2.trans g3)) rfl (by decide)) ⟨Sl.own (sz:=3) (n:=2) (hP2.ext g3) (Nat.le_refl _) (by decide) (by simp[bQR]),rfl⟩) ?_;rintro _ w9 ⟨rfl,hE9⟩;refine⟨f3.trans hE9,?_⟩;refine aQM rfl ?_;exact⟨congrArg Value.bool (decide_eq_true rfl),hE06.trans (f3.trans hE9)⟩
 ·refine call (bQm true _) ?_;rintro _ v1 ⟨rfl,g1⟩;have f1:=hd.trans g1;refine⟨f1,?_⟩;refine⟨?_,?_,trivial⟩
  ·refine aQl aQb [[Value.string (aQh [65])],[Value.string (aQh [66])]] rfl rfl rfl rfl rfl ⟨rfl,rfl,rfl,rfl,⟨⟩⟩ rfl (fun cs h=>by simp only[List.mem_cons,List.not_mem_nil,or_false] at h;rcases h with rfl | rfl<;>rfl) rfl (by decide) (by decide) ?_;intro v2 g2 _ hN2;have f2:=f1.trans g2;refine⟨f2,?_⟩;refine⟨?_,trivial⟩
   ·refine aQl aQb [bQR (⟨A1,n1,c1,d1,r1⟩,yes),bQR (⟨A2,n2,c2,d2,r2⟩,no)] rfl rfl rfl rfl rfl ⟨rfl,rfl,rfl,rfl,⟨⟩⟩ rfl (fun cs h=>by simp only[List.mem_cons,List.not_mem_nil,or_false] at h;rcases h with rfl | rfl<;>rfl) rfl (by decide) (by decide) ?_;intro v3 g3 _ hP3;have f3:=f2.trans g3;refine⟨f3,?_⟩;refine⟨?_,trivial⟩;refine call (fin _ 2 _ 2 v3 f3 (Sl.own' (n:=2) (hN2.ext g3) rfl (by decide)) ⟨Sl.own (sz:=3) (n:=2) hP3 (Nat.le_refl _) (by decide) (by simp[bQR]),rfl⟩) ?_;rintro _ w9 ⟨rfl,hE9⟩;refine⟨f3.trans hE9,?_⟩;refine aQM rfl ?_;exact⟨congrArg Value.bool (decide_eq_true rfl),hE06.trans (f3.trans hE9)⟩
  ·refine aQl aQb [bQR (⟨A1,n1,c1,d1,r1⟩,yes),bQR (⟨A2,n2,c2,d2,r2⟩,no)] rfl rfl rfl rfl rfl ⟨rfl,rfl,rfl,rfl,⟨⟩⟩ rfl (fun cs h=>by simp only[List.mem_cons,List.not_mem_nil,or_false] at h;rcases h with rfl | rfl<;>rfl) rfl (by decide) (by decide) ?_;intro v2 g2 _ hP2;have f2:=f1.trans g2;refine⟨f2,?_⟩;refine⟨?_,trivial⟩
   ·refine aQl aQb [[Value.string (aQh [65])],[Value.string (aQh [66])]] rfl rfl rfl rfl rfl ⟨rfl,rfl,rfl,rfl,⟨⟩⟩ rfl (fun cs h=>by simp only[List.mem_cons,List.not_mem_nil,or_false] at h;rcases h with rfl | rfl<;>rfl) rfl (by decide) (by decide) ?_;intro v3 g3 _ hN3;have f3:=f2.trans g3;refine⟨f3,?_⟩;refine⟨?_,trivial⟩;refine call (fin _ 2 _ 2 v3 f3 (Sl.own' (n:=2) hN3 rfl (by decide)) ⟨Sl.own (sz:=3) (n:=2) (hP2.ext g3) (Nat.le_refl _) (by decide) (by simp[bQR]),rfl⟩) ?_;rintro _ w9 ⟨rfl,hE9⟩;refine⟨f3.trans hE9,?_⟩;refine aQM rfl ?_;exact⟨congrArg Value.bool (decide_eq_true rfl),hE06.trans (f3.trans hE9)⟩
 ·refine aQl aQb [bQR (⟨A1,n1,c1,d1,r1⟩,yes),bQR (⟨A2,n2,c2,d2,r2⟩,no)] rfl rfl rfl rfl rfl ⟨rfl,rfl,rfl,rfl,⟨⟩⟩ rfl (fun cs h=>by simp only[List.mem_cons,List.not_mem_nil,or_false] at h;rcases h with rfl | rfl<;>rfl) rfl (by decide) (by decide) ?_;intro v1 g1 _ hP1;have f1:=hd.trans g1;refine⟨f1,?_⟩;refine⟨?_,?_,trivial⟩
  ·refine aQl aQb [[Value.string (aQh [65])],[Value.string (aQh [66])]] rfl rfl rfl rfl rfl ⟨rfl,rfl,rfl,rfl,⟨⟩⟩ rfl (fun cs h=>by simp only[List.mem_cons,List.not_mem_nil,or_false] at h;rcases h with rfl | rfl<;>rfl) rfl (by decide) (by decide) ?_;intro v2 g2 _ hN2;have f2:=f1.trans g2;refine⟨f2,?_⟩;refine⟨?_,trivial⟩
   ·refine call (bQm true _) ?_;rintro _ v3 ⟨rfl,g3⟩;have f3:=f2.trans g3;refine⟨f3,?_⟩;refine⟨?_,trivial⟩;refine call (fin _ 2 _ 2 v3 f3 (Sl.own' (n:=2) (hN2.ext g3) rfl (by decide)) ⟨Sl.own (sz:=3) (n:=2) (hP1.ext (g2.trans g3)) (Nat.le_refl _) (by decide) (by simp[bQR]),rfl⟩) ?_;rintro _ w9 ⟨rfl,hE9⟩;refine⟨f3.trans hE9,?_⟩;refine aQM rfl ?_;exact⟨congrArg Value.bool (decide_eq_true rfl),hE06.trans (f3.trans hE9)⟩
  ·refine call (bQm true _) ?_;rintro _ v2 ⟨rfl,g2⟩;have f2:=f1.trans g2;refine⟨f2,?_⟩;refine⟨?_,trivial⟩
   ·refine aQl aQb [[Value.string (aQh [65])],[Value.string (aQh [66])]] rfl rfl rfl rfl rfl ⟨rfl,rfl,rfl,rfl,⟨⟩⟩ rfl (fun cs h=>by simp only[List.mem_cons,List.not_mem_nil,or_false] at h;rcases h with rfl | rfl<;>rfl) rfl (by decide) (by decide) ?_;intro v3 g3 _ hN3;have f3:=f2.trans g3;refine⟨f3,?_⟩;refine⟨?_,trivial⟩;refine call (fin _ 2 _ 2 v3 f3 (Sl.own' (n:=2) hN3 rfl (by decide)) ⟨Sl.own (sz:=3) (n:=2) (hP1.ext (g2.trans g3)) (Nat.le_refl _) (by decide) (by simp[bQR]),rfl⟩) ?_;rintro _ w9 ⟨rfl,hE9⟩;refine⟨f3.trans hE9,?_⟩;refine aQM rfl ?_;exact⟨congrArg Value.bool (decide_eq_true rfl),hE06.trans (f3.trans hE9)⟩
def apB (file:List Nat)(e:Ed):Except Int (List Nat):=rQc fQY (fun _=>true) file [e]
theorem lQS (file:List Nat)(e:EdV){o:BF}(hf:(∀b∈file,b<256)/\file.length<=60000)(h64: -9223372036854775808<=e.fr/\e.fr<=9223372036854775807/\ -9223372036854775808<=e.to_/\e.to_<=9223372036854775807)(ht:(∀b∈e.tx,b<256)/\e.tx.length<=1000)(se:Set1 2 e.x.nd e.x.r o)
  (NA:Option Addr) (nc:Nat) (EA:Option Addr) (ec:Nat) (w:World) (hb:SB w e.x.A e.x.n e.x.c e.x.nd) (hN:Sl w 1 NA 2 nc (aQ6 fQY)) (hE:SlS edC 5 w EA 1 ec [e]):
  Fn Tryz.prog 15 [.slice NA 2 nc,dgV none 0 0 1,.string (aQh file),.slice EA 1 ec] w (fun u w'=>u=vQP (apB file ⟨e.fr,e.to_,e.tx,o⟩)/\Ext w w'):=by
 refine(rQC NA 2 nc fQY ⟨none,0,0,[],1⟩ file EA 1 ec [e] (by decide) rQD rQE hf.1 hf.2 (fun b hb=>by rw[List.mem_singleton.1 hb];exact h64) (fun b hb=>by rw[List.mem_singleton.1 hb];exact ht) (by show 1<=10;decide) w hN (SlS.nil _) hE (fun b hb2=>by rw[List.mem_singleton.1 hb2];exact hb)).mono ?_;rintro u w' ⟨rfl,hE'⟩;refine⟨?_,hE'⟩;have sc:Set1 2 [] 1 (fun _=>true):=bQi 2 true;have e0:oD ⟨none,0,0,[],1⟩=fun _=>true:=mQ7 (x:=⟨none,0,0,[],1⟩) sc
 have o1:ovD fQY.length [] 1=true:=(eQ1 (x:=⟨none,0,0,[],1⟩) (n:=2) (by decide) sc).1;have o2:ovD fQY.length e.x.nd e.x.r=true:=(eQ1 (n:=2) (by decide) se).1;have e3: [e].map EdV.ed=[⟨e.fr,e.to_,e.tx,o⟩]:=by
  show [(⟨e.fr,e.to_,e.tx,oD e.x⟩:Ed)]=_;rw[mQ7 se]
 unfold iQ7 apB;rw[if_neg (by rw[show aQV fQY=true from by decide];show¬(true=false∨ovD fQY.length [] 1=false);rw[o1];decide),if_pos (by simp only[List.all_cons,List.all_nil,Bool.and_true];exact o2),e0,e3]
set_option maxHeartbeats 1600000 in
theorem gQy (file want:List Nat)(e:EdV){o:BF}(hf:(∀b∈file,b<256)/\file.length<=60000)(h64: -9223372036854775808<=e.fr/\e.fr<=9223372036854775807/\ -9223372036854775808<=e.to_/\e.to_<=9223372036854775807)(ht:(∀b∈e.tx,b<256)/\e.tx.length<=1000)(se:Set1 2 e.x.nd e.x.r o)(w:World)(hb:SB w e.x.A e.x.n e.x.c e.x.nd)(hok:apB file ⟨e.fr,e.to_,e.tx,o⟩= .ok want):
  Fn Tryz.prog 39 [.string (aQh file),.agg (edC e).toArray,.string (aQh want)] w (fun u w'=>u= .bool true/\Ext w w'):=by
 refine aQf (c:={c39 with cuts:=[]}) aQb Tryz.func39 rfl rfl rfl ?_;refine new (fun w6 hE06 hz6 hB6=>?_);have hd:=Ext.drew w6;have fin:∀(NA:Option Addr) (nc:Nat) (EA:Option Addr) (ec:Nat) (w':World),Ext w6 w'->Sl w' 1 NA 2 nc (aQ6 fQY)->SlS edC 5 w' EA 1 ec [e]->
   Fn Tryz.prog 15 [.slice NA 2 nc,dgV none 0 0 1,.string (aQh file),.slice EA 1 ec] w' (fun u w''=>u= .tuple #[.string (aQh want),.int .i64 0]/\Ext w' w''):=fun NA nc EA ec w' hE' hN' hP'=>by
  refine(lQS file e hf h64 ht se NA nc EA ec w' (hb.ext (hE06.trans hE')) hN' hP').mono ?_;rintro u w'' ⟨rfl,hE''⟩;rw[hok];exact⟨rfl,hE''⟩
 refine hQ7 aQb (Ext w6) 11 (.quiet 2 (.quiet 3 (.fork 0 (.fork 1 (.fork 4 (.fork 5 (.quiet 6 (.quiet 7 (.quiet 8 (.quiet 9 (.quiet 10 .done))))) .skip) .skip) (.fork 4 (.fork 1 (.fork 5 (.quiet 6 (.quiet 7 (.quiet 8 (.quiet 9 (.quiet 10 .done))))) .skip) .skip) .skip)) (.fork 1 (.fork 0 (.fork 4 (.fork 5 (.quiet 6 (.quiet 7 (.quiet 8 (.quiet 9 (.quiet 10 .done))))) .skip) .skip) (.fork 4 (.fork 0 (.fork 5 (.quiet 6 (.quiet 7 (.quiet 8 (.quiet 9 (.quiet 10 .done))))) .skip) .skip) .skip)) (.fork 4 (.fork 0 (.fork 1 (.fork 5 (.quiet 6 (.quiet 7 (.quiet 8 (.quiet 9 (.quiet 10 .done))))) .skip) .skip) (.fork 1 (.fork 0 (.fork 5 (.quiet 6 (.quiet 7 (.quiet 8 (.quiet 9 (.quiet 10 .done))))) .skip) .skip) .skip)) .skip))))) (by kernel_rfl) hd ?_;refine aQw (vs:=edC e) rfl (fun w' hw' k u hk=>by rw[(hB6.ext hw').cell];exact hk) ?_;refine⟨?_,?_,?_,trivial⟩
 ·refine aQl aQb [[Value.string (aQh [65])],[Value.string (aQh [66])]] rfl rfl rfl rfl rfl ⟨rfl,rfl,rfl,rfl,⟨⟩⟩ rfl (fun cs h=>by simp only[List.mem_cons,List.not_mem_nil,or_false] at h;rcases h with rfl | rfl<;>rfl) rfl (by decide) (by decide) ?_;intro v1 g1 _ hN1;have f1:=hd.trans g1;refine⟨f1,?_⟩;refine⟨?_,?_,trivial⟩
  ·refine call (bQm true _) ?_;rintro _ v2 ⟨rfl,g2⟩;have f2:=f1.trans g2;refine⟨f2,?_⟩;refine⟨?_,trivial⟩
   ·refine aQl aQb [edC e] rfl rfl rfl rfl rfl ⟨rfl,rfl,⟨⟩⟩ rfl (fun cs h=>by simp only[List.mem_singleton] at h;subst h;rfl) rfl (by decide) (by decide) ?_;intro v3 g3 _ hE3;have f3:=f2.trans g3;refine⟨f3,?_⟩;refine⟨?_,trivial⟩;refine call (fin _ 2 _ 1 v3 f3 (Sl.own' (n:=2) (hN1.ext (g2.trans g3)) rfl (by decide)) ⟨Sl.own (sz:=5) (n:=1) hE3 (Nat.le_refl _) (by decide) (by simp[edC]),rfl⟩) ?_;rintro _ w9 ⟨rfl,hE9⟩;refine⟨f3.trans hE9,?_⟩;refine aQM rfl ?_;exact⟨congrArg Value.bool (decide_eq_true rfl),hE06.trans (f3.trans hE9)⟩
  ·refine aQl aQb [edC e] rfl rfl rfl rfl rfl ⟨rfl,rfl,⟨⟩⟩ rfl (fun cs h=>by simp only[List.mem_singleton] at h;subst h;rfl) rfl (by decide) (by decide) ?_;intro v2 g2 _ hE2;have f2:=f1.trans g2;refine⟨f2,?_⟩;refine⟨?_,trivial⟩
   ·refine call (bQm true _) ?_;rintro _ v3 ⟨rfl,g3⟩;have f3:=f2.trans g3;refine⟨f3,?_⟩;refine⟨?_,trivial⟩;refine call (fin _ 2 _ 1 v3 f3 (Sl.own' (n:=2) (hN1.ext (g2.trans g3)) rfl (by decide)) ⟨Sl.own (sz:=5) (n:=1) (hE2.ext g3) (Nat.le_refl _) (by decide) (by simp[edC]),rfl⟩) ?_;rintro _ w9 ⟨rfl,hE9⟩;refine⟨f3.trans hE9,?_⟩;refine aQM rfl ?_;exact⟨congrArg Value.bool (decide_eq_true rfl),hE06.trans (f3.trans hE9)⟩
 ·refine call (bQm true _) ?_;rintro _ v1 ⟨rfl,g1⟩;have f1:=hd.trans g1;refine⟨f1,?_⟩;refine⟨?_,?_,trivial⟩
  ·refine aQl aQb [[Value.string (aQh [65])],[Value.string (aQh [66])]] rfl rfl rfl rfl rfl ⟨rfl,rfl,rfl,rfl,⟨⟩⟩ rfl (fun cs h=>by simp only[List.mem_cons,List.not_mem_nil,or_false] at h;rcases h with rfl | rfl<;>rfl) rfl (by decide) (by decide) ?_;intro v2 g2 _ hN2;have f2:=f1.trans g2;refine⟨f2,?_⟩;refine⟨?_,trivial⟩
   ·refine aQl aQb [edC e] rfl rfl rfl rfl rfl ⟨rfl,rfl,⟨⟩⟩ rfl (fun cs h=>by simp only[List.mem_singleton] at h;subst h;rfl) rfl (by decide) (by decide) ?_;intro v3 g3 _ hE3;have f3:=f2.trans g3;refine⟨f3,?_⟩;refine⟨?_,trivial⟩;refine call (fin _ 2 _ 1 v3 f3 (Sl.own' (n:=2) (hN2.ext g3) rfl (by decide)) ⟨Sl.own (sz:=5) (n:=1) hE3 (Nat.le_refl _) (by decide) (by simp[edC]),rfl⟩) ?_;rintro _ w9 ⟨rfl,hE9⟩;refine⟨f3.trans hE9,?_⟩;refine aQM rfl ?_;exact⟨congrArg Value.bool (decide_eq_true rfl),hE06.trans (f3.trans hE9)⟩
  ·refine aQl aQb [edC e] rfl rfl rfl rfl rfl ⟨rfl,rfl,⟨⟩⟩ rfl (fun cs h=>by simp only[List.mem_singleton] at h;subst h;rfl) rfl (by decide) (by decide) ?_;intro v2 g2 _ hE2;have f2:=f1.trans g2;refine⟨f2,?_⟩;refine⟨?_,trivial⟩
   ·refine aQl aQb [[Value.string (aQh [65])],[Value.string (aQh [66])]] rfl rfl rfl rfl rfl ⟨rfl,rfl,rfl,rfl,⟨⟩⟩ rfl (fun cs h=>by simp only[List.mem_cons,List.not_mem_nil,or_false] at h;rcases h with rfl | rfl<;>rfl) rfl (by decide) (by decide) ?_;intro v3 g3 _ hN3;have f3:=f2.trans g3;refine⟨f3,?_⟩;refine⟨?_,trivial⟩;refine call (fin _ 2 _ 1 v3 f3 (Sl.own' (n:=2) hN3 rfl (by decide)) ⟨Sl.own (sz:=5) (n:=1) (hE2.ext g3) (Nat.le_refl _) (by decide) (by simp[edC]),rfl⟩) ?_;rintro _ w9 ⟨rfl,hE9⟩;refine⟨f3.trans hE9,?_⟩;refine aQM rfl ?_;exact⟨congrArg Value.bool (decide_eq_true rfl),hE06.trans (f3.trans hE9)⟩
 ·refine aQl aQb [edC e] rfl rfl rfl rfl rfl ⟨rfl,rfl,⟨⟩⟩ rfl (fun cs h=>by simp only[List.mem_singleton] at h;subst h;rfl) rfl (by decide) (by decide) ?_;intro v1 g1 _ hE1;have f1:=hd.trans g1;refine⟨f1,?_⟩;refine⟨?_,?_,trivial⟩
  ·refine aQl aQb [[Value.string (aQh [65])],[Value.string (aQh [66])]] rfl rfl rfl rfl rfl ⟨rfl,rfl,rfl,rfl,⟨⟩⟩ rfl (fun cs h=>by simp only[List.mem_cons,List.not_mem_nil,or_false] at h;rcases h with rfl | rfl<;>rfl) rfl (by decide) (by decide) ?_;intro v2 g2 _ hN2;have f2:=f1.trans g2;refine⟨f2,?_⟩;refine⟨?_,trivial⟩
   ·refine call (bQm true _) ?_;rintro _ v3 ⟨rfl,g3⟩;have f3:=f2.trans g3;refine⟨f3,?_⟩;refine⟨?_,trivial⟩;refine call (fin _ 2 _ 1 v3 f3 (Sl.own' (n:=2) (hN2.ext g3) rfl (by decide)) ⟨Sl.own (sz:=5) (n:=1) (hE1.ext (g2.trans g3)) (Nat.le_refl _) (by decide) (by simp[edC]),rfl⟩) ?_;rintro _ w9 ⟨rfl,hE9⟩;refine⟨f3.trans hE9,?_⟩;refine aQM rfl ?_;exact⟨congrArg Value.bool (decide_eq_true rfl),hE06.trans (f3.trans hE9)⟩
  ·refine call (bQm true _) ?_;rintro _ v2 ⟨rfl,g2⟩;have f2:=f1.trans g2;refine⟨f2,?_⟩;refine⟨?_,trivial⟩
   ·refine aQl aQb [[Value.string (aQh [65])],[Value.string (aQh [66])]] rfl rfl rfl rfl rfl ⟨rfl,rfl,rfl,rfl,⟨⟩⟩ rfl (fun cs h=>by simp only[List.mem_cons,List.not_mem_nil,or_false] at h;rcases h with rfl | rfl<;>rfl) rfl (by decide) (by decide) ?_;intro v3 g3 _ hN3;have f3:=f2.trans g3;refine⟨f3,?_⟩;refine⟨?_,trivial⟩;refine call (fin _ 2 _ 1 v3 f3 (Sl.own' (n:=2) hN3 rfl (by decide)) ⟨Sl.own (sz:=5) (n:=1) (hE1.ext (g2.trans g3)) (Nat.le_refl _) (by decide) (by simp[edC]),rfl⟩) ?_;rintro _ w9 ⟨rfl,hE9⟩;refine⟨f3.trans hE9,?_⟩;refine aQM rfl ?_;exact⟨congrArg Value.bool (decide_eq_true rfl),hE06.trans (f3.trans hE9)⟩
def xQN (r:Except Int (List Nat))(k:Int):Bool:=match r with
 | .ok _=>false
 | .error e=>decide (e=k)
theorem eQJ {r:Except Int (List Nat)}{t:List Nat}(h:zQy r t=true):r= .ok t:=by
 cases r with
 | ok l=>rw[of_decide_eq_true h]
 | error e=>cases h
theorem kQu {r:Except Int (List Nat)}{k:Int}(h:xQN r k=true):r= .error k:=by
 cases r with
 | ok l=>cases h
 | error e=>rw[of_decide_eq_true h]
theorem rQF (x:DV){o:BF}(Q:List (DV×Pr))(NA:Option Addr)(nc:Nat)(PA:Option Addr)(pn pc:Nat)(w:World)(hN:Sl w 1 NA 2 nc (aQ6 fQY))(hx:SB w x.A x.n x.c x.nd)(sx:Set1 2 x.nd x.r o)(hP:SlS pqC 3 w PA pn pc Q)
  (hQ:∀q∈Q,SB w q.1.A q.1.n q.1.c q.1.nd/\Set1 2 q.1.nd q.1.r q.2.o/\(∀b∈q.2.t,b<256)/\q.2.t.length<=2000):
  Fn Tryz.prog 24 [.slice NA 2 nc,dgV x.A x.n x.c x.r,.slice PA pn pc] w (fun u w'=>u=vQP (dQV fQY o (Q.map (·.2)))/\Ext w w'):=by
 refine(fQW NA 2 nc fQY x PA pn pc (Q.map (fun q=>(q.1,q.2.t))) (by decide) rQD rQE (fun q hq=>by
  obtain⟨q0,h0,rfl⟩:=List.mem_map.1 hq;exact(hQ q0 h0).2.2) w hN hx ⟨by rw[<-oQe];exact hP.1,by rw[List.length_map];exact hP.2⟩ (fun q hq=>by
  obtain⟨q0,h0,rfl⟩:=List.mem_map.1 hq;exact(hQ q0 h0).1)).mono ?_
 rintro u w' ⟨rfl,hE⟩;refine⟨?_,hE⟩;rw[kQo (nm:=fQY) (by decide) (eQ1 (n:=2) (by decide) sx).1 (fun q hq=>by
  obtain⟨q0,h0,rfl⟩:=List.mem_map.1 hq;exact(eQ1 (n:=2) (by decide) (hQ q0 h0).2.1).1),mQ7 sx,oQd (fun q hq=>(hQ q hq).2.1)]
theorem oQh (x:DV){o:BF}(Q:List (DV×Pr))(NA:Option Addr)(nc:Nat)(PA:Option Addr)(pn pc:Nat)(w:World)(hN:Sl w 1 NA 2 nc (aQ6 fQY))(hx:SB w x.A x.n x.c x.nd)(sx:Set1 2 x.nd x.r o)(hP:SlS pqC 3 w PA pn pc Q)
  (hQ:∀q∈Q,SB w q.1.A q.1.n q.1.c q.1.nd/\Set1 2 q.1.nd q.1.r q.2.o/\(∀b∈q.2.t,b<256)/\q.2.t.length<=2000) {qs:List Pr} (hqs:Q.map (·.2)=qs) {t:List Nat} (hr:dQV fQY o qs= .ok t):
  Fn Tryz.prog 24 [.slice NA 2 nc,dgV x.A x.n x.c x.r,.slice PA pn pc] w (fun u w'=>u= .tuple #[.string (aQh t),.int .i64 0]/\Ext w w'):=by
 refine(rQF x Q NA nc PA pn pc w hN hx sx hP hQ).mono ?_;rintro u w' ⟨rfl,hE⟩;exact⟨by rw[hqs,hr];rfl,hE⟩
theorem lQT (x:DV){o:BF}(Q:List (DV×Pr))(NA:Option Addr)(nc:Nat)(PA:Option Addr)(pn pc:Nat)(w:World)(hN:Sl w 1 NA 2 nc (aQ6 fQY))(hx:SB w x.A x.n x.c x.nd)(sx:Set1 2 x.nd x.r o)(hP:SlS pqC 3 w PA pn pc Q)
  (hQ:∀q∈Q,SB w q.1.A q.1.n q.1.c q.1.nd/\Set1 2 q.1.nd q.1.r q.2.o/\(∀b∈q.2.t,b<256)/\q.2.t.length<=2000) {qs:List Pr} (hqs:Q.map (·.2)=qs) {k:Int} (hr:dQV fQY o qs= .error k):
  Fn Tryz.prog 24 [.slice NA 2 nc,dgV x.A x.n x.c x.r,.slice PA pn pc] w (fun u w'=>u= .tuple #[.string (aQh []),.int .i64 k]/\Ext w w'):=by
 refine(rQF x Q NA nc PA pn pc w hN hx sx hP hQ).mono ?_;rintro u w' ⟨rfl,hE⟩;exact⟨by rw[hqs,hr];rfl,hE⟩
theorem sQ4 (NA:Option Addr)(nc:Nat)(w:World)(hN:Sl w 1 NA 2 nc (aQ6 [[65],[65]])):
  Fn Tryz.prog 24 [.slice NA 2 nc,dgV none 0 0 1,.slice none 0 0] w (fun u w'=>u= .tuple #[.string (aQh []),.int .i64 1]/\Ext w w'):=by
 refine(fQW NA 2 nc [[65],[65]] ⟨none,0,0,[],1⟩ none 0 0 [] (by decide) (fun s hs=>by
  simp only[List.mem_cons,List.not_mem_nil,or_false] at hs;rcases hs with rfl | rfl<;>exact⟨by decide,by decide⟩) (by decide) (fun q hq=>by cases hq) w hN (SlS.nil _) (SlS.nil _) (fun q hq=>by cases hq)).mono ?_
 rintro u w' ⟨rfl,hE⟩;exact⟨by unfold fQP;rw[if_pos (.inl (by decide+kernel))];rfl,hE⟩
abbrev tA:BF:=fun e=>e 0
abbrev tB:BF:=fun e=>e 1
abbrev tX:List Nat:=[120,10]
theorem sn1:wvB [120,10,121,10] [120,10,122,10]= .ok [120,10,35,105,102,32,65,10,121,10,35,101,108,115,101,10,122,10,35,101,110,100,10]:=eQJ (by decide+kernel)
theorem sn2:wvB [120,10,121,10] [120,10]= .ok [120,10,35,105,102,32,65,10,121,10,35,101,110,100,10]:=eQJ (by decide+kernel)
theorem sn3:wvB [120,10] [120,10,121,10]= .ok [120,10,35,105,102,32,33,65,10,121,10,35,101,110,100,10]:=eQJ (by decide+kernel)
theorem sn4:dQV fQY (fun _=>true) [⟨fun e=>e 0&&e 1,tX⟩,⟨fun e=> !(e 0&&e 1),[]⟩]= .ok [35,105,102,32,65,10,35,105,102,32,66,10,120,10,35,101,110,100,10,35,101,110,100,10]:=eQJ (by decide+kernel)
theorem sn5:dQV fQY tB [⟨fun e=>e 0&&e 1,tX⟩,⟨fun e=> !e 0&&e 1,[121,10]⟩]= .ok [35,105,102,32,65,10,120,10,35,101,108,115,101,10,121,10,35,101,110,100,10]:=eQJ (by decide+kernel)
theorem sn6:dQV fQY (fun _=>true) [⟨tA,tX⟩]= .error 290:=kQu (by decide+kernel)
theorem sn7:dQV fQY (fun _=>true) [⟨fun _=>true,[35,101,110,100,10]⟩]= .error 290:=kQu (by decide+kernel)
def tQ0:List Nat:=[35,105,102,32,65,10,120,10,35,101,110,100,10]
theorem sn8:apB [120,32,121,10,122,10] ⟨2,3,[119],tA⟩= .ok [35,105,102,32,65,10,120,32,119,10,35,101,108,115,101,10,120,32,121,10,35,101,110,100,10,122,10]:=eQJ (by decide+kernel)
theorem sn9:apB tQ0 ⟨6,7,[121],fun e=> !e 0⟩= .ok tQ0:=eQJ (by decide+kernel)
theorem zQz:apB tQ0 ⟨6,7,[121],fun _=>true⟩= .ok [35,105,102,32,65,10,121,10,35,101,110,100,10]:=eQJ (by decide+kernel)
theorem zQA:apB tQ0 ⟨0,1,[121],tA⟩= .error 291:=kQu (by decide+kernel)
set_option maxHeartbeats 3200000 in
theorem mQ8 (w0:World):Fn Tryz.prog 11 [] w0 (fun u w'=>u= .bool true/\Ext w0 w'):=by
 refine aQf (c:={c11 with cuts:=[]}) aQb Tryz.func11 rfl rfl rfl ?_;refine call (kQs (k:=2) (v:=0) (by decide) (by decide) w0) ?_;rintro _ a1 ⟨Aa,na,ca,da,ra,rfl,e1,ba,sa,_⟩;refine new (fun x1 f1 y1 B1=>?_);refine aQc B1 rfl (sc rfl) (fun w1 g1 _ Ba=>?_);have h1:Ext w0 w1:=e1.trans (aQJ f1 B1 g1);have ba:=ba.ext (aQJ f1 B1 g1);refine call (kQs (k:=2) (v:=1) (by decide) (by decide) w1) ?_;rintro _ a2 ⟨Ab,nb,cb,db,rb,rfl,e2,bb,sb,_⟩;refine new (fun x2 f2 y2 B2=>?_);refine aQc B2 rfl (sc rfl) (fun w2 g2 _ Bb=>?_);have h2:Ext w1 w2:=e2.trans (aQJ f2 B2 g2);have bb:=bb.ext (aQJ f2 B2 g2);refine aQd (Ba.ext h2) rfl ?_;refine call (kQt (k:=2) (by decide) (⟨Aa,na,ca,da,ra⟩:DV) w2 (ba.ext h2) sa) ?_;rintro _ a3 ⟨Anot,nnot,cnot,dnot,rnot,rfl,e3,bnot,snot,_⟩;refine new (fun x3 f3 y3 B3=>?_);refine aQc B3 rfl (sc rfl) (fun w3 g3 _ Bnot=>?_);have h3:Ext w2 w3:=e3.trans (aQJ f3 B3 g3);have bnot:=bnot.ext (aQJ f3 B3 g3);refine aQd (Ba.ext (h2.trans h3)) rfl ?_;refine aQd (Bb.ext h3) rfl ?_;refine call (oQg (k:=2) (by decide) (⟨Aa,na,ca,da,ra⟩:DV) (⟨Ab,nb,cb,db,rb⟩:DV) w3 (ba.ext (h2.trans h3)) (bb.ext h3) sa sb) ?_;rintro _ a4 ⟨Aboth,nboth,cboth,dboth,rboth,rfl,e4,bboth,sboth,_⟩;refine new (fun x4 f4 y4 B4=>?_);refine aQc B4 rfl (sc rfl) (fun w4 g4 _ Bboth=>?_);have h4:Ext w3 w4:=e4.trans (aQJ f4 B4 g4);have bboth:=bboth.ext (aQJ f4 B4 g4);refine aQd Bboth rfl ?_;refine call (kQt (k:=2) (by decide) (⟨Aboth,nboth,cboth,dboth,rboth⟩:DV) w4 bboth sboth) ?_;rintro _ a5 ⟨Arest,nrest,crest,drest,rrest,rfl,e5,brest,srest,_⟩;refine new (fun x5 f5 y5 B5=>?_);refine aQc B5 rfl (sc rfl) (fun w5 g5 _ Brest=>?_);have h5:Ext w4 w5:=e5.trans (aQJ f5 B5 g5);have brest:=brest.ext (aQJ f5 B5 g5);refine aQd (Bnot.ext (h4.trans h5)) rfl ?_;refine aQd (Bb.ext ((h3.trans h4).trans h5)) rfl ?_;refine call (oQg (k:=2) (by decide) (⟨Anot,nnot,cnot,dnot,rnot⟩:DV) (⟨Ab,nb,cb,db,rb⟩:DV) w5 (bnot.ext (h4.trans h5)) (bb.ext ((h3.trans h4).trans h5)) snot sb) ?_;rintro _ a6 ⟨Aoth,noth,coth,doth,roth,rfl,e6,both,soth,_⟩;refine new (fun x6 f6 y6 B6=>?_);refine aQc B6 rfl (sc rfl) (fun w6 g6 _ Both=>?_);have h6:Ext w5 w6:=e6.trans (aQJ f6 B6 g6);have both:=both.ext (aQJ f6 B6 g6);refine call (bQm true w6) ?_;rintro _ a7 ⟨rfl,e7⟩;refine new (fun x7 f7 y7 B7=>?_);refine aQc B7 rfl (sc rfl) (fun w7 g7 _ Ball=>?_);have h7:Ext w6 w7:=e7.trans (aQJ f7 B7 g7);have Ball:Blk w7 a7.heap.size 32 (⟨none,0,0,[],1⟩:DV).cells:=Ball;have sall:Set1 2 [] 1 (fun _=>true):=bQi 2 true;refine aQl aQb [[Value.string (aQh [65])],[Value.string (aQh [66])]] rfl rfl rfl rfl rfl ⟨rfl,rfl,rfl,rfl,⟨⟩⟩ rfl (fun cs h=>by simp only[List.mem_cons,List.not_mem_nil,or_false] at h;rcases h with rfl | rfl<;>rfl) rfl (by decide) (by decide) ?_;intro w8 h8 _ BN;have hN:Sl w8 1 (some ⟨w7.heap.size,0,none⟩) 2 2 (aQ6 fQY):=Sl.own' (n:=2) BN rfl (by decide);refine call (iQg [120,10,121,10] [120,10,122,10] _ (by decide) (by decide) w8 sn1) ?_;rintro _ w9 ⟨rfl,h9⟩;refine aQM rfl ?_;refine call (iQg [120,10,121,10] [120,10] _ (by decide) (by decide) w9 sn2) ?_;rintro _ w10 ⟨rfl,h10⟩;refine aQM rfl ?_;refine call (iQg [120,10] [120,10,121,10] _ (by decide) (by decide) w10 sn3) ?_;rintro _ w11 ⟨rfl,h11⟩;refine aQd (Ball.ext (((h8.trans h9).trans h10).trans h11)) rfl ?_;refine aQd (Bboth.ext ((((((h5.trans h6).trans h7).trans h8).trans h9).trans h10).trans h11)) rfl ?_;refine aQd (Brest.ext (((((h6.trans h7).trans h8).trans h9).trans h10).trans h11)) rfl ?_;refine aQl aQb [pqC ((⟨Aboth,nboth,cboth,dboth,rboth⟩:DV),Pr.mk (fun e=>e 0&&e 1) tX),pqC ((⟨Arest,nrest,crest,drest,rrest⟩:DV),Pr.mk (fun e=> !(e 0&&e 1)) [])] rfl rfl rfl rfl rfl ⟨rfl,rfl,rfl,rfl,⟨⟩⟩ rfl (fun cs h=>by simp only[List.mem_cons,List.not_mem_nil,or_false] at h;rcases h with rfl | rfl<;>rfl) rfl (by decide) (by decide) ?_;intro w12 h12 _ BP12;refine call (oQh ⟨none,0,0,[],1⟩ [((⟨Aboth,nboth,cboth,dboth,rboth⟩:DV),Pr.mk (fun e=>e 0&&e 1) tX),((⟨Arest,nrest,crest,drest,rrest⟩:DV),Pr.mk (fun e=> !(e 0&&e 1)) [])] _ 2 _ 2 2 w12 (hN.ext (((h9.trans h10).trans h11).trans h12)) (SlS.nil _) sall ⟨Sl.own (sz:=3) (n:=2) BP12 (Nat.le_refl _) (by decide) (by simp[pqC,bQR]),rfl⟩ (fun q hq=>by
  simp only[List.mem_cons,List.not_mem_nil,or_false] at hq;rcases hq with rfl | rfl
  ·exact⟨(bboth.ext (((((((h5.trans h6).trans h7).trans h8).trans h9).trans h10).trans h11).trans h12)),sboth,(show(∀b∈(tX:List Nat),b<256)/\(tX:List Nat).length<=2000 by decide)⟩
  ·exact⟨(brest.ext ((((((h6.trans h7).trans h8).trans h9).trans h10).trans h11).trans h12)),srest,(show(∀b∈([]:List Nat),b<256)/\([]:List Nat).length<=2000 by decide)⟩) rfl sn4) ?_
 rintro _ w13 ⟨rfl,h13⟩;refine aQd (Bb.ext ((((((((((h3.trans h4).trans h5).trans h6).trans h7).trans h8).trans h9).trans h10).trans h11).trans h12).trans h13)) rfl ?_;refine aQd (Bboth.ext ((((((((h5.trans h6).trans h7).trans h8).trans h9).trans h10).trans h11).trans h12).trans h13)) rfl ?_;refine aQd (Both.ext ((((((h7.trans h8).trans h9).trans h10).trans h11).trans h12).trans h13)) rfl ?_;refine aQl aQb [pqC ((⟨Aboth,nboth,cboth,dboth,rboth⟩:DV),Pr.mk (fun e=>e 0&&e 1) tX),pqC ((⟨Aoth,noth,coth,doth,roth⟩:DV),Pr.mk (fun e=> !e 0&&e 1) [121,10])] rfl rfl rfl rfl rfl ⟨rfl,rfl,rfl,rfl,⟨⟩⟩ rfl (fun cs h=>by simp only[List.mem_cons,List.not_mem_nil,or_false] at h;rcases h with rfl | rfl<;>rfl) rfl (by decide) (by decide) ?_;intro w14 h14 _ BP14;refine call (oQh (⟨Ab,nb,cb,db,rb⟩:DV) [((⟨Aboth,nboth,cboth,dboth,rboth⟩:DV),Pr.mk (fun e=>e 0&&e 1) tX),((⟨Aoth,noth,coth,doth,roth⟩:DV),Pr.mk (fun e=> !e 0&&e 1) [121,10])] _ 2 _ 2 2 w14 (hN.ext (((((h9.trans h10).trans h11).trans h12).trans h13).trans h14)) (bb.ext (((((((((((h3.trans h4).trans h5).trans h6).trans h7).trans h8).trans h9).trans h10).trans h11).trans h12).trans h13).trans h14)) sb ⟨Sl.own (sz:=3) (n:=2) BP14 (Nat.le_refl _) (by decide) (by simp[pqC,bQR]),rfl⟩ (fun q hq=>by
  simp only[List.mem_cons,List.not_mem_nil,or_false] at hq;rcases hq with rfl | rfl
  ·exact⟨(bboth.ext (((((((((h5.trans h6).trans h7).trans h8).trans h9).trans h10).trans h11).trans h12).trans h13).trans h14)),sboth,(show(∀b∈(tX:List Nat),b<256)/\(tX:List Nat).length<=2000 by decide)⟩
  ·exact⟨(both.ext (((((((h7.trans h8).trans h9).trans h10).trans h11).trans h12).trans h13).trans h14)),soth,(show(∀b∈([121,10]:List Nat),b<256)/\([121,10]:List Nat).length<=2000 by decide)⟩) rfl sn5) ?_
 rintro _ w15 ⟨rfl,h15⟩;refine aQd (Ball.ext (((((((h8.trans h9).trans h10).trans h11).trans h12).trans h13).trans h14).trans h15)) rfl ?_;refine aQd (Ba.ext (((((((((((((h2.trans h3).trans h4).trans h5).trans h6).trans h7).trans h8).trans h9).trans h10).trans h11).trans h12).trans h13).trans h14).trans h15)) rfl ?_;refine aQl aQb [pqC ((⟨Aa,na,ca,da,ra⟩:DV),Pr.mk (fun e=>e 0) tX)] rfl rfl rfl rfl rfl ⟨rfl,rfl,⟨⟩⟩ rfl (fun cs h=>by simp only[List.mem_singleton] at h;subst h;rfl) rfl (by decide) (by decide) ?_;intro w16 h16 _ BP16;refine call (lQT ⟨none,0,0,[],1⟩ [((⟨Aa,na,ca,da,ra⟩:DV),Pr.mk (fun e=>e 0) tX)] _ 2 _ 1 1 w16 (hN.ext (((((((h9.trans h10).trans h11).trans h12).trans h13).trans h14).trans h15).trans h16)) (SlS.nil _) sall ⟨Sl.own (sz:=3) (n:=1) BP16 (Nat.le_refl _) (by decide) (by simp[pqC,bQR]),rfl⟩ (fun q hq=>by
  simp only[List.mem_cons,List.not_mem_nil,or_false] at hq;rcases hq with rfl
  ·exact⟨(ba.ext ((((((((((((((h2.trans h3).trans h4).trans h5).trans h6).trans h7).trans h8).trans h9).trans h10).trans h11).trans h12).trans h13).trans h14).trans h15).trans h16)),sa,(show(∀b∈(tX:List Nat),b<256)/\(tX:List Nat).length<=2000 by decide)⟩) rfl sn6) ?_
 rintro _ w17 ⟨rfl,h17⟩;refine aQd (Ball.ext (((((((((h8.trans h9).trans h10).trans h11).trans h12).trans h13).trans h14).trans h15).trans h16).trans h17)) rfl ?_;refine aQd (Ball.ext (((((((((h8.trans h9).trans h10).trans h11).trans h12).trans h13).trans h14).trans h15).trans h16).trans h17)) rfl ?_;refine aQl aQb [pqC ((⟨none,0,0,[],1⟩:DV),Pr.mk (fun _=>true) [35,101,110,100,10])] rfl rfl rfl rfl rfl ⟨rfl,rfl,⟨⟩⟩ rfl (fun cs h=>by simp only[List.mem_singleton] at h;subst h;rfl) rfl (by decide) (by decide) ?_;intro w18 h18 _ BP18;refine call (lQT ⟨none,0,0,[],1⟩ [((⟨none,0,0,[],1⟩:DV),Pr.mk (fun _=>true) [35,101,110,100,10])] _ 2 _ 1 1 w18 (hN.ext (((((((((h9.trans h10).trans h11).trans h12).trans h13).trans h14).trans h15).trans h16).trans h17).trans h18)) (SlS.nil _) sall ⟨Sl.own (sz:=3) (n:=1) BP18 (Nat.le_refl _) (by decide) (by simp[pqC,bQR]),rfl⟩ (fun q hq=>by
  simp only[List.mem_cons,List.not_mem_nil,or_false] at hq;rcases hq with rfl
  ·exact⟨SlS.nil _,sall,(show(∀b∈([35,101,110,100,10]:List Nat),b<256)/\([35,101,110,100,10]:List Nat).length<=2000 by decide)⟩) rfl sn7) ?_
 rintro _ w19 ⟨rfl,h19⟩;refine aQl aQb [[Value.string (aQh [65])],[Value.string (aQh [65])]] rfl rfl rfl rfl rfl ⟨rfl,rfl,rfl,rfl,⟨⟩⟩ rfl (fun cs h=>by simp only[List.mem_cons,List.not_mem_nil,or_false] at h;rcases h with rfl | rfl<;>rfl) rfl (by decide) (by decide) ?_;intro w20 h20 _ BA;refine aQd (Ball.ext ((((((((((((h8.trans h9).trans h10).trans h11).trans h12).trans h13).trans h14).trans h15).trans h16).trans h17).trans h18).trans h19).trans h20)) rfl ?_;refine call (sQ4 _ 2 w20 (Sl.own' (n:=2) BA rfl (by decide))) ?_;rintro _ w21 ⟨rfl,h21⟩;refine aQZ rfl ?_;refine aQO rfl ?_;refine aQZ rfl ?_;refine aQO rfl ?_;refine aQZ rfl ?_;refine aQZ rfl ?_;refine aQd (Ba.ext (((((((((((((((((((h2.trans h3).trans h4).trans h5).trans h6).trans h7).trans h8).trans h9).trans h10).trans h11).trans h12).trans h13).trans h14).trans h15).trans h16).trans h17).trans h18).trans h19).trans h20).trans h21)) rfl ?_;refine call (gQy [120,32,121,10,122,10] _ ⟨2,3,[119],(⟨Aa,na,ca,da,ra⟩:DV)⟩ (by decide) (show(-9223372036854775808:Int)<=2/\(2:Int)<=9223372036854775807/\(-9223372036854775808:Int)<=3/\(3:Int)<=9223372036854775807 by decide) (show(∀b∈([119]:List Nat),b<256)/\([119]:List Nat).length<=1000 by decide) sa w21 (ba.ext (((((((((((((((((((h2.trans h3).trans h4).trans h5).trans h6).trans h7).trans h8).trans h9).trans h10).trans h11).trans h12).trans h13).trans h14).trans h15).trans h16).trans h17).trans h18).trans h19).trans h20).trans h21)) sn8) ?_;rintro _ w22 ⟨rfl,h22⟩;refine aQM rfl ?_;refine aQd (Bnot.ext ((((((((((((((((((h4.trans h5).trans h6).trans h7).trans h8).trans h9).trans h10).trans h11).trans h12).trans h13).trans h14).trans h15).trans h16).trans h17).trans h18).trans h19).trans h20).trans h21).trans h22)) rfl ?_;refine call (gQy tQ0 tQ0 ⟨6,7,[121],(⟨Anot,nnot,cnot,dnot,rnot⟩:DV)⟩ (by decide) (show(-9223372036854775808:Int)<=6/\(6:Int)<=9223372036854775807/\(-9223372036854775808:Int)<=7/\(7:Int)<=9223372036854775807 by decide) (show(∀b∈([121]:List Nat),b<256)/\([121]:List Nat).length<=1000 by decide) snot w22 (bnot.ext ((((((((((((((((((h4.trans h5).trans h6).trans h7).trans h8).trans h9).trans h10).trans h11).trans h12).trans h13).trans h14).trans h15).trans h16).trans h17).trans h18).trans h19).trans h20).trans h21).trans h22)) sn9) ?_;rintro _ w23 ⟨rfl,h23⟩;refine aQM rfl ?_;refine aQd (Ball.ext (((((((((((((((h8.trans h9).trans h10).trans h11).trans h12).trans h13).trans h14).trans h15).trans h16).trans h17).trans h18).trans h19).trans h20).trans h21).trans h22).trans h23)) rfl ?_;refine call (gQy tQ0 _ ⟨6,7,[121],⟨none,0,0,[],1⟩⟩ (by decide) (show(-9223372036854775808:Int)<=6/\(6:Int)<=9223372036854775807/\(-9223372036854775808:Int)<=7/\(7:Int)<=9223372036854775807 by decide) (show(∀b∈([121]:List Nat),b<256)/\([121]:List Nat).length<=1000 by decide) sall w23 (SlS.nil _) zQz) ?_;rintro _ w24 ⟨rfl,h24⟩;refine aQd (Ball.ext ((((((((((((((((h8.trans h9).trans h10).trans h11).trans h12).trans h13).trans h14).trans h15).trans h16).trans h17).trans h18).trans h19).trans h20).trans h21).trans h22).trans h23).trans h24)) rfl ?_;refine aQd (Ba.ext ((((((((((((((((((((((h2.trans h3).trans h4).trans h5).trans h6).trans h7).trans h8).trans h9).trans h10).trans h11).trans h12).trans h13).trans h14).trans h15).trans h16).trans h17).trans h18).trans h19).trans h20).trans h21).trans h22).trans h23).trans h24)) rfl ?_;refine aQl aQb [edC ⟨0,1,[121],(⟨Aa,na,ca,da,ra⟩:DV)⟩] rfl rfl rfl rfl rfl ⟨rfl,rfl,⟨⟩⟩ rfl (fun cs h=>by simp only[List.mem_singleton] at h;subst h;rfl) rfl (by decide) (by decide) ?_;intro w25 h25 _ BE;refine call (lQS tQ0 ⟨0,1,[121],(⟨Aa,na,ca,da,ra⟩:DV)⟩ (by decide) (show(-9223372036854775808:Int)<=0/\(0:Int)<=9223372036854775807/\(-9223372036854775808:Int)<=1/\(1:Int)<=9223372036854775807 by decide) (show(∀b∈([121]:List Nat),b<256)/\([121]:List Nat).length<=1000 by decide) sa _ 2 _ 1 w25 (ba.ext (((((((((((((((((((((((h2.trans h3).trans h4).trans h5).trans h6).trans h7).trans h8).trans h9).trans h10).trans h11).trans h12).trans h13).trans h14).trans h15).trans h16).trans h17).trans h18).trans h19).trans h20).trans h21).trans h22).trans h23).trans h24).trans h25)) (hN.ext ((((((((((((((((h9.trans h10).trans h11).trans h12).trans h13).trans h14).trans h15).trans h16).trans h17).trans h18).trans h19).trans h20).trans h21).trans h22).trans h23).trans h24).trans h25)) ⟨Sl.own (sz:=5) (n:=1) BE (Nat.le_refl _) (by decide) (by simp[edC]),rfl⟩) ?_;rintro _ w26 ⟨rfl,h26⟩;rw[zQA];refine aQM rfl ?_;refine aQM rfl ?_;refine aQM rfl ?_;exact⟨rfl,(((((((((((((((((((((((((h1.trans h2).trans h3).trans h4).trans h5).trans h6).trans h7).trans h8).trans h9).trans h10).trans h11).trans h12).trans h13).trans h14).trans h15).trans h16).trans h17).trans h18).trans h19).trans h20).trans h21).trans h22).trans h23).trans h24).trans h25).trans h26)⟩
end
section
open Go Go.RowKit
def xQh:List (List Nat):=[[120],[121],[122],[120,32,121],[],[35],[35,105,102,102],[101,110,100]]
theorem mQ9 (k:Nat)(hk:k<=255)(w:World):Fn Tryz.prog 81 [.int .u8 k] w (fun u w'=>u= .string (aQh (lnL k++ [10]))/\Ext w w'):=by
 refine aQf (c:={c81 with cuts:=[]}) aQb Tryz.func81 rfl rfl rfl ?_;refine aQl aQb (xQh.map (fun s=>[Value.string (aQh s)])) rfl rfl rfl rfl rfl ⟨rfl,rfl,rfl,rfl,rfl,rfl,rfl,rfl,rfl,rfl,rfl,rfl,rfl,rfl,rfl,rfl,⟨⟩⟩ rfl (fun cs h=>by
  obtain⟨s,_,rfl⟩:=List.mem_map.1 h;rfl) rfl (by decide) (by decide) ?_
 intro w1 hE1 hz1 hB1;refine jQg (d:=8) (by decide) ?_;have hS:Sl w1 1 (some ⟨w.heap.size,0,none⟩) 8 8 (aQ6 xQh):=Sl.own' (n:=8) hB1 rfl (by decide);have hk8:k % 8<8:=Nat.mod_lt _ (by decide);refine aQ3 hS hk8 (fun ad u hA hu hcell=>?_);obtain⟨s,hs⟩:∃s,xQh[k % 8]? =some s:=⟨_,List.getElem?_eq_getElem hk8⟩
 rw[cQI hs] at hu;cases hu;refine load hcell ?_;have e:lnL k=s:=by unfold lnL;show(xQh[k % 8]?).getD []=s;rw[hs];rfl
 rw[e];have h1:=aQj s;have hsl:s.length<=4:=by rw[<-e];exact(nQY k).2
 refine aQ1 (v':=.string (aQh (s++ [10]))) (by rw[h1];show s.length+1<=_;unfold maxLen;omega) (by rw[<-bQr];rfl) ?_;exact⟨rfl,hE1⟩
theorem sQ5 {l:List Nat}{i k:Nat}(hi:l[i]? =some k)(h6:i<6):lQZ (l.take (i+1))=lQZ (l.take i)++ [lnL k]:=by
 unfold lQZ;rw[List.take_take,List.take_take,Nat.min_eq_right (by omega),Nat.min_eq_right (by omega),List.take_add_one,hi,List.map_append];rfl
theorem lQU (A:Option Addr)(n c:Nat)(l:List Nat)(hl:∀k∈l,k<=255)(w:World)(h:Sl w 1 A n c (bQa l)):
  Fn Tryz.prog 80 [.slice A n c] w (fun u w'=>u= .string (aQh (unl (lQZ l)))/\Ext w w'):=by
 have hlen:l.length=n:=by have:=h.len;simp only[bQa,List.length_map] at this;omega
 refine aQf (c:={c80 with cuts:=[]}) aQb Tryz.func80 rfl rfl rfl ?_;have hle:=h.le;have hcap:=h.cap;simp only[maxLen] at hcap;refine loop aQb [4,3] (fun i:Nat=>[.int .i64 i,.string (aQh (unl (lQZ (l.take i))))]) (fun i w'=>Ext w w'/\i<=6/\i<=n) (fun i _=>6-i) 0 rfl ⟨Ext.refl _,Nat.zero_le _,Nat.zero_le _⟩ ?_;rintro i w1 ⟨hE1,h6,hin⟩;have fin:(i=6∨i=n)->lQZ (l.take i)=lQZ l:=fun hh=>by
  unfold lQZ;rcases hh with rfl | rfl
  ·rw[List.take_take];rfl
  ·rw[List.take_of_length_le (l:=l) (by omega)]
 refine aQq (fun c1=>?_) (fun c1=>?_)
 ·refine aQq (fun c2=>?_) (fun c2=>?_)
  ·obtain⟨k,hk⟩:∃k,l[i]? =some k:=⟨_,List.getElem?_eq_getElem (by omega)⟩
   refine aQ3 (h.ext hE1) (by omega) (fun ad u hA hu hcell=>?_);have e1:(bQa l)[i]? =some (.int .u8 k):=by unfold bQa;rw[List.getElem?_map,hk];rfl
   rw[e1] at hu;cases hu;refine load hcell ?_;have hkm:=List.mem_of_getElem? hk;refine call (mQ9 k (hl k hkm) w1) ?_;rintro _ w2 ⟨rfl,hE2⟩;have s1:=aQj (unl (lQZ (l.take i)));have s2:=aQj (lnL k++ [10]);have b1:(unl (lQZ (l.take i))).length<=100:=by
    obtain⟨t1,t2⟩:=qQQ (l.take i);have:=gQw (M:=4) (fun s hs=>(t1 s hs).2);have:=Nat.mul_le_mul_right (4+1) t2;omega
   have b2:=(nQY k).2;rw[List.length_append,List.length_singleton] at s2;refine aQ1 (v':=.string (aQh (unl (lQZ (l.take (i+1)))))) (by rw[s1,s2];unfold maxLen;omega) (by rw[sQ5 hk (by omega),jQ7,bQr]) ?_;refine aQa ((i+1:Nat):Int) (by show((i:Nat):Int)+1=_;omega) (by omega) ?_;exact⟨i+1,rfl,⟨hE1.trans hE2,by omega,by omega⟩,by show 6-(i+1)<6-i;omega⟩
  ·refine⟨?_,hE1⟩;rw[fin (.inl (by omega))]
 ·refine⟨?_,hE1⟩;rw[fin (.inr (by omega))]
theorem zQB:((List.range 256).all fun f=>(List.range 8).all fun c=>mQM [f] 3 0 0 (gQT c)==f.testBit c)=true:=by decide+kernel
theorem rQG {f c:Nat}(hf:f<=255)(hc:c<8):mQM [f] 3 0 0 (bits c)=f.testBit c:=by
 have:=List.all_eq_true.1 zQB f (List.mem_range.2 (by omega));have:=List.all_eq_true.1 this c (List.mem_range.2 hc);rw[mQV] at this;simpa using this
theorem zQC {o o':BF}(h:∀c,c<8->o (bits c)=o' (bits c)):aQW 3 o=aQW 3 o':=by
 unfold aQW;refine List.filter_congr (fun c hc=>?_);exact h c (List.mem_range.1 hc)
def pQh (b:Nat):BF:=if b=0 then fun _=>true else mQM [b] 3 0 0
theorem kQv {b c:Nat}(hb:b<=255)(hc:c<8):pQh b (bits c)=rQR b c:=by
 unfold pQh rQR;by_cases h:b=0
 ·rw[if_pos h,decide_eq_true (by omega)];rfl
 ·rw[if_neg h,rQG hb hc,decide_eq_false (by omega)];rfl
theorem oQi {b:Nat}(hb:b<=255):aQW 3 (pQh b)=jQ8 b:=by
 unfold aQW jQ8;refine List.filter_congr (fun c hc=>?_);exact kQv hb (List.mem_range.1 hc)
theorem vQC {b:Nat}(hb:b<=255):aQW 3 (mQM [b] 3 0 0)=[]↔b=0:=by
 constructor
 ·intro h;apply Classical.byContradiction;intro h0;have h1:=oQi hb;unfold pQh at h1;rw[if_neg h0,h] at h1;exact hQ1 hb h1.symm
 ·rintro rfl;rw[zQC (o':=fun _=>false) (fun c hc=>by rw[rQG (by decide) hc,Nat.zero_testBit])];decide
theorem kQw (b:Nat)(hb:b<=255)(w:World):Fn Tryz.prog 14 [.int .u8 b] w (DgS w 3 (pQh b)):=by
 refine aQf (c:={c14 with cuts:=[]}) aQb Tryz.func14 rfl rfl rfl ?_;refine new (fun w1 hE1 hz1 hB1=>?_);refine aQl aQb [[Value.int .u8 b]] rfl rfl rfl rfl rfl ⟨rfl,rfl,⟨⟩⟩ rfl (fun cs h=>by simp only[List.mem_singleton] at h;subst h;rfl) rfl (by decide) (by decide) ?_;intro w2 hE2 hz2 hB2;refine call (nQW [b] _ 1 1 3 w2 (Sl.own' (n:=1) hB2 rfl (by decide)) (fun x hx=>by rw[List.mem_singleton.1 hx];exact hb) (by decide)) ?_;rintro _ w3 ⟨A,n,c,nd,r,rfl,hE3,hS3,s3,hR3⟩;have hE03:=hE1.trans (hE2.trans hE3);have hE13:=hE2.trans hE3;refine new (fun w4 hE4 hz4 hB4=>?_);refine aQc hB4 rfl (sc rfl) (fun w5 hg5 _ hB5=>?_);have hE35:Ext w3 w5:=aQJ hE4 hB4 hg5;have hB15:=hB1.ext (hE13.trans hE35);have hE05:=hE03.trans hE35;have hs3:=hE13.size;refine aQe hB5 rfl ?_;have h0:=s3.root0.trans (vQC hb);refine aQP (fun hz=>?_) (fun hz=>?_)
 ·refine call (fQN true w5) ?_;rintro _ w6 ⟨rfl,hE6⟩;refine aQc (hB15.ext hE6) rfl (sc rfl) (fun w7 hg7 _ hB7=>?_);have hM7:Mod (·=w.heap.size) w6 w7:=zQE hg7 rfl;refine aQd hB7 rfl ?_;refine⟨none,0,0,[],1,rfl,hM7.ext (hE05.trans hE6) (fun i hi=>by omega),SlS.nil _,?_,fun i hi=>by obtain⟨_,e,_⟩:=hi;cases e⟩;have e:pQh b=fun _=>true:=by unfold pQh;rw[if_pos (h0.1 hz)]
  rw[e];exact bQi 3 true
 ·refine aQd hB5 rfl ?_;refine aQc hB15 rfl (sc rfl) (fun w7 hg7 _ hB7=>?_);have hM7:Mod (·=w.heap.size) w5 w7:=zQE hg7 rfl;refine aQd hB7 rfl ?_;have hz2':=hE2.size;refine⟨A,n,c,nd,r,rfl,hM7.ext hE05 (fun i hi=>by omega),SB.mod (hS3.ext hE35) hM7 (fun i hi e=>by have:=hR3 i hi;omega),?_,fun i hi=>by have:=hR3 i hi;omega⟩;have e:pQh b=mQM [b] 3 0 0:=by unfold pQh;rw[if_neg (fun hb0=>hz (h0.2 hb0))]
  rw[e];exact s3
def iQh (c:Nat):BF:=mQM [2^c] 3 0 0
theorem vQD:((List.range 8).all fun c=>(List.range 8).all fun d=>iQh c (gQT d)==decide (d=c))=true:=by decide+kernel
theorem kQx {c d:Nat}(hc:c<8)(hd:d<8):iQh c (bits d)=decide (d=c):=by
 have:=List.all_eq_true.1 vQD c (List.mem_range.2 hc);have:=List.all_eq_true.1 this d (List.mem_range.2 hd);rw[mQV] at this;simpa using this
theorem rQH (c:Nat)(hc:c<8)(w:World):Fn Tryz.prog 25 [.int .u64 c] w (DgS w 3 (iQh c)):=by
 have hp:2^c<=128:=Nat.pow_le_pow_right (n:=2) (by decide) (show c<=7 by omega);refine aQf (c:={c25 with cuts:=[]}) aQb Tryz.func25 rfl rfl rfl ?_;refine new (fun w1 hE1 hz1 hB1=>?_);refine normIf (m:=((2^c:Nat):Int)) (by omega) ?_ ?_
 ·rw[show min ((c:Int)).toNat IntKind.u8.bits=c by show min c 8=c;omega];have e:(1:Int)*2^c=((2^c:Nat):Int):=by rw[Int.one_mul];norm_cast
  rw[e];generalize 2^c=q at hp ⊢;exact IntWalk.u8_in _ (by omega)
 refine aQl aQb [[Value.int .u8 ((2^c:Nat):Int)]] rfl rfl rfl rfl rfl ⟨rfl,rfl,⟨⟩⟩ rfl (fun cs h=>by simp only[List.mem_singleton] at h;subst h;rfl) rfl (by decide) (by decide) ?_;intro w2 hE2 hz2 hB2;refine call (nQW [2^c] _ 1 1 3 w2 (Sl.own' (n:=1) hB2 rfl (by decide)) (fun x hx=>by rw[List.mem_singleton.1 hx];omega) (by decide)) ?_;rintro _ w3 ⟨A,n,cc,nd,r,rfl,hE3,hS3,s3,hR3⟩;have hE13:=hE2.trans hE3;refine aQc (hB1.ext hE13) rfl (sc rfl) (fun w7 hg7 _ hB7=>?_);have hM7:Mod (·=w.heap.size) w3 w7:=zQE hg7 rfl;refine aQd hB7 rfl ?_;have hz2':=hE2.size;exact⟨A,n,cc,nd,r,rfl,hM7.ext (hE1.trans hE13) (fun i hi=>by omega),SB.mod hS3 hM7 (fun i hi e=>by have:=hR3 i hi;omega),s3,fun i hi=>by have:=hR3 i hi;omega⟩
theorem jQa (w:World):Fn Tryz.prog 16 [] w (fun u w'=>∃A c,u= .slice A 3 c/\Ext w w'/\Sl w' 1 A 3 c (aQ6 (aQF.take 3))):=by
 refine aQf (c:={c16 with cuts:=[]}) aQb Tryz.func16 rfl rfl rfl ?_;refine call (oQJ 3 w (by decide)) ?_;rintro _ w1 ⟨A,c,rfl,hE1,hN1⟩;exact⟨A,c,rfl,hE1,hN1⟩
structure RawV where
 fam:Nat
 cls:List Nat
 txs:List (Option Addr×Nat×Nat×List Nat)
 CA:Option Addr
 cn:Nat
 cc:Nat
 TA:Option Addr
 tn:Nat
 tc:Nat
def txC (t:Option Addr×Nat×Nat×List Nat):List Value:=[.slice t.1 t.2.1 t.2.2.1]
def RawV.cells (x:RawV):List Value:=[.int .u8 x.fam,.slice x.CA x.cn x.cc,.slice x.TA x.tn x.tc]
structure RawIn (w:World) (x:RawV):Prop where
 f8:x.fam<=255
 cl:Sl w 1 x.CA x.cn x.cc (bQa x.cls)
 c8:∀k∈x.cls,k<=255
 tx:SlS txC 1 w x.TA x.tn x.tc x.txs
 ts:∀t∈x.txs,Sl w 1 t.1 t.2.1 t.2.2.1 (bQa t.2.2.2)/\∀k∈t.2.2.2,k<=255
theorem RawIn.ext {w w':World}{x:RawV}(h:RawIn w x)(k:Ext w w'):RawIn w' x:=⟨h.f8,h.cl.ext k,h.c8,h.tx.ext k,fun t ht=>⟨(h.ts t ht).1.ext k,(h.ts t ht).2⟩⟩
abbrev RawV.cho (x:RawV)(c:Nat):List (List Nat):=nQZ x.cls (x.txs.map (·.2.2.2)) c
theorem iQi (x:RawV)(c:Nat)(hc:c<8)(w:World)(h:RawIn w x):Fn Tryz.prog 33 [.agg x.cells.toArray,.int .u64 c] w (fun u w'=>u= .string (aQh (unl (x.cho c)))/\Ext w w'):=by
 have hcl:x.cls.length=x.cn:=by have:=h.cl.len;simp only[bQa,List.length_map] at this;omega
 have htl:=h.tx.2;have t1:=h.tx.1.le;have t2:=h.tx.1.cap;simp only[maxLen] at t2;refine aQf (c:={c33 with cuts:=[]}) aQb Tryz.func33 rfl rfl rfl ?_;refine new (fun w1 hE1 hz1 hB1=>?_);have h1:=h.ext hE1;have fin:∀(k:Nat),k<4->(x.cls[c]?).elim 0 (· % 4)=k->∀t,(x.txs.map (·.2.2.2))[k]? =some t->x.cho c=lQZ t:=fun k hk he t ht=>by
  show nQZ x.cls (x.txs.map (·.2.2.2)) c=_;unfold nQZ;rw[he,ht]
 have fin2:∀(k:Nat),k<4->(x.cls[c]?).elim 0 (· % 4)=k->(x.txs.map (·.2.2.2))[k]? =none->x.cho c=[lnL k]:=fun k hk he ht=>by
  show nQZ x.cls (x.txs.map (·.2.2.2)) c=_;unfold nQZ;rw[he,ht]
 refine aQa (c:Int) rfl (by omega) ?_;refine aQe hB1 rfl ?_;refine aQq (fun c1=>?_) (fun c1=>?_)
 ·obtain⟨k0,hk0⟩:∃k0,x.cls[c]? =some k0:=⟨_,List.getElem?_eq_getElem (by omega)⟩
  have hk08:=h.c8 k0 (List.mem_of_getElem? hk0);refine aQe hB1 rfl ?_;refine aQ3 h1.cl (by omega) (fun ad u hA hu hcell=>?_);have e1:(bQa x.cls)[c]? =some (.int .u8 k0):=by unfold bQa;rw[List.getElem?_map,hk0];rfl
  rw[e1] at hu;cases hu;refine load hcell ?_;refine jQg (d:=4) (by decide) ?_;obtain⟨k,hkk⟩:∃k,k=k0 % 4:=⟨_,rfl⟩
  rw[<-hkk];have hk4:k<4:=by omega
  have hke:(x.cls[c]?).elim 0 (· % 4)=k:=by rw[hk0,hkk];rfl
  refine aQa ((k:Nat):Int) rfl (by omega) ?_;refine aQe hB1 rfl ?_;refine aQq (fun c2=>?_) (fun c2=>?_)
  ·have hkn:k<x.tn:=by omega
   refine aQe hB1 rfl ?_;refine aQp (f:=txC) (fun _=>rfl) h1.tx rfl hkn (fun ad t ht hc2=>?_);obtain⟨ts1,ts2⟩:=h1.ts t (List.mem_of_getElem? ht);refine load (hc2 0 _ rfl) ?_;refine call (lQU t.1 t.2.1 t.2.2.1 t.2.2.2 ts2 w1 ts1) ?_;rintro _ w2 ⟨rfl,hE2⟩;refine⟨?_,hE1.trans hE2⟩;rw[fin k hk4 hke t.2.2.2 (by rw[List.getElem?_map,ht];rfl)]
  ·have hno:(x.txs.map (·.2.2.2))[k]? =none:=List.getElem?_eq_none_iff.2 (by rw[List.length_map];omega);refine iQw ((k:Nat):Int) rfl (by omega) ?_;refine call (mQ9 k (by omega) w1) ?_;rintro _ w2 ⟨rfl,hE2⟩;refine⟨?_,hE1.trans hE2⟩;rw[fin2 k hk4 hke hno];show Value.string (aQh (lnL k++ [10]))= .string (aQh (unl [lnL k]));simp[unl]
 ·have hk0:x.cls[c]? =none:=List.getElem?_eq_none_iff.2 (by omega);have hk4:(0:Nat)<4:=by decide
  have hke:(x.cls[c]?).elim 0 (· % 4)=0:=by rw[hk0];rfl
  refine aQe hB1 rfl ?_;refine aQq (fun c2=>?_) (fun c2=>?_)
  ·have hkn:0<x.tn:=by omega
   refine aQe hB1 rfl ?_;refine aQp (f:=txC) (fun _=>rfl) h1.tx rfl hkn (fun ad t ht hc2=>?_);obtain⟨ts1,ts2⟩:=h1.ts t (List.mem_of_getElem? ht);refine load (hc2 0 _ rfl) ?_;refine call (lQU t.1 t.2.1 t.2.2.1 t.2.2.2 ts2 w1 ts1) ?_;rintro _ w2 ⟨rfl,hE2⟩;refine⟨?_,hE1.trans hE2⟩;rw[fin 0 hk4 hke t.2.2.2 (by rw[List.getElem?_map,ht];rfl)]
  ·have hno:(x.txs.map (·.2.2.2))[0]? =none:=List.getElem?_eq_none_iff.2 (by rw[List.length_map];omega);refine iQw ((0:Nat):Int) rfl (by omega) ?_;refine call (mQ9 0 (by omega) w1) ?_;rintro _ w2 ⟨rfl,hE2⟩;refine⟨?_,hE1.trans hE2⟩;rw[fin2 0 hk4 hke hno];show Value.string (aQh (lnL 0++ [10]))= .string (aQh (unl [lnL 0]));simp[unl]
theorem PrM.len {n:Nat}:∀{qs:List Pr}{ps:List Pt},PrM n qs ps->qs.length=ps.length
 | [],[],_=>rfl
 | _::_,_::_,h=>by simp[PrM.len h.2]
theorem PrM.snoc {n:Nat}{q:Pr}{p:Pt}(hq:q.t=unl p.2/\∀c,c<2^n->q.o (bits c)=decide (c∈p.1)):∀{qs:List Pr}{ps:List Pt},PrM n qs ps->PrM n (qs++ [q]) (ps++ [p])
 | [],[],_=>⟨hq,trivial⟩
 | _::_,_::_,h=>⟨h.1,PrM.snoc hq h.2⟩
theorem PrM.set {n:Nat}{q:Pr}{p:Pt}(hq:q.t=unl p.2/\∀c,c<2^n->q.o (bits c)=decide (c∈p.1)):∀{qs:List Pr}{ps:List Pt}{k:Nat},PrM n qs ps->PrM n (qs.set k q) (ps.set k p)
 | [],[],_,_=>trivial
 | _::_,_::_,0,h=>⟨hq,h.2⟩
 | _::_,_::_,k+1,h=>⟨h.1,PrM.set (k:=k) hq h.2⟩
theorem PrM.get {n:Nat}:∀{qs:List Pr}{ps:List Pt}{k:Nat}{q:Pr}{p:Pt},PrM n qs ps->qs[k]? =some q->ps[k]? =some p->q.t=unl p.2/\∀c,c<2^n->q.o (bits c)=decide (c∈p.1)
 | _::_,_::_,0,_,_,h,h1,h2=>by cases h1;cases h2;exact h.1
 | _::_,_::_,k+1,_,_,h,h1,h2=>PrM.get (k:=k) h.2 (by simpa using h1) (by simpa using h2)
theorem rQI {n:Nat}{s:List (List Nat)}(hs:gQn s):∀{qs:List Pr}{ps:List Pt},PrM n qs ps->(∀p∈ps,gQn p.2)->ixQ qs (unl s)=ixP ps s
 | [],[],_,_=>rfl
 | q::qs,p::ps,h,hl=>by
  have ih:=rQI hs h.2 (fun u hu=>hl u (by simp[hu]));have hp:=hl p (by simp);have hiff:(decide (q.t≠unl s))=decide (p.2≠s):=by
   rw[h.1.1];refine decide_eq_decide.2 (not_congr ⟨fun e=>?_,fun e=>by rw[e]⟩);have:=congrArg aQi e
   rwa [bQY hp,bQY hs] at this
  unfold ixQ ixP at ih ⊢;rw[List.takeWhile_cons,List.takeWhile_cons,hiff];split
  ·simp only[List.length_cons];rw[ih]
  ·rfl
def iQr (b c:Nat):List Nat:=(List.range c).filter (rQR b)
theorem lQV (b c:Nat):iQr b (c+1)=iQr b c++(if rQR b c=true then [c] else []):=by
 unfold iQr;rw[List.range_succ,List.filter_append,List.filter_cons];split<;>simp
theorem vQE {b c d:Nat}(h:d∈iQr b c):d<c:=List.mem_range.1 (List.mem_filter.1 h).1
theorem vQF (b c:Nat):(iQr b c).Nodup:=(List.nodup_range).sublist (List.filter_sublist)
theorem nQa {single:Bool}{f:Nat->List (List Nat)}{S:List Nat}(hn:S.Nodup)(hf:∀c,gQn (f c)):∀p∈cQc single f S,gQn p.2:=fun p hp=>by
 have h:=hQ2 single f S hn;obtain⟨c,hc⟩:=List.exists_mem_of_ne_nil _ (h.ne p hp);rw[<-(h.tx p hp c hc).2];exact hf c
theorem iQj (x:RawV)(c:Nat):gQn (x.cho c):=fun s hs=>((fQi _ _ c).1 s hs).1.nl
theorem rQJ (x:RawV)(c:Nat):(∀b∈unl (x.cho c),b<256)/\(unl (x.cho c)).length<=30:=by
 obtain⟨h1,h2⟩:=fQi x.cls (x.txs.map (·.2.2.2)) c;refine⟨nQX (fun s hs=>(h1 s hs).1.b8),?_⟩;have:=gQw (M:=4) (fun s hs=>(h1 s hs).2);have:=Nat.mul_le_mul_right (4+1) h2;show(unl (nQZ x.cls (x.txs.map (·.2.2.2)) c)).length<=30;omega
structure PtsIn (w:World) (PA:Option Addr) (pn pc:Nat) (Q:List (DV×Pr)):Prop where
 sl:SlS pqC 3 w PA pn pc Q
 sb:∀q∈Q,SB w q.1.A q.1.n q.1.c q.1.nd/\Set1 3 q.1.nd q.1.r q.2.o
theorem PtsIn.ext {w w':World}{PA:Option Addr}{pn pc:Nat}{Q:List (DV×Pr)}(h:PtsIn w PA pn pc Q)(k:Ext w w'):PtsIn w' PA pn pc Q:=⟨h.sl.ext k,fun q hq=>⟨(h.sb q hq).1.ext k,(h.sb q hq).2⟩⟩
set_option maxHeartbeats 3200000 in
theorem pQb (x:RawV)(single:Bool)(w:World)(h:RawIn w x):
  Fn Tryz.prog 26 [.agg x.cells.toArray,.bool single] w (fun u w'=>∃PA pc Q,u= .slice PA (Q.length) pc/\Ext w w'/\PtsIn w' PA Q.length pc Q/\PrM 3 (Q.map (·.2)) (cQc single x.cho (jQ8 x.fam))):=by
 refine aQf (c:={c26 with cuts:=[]}) aQb Tryz.func26 rfl rfl rfl ?_;refine new (fun w1 hE1 hz1 hB1=>?_);refine aQl aQb [] rfl rfl rfl rfl rfl ⟨⟩ rfl (fun cs h=>by cases h) rfl (by decide) (by decide) ?_;intro w2 hE2 hz2 hB2;have hE02:=hE1.trans hE2;refine loop aQb [6,5] (fun t:Nat×List (DV×Pr)×Option Addr×Nat=>[.int .u64 t.1,.slice t.2.2.1 t.2.1.length t.2.2.2]) (fun t w'=>Ext w1 w'/\t.1<=8/\Own w' w1.heap.size 56 3 t.2.2.1 t.2.1.length t.2.2.2 (t.2.1.flatMap pqC)/\(∀q∈t.2.1,DgO w' (aQx t.2.2.1) 3 q.1 q.2.o)/\PrM 3 (t.2.1.map (·.2)) (cQc single x.cho (iQr x.fam t.1))/\t.2.1.length<=t.1) (fun t _=>8-t.1) (0,[],some ⟨w1.heap.size,0,none⟩,0) rfl ⟨hE2,Nat.zero_le _,Own.empty hB2 (Nat.le_refl _),(fun q hq=>by cases hq),trivial,Nat.zero_le _⟩ ?_;rintro⟨c,Q,PA,pc⟩ w3 ⟨hE3,hc8,hO3,hD3,hP3,hQl⟩;simp only at hc8 hO3 hD3 hP3 hQl;have hE03:=hE1.trans hE3;have hrO:=hO3.rows;refine aQq (fun c1=>?_) (fun c1=>?_)
 ·have hc:c<8:=by simp only at c1;omega
  have hB3:=hB1.ext hE3;refine aQg hB3 rfl ?_;refine call (kQw x.fam h.f8 w3) ?_;rintro _ w4 ⟨A4,n4,c4,nd4,r4,rfl,hE4,hS4,s4,_⟩;refine call (wQu A4 n4 c4 nd4 r4 c (by omega) w4 hS4 (s4.chk (by decide))) ?_;rintro _ w5 ⟨rfl,hE5⟩;have hE35:=hE4.trans hE5;have hE05:=hE03.trans hE35;have hin:ev nd4 r4 (gQT c)=rQR x.fam c:=by rw[s4.mean,mQV];exact kQv h.f8 hc
  rw[hin];cases hff:rQR x.fam c with
  | false=>
   refine aQM rfl ?_;refine cQh ((c+1:Nat):Int) (by show((c:Nat):Int)+1=_;omega) (by omega) ?_;refine⟨(c+1,Q,PA,pc),rfl,⟨hE3.trans hE35,hc,hO3.ext hE35,fun q hq=>(hD3 q hq).ext hE35,?_,by simp only;omega⟩,by show 8-(c+1)<8-c;omega⟩;simp only;rw[lQV,hff];simpa using hP3
  | true=>
   refine aQN rfl ?_;have hnc:c∉iQr x.fam c:=fun hm=>by have:=vQE hm;omega
   have hnd:=vQF x.fam c;have hsucc:cQc single x.cho (iQr x.fam (c+1))=jQ9 single x.cho (cQc single x.cho (iQr x.fam c)) c:=by
    rw[lQV,hff,if_pos rfl,mQU]
   refine aQd (hB3.ext hE35) rfl ?_;refine call (iQi x c hc w5 (h.ext hE05)) ?_;rintro _ w6 ⟨rfl,hE6⟩;have hE36:=hE35.trans hE6;have hE06:=hE03.trans hE36;obtain⟨cb1,cb2⟩:=rQJ x c;have hplen:=hP3.len;rw[List.length_map] at hplen;have hqt:∀q∈Q,(∀b∈q.2.t,b<256):=fun q hq=>by
    obtain⟨k,hk⟩:=List.mem_iff_getElem?.1 hq;have hkl:=(List.getElem?_eq_some_iff.1 hk).1;obtain⟨p,hp⟩:∃p,(cQc single x.cho (iQr x.fam c))[k]? =some p:=⟨_,List.getElem?_eq_getElem (by omega)⟩
    have h1:=(hP3.get (q:=q.2) (k:=k) (by rw[List.getElem?_map,hk];rfl) hp).1;have h2:=hQ2 single x.cho (iQr x.fam c) hnd;obtain⟨d,hd⟩:=List.exists_mem_of_ne_nil _ (h2.ne p (List.mem_of_getElem? hp));rw[h1,<-(h2.tx p (List.mem_of_getElem? hp) d hd).2];exact(rQJ x d).1
   cases single with
   | true=>
    refine loop aQb [8] (fun k:Nat=>[.int .i64 k]) (fun k w'=>w6=w'/\k=0) (fun _ _=>0) 0 rfl ⟨rfl,rfl⟩ ?_;rintro _ _ ⟨rfl,rfl⟩;refine aQN rfl ?_;refine aQM rfl ?_;refine call (rQH c hc w6) ?_;rintro _ w7 ⟨A7,n7,c7,nd7,r7,rfl,hE7,hS7,s7,hR7⟩;refine aQl aQb [pqC (DV.mk A7 n7 c7 nd7 r7,Pr.mk (iQh c) (unl (x.cho c)))] rfl rfl rfl rfl rfl ⟨rfl,rfl,⟨⟩⟩ rfl (fun cs h=>by simp only[List.mem_singleton] at h;subst h;rfl) rfl (by decide) (by decide) ?_;intro w8 hE8 hz8 hB8;have hE38:=hE36.trans (hE7.trans hE8);have hs8:Sl w8 3 (some ⟨w7.heap.size,0,none⟩) 1 1 (pqC (DV.mk A7 n7 c7 nd7 r7,Pr.mk (iQh c) (unl (x.cho c)))):=Sl.own (sz:=3) (n:=1) hB8 (Nat.le_refl _) (by decide) (by simp[pqC,bQR]);refine bQf (n:=Q.length) aQb rfl rfl rfl rfl rfl (by decide) rfl rfl ⟨_,rfl⟩ rfl rfl (hO3.ext hE38) hs8 (vQA _) (by unfold maxLen;omega) (by show(Q.length+1)*48<=_;omega) (by have:=(hE3.trans hE38).size;omega) ?_;intro PA2 pc2 w9 hm9 hO9 hmv9;have hM39:Mod (aQx PA) w3 w9:=(Mod.of_ext (aQx PA) hE38).trans hm9 (fun i hi=>.inl hi);have r9:∀k,aQx PA2 k->aQx PA k∨w8.heap.size<=k:=hmv9.rows
    have z38:=hE38.size;have z36:=hE36.size;have z78:=hE8.size;refine cQh ((c+1:Nat):Int) (by show((c:Nat):Int)+1=_;omega) (by omega) ?_;rw[show Q.flatMap pqC++pqC (DV.mk A7 n7 c7 nd7 r7,Pr.mk (iQh c) (unl (x.cho c)))=(Q++ [(DV.mk A7 n7 c7 nd7 r7,Pr.mk (iQh c) (unl (x.cho c)))]).flatMap pqC by rw[List.flatMap_append];simp] at hO9;refine⟨(c+1,Q++ [(DV.mk A7 n7 c7 nd7 r7,Pr.mk (iQh c) (unl (x.cho c)))],PA2,pc2),by simp only[List.length_append];rfl,⟨hM39.ext hE3 (fun i hi=>(hrO i hi).1),hc,by simp only;rw[List.length_append];exact hO9,fun q hq=>?_,?_,by simp only[List.length_append,List.length_singleton];omega⟩,by show 8-(c+1)<8-c;omega⟩
    ·rcases List.mem_append.1 hq with hq | hq
     ·exact(hD3 q hq).step hM39 (fun k hk=>by
       rcases r9 k hk with h | h
       ·exact .inl h
       ·exact .inr (by omega))
     ·rw[List.mem_singleton.1 hq];have h0:DgO w8 (aQx PA) 3 ⟨A7,n7,c7,nd7,r7⟩ (iQh c):=⟨hS7.ext hE8,s7,fun ad ea h0 h=>by have:=hR7 ad.block ⟨ad,ea,rfl⟩;have:=(hrO _ h).2;omega⟩
      exact h0.step hm9 (fun k hk=>by
       rcases r9 k hk with h | h
       ·exact .inl h
       ·exact .inr h)
    ·simp only;rw[hsucc,List.map_append];have e:jQ9 true x.cho (cQc true x.cho (iQr x.fam c)) c=cQc true x.cho (iQr x.fam c)++ [([c],x.cho c)]:=rfl;rw[e];exact PrM.snoc ⟨rfl,fun d hd=>by show iQh c (bits d)=decide (d∈ [c]);rw[kQx hc hd];simp⟩ hP3
   | false=>
    have hix:=rQI (iQj x c) hP3 (nQa hnd (fun d=>iQj x d));have hixl:=wQM (cQc false x.cho (iQr x.fam c)) (x.cho c);obtain⟨sq1,sq2⟩:=fQV (unl (x.cho c)) (Q.map (·.2));refine loop aQb [8] (fun k:Nat=>[.int .i64 k]) (fun k w'=>w6=w'/\k<=ixQ (Q.map (·.2)) (unl (x.cho c))) (fun k _=>ixQ (Q.map (·.2)) (unl (x.cho c))-k) 0 rfl ⟨rfl,Nat.zero_le _⟩ ?_;rintro k _ ⟨rfl,hk⟩;generalize hK:ixQ (Q.map (·.2)) (unl (x.cho c))=K at*;have hPS:SlS pqC 3 w6 PA Q.length pc Q:=⟨(hO3.ext hE36).sl,rfl⟩
    refine aQM rfl ?_;refine aQq (fun c2=>?_) (fun c2=>?_)
    ·have hkn:k<Q.length:=by simp only at c2;omega
     refine aQp gQN hPS rfl hkn (fun ad q hq hc2=>?_);have hqm:=List.mem_of_getElem? hq;refine load (hc2 2 _ rfl) ?_;have hqg:(Q.map (·.2))[k]? =some q.2:=by rw[List.getElem?_map,hq];rfl
     by_cases ht:q.2.t=unl (x.cho c)
     ·refine aQN (by rw[ht];simp) ?_;have hkK:k=K:=by
       apply Classical.byContradiction;intro hh;exact sq2 k q.2 hqg (by omega) ht
      subst hkK;have hne:¬(k:Int)=(Q.length:Int):=by omega
      refine aQN rfl ?_;refine aQu hne ?_;obtain⟨pa,hpa,_⟩:=(hO3.ext hE36).sl.at_ (show 0<Q.length by omega);subst hpa;have hO6:=hO3.ext hE36;have hdd:=Ext.drew w6;have hD6:∀q∈Q,DgO w6 (aQx (some pa)) 3 q.1 q.2.o:=fun q hq=>(hD3 q hq).ext hE36
      have hpos:0<Q.length:=by omega
      refine aQm aQb (Ext w6) 12 [(true,0),(true,1),(true,2),(true,3),(true,4),(true,5),(true,6),(true,7),(false,8),(false,9),(true,10),(true,11)] (by kernel_rfl) hdd ?_;refine kQr (j:=k) hkn ?_;refine aQw (vs:=[.slice q.1.A q.1.n q.1.c,.int .i64 q.1.r]) rfl (fun w' hw' i u hi=>by
       rw[add_add];refine fQM (o:=k*3) (i:=0+i) (hO6.ext hw') hpos ?_;rw[Nat.zero_add];refine cQd gQN Q k q i u hq ?_
       match i,hi with
       | 0,hi=>exact hi
       | 1,hi=>exact hi) ?_
      refine call (rQH c hc w6.drew) ?_;rintro _ w7 ⟨A7,n7,c7,nd7,r7,rfl,hE7,hS7,s7,hR7⟩;have hE67:=hdd.trans hE7;refine⟨hE67,?_⟩;refine call (lQq (k:=3) (by decide) q.1.A q.1.n q.1.c A7 n7 c7 w7 ((hD6 q hqm).sb.ext hE67) hS7 (hD6 q hqm).st s7) ?_;rintro _ w8 ⟨A8,n8,c8',nd8,r8,rfl,hE8,hS8,s8,hR8⟩;have hE68:=hE67.trans hE8;refine⟨hE68,?_⟩;refine kQr (j:=k) hkn ?_;show fQo _ _ ((pa.add (k*3)).add 0) _ _;rw[add_add];refine fQh (hO6.ext hE68) (by show k*3+0+2<=Q.length*3;omega) (sc rfl) (fun w9 hm9 hO9=>?_);have hE38:=hE36.trans hE68;have hM39:Mod (aQx (some pa)) w3 w9:=(Mod.of_ext _ hE38).trans hm9 (fun i hi=>.inl hi);have hcell2:(Q.flatMap pqC)[k*3+0+ [Value.slice A8 n8 c8',.int .i64 r8].length]? =some (.string (aQh q.2.t)):=cQd gQN Q k q 2 _ hq rfl;rw[show(#[Value.slice A8 n8 c8',Value.int IntKind.i64 r8]:Array Value).toList=[Value.slice A8 n8 c8',.int .i64 r8] from rfl,lQR hcell2] at hO9;have s8':Set1 3 nd8 r8 (fun e=>q.2.o e||iQh c e):=s8.congr (fun e=>by simp[opB]);have hO9:Own w9 w1.heap.size 56 3 (some pa) Q.length pc ((Q.set k (DV.mk A8 n8 c8' nd8 r8,Pr.mk (fun e=>q.2.o e||iQh c e) q.2.t)).flatMap pqC):=by
       rw[<-fQG gQN Q _ hkn];exact hO9
      refine cQh ((c+1:Nat):Int) (by show((c:Nat):Int)+1=_;omega) (by omega) ?_;have z68:=hE68.size;have z67:=hE67.size;have z36:=hE36.size;refine⟨(c+1,Q.set k (DV.mk A8 n8 c8' nd8 r8,Pr.mk (fun e=>q.2.o e||iQh c e) q.2.t),some pa,pc),by simp only[List.length_set];rfl,⟨hM39.ext hE3 (fun i hi=>(hrO i hi).1),hc,by simp only;rw[List.length_set];exact hO9,fun q' hq'=>?_,?_,by simp only[List.length_set];omega⟩,by show 8-(c+1)<8-c;omega⟩
      ·rcases List.mem_or_eq_of_mem_set hq' with hq' | rfl
       ·exact(hD3 q' hq').step hM39 (fun i hi=>.inl hi)
       ·have h0:DgO w8 (aQx (some pa)) 3 (DV.mk A8 n8 c8' nd8 r8) (fun e=>q.2.o e||iQh c e):=⟨hS8,s8',fun ad ea h0 h=>by have:=hR8 ad.block ⟨ad,ea,rfl⟩;have:=(hrO _ h).2;omega⟩
        exact h0.step hm9 (fun i hi=>.inl hi)
      ·simp only;rw[hsucc,List.map_set];obtain⟨p0,hp0⟩:∃p,(cQc false x.cho (iQr x.fam c))[k]? =some p:=⟨_,List.getElem?_eq_getElem (by omega)⟩
       have e:jQ9 false x.cho (cQc false x.cho (iQr x.fam c)) c=(cQc false x.cho (iQr x.fam c)).set k (p0.1++ [c],p0.2):=by
        show sQG _ c (x.cho c)=_;rcases kQa c (x.cho c) (cQc false x.cho (iQr x.fam c))with⟨p,h1,h2,h3⟩ | ⟨h1,_⟩
        ·rw[<-hix] at h1 h3;rw[hp0] at h1;cases h1;exact h3
        ·omega
       rw[e];obtain⟨g1,g2⟩:=hP3.get hqg hp0;refine PrM.set (q:=Pr.mk (fun e=>q.2.o e||iQh c e) q.2.t) (p:=(p0.1++ [c],p0.2)) ⟨g1,fun d hd=>?_⟩ hP3;show(q.2.o (bits d)||iQh c (bits d))=decide (d∈p0.1++ [c]);rw[g2 d hd,kQx hc hd];simp
     ·refine aQM (by rw[Bool.not_eq_true',decide_eq_false_iff_not];exact fun e=>ht (aQD (hqt q hqm) cb1 e)) ?_;have hkK:k<K:=by
       apply Classical.byContradiction;intro hh;have:k=K:=by omega
       subst this;exact ht (sq1 q.2 hqg)
      refine aQa ((k+1:Nat):Int) (by show((k:Nat):Int)+1=_;omega) (by omega) ?_;exact⟨k+1,rfl,⟨rfl,hkK⟩,by show K-(k+1)<K-k;omega⟩
    ·have hkQ:k=Q.length:=by simp only at c2;omega
     subst hkQ;have hKe:K=Q.length:=by
      rw[hplen];omega
     refine aQN rfl ?_;refine aQZ rfl ?_;refine call (rQH c hc w6) ?_;rintro _ w7 ⟨A7,n7,c7,nd7,r7,rfl,hE7,hS7,s7,hR7⟩;refine aQl aQb [pqC (DV.mk A7 n7 c7 nd7 r7,Pr.mk (iQh c) (unl (x.cho c)))] rfl rfl rfl rfl rfl ⟨rfl,rfl,⟨⟩⟩ rfl (fun cs h=>by simp only[List.mem_singleton] at h;subst h;rfl) rfl (by decide) (by decide) ?_;intro w8 hE8 hz8 hB8;have hE38:=hE36.trans (hE7.trans hE8);have hs8:Sl w8 3 (some ⟨w7.heap.size,0,none⟩) 1 1 (pqC (DV.mk A7 n7 c7 nd7 r7,Pr.mk (iQh c) (unl (x.cho c)))):=Sl.own (sz:=3) (n:=1) hB8 (Nat.le_refl _) (by decide) (by simp[pqC,bQR]);refine bQf (n:=Q.length) aQb rfl rfl rfl rfl rfl (by decide) rfl rfl ⟨_,rfl⟩ rfl rfl (hO3.ext hE38) hs8 (vQA _) (by unfold maxLen;omega) (by show(Q.length+1)*48<=_;omega) (by have:=(hE3.trans hE38).size;omega) ?_;intro PA2 pc2 w9 hm9 hO9 hmv9;have hM39:Mod (aQx PA) w3 w9:=(Mod.of_ext (aQx PA) hE38).trans hm9 (fun i hi=>.inl hi);have r9:∀k,aQx PA2 k->aQx PA k∨w8.heap.size<=k:=hmv9.rows
     have z38:=hE38.size;have z36:=hE36.size;have z78:=hE8.size;refine cQh ((c+1:Nat):Int) (by show((c:Nat):Int)+1=_;omega) (by omega) ?_;rw[show Q.flatMap pqC++pqC (DV.mk A7 n7 c7 nd7 r7,Pr.mk (iQh c) (unl (x.cho c)))=(Q++ [(DV.mk A7 n7 c7 nd7 r7,Pr.mk (iQh c) (unl (x.cho c)))]).flatMap pqC by rw[List.flatMap_append];simp] at hO9;refine⟨(c+1,Q++ [(DV.mk A7 n7 c7 nd7 r7,Pr.mk (iQh c) (unl (x.cho c)))],PA2,pc2),by simp only[List.length_append];rfl,⟨hM39.ext hE3 (fun i hi=>(hrO i hi).1),hc,by simp only;rw[List.length_append];exact hO9,fun q hq=>?_,?_,by simp only[List.length_append,List.length_singleton];omega⟩,by show 8-(c+1)<8-c;omega⟩
     ·rcases List.mem_append.1 hq with hq | hq
      ·exact(hD3 q hq).step hM39 (fun k hk=>by
        rcases r9 k hk with h | h
        ·exact .inl h
        ·exact .inr (by omega))
      ·rw[List.mem_singleton.1 hq];have h0:DgO w8 (aQx PA) 3 ⟨A7,n7,c7,nd7,r7⟩ (iQh c):=⟨hS7.ext hE8,s7,fun ad ea h0 h=>by have:=hR7 ad.block ⟨ad,ea,rfl⟩;have:=(hrO _ h).2;omega⟩
       exact h0.step hm9 (fun k hk=>by
        rcases r9 k hk with h | h
        ·exact .inl h
        ·exact .inr h)
     ·simp only;rw[hsucc,List.map_append];have e:jQ9 false x.cho (cQc false x.cho (iQr x.fam c)) c=cQc false x.cho (iQr x.fam c)++ [([c],x.cho c)]:=by
       show sQG _ c (x.cho c)=_;rcases kQa c (x.cho c) (cQc false x.cho (iQr x.fam c))with⟨p,h1,_⟩ | ⟨_,h2⟩
       ·have:=(List.getElem?_eq_some_iff.1 h1).1;omega
       ·exact h2
      rw[e];exact PrM.snoc ⟨rfl,fun d hd=>by show iQh c (bits d)=decide (d∈ [c]);rw[kQx hc hd];simp⟩ hP3
 ·have hc:c=8:=by simp only at c1;omega
  subst hc;exact⟨PA,pc,Q,rfl,hE03,⟨⟨hO3.sl,rfl⟩,fun q hq=>⟨(hD3 q hq).sb,(hD3 q hq).st⟩⟩,hP3⟩
abbrev nmP:List (List Nat):=aQF.take 3
theorem vQG:aQ2 nmP:=(oQK 3 (by decide)).1
theorem xQO:aQV nmP=true:=by decide+kernel
theorem vQH:∀s∈nmP,s.length<=1000:=by decide
def RawV.wov (x:RawV):List (List Nat):=cQf nmP (fun c=>unl (x.cho c)) 3 0 (jQ8 x.fam)
theorem rQK (x:RawV)(c:Nat):bQE (unl (x.cho c))=true:=by
 unfold bQE;rw[lQy,bQY (iQj x c),Bool.true_and];exact List.all_eq_true.2 (fun s hs=>decide_eq_true ((fQi _ _ c).1 s hs).1.dr)
theorem rQL {x:RawV}(h:x.fam<=255):(unl x.wov).length<=1048576:=by
 have hne:=hQ1 h;obtain⟨h1,h2⟩:=gQL (nm:=nmP) (f:=fun c=>unl (x.cho c)) (P:=fun s=>s.length<=2100) (M:=6) (fun v ng=>rQm vQH v ng) (by decide) (by decide) 3 0 (jQ8 x.fam) hne (fun c hc=>by
  rw[bQY (iQj x c)];obtain⟨a,b⟩:=fQi x.cls (x.txs.map (·.2.2.2)) c;exact⟨fun s hs=>by have:=(a s hs).2;omega,b⟩)
 have h3:=gQw h1;have h4:(jQ8 x.fam).length*(6+3)<=8*9:=Nat.mul_le_mul_right _ (nQ0 _);have h5:(cQf nmP (fun c=>unl (x.cho c)) 3 0 (jQ8 x.fam)).length*(2100+1)<=72*2101:=Nat.mul_le_mul_right _ (by omega);show(unl (cQf nmP (fun c=>unl (x.cho c)) 3 0 (jQ8 x.fam))).length<=_;omega
theorem pQc (x:RawV)(hf:x.fam<=255)(Q:List (DV×Pr))(ps:List Pt)(D:DV)(NA:Option Addr)(nc:Nat)(PA:Option Addr)(pc:Nat)(w:World)(hN:Sl w 1 NA 3 nc (aQ6 nmP))(hD:SB w D.A D.n D.c D.nd)(sD:Set1 3 D.nd D.r (pQh x.fam))(hQ:PtsIn w PA Q.length pc Q)(hm:PrM 3 (Q.map (·.2)) ps)(hp:PtOk x.cho (jQ8 x.fam) ps):
  Fn Tryz.prog 24 [.slice NA 3 nc,dgV D.A D.n D.c D.r,.slice PA Q.length pc] w (fun u w'=>u= .tuple #[.string (aQh (unl x.wov)),.int .i64 0]/\Ext w w'):=by
 have hqt:∀q∈Q,(∀b∈q.2.t,b<256)/\q.2.t.length<=30:=fun q hq=>by
  obtain⟨k,hk⟩:=List.mem_iff_getElem?.1 hq;have hkl:=(List.getElem?_eq_some_iff.1 hk).1;have hl:=hm.len;rw[List.length_map] at hl;obtain⟨p,hpk⟩:∃p,ps[k]? =some p:=⟨_,List.getElem?_eq_getElem (by omega)⟩
  have h1:=(hm.get (q:=q.2) (k:=k) (by rw[List.getElem?_map,hk];rfl) hpk).1;obtain⟨d,hd⟩:=List.exists_mem_of_ne_nil _ (hp.ne p (List.mem_of_getElem? hpk));rw[h1,<-(hp.tx p (List.mem_of_getElem? hpk) d hd).2];exact rQJ x d
 refine(fQW NA 3 nc nmP D PA Q.length pc (Q.map (fun q=>(q.1,q.2.t))) (by decide) vQG vQH (fun q hq=>by
  obtain⟨q0,h0,rfl⟩:=List.mem_map.1 hq;obtain⟨a,b⟩:=hqt q0 h0;exact⟨a,by show q0.2.t.length<=2000;omega⟩) w hN hD ⟨by rw[<-oQe];exact hQ.sl.1,by rw[List.length_map]⟩ (fun q hq=>by
  obtain⟨q0,h0,rfl⟩:=List.mem_map.1 hq;exact(hQ.sb q0 h0).1)).mono ?_
 rintro u w' ⟨rfl,hE⟩;refine⟨?_,hE⟩;rw[kQo (nm:=nmP) xQO (eQ1 (n:=3) (by decide) sD).1 (fun q hq=>by
  obtain⟨q0,h0,rfl⟩:=List.mem_map.1 hq;exact(eQ1 (n:=3) (by decide) (hQ.sb q0 h0).2).1),mQ7 sD,oQd (fun q hq=>(hQ.sb q hq).2)]
 have hmem:aQW nmP.length (pQh x.fam)=jQ8 x.fam:=oQi hf;have hpt:=rQg (nm:=nmP) (o:=pQh x.fam) (f:=x.cho) hm (by rw[hmem];exact hp) (fun c=>rQK x c) (by rw[hmem];exact hQ1 hf) (by rw[hmem];exact rQL hf);rw[hpt,hmem];rfl
theorem sQ6 (x:RawV)(single:Bool):PtOk x.cho (jQ8 x.fam) (cQc single x.cho (jQ8 x.fam)):=hQ2 single x.cho _ (uQ9 _)
end
section
open Go Go.RowKit Go.ChangeShapes
variable {H:Type} {enc:TypeId×Value->H}
theorem zQD {α:Type}{l:List α}(h:l.length=1):∃a,l=[a]:=by
 match l,h with
 | [a],_=>exact⟨a,rfl⟩
theorem wQ4 {W:World}(cs:List Value)(fuel:Nat)(D:DataW H×List MemPlace)(hl:cs.length=1)(h:DataW.trod enc Tryz.prog W 0 (fun _=>true) true fuel 62 cs=some D):∃y:{t:Option Addr×Nat×Nat×List Nat // Sl W 1 t.1 t.2.1 t.2.2.1 (bQa t.2.2.2)/\∀k∈t.2.2.2,k<=255},txC y.1=cs:=by
 obtain⟨v,rfl⟩:=zQD hl;have key:∃a n c,v= .slice a n c:=by
  rcases Go.Deep.open_slice Tryz.underlying62 h with⟨hcs,_⟩ | ⟨x,l,c,m,n,D,Pl,hcs,_⟩
  ·simp at hcs;exact⟨_,_,_,hcs⟩
  ·simp at hcs;exact⟨_,_,_,hcs⟩
 obtain⟨a,n,c,rfl⟩:=key;obtain⟨ws,hS,h8⟩:=tQH ⟨_,h⟩;exact⟨⟨(a,n,c,ws),hS,h8⟩,rfl⟩
theorem sQ7 {W:World}{a:Option Addr}{len cap:Nat}{fuel:Nat}{D:DataW H×List MemPlace}(h:DataW.trod enc Tryz.prog W 0 (fun _=>true) true fuel 63 [.slice a len cap]=some D):∃l,SlS txC 1 W a len cap l/\∀t∈l,Sl W 1 t.1 t.2.1 t.2.2.1 (bQa t.2.2.2)/\∀k∈t.2.2.2,k<=255:=
 wQF (wQE (cells:=fun y:{t:Option Addr×Nat×Nat×List Nat // Sl W 1 t.1 t.2.1 t.2.2.1 (bQa t.2.2.2)/\∀k∈t.2.2.2,k<=255}=>txC y.1) (fun _=>rfl) (by decide) Tryz.underlying63 (by kernel_rfl) ⟨⟨(none,0,0,[]),Sl.nil W 1,fun k hk=>by cases hk⟩⟩ wQ4 rfl h)
theorem oQj {W:World}{fuel t e:Nat}{v:Value}{D:DataW H×List MemPlace}(hu:Tryz.prog.underlying t=some (.slice e))(h:DataW.trod enc Tryz.prog W 0 (fun _=>true) true fuel t [v]=some D):∃a n c,v= .slice a n c:=by
 rcases Go.Deep.open_slice hu h with⟨hcs,_⟩ | ⟨x,l,c,m,n,D,Pl,hcs,_⟩
 ·simp at hcs;exact⟨_,_,_,hcs⟩
 ·simp at hcs;exact⟨_,_,_,hcs⟩
set_option maxRecDepth 100000 in
theorem raw_of {W:World}{base:Nat}{v:Value}{d:DataW H}{p:List MemPlace}(hval:Value.okWide Tryz.prog W .any base 65 v)(h:DataW.Trod enc Tryz.prog W 0 (fun _=>true) true 65 v d p):
  ∃x:RawV,v= .agg x.cells.toArray/\RawIn W x:=by
 obtain⟨fuel,hf⟩:=h;obtain⟨cs,rfl,hsz⟩:=Go.WideShapes.okWide_struct Tryz.underlying65 hval;have hc:Tryz.prog.cellsOf 65=3:=by kernel_rfl
 have hc1:Tryz.prog.cellsOf 5=1:=by kernel_rfl
 have hc2:Tryz.prog.cellsOf 62=1:=by kernel_rfl
 have hc3:Tryz.prog.cellsOf 63=1:=by kernel_rfl
 rw[hc] at hsz;obtain⟨xs,m,_,_,_,hxl,hfl⟩:=DataW.trod_struct Tryz.underlying65 hf;obtain⟨v0,v1,v2,hl⟩:=xQ0 (show cs.toList.length=3 by simpa using hsz);obtain⟨y0,y1,y2,rfl⟩:=xQ0 (show xs.length=3 from hxl);have g0:=hfl 0 _ rfl;have g1:=hfl 1 _ rfl;have g2:=hfl 2 _ rfl;simp[hc1,hc2,hc3,Value.cells,hl] at g0 g1 g2;obtain⟨n0,e0,_,w0⟩:=DataW.trod_int Tryz.underlying5 g0;simp at e0;obtain⟨f,rfl,q0⟩:=u8_of w0;obtain⟨a1,n1,c1,rfl⟩:=oQj Tryz.underlying62 g1;obtain⟨a2,n2,c2,rfl⟩:=oQj Tryz.underlying63 g2;obtain⟨ws,hS,h8⟩:=tQH ⟨_,g1⟩;obtain⟨l,hT,hT2⟩:=sQ7 g2;subst e0;exact⟨⟨f,ws,l,a1,n1,c1,a2,n2,c2⟩,congrArg Value.agg (Array.ext' hl),⟨q0,hS,h8,hT,hT2⟩⟩
end
section
open Go Go.RowKit
theorem lQW (c:Nat):gQT c=fun i=>c.testBit i:=by
 funext i;rw[gQT,Nat.testBit_eq_decide_div_mod_eq]
theorem Sl.sepI {w:World}{sz n c g t:Nat}{A:Option Addr}{cs l:List Value}{x:Int}(h:Sl w sz A n c cs)(h0:cs[0]? =some (.int .i64 x))(hB:Blk w g t l)(hl:∀v∈l,∀k z,v≠ .int k z):0<n->∀i,aQx A i->¬i=g:=fun hn i hi e=>by
 obtain⟨ad,rfl,hc⟩:=h.at_ hn;obtain⟨ad',e',rfl⟩:=hi;cases e';have h1:=hc 0 _ h0;unfold World.cell? at h1;rw[cQG,e,show w.heap[g]? =_ from hB] at h1;simp only at h1;split at h1
 ·cases h1
 ·rw[List.getElem?_toArray] at h1;exact hl _ (List.mem_of_getElem? h1) _ _ rfl
theorem SB.modI {w w':World}{A:Option Addr}{n c g t:Nat}{nd:List Br}{l:List Value}(h:SB w A n c nd)(hB:Blk w g t l)(hl:∀v∈l,∀k z,v≠ .int k z)(hm:Mod (·=g) w w'):SB w' A n c nd:=by
 refine⟨h.1.modS hm (fun hn i hi=>?_),h.2⟩;cases nd with
 | nil=>have:=h.2;simp at this;omega
 | cons b nd=>exact h.1.sepI (x:=b.v) (by simp[Br.cells]) hB hl hn i hi
theorem SX.modI {w w':World}{A:Option Addr}{n c g t:Nat}{L:List Sx}{l:List Value}(h:SX w A n c L)(hB:Blk w g t l)(hl:∀v∈l,∀k z,v≠ .int k z)(hm:Mod (·=g) w w'):SX w' A n c L:=by
 refine⟨⟨h.sl.1.modS hm (fun hn i hi=>?_),h.sl.2⟩,fun y hy=>(h.dg y hy).modI hB hl hm⟩;cases L with
 | nil=>have:=h.sl.2;simp at this;omega
 | cons y L=>exact h.sl.1.sepI (x:=y.f) (by simp[Sx.cells]) hB hl hn i hi
theorem SrcIn.modI {w w':World}{k:Nat}{A:Option Addr}{c gg t:Nat}{g:Gs}{l:List Value}(h:SrcIn w k A c g)(hB:Blk w gg t l)(hl:∀v∈l,∀k z,v≠ .int k z)(hm:Mod (·=gg) w w'):SrcIn w' k A c g:=
 ⟨h.ok,h.kl,let ⟨M,h1,h2,h3⟩:=h.ex;⟨M,h1.modI hB hl hm,h2,h3⟩⟩
set_option maxHeartbeats 1600000 in
theorem rQM (T:List Nat)(g:Gs)(w:World)(hT:∀b∈T,b<256)(hl:T.length<=1048576)(hr:cQJ nmP [([102],T)] [102]= .ok g):
  Fn Tryz.prog 17 [.string (aQh T)] w (fun u w'=>∃A c,u= .tuple #[uQS g.tx A g.sg.length c,.bool true]/\Ext w w'/\SrcIn w' 3 A c g):=by
 refine aQf (c:={c17 with cuts:=[]}) aQb Tryz.func17 rfl rfl rfl ?_;refine new (fun w1 hE1 hz1 hB1=>?_);refine call (jQa w1) ?_;rintro _ w2 ⟨NA,nc,rfl,hE2,hN2⟩;have hE02:=hE1.trans hE2;refine aQl aQb [fQL ([102],T)] rfl rfl rfl rfl rfl ⟨rfl,rfl,⟨⟩⟩ rfl (fun cs h=>by simp only[List.mem_singleton] at h;subst h;rfl) rfl (by decide) (by decide) ?_;intro w3 hE3 hz3 hB3;have hE03:=hE02.trans hE3;have hF3:SlS fQL 2 w3 (some ⟨w2.heap.size,0,none⟩) 1 1 [([102],T)]:=⟨Sl.own (sz:=2) (n:=1) hB3 (Nat.le_refl _) (by decide) (by simp[fQL]),rfl⟩
 refine call (jQ4 nmP NA 3 nc [([102],T)] _ 1 1 [102] w3 (hN2.ext hE3) vQG (by decide) hF3 (fun x hx=>by
  simp only[List.mem_singleton] at hx;subst hx;exact⟨(show∀b∈ [102],b<256 by decide),hT,(show [102].length<=_ by decide),by simp only;omega⟩) (by decide) (by decide)) ?_
 rw[hr];rintro _ w4 ⟨hE4,hg,RA,rc,RL,rfl,hS4⟩;have hI4:SrcIn w4 3 RA rc g:=oQ0 (nm:=nmP) (by decide) hr hg hS4;have hE04:=hE03.trans hE4;refine new (fun w5 hE5 hz5 hB5=>?_);refine new (fun w6 hE6 hz6 hB6=>?_);refine aQc (hB5.ext hE6) rfl (sc rfl) (fun w7 hg7 _ hB7=>?_);have hM7:Mod (·=w4.heap.size) w6 w7:=zQE hg7 rfl;refine aQc (hB6.mod hM7 (by omega)) rfl (sc rfl) (fun w8 hg8 _ hB8=>?_);have hM8:Mod (·=w5.heap.size) w7 w8:=zQE hg8 rfl;have hB78:=hB7.mod hM8 (by omega);have hE48:Ext w4 w8:=hM8.ext (hM7.ext (hE5.trans hE6) (fun i hi=>by omega)) (fun i hi=>by omega);have hB18:=hB1.ext (hE2.trans (hE3.trans (hE4.trans hE48)));have z1:=hE2.size;have z2:=hE3.size;have z3:=hE4.size;refine aQm aQb (fun w'=>Mod (·=w.heap.size) w8 w') 6 [(true,0),(true,1),(true,2),(true,3),(false,4),(true,5)] (by kernel_rfl) (Mod.of_ext _ (Ext.drew w8)) ?_;refine aQw (vs:=[.string (aQh g.tx),.slice RA g.sg.length rc]) rfl (fun w' hw' k u hk=>by rw[(hB78.mod hw' (by omega)).cell];exact hk) ?_;refine aQy (v:=.int .i64 0) (fun w' hw'=>((hB8.mod hw' (by omega)).cell 0).trans rfl) ?_;refine aQc (hB18.ext (Ext.drew w8)) rfl (sc rfl) (fun w9 hg9 _ hB9=>?_);have hM9:Mod (·=w.heap.size) w8 w9:=(Mod.of_ext _ (Ext.drew w8)).trans (zQE hg9 rfl:Mod (·=w.heap.size) w8.drew w9) (fun i hi=>.inl hi);refine⟨hM9,?_⟩;have hE9:Ext w w9:=hM9.ext (hE1.trans (hE2.trans (hE3.trans (hE4.trans hE48)))) (fun i hi=>by omega);refine aQd hB9 rfl ?_;have hB18':Blk w8 w.heap.size 41 [.string ByteArray.empty,.slice none 0 0]:=hB18;exact⟨RA,rc,rfl,hE9,(hI4.ext hE48).modI hB18' (fun v hv k z e=>by subst e;simp at hv) hM9⟩
set_option maxHeartbeats 3200000 in
theorem weaves_law (x:RawV)(single:Bool)(w:World)(h:RawIn w x):Fn Tryz.prog 10 [.agg x.cells.toArray,.bool single] w (fun v w'=>v= .bool true/\Ext w w'):=by
 have hf8:=h.f8;obtain⟨T,e1,_,_,e4,e5,g,hr,hsel⟩:=wQL x.cls (x.txs.map (·.2.2.2)) (jQ8 x.fam) (hQ1 hf8) (fun c hc=>uQ8 hc) (nQ0 _);have hw:x.wov=fl nmP T:=e1;have hwl:=rQL hf8;have hT8:∀b∈unl x.wov,b<256:=nQX (gQL (nm:=nmP) (f:=fun c=>unl (x.cho c)) (P:=fun s=>∀b∈s,b<256) (M:=6) (fun v ng=>(tQX vQG vQH v ng).1) (by decide) (by decide) 3 0 (jQ8 x.fam) (hQ1 hf8) (fun c hc=>by
  rw[bQY (iQj x c)];obtain⟨a,b⟩:=fQi x.cls (x.txs.map (·.2.2.2)) c;exact⟨fun s hs=>(a s hs).1.b8,b⟩)).1
 rw[<-hw] at hr;refine aQf (c:={c10 with cuts:=[]}) aQb Tryz.func10 rfl rfl rfl ?_;refine new (fun w1 hE1 hz1 hB1=>?_);refine call (mQ8 w1) ?_;rintro _ w2 ⟨rfl,hE2⟩;have hE02:=hE1.trans hE2;have hB2:=hB1.ext hE2;have hd2:=Ext.drew w2;refine aQm aQb (Ext w2) 13 [(true,1),(true,2),(true,4),(true,5),(false,0),(false,3),(false,6),(false,7),(true,8),(true,9),(true,10),(true,11),(true,12)] (by kernel_rfl) hd2 ?_;refine aQy (v:=.int .u8 x.fam) (fun w' hw'=>((hB2.ext hw').cell 0).trans rfl) ?_;refine aQw (vs:=x.cells) rfl (fun w' hw' k u hk=>by rw[(hB2.ext hw').cell];exact hk) ?_;refine call (jQa w2.drew) ?_;rintro _ w3 ⟨NA,nc,rfl,hE3,hN3⟩;have hE23:=hd2.trans hE3;refine⟨hE23,?_⟩;refine call (kQw x.fam hf8 w3) ?_;rintro _ w4 ⟨DA,dn,dc,dnd,dr,rfl,hE4,hD4,sD,_⟩;have hE24:=hE23.trans hE4;refine⟨hE24,?_⟩;refine call (pQb x single w4 (h.ext (hE02.trans hE24))) ?_;rintro _ w5 ⟨PA,pc,Q,rfl,hE5,hQ5,hm5⟩;have hE25:=hE24.trans hE5;refine⟨hE25,?_⟩;refine call (pQc x hf8 Q _ ⟨DA,dn,dc,dnd,dr⟩ NA nc PA pc w5 ((hN3.ext hE4).ext hE5) (hD4.ext hE5) sD hQ5 hm5 (sQ6 x single)) ?_;rintro _ w6 ⟨rfl,hE6⟩;have hE26:=hE25.trans hE6;refine⟨hE26,?_⟩;refine call (rQM (unl x.wov) g w6 hT8 hwl hr) ?_;rintro _ w7 ⟨RA,rc,rfl,hE7,hI7⟩;refine new (fun w8 hE8 hz8 hB8=>?_);refine aQc hB8 rfl (sc rfl) (fun w9 hg9 _ hB9=>?_);have hE79:Ext w7 w9:=aQJ hE8 hB8 hg9;have hE29:=hE26.trans (hE7.trans hE79);have hE09:=hE02.trans hE29;have hI9:=hI7.ext hE79;refine bQB rfl ?_;refine aQN rfl ?_;refine loop aQb [10] (fun c:Nat=>[.int .u64 c]) (fun c w'=>Ext w9 w'/\c<=8) (fun c _=>8-c) 0 rfl ⟨Ext.refl _,Nat.zero_le _⟩ ?_;rintro c w10 ⟨hE10,hc⟩;have hE010:=hE09.trans hE10;refine aQq (fun c1=>?_) (fun c1=>?_)
 ·have c8:c<8:=by omega
  have hE210:=hE29.trans hE10;have hB10:=hB2.ext hE210;have hd10:=Ext.drew w10;refine aQm aQb (Ext w10) 14 [(true,0),(true,1),(true,3),(false,2),(false,4),(true,5),(true,6),(true,7),(true,9),(true,10),(false,8),(false,11),(true,12),(true,13)] (by kernel_rfl) hd10 ?_;refine aQy (v:=.int .u8 x.fam) (fun w' hw'=>((hB10.ext hw').cell 0).trans rfl) ?_;refine call (kQw x.fam hf8 w10.drew) ?_;rintro _ w11 ⟨DA',dn',dc',dnd',dr',rfl,hE11,hD11,sD',_⟩;have hE1011:=hd10.trans hE11;refine⟨hE1011,?_⟩;refine call (lQp DA' dn' dc' dnd' dr' c (by omega) w11 hD11 (sD'.chk (by omega))) ?_;rintro _ w12 ⟨rfl,hE12⟩;have hE1012:=hE1011.trans hE12;refine⟨hE1012,?_⟩;have hev:ev dnd' dr' (gQT c)=rQR x.fam c:=by
   rw[sD'.mean,lQW];exact kQv hf8 c8
  rw[hev];refine wif (fun hin=>?_) (fun hin=>?_)
  ·refine aQw (vs:=[.string (aQh g.tx),.slice RA g.sg.length rc]) rfl (fun w' hw' k u hk=>by rw[((hB9.ext hE10).ext hw').cell];exact hk) ?_;refine aQw (vs:=x.cells) rfl (fun w' hw' k u hk=>by rw[(hB10.ext hw').cell];exact hk) ?_;refine call (uQ1 (hI9.ext (hE10.trans hE1012)) c (by omega)) ?_;rintro _ w13 ⟨rfl,hE13⟩;have hE1013:=hE1012.trans hE13;refine⟨hE1013,?_⟩;refine call (iQi x c c8 w13 (h.ext (hE010.trans hE1013))) ?_;rintro _ w14 ⟨rfl,hE14⟩;have hE1014:=hE1013.trans hE14;refine⟨hE1014,?_⟩;have hcs:c∈jQ8 x.fam:=List.mem_filter.2 ⟨List.mem_range.2 c8,hin⟩;have hs:uQZ g.tx g.sg (gQT c)=unl (x.cho c):=by rw[lQW];exact hsel c hcs
   rw[hs];refine aQN (by simp) ?_;refine norm (m:=((c+1:Nat):Int)) (IntWalk.u64_in _ (by omega)) ?_;exact⟨c+1,rfl,⟨hE10.trans hE1014,by show c+1<=8;omega⟩,by show 8-(c+1)<8-c;omega⟩
  ·refine norm (m:=((c+1:Nat):Int)) (IntWalk.u64_in _ (by omega)) ?_;exact⟨c+1,rfl,⟨hE10.trans hE1012,by show c+1<=8;omega⟩,by show 8-(c+1)<8-c;omega⟩
 exact⟨rfl,hE010⟩
end
end Go.Proofs.YtjabbbcdgmlojaaGreatDoor
