/-
  What PPatchWeaves rests on, part 4 (wip/shake.py).
  Conditions: none.
-/
import Derived.Test.YtjabbbcdgmlojaaGreatDoorQPPatchWeavesc
set_option linter.all false
set_option linter.deprecated false
namespace Go.Proofs.YtjabbbcdgmlojaaGreatDoor
section
section
open Go Go.RowKit
structure FileB (x:List Nat×List Nat):Prop where
 n8:∀b∈x.1,b<256
 t8:∀b∈x.2,b<256
 nl:x.1.length<=9223372036854775807
 tl:x.2.length<=9223372036854775807
def plC (q:Pl):List Value:=[.int .i64 q.e,.int .i64 q.f,.int .i64 q.l]
def plO (o:Option Pl):Pl:=o.getD ⟨0,0,0⟩
def eQa (b:Nat):Bool:=decide (b<32)||b==34||b==127
theorem oQV (s:List Nat):dQ7 s=(decide (s≠ []) && !(s.any eQa)):=by
 unfold dQ7;congr 1;rw[List.any_eq_not_all_not,Bool.not_not];congr 1;funext b;unfold eQa;have e:decide (32<=b)= !decide (b<32):=by by_cases h:b<32<;>simp[h]<;>omega
 rw[e];by_cases h1:b=34<;>by_cases h2:b=127<;>by_cases h3:b<32<;>simp[h1,h2,h3,bne]
def kQy (x:List Nat×List Nat)(seen:List (List Nat)):Bool:=decide (x.1=[])||decide (x.1∈seen)||(decide (x.2≠ [])&&x.2.getLast? !=some 10)
theorem jQ1 (x:List Nat×List Nat)(seen:List (List Nat)):(kQy x seen||x.1.any eQa)=true↔¬(dQ7 x.1=true/\x.1∉seen/\eQC x.2=true):=by
 rw[oQV];unfold kQy eQC;by_cases h1:x.1=[]<;>by_cases h2:x.1∈seen<;>by_cases h3:x.2=[]<;>by_cases h4:x.2.getLast? =some 10<;>simp[h1,h2,h3,h4]
structure CkI (w0:World) (q:Nat) (fs:List (List Nat×List Nat)) (res:Option Pl) (i:Nat) (w:World):Prop where
 e:Ext w0 w
 mp:∃m,MapAt gQ2 w q m/\∀s:List Nat,(∀x∈s,x<256)->aQS (aQh s) m=if s∈(fs.take i).map (·.1)then some (.bool true)else none
 rs:fQg (fs.drop i) ((fs.take i).map (·.1)) i=res
 le:i<=fs.length
 qo:w0.heap.size<=q
theorem CkI.ext {w0 w w':World}{q:Nat}{fs:List (List Nat×List Nat)}{res:Option Pl}{i:Nat}(h:CkI w0 q fs res i w)(k:Ext w w'):CkI w0 q fs res i w':=⟨h.e.trans k,let ⟨m,h1,h2⟩:=h.mp;⟨m,h1.ext k,h2⟩,h.rs,h.le,h.qo⟩
set_option maxHeartbeats 800000 in
theorem jQ2 (fs:List (List Nat×List Nat))(FA:Option Addr)(nf cf:Nat)(w:World)(h:SlS fQL 2 w FA nf cf fs)(hb:∀x∈fs,FileB x)(hnf:nf<=1000000000000):
  Fn Tryz.prog 90 [.slice FA nf cf] w (fun u w'=>u= .agg (plC (plO (bQ6 fs))).toArray/\Ext w w'):=by
 have hlen:=h.2;refine aQf (c:={c90 with cuts:=[]}) aQb Tryz.func90 rfl rfl rfl ?_;refine new (fun w1 hE1 hz1 hB1=>?_);refine aQq (fun c1=>?_) (fun c1=>?_)
 ·refine aQc hB1 rfl (sc rfl) (fun w2 hg2 _ hB2=>?_);refine aQd hB2 rfl ?_;refine⟨?_,aQJ hE1 hB1 hg2⟩;unfold bQ6;rw[if_pos (by omega)];rfl
 have hfe:bQ6 fs=fQg fs [] 0:=by unfold bQ6;rw[if_neg (by omega)]
 refine dQD aQb gQ2 rfl (fun w2 hE2 hz2 hm2=>?_);have hE02:=hE1.trans hE2;refine loop aQb [15] (fun i:Nat=>[.int .i64 i]) (fun i w'=>CkI w1 w1.heap.size fs (bQ6 fs) i w') (fun i _=>fs.length-i) 0 rfl ⟨hE2,⟨[],hm2,fun s _=>by simp[aQS]⟩,by rw[hfe];rfl,Nat.zero_le _,Nat.le_refl _⟩ ?_;rintro i w3 hI;have hE03:Ext w w3:=hE1.trans hI.e;refine aQq (fun c2=>?_) (fun c2=>?_)
 ·have hi:i<nf:=by omega
  refine aQp jQT (h.ext hE03) rfl hi (fun pp x hx hc=>?_);refine aQK (vs:=fQL x) rfl hc ?_;refine new (fun w4 hE4 hz4 hB4=>?_);refine aQc hB4 rfl (sc rfl) (fun w5 hg5 _ hB5=>?_);have hE35:Ext w3 w5:=aQJ hE4 hB4 hg5;have hI5:=hI.ext hE35;obtain⟨m,hm5,hlk⟩:=hI5.mp;have hxb:=hb x (List.mem_of_getElem? hx);have hns:=aQj x.1;have hts:=aQj x.2;have hnl:=hxb.nl;refine aQe hB5 rfl ?_;by_cases p1:x.1=[]
  ·refine aQO (by rw[p1];rfl) ?_;refine aQe hB5 rfl ?_;have e0:kQy x ((fs.take i).map (·.1))=true:=by simp[kQy,p1]
   refine loop aQb [47,6] (fun s:Nat×Bool=>[.int .i64 s.1,.bool s.2]) (fun s w'=>Ext w5 w'/\s.1<=x.1.length/\s.2=(kQy x ((fs.take i).map (·.1))||(x.1.take s.1).any eQa)) (fun s _=>x.1.length-s.1) (0,true) rfl ⟨Ext.refl _,Nat.zero_le _,by rw[e0];simp⟩ ?_;rintro⟨k,b⟩ w6 ⟨hE56,hk,hbv⟩;simp only at hk hbv;have hI6:=hI5.ext hE56;have hB6:=hB5.ext hE56;refine aQq (fun c3=>?_) (fun c3=>?_)
   ·have hkl:k<x.1.length:=by rw[hns] at c3;simp only at c3;omega
    obtain⟨y,hy⟩:∃y,x.1[k]? =some y:=⟨_,List.getElem?_eq_getElem hkl⟩
    have hstep:(x.1.take (k+1)).any eQa=((x.1.take k).any eQa||eQa y):=by
     rw[List.take_add_one,hy];simp
    have fin:∀b',b'=(b||eQa y)->b'=(kQy x ((fs.take i).map (·.1))||(x.1.take (k+1)).any eQa):=fun b' e=>by rw[e,hbv,hstep,Bool.or_assoc]
    cases b with
    | true=>
     refine aQM rfl ?_;refine aQa ((k+1:Nat):Int) (by show((k:Nat):Int)+1=_;omega) (by omega) ?_;exact⟨(k+1,true),rfl,⟨hE56,hkl,fin true rfl⟩,by show x.1.length-(k+1)<x.1.length-k;omega⟩
    | false=>
     have idx:∀K:Int->Prop,K (y:Int)->dQA (aQh x.1) ((k:Nat):Int) K:=fun K hK=>by
      refine cQp (by rw[hns];exact hkl) (fun z hz _=>?_);rw[aQG hxb.n8,hy] at hz;cases hz;exact hK
     refine aQN rfl ?_;refine aQe hB6 rfl ?_;refine idx _ ?_;refine aQq (fun d1=>?_) (fun d1=>?_)
     ·refine aQa ((k+1:Nat):Int) (by show((k:Nat):Int)+1=_;omega) (by omega) ?_;exact⟨(k+1,true),rfl,⟨hE56,hkl,fin true (by
                                have:y<32:=by omega
                                simp[eQa,this])⟩,by show x.1.length-(k+1)<x.1.length-k;omega⟩
     refine aQe hB6 rfl ?_;refine idx _ ?_;refine aQP (fun d2=>?_) (fun d2=>?_)
     ·refine aQa ((k+1:Nat):Int) (by show((k:Nat):Int)+1=_;omega) (by omega) ?_;exact⟨(k+1,true),rfl,⟨hE56,hkl,fin true (by
                                have:y=34:=by omega
                                simp[eQa,this])⟩,by show x.1.length-(k+1)<x.1.length-k;omega⟩
     refine aQe hB6 rfl ?_;refine idx _ ?_;refine aQa ((k+1:Nat):Int) (by show((k:Nat):Int)+1=_;omega) (by omega) ?_;refine⟨(k+1,((y:Int)==127)),rfl,⟨hE56,hkl,fin _ ?_⟩,by show x.1.length-(k+1)<x.1.length-k;omega⟩;have n1:¬y<32:=by omega
     have n2:¬y=34:=by omega
     by_cases n3:y=127
     ·subst n3;rfl
     ·have:((y:Int)==127)=false:=by simp;omega
      rw[this];simp[eQa,n1,n2,n3]
   ·have hkl:k=x.1.length:=by rw[hns] at c3;simp only at c3;omega
    subst hkl;rw[List.take_length] at hbv;have hall:=jQ1 x ((fs.take i).map (·.1));have hdrop:fs.drop i=x::fs.drop (i+1):=by
     rw[List.drop_eq_getElem_cons (by omega)];congr 1;exact Option.some.inj ((List.getElem?_eq_getElem (by omega)).symm.trans hx)
    have hrs:=hI6.rs;rw[hdrop,fQg] at hrs;have hB16:=((hB1.ext hI.e).ext hE35).ext hE56;refine wif (fun d1=>?_) (fun d1=>?_)
    ·have d1:b=true:=d1;rw[if_pos (hall.1 (by rw[<-hbv,d1]))] at hrs;refine aQc hB16 rfl (sc rfl) (fun w7 hg7 _ hB7=>?_);refine aQd hB7 rfl ?_;have hM7:Mod (·=w.heap.size) w6 w7:=zQE hg7 rfl;exact⟨by rw[<-hrs];rfl,hM7.ext (hE1.trans hI6.e) (fun i hi=>by omega)⟩
    have d1:b=false:=d1;have hok:=fun hh=>(hall.2 hh).symm.trans (hbv.symm.trans d1)
    rw[if_neg (fun hh=>by have:=hok hh;cases this)] at hrs;refine aQe hB6 rfl ?_;refine aQq (fun d2=>?_) (fun d2=>?_)
    ·rw[if_pos (by omega)] at hrs;refine aQc hB16 rfl (sc rfl) (fun w7 hg7 _ hB7=>?_);refine aQd hB7 rfl ?_;have hM7:Mod (·=w.heap.size) w6 w7:=zQE hg7 rfl;exact⟨by rw[<-hrs];rfl,hM7.ext (hE1.trans hI6.e) (fun i hi=>by omega)⟩
    rw[if_neg (by omega)] at hrs;refine aQe hB6 rfl ?_;have hm6:=hm5.ext hE56;refine bQt (kv:=gQ2) (a:=aQh x.1) aQb rfl rfl rfl rfl rfl zQF rfl rfl rfl hm6 (fun w7 hg7 hz7 hm7=>?_);have hM7:Mod (·=w1.heap.size) w6 w7:=zQE hg7 rfl;refine aQa ((i+1:Nat):Int) (by show((i:Nat):Int)+1=_;omega) (by omega) ?_;have htk:(fs.take (i+1)).map (·.1)=(fs.take i).map (·.1)++ [x.1]:=by rw[List.take_add_one,hx];simp
    refine⟨i+1,rfl,⟨hM7.ext hI6.e (fun i hi=>by omega),⟨_,hm7,fun s hs=>?_⟩,by rw[htk];exact hrs,by omega,Nat.le_refl _⟩,by show fs.length-(i+1)<fs.length-i;omega⟩;rw[bQe,htk];by_cases hsx:s=x.1
    ·subst hsx;simp
    ·rw[if_neg (fun e=>hsx (aQD hs hxb.n8 e)),hlk s hs];simp[hsx]
  refine aQB (fun e=>p1 (aQD hxb.n8 (by simp) e)) ?_;refine aQe hB5 rfl ?_;refine gQg (kv:=gQ2) (a:=aQh x.1) (v:=.bool (decide (x.1∈(fs.take i).map (·.1)))) aQb rfl rfl rfl rfl rfl zQF rfl rfl hm5 (by
   rw[hlk x.1 hxb.n8];by_cases hm:x.1∈(fs.take i).map (·.1)
   ·rw[if_pos hm,decide_eq_true hm];rfl
   ·rw[if_neg hm,decide_eq_false hm];rfl) ?_
  by_cases p2:x.1∈(fs.take i).map (·.1)
  ·refine aQO p2 ?_;refine aQe hB5 rfl ?_;have e0:kQy x ((fs.take i).map (·.1))=true:=by unfold kQy;rw[decide_eq_true p2];simp
   refine loop aQb [47,6] (fun s:Nat×Bool=>[.int .i64 s.1,.bool s.2]) (fun s w'=>Ext w5 w'/\s.1<=x.1.length/\s.2=(kQy x ((fs.take i).map (·.1))||(x.1.take s.1).any eQa)) (fun s _=>x.1.length-s.1) (0,true) rfl ⟨Ext.refl _,Nat.zero_le _,by rw[e0];simp⟩ ?_;rintro⟨k,b⟩ w6 ⟨hE56,hk,hbv⟩;simp only at hk hbv;have hI6:=hI5.ext hE56;have hB6:=hB5.ext hE56;refine aQq (fun c3=>?_) (fun c3=>?_)
   ·have hkl:k<x.1.length:=by rw[hns] at c3;simp only at c3;omega
    obtain⟨y,hy⟩:∃y,x.1[k]? =some y:=⟨_,List.getElem?_eq_getElem hkl⟩
    have hstep:(x.1.take (k+1)).any eQa=((x.1.take k).any eQa||eQa y):=by
     rw[List.take_add_one,hy];simp
    have fin:∀b',b'=(b||eQa y)->b'=(kQy x ((fs.take i).map (·.1))||(x.1.take (k+1)).any eQa):=fun b' e=>by rw[e,hbv,hstep,Bool.or_assoc]
    cases b with
    | true=>
     refine aQM rfl ?_;refine aQa ((k+1:Nat):Int) (by show((k:Nat):Int)+1=_;omega) (by omega) ?_;exact⟨(k+1,true),rfl,⟨hE56,hkl,fin true rfl⟩,by show x.1.length-(k+1)<x.1.length-k;omega⟩
    | false=>
     have idx:∀K:Int->Prop,K (y:Int)->dQA (aQh x.1) ((k:Nat):Int) K:=fun K hK=>by
      refine cQp (by rw[hns];exact hkl) (fun z hz _=>?_);rw[aQG hxb.n8,hy] at hz;cases hz;exact hK
     refine aQN rfl ?_;refine aQe hB6 rfl ?_;refine idx _ ?_;refine aQq (fun d1=>?_) (fun d1=>?_)
     ·refine aQa ((k+1:Nat):Int) (by show((k:Nat):Int)+1=_;omega) (by omega) ?_;exact⟨(k+1,true),rfl,⟨hE56,hkl,fin true (by
                                have:y<32:=by omega
                                simp[eQa,this])⟩,by show x.1.length-(k+1)<x.1.length-k;omega⟩
     refine aQe hB6 rfl ?_;refine idx _ ?_;refine aQP (fun d2=>?_) (fun d2=>?_)
     ·refine aQa ((k+1:Nat):Int) (by show((k:Nat):Int)+1=_;omega) (by omega) ?_;exact⟨(k+1,true),rfl,⟨hE56,hkl,fin true (by
                                have:y=34:=by omega
                                simp[eQa,this])⟩,by show x.1.length-(k+1)<x.1.length-k;omega⟩
     refine aQe hB6 rfl ?_;refine idx _ ?_;refine aQa ((k+1:Nat):Int) (by show((k:Nat):Int)+1=_;omega) (by omega) ?_;refine⟨(k+1,((y:Int)==127)),rfl,⟨hE56,hkl,fin _ ?_⟩,by show x.1.length-(k+1)<x.1.length-k;omega⟩;have n1:¬y<32:=by omega
     have n2:¬y=34:=by omega
     by_cases n3:y=127
     ·subst n3;rfl
     ·have:((y:Int)==127)=false:=by simp;omega
      rw[this];simp[eQa,n1,n2,n3]
   ·have hkl:k=x.1.length:=by rw[hns] at c3;simp only at c3;omega
    subst hkl;rw[List.take_length] at hbv;have hall:=jQ1 x ((fs.take i).map (·.1));have hdrop:fs.drop i=x::fs.drop (i+1):=by
     rw[List.drop_eq_getElem_cons (by omega)];congr 1;exact Option.some.inj ((List.getElem?_eq_getElem (by omega)).symm.trans hx)
    have hrs:=hI6.rs;rw[hdrop,fQg] at hrs;have hB16:=((hB1.ext hI.e).ext hE35).ext hE56;refine wif (fun d1=>?_) (fun d1=>?_)
    ·have d1:b=true:=d1;rw[if_pos (hall.1 (by rw[<-hbv,d1]))] at hrs;refine aQc hB16 rfl (sc rfl) (fun w7 hg7 _ hB7=>?_);refine aQd hB7 rfl ?_;have hM7:Mod (·=w.heap.size) w6 w7:=zQE hg7 rfl;exact⟨by rw[<-hrs];rfl,hM7.ext (hE1.trans hI6.e) (fun i hi=>by omega)⟩
    have d1:b=false:=d1;have hok:=fun hh=>(hall.2 hh).symm.trans (hbv.symm.trans d1)
    rw[if_neg (fun hh=>by have:=hok hh;cases this)] at hrs;refine aQe hB6 rfl ?_;refine aQq (fun d2=>?_) (fun d2=>?_)
    ·rw[if_pos (by omega)] at hrs;refine aQc hB16 rfl (sc rfl) (fun w7 hg7 _ hB7=>?_);refine aQd hB7 rfl ?_;have hM7:Mod (·=w.heap.size) w6 w7:=zQE hg7 rfl;exact⟨by rw[<-hrs];rfl,hM7.ext (hE1.trans hI6.e) (fun i hi=>by omega)⟩
    rw[if_neg (by omega)] at hrs;refine aQe hB6 rfl ?_;have hm6:=hm5.ext hE56;refine bQt (kv:=gQ2) (a:=aQh x.1) aQb rfl rfl rfl rfl rfl zQF rfl rfl rfl hm6 (fun w7 hg7 hz7 hm7=>?_);have hM7:Mod (·=w1.heap.size) w6 w7:=zQE hg7 rfl;refine aQa ((i+1:Nat):Int) (by show((i:Nat):Int)+1=_;omega) (by omega) ?_;have htk:(fs.take (i+1)).map (·.1)=(fs.take i).map (·.1)++ [x.1]:=by rw[List.take_add_one,hx];simp
    refine⟨i+1,rfl,⟨hM7.ext hI6.e (fun i hi=>by omega),⟨_,hm7,fun s hs=>?_⟩,by rw[htk];exact hrs,by omega,Nat.le_refl _⟩,by show fs.length-(i+1)<fs.length-i;omega⟩;rw[bQe,htk];by_cases hsx:s=x.1
    ·subst hsx;simp
    ·rw[if_neg (fun e=>hsx (aQD hs hxb.n8 e)),hlk s hs];simp[hsx]
  refine aQB p2 ?_;refine aQe hB5 rfl ?_;by_cases p3:x.2=[]
  ·refine aQN (by rw[p3];rfl) ?_;refine aQe hB5 rfl ?_;have e0:kQy x ((fs.take i).map (·.1))=false:=by unfold kQy;rw[decide_eq_false p1,decide_eq_false p2,p3];rfl
   refine loop aQb [47,6] (fun s:Nat×Bool=>[.int .i64 s.1,.bool s.2]) (fun s w'=>Ext w5 w'/\s.1<=x.1.length/\s.2=(kQy x ((fs.take i).map (·.1))||(x.1.take s.1).any eQa)) (fun s _=>x.1.length-s.1) (0,false) rfl ⟨Ext.refl _,Nat.zero_le _,by rw[e0];simp⟩ ?_;rintro⟨k,b⟩ w6 ⟨hE56,hk,hbv⟩;simp only at hk hbv;have hI6:=hI5.ext hE56;have hB6:=hB5.ext hE56;refine aQq (fun c3=>?_) (fun c3=>?_)
   ·have hkl:k<x.1.length:=by rw[hns] at c3;simp only at c3;omega
    obtain⟨y,hy⟩:∃y,x.1[k]? =some y:=⟨_,List.getElem?_eq_getElem hkl⟩
    have hstep:(x.1.take (k+1)).any eQa=((x.1.take k).any eQa||eQa y):=by
     rw[List.take_add_one,hy];simp
    have fin:∀b',b'=(b||eQa y)->b'=(kQy x ((fs.take i).map (·.1))||(x.1.take (k+1)).any eQa):=fun b' e=>by rw[e,hbv,hstep,Bool.or_assoc]
    cases b with
    | true=>
     refine aQM rfl ?_;refine aQa ((k+1:Nat):Int) (by show((k:Nat):Int)+1=_;omega) (by omega) ?_;exact⟨(k+1,true),rfl,⟨hE56,hkl,fin true rfl⟩,by show x.1.length-(k+1)<x.1.length-k;omega⟩
    | false=>
     have idx:∀K:Int->Prop,K (y:Int)->dQA (aQh x.1) ((k:Nat):Int) K:=fun K hK=>by
      refine cQp (by rw[hns];exact hkl) (fun z hz _=>?_);rw[aQG hxb.n8,hy] at hz;cases hz;exact hK
     refine aQN rfl ?_;refine aQe hB6 rfl ?_;refine idx _ ?_;refine aQq (fun d1=>?_) (fun d1=>?_)
     ·refine aQa ((k+1:Nat):Int) (by show((k:Nat):Int)+1=_;omega) (by omega) ?_;exact⟨(k+1,true),rfl,⟨hE56,hkl,fin true (by
                                have:y<32:=by omega
                                simp[eQa,this])⟩,by show x.1.length-(k+1)<x.1.length-k;omega⟩
     refine aQe hB6 rfl ?_;refine idx _ ?_;refine aQP (fun d2=>?_) (fun d2=>?_)
     ·refine aQa ((k+1:Nat):Int) (by show((k:Nat):Int)+1=_;omega) (by omega) ?_;exact⟨(k+1,true),rfl,⟨hE56,hkl,fin true (by
                                have:y=34:=by omega
                                simp[eQa,this])⟩,by show x.1.length-(k+1)<x.1.length-k;omega⟩
     refine aQe hB6 rfl ?_;refine idx _ ?_;refine aQa ((k+1:Nat):Int) (by show((k:Nat):Int)+1=_;omega) (by omega) ?_;refine⟨(k+1,((y:Int)==127)),rfl,⟨hE56,hkl,fin _ ?_⟩,by show x.1.length-(k+1)<x.1.length-k;omega⟩;have n1:¬y<32:=by omega
     have n2:¬y=34:=by omega
     by_cases n3:y=127
     ·subst n3;rfl
     ·have:((y:Int)==127)=false:=by simp;omega
      rw[this];simp[eQa,n1,n2,n3]
   ·have hkl:k=x.1.length:=by rw[hns] at c3;simp only at c3;omega
    subst hkl;rw[List.take_length] at hbv;have hall:=jQ1 x ((fs.take i).map (·.1));have hdrop:fs.drop i=x::fs.drop (i+1):=by
     rw[List.drop_eq_getElem_cons (by omega)];congr 1;exact Option.some.inj ((List.getElem?_eq_getElem (by omega)).symm.trans hx)
    have hrs:=hI6.rs;rw[hdrop,fQg] at hrs;have hB16:=((hB1.ext hI.e).ext hE35).ext hE56;refine wif (fun d1=>?_) (fun d1=>?_)
    ·have d1:b=true:=d1;rw[if_pos (hall.1 (by rw[<-hbv,d1]))] at hrs;refine aQc hB16 rfl (sc rfl) (fun w7 hg7 _ hB7=>?_);refine aQd hB7 rfl ?_;have hM7:Mod (·=w.heap.size) w6 w7:=zQE hg7 rfl;exact⟨by rw[<-hrs];rfl,hM7.ext (hE1.trans hI6.e) (fun i hi=>by omega)⟩
    have d1:b=false:=d1;have hok:=fun hh=>(hall.2 hh).symm.trans (hbv.symm.trans d1)
    rw[if_neg (fun hh=>by have:=hok hh;cases this)] at hrs;refine aQe hB6 rfl ?_;refine aQq (fun d2=>?_) (fun d2=>?_)
    ·rw[if_pos (by omega)] at hrs;refine aQc hB16 rfl (sc rfl) (fun w7 hg7 _ hB7=>?_);refine aQd hB7 rfl ?_;have hM7:Mod (·=w.heap.size) w6 w7:=zQE hg7 rfl;exact⟨by rw[<-hrs];rfl,hM7.ext (hE1.trans hI6.e) (fun i hi=>by omega)⟩
    rw[if_neg (by omega)] at hrs;refine aQe hB6 rfl ?_;have hm6:=hm5.ext hE56;refine bQt (kv:=gQ2) (a:=aQh x.1) aQb rfl rfl rfl rfl rfl zQF rfl rfl rfl hm6 (fun w7 hg7 hz7 hm7=>?_);have hM7:Mod (·=w1.heap.size) w6 w7:=zQE hg7 rfl;refine aQa ((i+1:Nat):Int) (by show((i:Nat):Int)+1=_;omega) (by omega) ?_;have htk:(fs.take (i+1)).map (·.1)=(fs.take i).map (·.1)++ [x.1]:=by rw[List.take_add_one,hx];simp
    refine⟨i+1,rfl,⟨hM7.ext hI6.e (fun i hi=>by omega),⟨_,hm7,fun s hs=>?_⟩,by rw[htk];exact hrs,by omega,Nat.le_refl _⟩,by show fs.length-(i+1)<fs.length-i;omega⟩;rw[bQe,htk];by_cases hsx:s=x.1
    ·subst hsx;simp
    ·rw[if_neg (fun e=>hsx (aQD hs hxb.n8 e)),hlk s hs];simp[hsx]
  ·have n3:¬aQh x.2=(⟨#[]⟩:ByteArray):=fun e=>p3 (aQD hxb.t8 (by simp) e)
   refine aQM (by simp[n3]) ?_;refine aQe hB5 rfl ?_;refine aQe hB5 rfl ?_;have htl:=hxb.tl;have hpos:0<x.2.length:=List.length_pos_iff.2 p3;refine aQa ((x.2.length-1:Nat):Int) (by rw[hts];omega) (by omega) ?_;refine cQp (j:=x.2.length-1) (by omega) (fun z hz hz8=>?_);rw[aQG hxb.t8] at hz;have hlast:x.2.getLast? =some z:=by rw[List.getLast?_eq_getElem?];exact hz
   refine aQe hB5 rfl ?_;have e0:kQy x ((fs.take i).map (·.1))=((z:Int) !=10):=by
    unfold kQy;rw[decide_eq_false p1,decide_eq_false p2,decide_eq_true p3,hlast];by_cases h10:z=10
    ·subst h10;decide
    ·have e1:((z:Int) !=10)=true:=by simp;omega
     rw[e1];simp[h10]
   refine loop aQb [47,6] (fun s:Nat×Bool=>[.int .i64 s.1,.bool s.2]) (fun s w'=>Ext w5 w'/\s.1<=x.1.length/\s.2=(kQy x ((fs.take i).map (·.1))||(x.1.take s.1).any eQa)) (fun s _=>x.1.length-s.1) (0,((z:Int) !=10)) rfl ⟨Ext.refl _,Nat.zero_le _,by rw[e0];simp⟩ ?_;rintro⟨k,b⟩ w6 ⟨hE56,hk,hbv⟩;simp only at hk hbv;have hI6:=hI5.ext hE56;have hB6:=hB5.ext hE56;refine aQq (fun c3=>?_) (fun c3=>?_)
   ·have hkl:k<x.1.length:=by rw[hns] at c3;simp only at c3;omega
    obtain⟨y,hy⟩:∃y,x.1[k]? =some y:=⟨_,List.getElem?_eq_getElem hkl⟩
    have hstep:(x.1.take (k+1)).any eQa=((x.1.take k).any eQa||eQa y):=by
     rw[List.take_add_one,hy];simp
    have fin:∀b',b'=(b||eQa y)->b'=(kQy x ((fs.take i).map (·.1))||(x.1.take (k+1)).any eQa):=fun b' e=>by rw[e,hbv,hstep,Bool.or_assoc]
    cases b with
    | true=>
     refine aQM rfl ?_;refine aQa ((k+1:Nat):Int) (by show((k:Nat):Int)+1=_;omega) (by omega) ?_;exact⟨(k+1,true),rfl,⟨hE56,hkl,fin true rfl⟩,by show x.1.length-(k+1)<x.1.length-k;omega⟩
    | false=>
     have idx:∀K:Int->Prop,K (y:Int)->dQA (aQh x.1) ((k:Nat):Int) K:=fun K hK=>by
      refine cQp (by rw[hns];exact hkl) (fun z hz _=>?_);rw[aQG hxb.n8,hy] at hz;cases hz;exact hK
     refine aQN rfl ?_;refine aQe hB6 rfl ?_;refine idx _ ?_;refine aQq (fun d1=>?_) (fun d1=>?_)
     ·refine aQa ((k+1:Nat):Int) (by show((k:Nat):Int)+1=_;omega) (by omega) ?_;exact⟨(k+1,true),rfl,⟨hE56,hkl,fin true (by
                                have:y<32:=by omega
                                simp[eQa,this])⟩,by show x.1.length-(k+1)<x.1.length-k;omega⟩
     refine aQe hB6 rfl ?_;refine idx _ ?_;refine aQP (fun d2=>?_) (fun d2=>?_)
     ·refine aQa ((k+1:Nat):Int) (by show((k:Nat):Int)+1=_;omega) (by omega) ?_;exact⟨(k+1,true),rfl,⟨hE56,hkl,fin true (by
                                have:y=34:=by omega
                                simp[eQa,this])⟩,by show x.1.length-(k+1)<x.1.length-k;omega⟩
     refine aQe hB6 rfl ?_;refine idx _ ?_;refine aQa ((k+1:Nat):Int) (by show((k:Nat):Int)+1=_;omega) (by omega) ?_;refine⟨(k+1,((y:Int)==127)),rfl,⟨hE56,hkl,fin _ ?_⟩,by show x.1.length-(k+1)<x.1.length-k;omega⟩;have n1:¬y<32:=by omega
     have n2:¬y=34:=by omega
     by_cases n3:y=127
     ·subst n3;rfl
     ·have:((y:Int)==127)=false:=by simp;omega
      rw[this];simp[eQa,n1,n2,n3]
   ·have hkl:k=x.1.length:=by rw[hns] at c3;simp only at c3;omega
    subst hkl;rw[List.take_length] at hbv;have hall:=jQ1 x ((fs.take i).map (·.1));have hdrop:fs.drop i=x::fs.drop (i+1):=by
     rw[List.drop_eq_getElem_cons (by omega)];congr 1;exact Option.some.inj ((List.getElem?_eq_getElem (by omega)).symm.trans hx)
    have hrs:=hI6.rs;rw[hdrop,fQg] at hrs;have hB16:=((hB1.ext hI.e).ext hE35).ext hE56;refine wif (fun d1=>?_) (fun d1=>?_)
    ·have d1:b=true:=d1;rw[if_pos (hall.1 (by rw[<-hbv,d1]))] at hrs;refine aQc hB16 rfl (sc rfl) (fun w7 hg7 _ hB7=>?_);refine aQd hB7 rfl ?_;have hM7:Mod (·=w.heap.size) w6 w7:=zQE hg7 rfl;exact⟨by rw[<-hrs];rfl,hM7.ext (hE1.trans hI6.e) (fun i hi=>by omega)⟩
    have d1:b=false:=d1;have hok:=fun hh=>(hall.2 hh).symm.trans (hbv.symm.trans d1)
    rw[if_neg (fun hh=>by have:=hok hh;cases this)] at hrs;refine aQe hB6 rfl ?_;refine aQq (fun d2=>?_) (fun d2=>?_)
    ·rw[if_pos (by omega)] at hrs;refine aQc hB16 rfl (sc rfl) (fun w7 hg7 _ hB7=>?_);refine aQd hB7 rfl ?_;have hM7:Mod (·=w.heap.size) w6 w7:=zQE hg7 rfl;exact⟨by rw[<-hrs];rfl,hM7.ext (hE1.trans hI6.e) (fun i hi=>by omega)⟩
    rw[if_neg (by omega)] at hrs;refine aQe hB6 rfl ?_;have hm6:=hm5.ext hE56;refine bQt (kv:=gQ2) (a:=aQh x.1) aQb rfl rfl rfl rfl rfl zQF rfl rfl rfl hm6 (fun w7 hg7 hz7 hm7=>?_);have hM7:Mod (·=w1.heap.size) w6 w7:=zQE hg7 rfl;refine aQa ((i+1:Nat):Int) (by show((i:Nat):Int)+1=_;omega) (by omega) ?_;have htk:(fs.take (i+1)).map (·.1)=(fs.take i).map (·.1)++ [x.1]:=by rw[List.take_add_one,hx];simp
    refine⟨i+1,rfl,⟨hM7.ext hI6.e (fun i hi=>by omega),⟨_,hm7,fun s hs=>?_⟩,by rw[htk];exact hrs,by omega,Nat.le_refl _⟩,by show fs.length-(i+1)<fs.length-i;omega⟩;rw[bQe,htk];by_cases hsx:s=x.1
    ·subst hsx;simp
    ·rw[if_neg (fun e=>hsx (aQD hs hxb.n8 e)),hlk s hs];simp[hsx]
 ·have hi:i=fs.length:=by have:=hI.le;omega
  have hrs:=hI.rs;rw[hi,List.drop_length,fQg] at hrs;refine aQc (hB1.ext hI.e) rfl (sc rfl) (fun w4 hg4 _ hB4=>?_);refine aQd hB4 rfl ?_;have hM4:Mod (·=w.heap.size) w3 w4:=zQE hg4 rfl;exact⟨by rw[<-hrs];rfl,hM4.ext hE03 (fun i hi=>by omega)⟩
end
section
open Go Go.RowKit
theorem bQO {P:Program}{ops:Array Oper}{rest:List Nat}{i:Nat}{o:Oper}{Q:Exit->Act->List Frame->World->Prop}{a:Act}{cs cs':List Frame}{w:World}{v:Value}{d:Nat}(hi:ops[i]? =some o)(h1:o.op= .call ⟨.builtin .recover, #[], #[]⟩)(hd:o.dst=some d)(hg:o.guard=none)
  (hrec:recoverD cs=some (v,cs')∨(recoverD cs=none/\v= .nilIface/\cs'=cs)) (h:wpOpsS P ops Q rest (a.put (some d) v) cs' w):wpOpsS P ops Q (i::rest) a cs w:=by
 have e1:(execOp a.eval o).run P w= .ok .recover w:=by
  simp only[execOp,h1,resolve,invoke,builtin];simp
 unfold wpOpsS;rw[hi];simp only;rw[if_pos (by simp[Region.wanted,hg]),e1,hd];rcases hrec with hr | ⟨hr,rfl,rfl⟩
 ·simp only[hr];exact h
 ·simp only[hr];exact h
theorem aQr {c:Cx}(hg:c.g.Ok){P:Program}(hP:c.g.P=P){ops:Array Oper}{rest:List Nat}{i:Nat}{o:Oper}{Q:Exit->Act->List Frame->World->Prop}{a:Act}{cs:List Frame}{w:World}{S:Env}{K:Env->World->Prop}(hi:ops[i]? =some o)(hgd:o.guard=none)(hf:Fits c.N S a)
  (h:fQ3 c o S w K (fun _ _ _=>False)) (hk:∀S' a' w',Fits c.N S' a'->K S' w'->wpOpsS P ops Q rest a' cs w'):wpOpsS P ops Q (i::rest) a cs w:=by
 subst hP;have h1:=cQC hg h hf;unfold wpOpsS;rw[hi];simp only;rw[if_pos (by simp[Region.wanted,hgd])];have h2:=Oper.wp_mono (K':=fun a' w'=>wpOpsS c.g.P ops Q rest a' cs w') (fun a' w' ⟨S',hf',hK⟩=>hk _ _ _ hf' hK) h1;unfold Oper.wp at h2;generalize (execOp a.eval o).run c.g.P w=r at*;cases r with
 | ok n w'=>
  cases n<;>simp only[Oper.upon] at h2 ⊢ <;> first | exact h2 | exact h2.elim | skip
  exact h2.mono fun e w'' he=>by
   cases e with
   | returned v=>exact he
   | panicked ch=>obtain⟨_,_,he⟩:=he;exact he.elim
   | outgrown=>obtain⟨_,_,_,_,he⟩:=he;exact he.elim
 | halt x w'=>cases x<;>simp only[Oper.upon] at h2 ⊢ <;> first | exact h2 | (obtain⟨_,_,h2⟩:=h2;exact h2.elim) | (obtain⟨_,_,_,_,h2⟩:=h2;exact h2.elim)
theorem lQn {c:Cx}{o:Oper}{S:Env}{w:World}{K:Env->World->Prop}{Q:cQB}{x:Operand}{tx t:Nat}{fs:Array Field}{v:Value}{r:TyRow}(hg:c.g.Ok)(ho:o.op= .typeAssert x tx t true)(hr:aQA c.g.tys t=some r)(hd:r.d= .struct fs)(hx:S.ev x=some (.iface t v))
  (kk:bQq c S o.dst (.v (.tuple #[v,.bool true])) (fun S=>K S w)):cQv c o S w K Q:=by
 have hr':=(hg.row hr).1;rw[hd] at hr';refine aQ9 (w':=w) (v:=.tuple #[v,.bool true]) (fun a hf=>?_) kk;have e1:=hf.ev hx;simp only[execOp,ho,e1];simp[Instr.typeAssert,run_underlying hr']
theorem jQ3 {c:Cx}{o:Oper}{S:Env}{w:World}{K:Env->World->Prop}{Q:cQB}{x:Operand}{tx t:Nat}{fs:Array Field}{r:TyRow}(hg:c.g.Ok)(ho:o.op= .typeAssert x tx t true)(hr:aQA c.g.tys t=some r)(hd:r.d= .struct fs)(hx:S.ev x=some .nilIface)
  (kk:bQq c S o.dst (.v (.tuple #[r.z,.bool false])) (fun S=>K S w)):cQv c o S w K Q:=by
 obtain⟨hr',i,hi,_,_,hz⟩:=hg.row hr;rw[hd] at hr';refine aQ9 (w':=w) (v:=.tuple #[r.z,.bool false]) (fun a hf=>?_) kk;have e1:=hf.ev hx;simp only[execOp,ho,e1];simp[Instr.typeAssert,run_underlying hr',zeroValue,typeInfo,hi,hz]
def xQw (f e:Nat)(q:Pl)(w w':World):Prop:=Blk w' f 41 [.string (aQh []),.slice none 0 0]/\Blk w' e 93 (plC q)/\Mod (fun i=>i=f∨i=e) w w'
theorem uQR (f e:Nat)(q:Pl)(w:World)(cs1 cs2:List Value)(hl1:cs1.length=2)(hl2:cs2.length=3)(hne:f≠e)(hf:Blk w f 41 cs1)(he:Blk w e 93 cs2):
  CallsD Tryz.prog 91 #[.pointer (some ⟨f,0,none⟩),.pointer (some ⟨e,0,none⟩)] (.panicking (cQP q.e q.f q.l)) w
   (fun en u' w'=>∃v,en= .returned v/\settle u'= .returning/\xQw f e q w w'):=by
 refine callsD_of_wpS Tryz.func91 rfl fun c₀ cs hu=>?_
 have hfit:=bQK (N:=Tryz.f91.ntmps) [.pointer (some ⟨f,0,none⟩),.pointer (some ⟨e,0,none⟩)] (Nat.le_of_ble_eq_true rfl) [(0,.v (.pointer (some ⟨f,0,none⟩))),(1,.v (.pointer (some ⟨e,0,none⟩)))] (by
  intro k x hk
  match k,hk with
  | 0,hk=>cases hk;rfl
  | 1,hk=>cases hk;rfl
  | k+2,hk=>exact nomatch (show(none:Option Ent)=some x from hk))
 have hf5:=hfit.put (d:=5) (by decide) (.v (.iface 160 (.agg #[.int .i64 q.e,.int .i64 q.f,.int .i64 q.l])));refine wpS_seq (wpS_region ?_);show wpOpsS _ _ _ [0,1,2,3,4,5,6,7] _ _ _;refine bQO (o:=_) (cs':={c₀ with mode:=.panicking [{v:=.iface 160 (.agg #[.int .i64 q.e,.int .i64 q.f,.int .i64 q.l]),recovered:=true}]}::cs) (v:=.iface 160 (.agg #[.int .i64 q.e,.int .i64 q.f,.int .i64 q.l])) (d:=5) rfl rfl rfl rfl (.inl (by simp[recoverD,hu,cQP])) ?_;generalize hact:Act.put _ (some 5) _=act;have hf5':Fits c91.N [(5,.v (.iface 160 (.agg #[.int .i64 q.e,.int .i64 q.f,.int .i64 q.l]))),(0,.v (.pointer (some ⟨f,0,none⟩))),(1,.v (.pointer (some ⟨e,0,none⟩)))] act:=by rw[<-hact];exact hf5
 clear hact hf5 hfit;generalize hops: #[_,_,_,_,_,_,_,_]=ops0;have h1:=(congrArg (fun(x:Array Oper)=>x[1]?) hops).symm;have h2:=(congrArg (fun(x:Array Oper)=>x[2]?) hops).symm;have h3:=(congrArg (fun(x:Array Oper)=>x[3]?) hops).symm;have h4:=(congrArg (fun(x:Array Oper)=>x[4]?) hops).symm;have h5:=(congrArg (fun(x:Array Oper)=>x[5]?) hops).symm;have h6:=(congrArg (fun(x:Array Oper)=>x[6]?) hops).symm;have h7:=(congrArg (fun(x:Array Oper)=>x[7]?) hops).symm;clear hops;refine aQr (c:=c91) aQb rfl h1 rfl hf5' (K:=fun S' w'=>S'=[(6,Ent.v (.tuple #[.agg #[.int .i64 q.e,.int .i64 q.f,.int .i64 q.l],.bool true])),(5,.v (.iface 160 (.agg #[.int .i64 q.e,.int .i64 q.f,.int .i64 q.l]))),(0,.v (.pointer (some ⟨f,0,none⟩))),(1,.v (.pointer (some ⟨e,0,none⟩)))]/\w=w') (lQn aQb rfl rfl rfl rfl ⟨rfl,rfl⟩) ?_;rintro _ a1 _ hf1 ⟨rfl,rfl⟩;refine aQr (c:=c91) aQb rfl h2 rfl hf1 (K:=fun S' w'=>S'=_/\w=w') ⟨rfl,rfl⟩ ?_;rintro _ a2 _ hf2 ⟨rfl,rfl⟩;refine aQr (c:=c91) aQb rfl h3 rfl hf2 (K:=fun S' w'=>S'=_/\w=w') ⟨rfl,rfl⟩ ?_;rintro _ a3 _ hf3 ⟨rfl,rfl⟩;refine aQr (c:=c91) aQb rfl h4 rfl hf3 (K:=fun S' w'=>S'=_/\w=w') ⟨rfl,rfl⟩ ?_;rintro _ a4 _ hf4 ⟨rfl,rfl⟩;refine aQr (c:=c91) aQb rfl h5 rfl hf4 (K:=fun S' w'=>S'=(2,.v (.pointer (some ⟨w.heap.size,0,none⟩)))::_/\Ext w w'/\w'.heap.size=w.heap.size+1/\∃ps:List Value,Blk w' w.heap.size 160 ps/\ps.length=3) (new (fun w1 hE1 hz1 hB1=>⟨rfl,hE1,hz1,_,hB1,rfl⟩)) ?_;rintro _ a5 w5 hf5 ⟨rfl,hE5,hz5,ps,hB5,hps⟩;refine aQr (c:=c91) aQb rfl h6 rfl hf5 (K:=fun S' w'=>S'=_/\Ext w w'/\w.heap.size+1<=w'.heap.size/\Blk w' w.heap.size 160 (plC q)) (aQc hB5 (by rw[hps];rfl) (sc rfl) (fun w6 hg6 hz6 hB6=>⟨rfl,aQJ hE5 hB5 hg6,by omega,hB6⟩)) ?_;rintro _ a6 w6 hf6 ⟨rfl,hE6,hz6,hB6⟩;refine aQr (c:=c91) aQb rfl h7 rfl hf6 (K:=fun S' w'=>S'=_/\w6=w') ⟨rfl,rfl⟩ ?_;rintro _ a7 _ hf7 ⟨rfl,rfl⟩;unfold wpOpsS;refine dQi (c:=c91) aQb rfl hf7 ?_;refine aQM rfl ?_;have nf:f≠w.heap.size:=fun e=>by have:=hf.lt;omega
 have ne:e≠w.heap.size:=fun e=>by have:=he.lt;omega
 have hf6':=hf.ext hE6;have he6':=he.ext hE6;refine aQm aQb (fun w'=>Mod (fun i=>i=f∨i=e) w6 w') 5 [(true,0),(true,1),(true,2),(false,3),(false,4)] (by kernel_rfl) (Mod.of_ext _ (Ext.drew w6)) ?_;refine aQw (vs:=plC q) rfl (fun w' hw' j u hj=>by rw[add_add,(hB6.mod hw' (fun hh=>hh.elim (fun e=>nf e.symm) (fun e=>ne e.symm))).cell];simpa using hj) ?_;have hd:=Ext.drew w6;refine aQc (hf6'.ext hd) (by rw[hl1];rfl) (sc rfl) (fun w8 hg8 _ hB8=>?_);have hM8:Mod (·=f) w6.drew w8:=zQE hg8 rfl;have hM8':Mod (fun i=>i=f∨i=e) w6 w8:=(Mod.of_ext _ hd).trans hM8 (fun i hi=>.inl (.inl hi));refine⟨hM8',?_⟩;refine aQc ((he6'.ext hd).mod hM8 (fun hh=>hne hh.symm)) (by rw[hl2];rfl) (sc rfl) (fun w9 hg9 _ hB9=>?_);have hM9:Mod (·=e) w8 w9:=zQE hg9 rfl;have hM9':Mod (fun i=>i=f∨i=e) w6 w9:=hM8'.trans hM9 (fun i hi=>.inl (.inr hi));refine⟨hM9',?_⟩;exact⟨_,rfl,rfl,hB8.mod hM9 hne,hB9,(Mod.of_ext _ hE6).trans hM9' (fun i hi=>.inl hi)⟩
theorem mQL (f e:Nat)(w:World):
  CallsD Tryz.prog 91 #[.pointer (some ⟨f,0,none⟩),.pointer (some ⟨e,0,none⟩)] .returning w
   (fun en u' w'=>∃v,en= .returned v/\settle u'= .returning/\Ext w w'):=by
 refine callsD_of_wpS Tryz.func91 rfl fun c₀ cs hu=>?_
 have hfit:=bQK (N:=Tryz.f91.ntmps) [.pointer (some ⟨f,0,none⟩),.pointer (some ⟨e,0,none⟩)] (Nat.le_of_ble_eq_true rfl) [(0,.v (.pointer (some ⟨f,0,none⟩))),(1,.v (.pointer (some ⟨e,0,none⟩)))] (by
  intro k x hk
  match k,hk with
  | 0,hk=>cases hk;rfl
  | 1,hk=>cases hk;rfl
  | k+2,hk=>exact nomatch (show(none:Option Ent)=some x from hk))
 have hf5:=hfit.put (d:=5) (by decide) (.v .nilIface);refine wpS_seq (wpS_region ?_);show wpOpsS _ _ _ [0,1,2,3,4,5,6,7] _ _ _;refine bQO (o:=_) (cs':={c₀ with mode:=.returning}::cs) (v:=.nilIface) (d:=5) rfl rfl rfl rfl (.inr ⟨by simp[recoverD,hu],rfl,by rw[<-hu]⟩) ?_;generalize hact:Act.put _ (some 5) _=act;have hf5':Fits c91.N [(5,.v .nilIface),(0,.v (.pointer (some ⟨f,0,none⟩))),(1,.v (.pointer (some ⟨e,0,none⟩)))] act:=by rw[<-hact];exact hf5
 clear hact hf5 hfit;generalize hops: #[_,_,_,_,_,_,_,_]=ops0;have h1:=(congrArg (fun(x:Array Oper)=>x[1]?) hops).symm;have h2:=(congrArg (fun(x:Array Oper)=>x[2]?) hops).symm;have h3:=(congrArg (fun(x:Array Oper)=>x[3]?) hops).symm;have h4:=(congrArg (fun(x:Array Oper)=>x[4]?) hops).symm;have h5:=(congrArg (fun(x:Array Oper)=>x[5]?) hops).symm;have h6:=(congrArg (fun(x:Array Oper)=>x[6]?) hops).symm;have h7:=(congrArg (fun(x:Array Oper)=>x[7]?) hops).symm;clear hops;refine aQr (c:=c91) aQb rfl h1 rfl hf5' (K:=fun S' w'=>S'=_/\w=w') (jQ3 aQb rfl rfl rfl rfl ⟨rfl,rfl⟩) ?_;rintro _ a1 _ hf1 ⟨rfl,rfl⟩;refine aQr (c:=c91) aQb rfl h2 rfl hf1 (K:=fun S' w'=>S'=_/\w=w') ⟨rfl,rfl⟩ ?_;rintro _ a2 _ hf2 ⟨rfl,rfl⟩;refine aQr (c:=c91) aQb rfl h3 rfl hf2 (K:=fun S' w'=>S'=_/\w=w') ⟨rfl,rfl⟩ ?_;rintro _ a3 _ hf3 ⟨rfl,rfl⟩;refine aQr (c:=c91) aQb rfl h4 rfl hf3 (K:=fun S' w'=>S'=_/\w=w') ⟨rfl,rfl⟩ ?_;rintro _ a4 _ hf4 ⟨rfl,rfl⟩;refine aQr (c:=c91) aQb rfl h5 rfl hf4 (K:=fun S' w'=>S'=(2,.v (.pointer (some ⟨w.heap.size,0,none⟩)))::_/\Ext w w'/\w'.heap.size=w.heap.size+1/\∃ps:List Value,Blk w' w.heap.size 160 ps/\ps.length=3) (new (fun w1 hE1 hz1 hB1=>⟨rfl,hE1,hz1,_,hB1,rfl⟩)) ?_;rintro _ a5 w5 hf5 ⟨rfl,hE5,hz5,ps,hB5,hps⟩;refine aQr (c:=c91) aQb rfl h6 rfl hf5 (K:=fun S' w'=>S'=_/\Ext w w') (aQc hB5 (by rw[hps];rfl) (sc rfl) (fun w6 hg6 hz6 hB6=>⟨rfl,aQJ hE5 hB5 hg6⟩)) ?_;rintro _ a6 w6 hf6 ⟨rfl,hE6⟩;refine aQr (c:=c91) aQb rfl h7 rfl hf6 (K:=fun S' w'=>S'=_/\w6=w') ⟨rfl,rfl⟩ ?_;rintro _ a7 _ hf7 ⟨rfl,rfl⟩;unfold wpOpsS;refine dQi (c:=c91) aQb rfl hf7 ?_;refine aQN rfl ?_;exact⟨_,rfl,rfl,hE6⟩
end
section
open Go Go.RowKit
theorem oQW {nm:List (List Nat)}(hb:aQ2 nm):(dQj nm dQE).2=if aQV nm then 0 else 1:=by
 by_cases h:aQV nm=true
 ·rw[if_pos h,show dQE=prF nm 0 (.c true) from rfl,mQt h (uQy hb h) (.c true) trivial (by decide)]
 ·rw[if_neg h];unfold dQj;rw[if_neg h]
structure SgIn (w:World) (k:Nat) (A:Option Addr) (n c:Nat) (sg:List Sg) (L:List DV):Prop where
 sl:Sl w 6 A n c (sgV sg L)
 n:sg.length=n
 len:L.length=sg.length
 dg:∀(j:Nat) (s:Sg) (x:DV),sg[j]? =some s->L[j]? =some x->SB w x.A x.n x.c x.nd/\Set1 k x.nd x.r s.o
theorem SgIn.ext {w w':World}{k:Nat}{A:Option Addr}{n c:Nat}{sg:List Sg}{L:List DV}(h:SgIn w k A n c sg L)(hE:Ext w w'):SgIn w' k A n c sg L:=⟨h.sl.ext hE,h.n,h.len,fun j s x h1 h2=>⟨(h.dg j s x h1 h2).1.ext hE,(h.dg j s x h1 h2).2⟩⟩
structure GsOk (g:Gs):Prop where
 b8:∀x∈g.tx,x<256
 tl:g.tx.length<=1048576
 sl:g.sg.length<=65536
abbrev uQS (tx:List Nat)(A:Option Addr)(n c:Nat):Value:=.agg #[.string (aQh tx),.slice A n c]
def xQx (k:Nat)(w:World)(r:Except Pl Gs)(u:Value)(w':World):Prop:=Ext w w'/\match r with
 | .error q=>u= .tuple #[uQS [] none 0 0,.agg (plC q).toArray]
 | .ok g=>GsOk g/\∃A c L,u= .tuple #[uQS g.tx A g.sg.length c,.agg (plC ⟨0,0,0⟩).toArray]/\SgIn w' k A g.sg.length c g.sg L
theorem nQN:∀(l:List (List Nat×List Nat))(seen:List (List Nat))(i:Nat)(q:Pl),fQg l seen i=some q->q.e≠0
 | [],_,_,_,h=>by cases h
 | x::l,seen,i,q,h=>by
  unfold fQg at h;split at h
  ·cases h;exact(by decide:(70:Int)≠0)
  split at h
  ·cases h;exact(by decide:(2:Int)≠0)
  ·exact nQN l _ _ q h
theorem lQo {fs:List (List Nat×List Nat)}{q:Pl}(h:bQ6 fs=some q):q.e≠0:=by
 unfold bQ6 at h;split at h
 ·cases h;decide
 ·exact nQN _ _ _ _ h
theorem hQb:∀(l:List (List Nat×List Nat))(seen:List (List Nat))(i:Nat),fQg l seen i=none->∀x∈l,dQ7 x.1=true/\eQC x.2=true/\x.2.length<=1048576
 | [],_,_,_,x,hx=>by cases hx
 | y::l,seen,i,h,x,hx=>by
  unfold fQg at h;split at h
  ·cases h
  split at h
  ·cases h
  ·rename_i h1 h2;have h1:=Decidable.not_not.1 h1;rcases List.mem_cons.1 hx with rfl | hx
   ·exact⟨h1.1,h1.2.2,by omega⟩
   ·exact hQb l _ _ h x hx
theorem dQt {l:List Nat}(h:eQC l=true):cQ6 l:=by
 unfold eQC at h;rw[Bool.or_eq_true] at h;rcases h with h | h
 ·exact .inl (of_decide_eq_true h)
 ·exact .inr (by simpa using h)
theorem qQt {fs:List (List Nat×List Nat)}(h:bQ6 fs=none)(hb:∀x∈fs,FileB x):fs.length<=256/\∀x∈fs,FileOk x:=by
 unfold bQ6 at h;split at h
 ·cases h
 ·rename_i hl;refine⟨by omega,fun x hx=>?_⟩;obtain⟨h1,h2,h3⟩:=hQb _ _ _ h x hx;have hbx:=hb x hx;exact⟨hbx.n8,hbx.t8,hbx.nl,h3,dQt h2⟩
theorem zQr {w7 w':World}{nq:Nat}{m:List (ByteArray×Value)}(h:w7.heap.size=nq+1)(hm:Mod (·=nq) w7 w')(hq:MapAt gQ2 w' nq m):∃w0,Ext w0 w'/\w0.heap.size=nq+1/\MapAt gQ2 w0 nq m/\∀w,Ext w w7->w.heap.size<=nq->Ext w w0:=by
 obtain⟨bs,ck,hl,hb⟩:=hq.ex;refine⟨{w7 with heap:=w7.heap.setIfInBounds nq (.map (aQI gQ2 m bs).toArray ck)},⟨hm.os,hm.tape,hm.output,?_,fun i hi _=>?_⟩,by simp[h],⟨bs,ck,hl,?_⟩,fun w hE hle=>⟨hE.os,hE.tape,hE.output,?_,fun i hi hn=>?_⟩⟩
 ·simpa using hm.size
 ·simp only[Array.size_setIfInBounds] at hi;simp only[Array.getElem?_setIfInBounds];by_cases e:nq=i
  ·subst e;rw[if_pos rfl,if_pos (by omega),hb]
  ·rw[if_neg e];exact hm.block i hi (fun e2=>e e2.symm)
 ·simp[h]
 ·simpa using hE.size
 ·simp only[Array.getElem?_setIfInBounds];rw[if_neg (by omega)];exact hE.block i hi hn
set_option maxHeartbeats 1600000 in
theorem jQ4 (nm:List (List Nat))(NA:Option Addr)(nn nc:Nat)(fs:List (List Nat×List Nat))(FA:Option Addr)(nf cf:Nat)(root:List Nat)(w:World)(hN:Sl w 1 NA nn nc (aQ6 nm))(hnb:aQ2 nm)(hk:nm.length<=12)(hF:SlS fQL 2 w FA nf cf fs)(hfb:∀x∈fs,FileB x)(hnf:nf<=1000000000000)(hr8:∀x∈root,x<256):
  Fn Tryz.prog 43 [.slice NA nn nc,.slice FA nf cf,.string (aQh root)] w (xQx nm.length w (cQJ nm fs root)):=by
 refine hQs (c:={c43 with cuts:=[]}) aQb Tryz.func43 rfl rfl rfl ?_;refine aQL (aQv aQb ?_);refine new (fun w1 hE1 hz1 hB1=>?_);refine new (fun w2 hE2 hz2 hB2=>?_);have hE02:=hE1.trans hE2;refine aQL (aQv aQb ?_);refine call (nQp nm NA nn nc dQE w2 (hN.ext hE02) hnb (by decide) (by decide)) ?_;rintro _ w3 ⟨G,mg,cG,rfl,hE3,hG⟩;have hE03:=hE02.trans hE3;have hBs:=(hB1.ext hE2).ext hE3;have hBp:=hB2.ext hE3;have hne:w1.heap.size≠w.heap.size:=by omega
 have hpt:=oQW hnb;have hrd:cQJ nm fs root=if aQV nm=false then .error ⟨30, -1,0⟩else match bQ6 fs with
  | some p=>.error p
  | none=>match ixN (fs.map (·.1)) root with
   | none=>.error ⟨73, -1,0⟩
   | some n=>rdF nm fs 65 [] 0 n (fun _=>true) ⟨[],[],false⟩:=rfl
 rw[hpt];cases hok:aQV nm with
 | false=>
  rw[if_pos hok] at hrd;refine fQ7 (by decide) ?_;refine aQc hBs rfl (sc rfl) (fun w4 hg4 _ hB4=>?_);have hM4:Mod (·=w.heap.size) w3 w4:=zQE hg4 rfl;refine aQc (hBp.mod hM4 hne) rfl (sc rfl) (fun w5 hg5 _ hB5=>?_);have hM5:Mod (·=w1.heap.size) w4 w5:=zQE hg5 rfl;refine rQO aQb rfl (.inl rfl) ?_;refine aQd (hB4.mod hM5 hne.symm) rfl ?_;refine aQd hB5 rfl ?_;rw[hrd];exact⟨hM5.ext (hM4.ext hE03 (fun i hi=>by omega)) (fun i hi=>by omega),rfl⟩
 | true=>
  rw[if_neg (by rw[hok];decide)] at hrd;refine bQB rfl ?_;refine aQL (aQv aQb ?_);refine call (jQ2 fs FA nf cf w3 (hF.ext hE03) hfb hnf) ?_;rintro _ w4 ⟨rfl,hE4⟩;refine new (fun w5 hE5 hz5 hB5=>?_);refine aQc hB5 rfl (sc rfl) (fun w6 hg6 _ hB6=>?_);have hE46:Ext w4 w6:=aQJ hE5 hB5 hg6;have hE36:=hE4.trans hE46;have hE06:=hE03.trans hE36;have hBs6:=hBs.ext hE36;have hBp6:=hBp.ext hE36;refine aQe hB6 rfl ?_;cases hfe:bQ6 fs with
  | some q=>
   rw[hfe] at hrd hB6;refine fQ7 (lQo hfe) ?_;have n4:¬w4.heap.size=w.heap.size:=by have:=hE3.size;have:=hE4.size;omega
   have n41:¬w4.heap.size=w1.heap.size:=by have:=hE4.size;have:=hE3.size;omega
   have hd:=Ext.drew w6;refine aQm aQb (fun w'=>Mod (fun i=>i=w.heap.size∨i=w1.heap.size) w6 w') 4 [(true,0),(true,1),(false,2),(false,3)] (by kernel_rfl) (Mod.of_ext _ hd) ?_;refine aQw (vs:=plC q) rfl (fun w' hw' j u hj=>by rw[(hB6.mod hw' (fun hh=>hh.elim n4 n41)).cell];exact hj) ?_;refine aQc (hBs6.ext hd) rfl (sc rfl) (fun w7 hg7 _ hB7=>?_);have hM7:Mod (·=w.heap.size) w6.drew w7:=zQE hg7 rfl;have hM7':Mod (fun i=>i=w.heap.size∨i=w1.heap.size) w6 w7:=(Mod.of_ext _ hd).trans hM7 (fun i hi=>.inl (.inl hi));refine⟨hM7',?_⟩;refine aQc ((hBp6.ext hd).mod hM7 hne) rfl (sc rfl) (fun w8 hg8 _ hB8=>?_);have hM8:Mod (·=w1.heap.size) w7 w8:=zQE hg8 rfl;have hM8':=hM7'.trans hM8 (fun i hi=>.inl (.inr hi));refine⟨hM8',?_⟩;refine rQO aQb rfl (.inl rfl) ?_;refine aQd (hB7.mod hM8 hne.symm) rfl ?_;refine aQd hB8 rfl ?_;rw[hrd];exact⟨hM8'.ext hE06 (fun i hi=>by rcases hi with rfl | rfl<;>omega),rfl⟩
  | none=>
  rw[hfe] at hrd;refine bQB rfl ?_;obtain⟨hfl,hfok⟩:=qQt hfe hfb;have hlen:=hF.2;refine aQL (aQv aQb ?_);refine dQD aQb gQ2 rfl (fun w7 hE7 hz7 hm7=>?_);refine dQD aQb kQY rfl (fun w8 hE8 hz8 hm8=>?_);refine new (fun w9 hE9 hz9 hB9=>?_);have hE79:=hE8.trans hE9;have hE69:=hE7.trans hE79;have hE09:=hE06.trans hE69;have hq9:=hm8.ext hE9;have hn9:=hm7.ext hE79;have hnames:aQ2 (fs.map (·.1)):=fun s hs=>by
   obtain⟨x,hx,rfl⟩:=List.mem_map.1 hs;exact⟨(hfb x hx).n8,(hfb x hx).nl⟩
  have nrq:¬w8.heap.size=w6.heap.size:=by omega
  refine aQL (aQv aQb ?_);refine loop aQb [40] (fun i:Nat=>[.int .i64 i]) (fun i w'=>Mod (·=w6.heap.size) w9 w'/\MapAt gQ2 w' w6.heap.size (dQb ((fs.map (·.1)).take i) 0 [])/\i<=fs.length) (fun i _=>fs.length-i) 0 rfl ⟨Mod.refl _ _,hn9,Nat.zero_le _⟩ ?_;rintro i w10 ⟨hM10,hm10,hi10⟩;refine aQq (fun c2=>?_) (fun c2=>?_)
  ·have hi:i<nf:=by omega
   have hE010:Ext w w10:=hM10.ext hE09 (fun i hi=>by have:=hE06.size;omega);refine aQp jQT (hF.ext hE010) rfl hi (fun pp x hx hc=>?_);refine aQK (vs:=fQL x) rfl hc ?_;refine new (fun w11 hE11 hz11 hB11=>?_);refine aQc hB11 rfl (sc rfl) (fun w12 hg12 _ hB12=>?_);have hE1012:Ext w10 w12:=aQJ hE11 hB11 hg12;have hd:=Ext.drew w12;have hBr:=((hB9.mod hM10 nrq).ext hE1012).ext hd;refine cQY aQb 7 (by kernel_rfl) ?_;refine aQy (v:=.map (some w6.heap.size)) (fun w' hw'=>by subst hw';rw[hBr.cell];rfl) ?_;refine aQy (v:=.string (aQh x.1)) (fun w' hw'=>by subst hw';rw[(hB12.ext hd).cell];rfl) ?_;refine bQt (kv:=gQ2) (a:=aQh x.1) aQb rfl rfl rfl rfl rfl zQF rfl rfl rfl ((hm10.ext hE1012).ext hd) (fun w13 hg13 hz13 hm13=>?_);have hM13:Mod (·=w6.heap.size) w12.drew w13:=zQE hg13 rfl;refine aQa ((i+1:Nat):Int) (by show((i:Nat):Int)+1=_;omega) (by omega) ?_;refine⟨i+1,rfl,⟨(hM10.trans (Mod.of_ext (·=w6.heap.size) (hE1012.trans hd)) (fun i hi=>.inl hi)).trans hM13 (fun i hi=>.inl hi),?_,by omega⟩,by show fs.length-(i+1)<fs.length-i;omega⟩;rw[iQF (s:=x.1) (by rw[List.getElem?_map,hx];rfl)];exact hm13
  have hie:i=fs.length:=by omega
  rw[hie,List.take_of_length_le (by simp)] at hm10;have hM710:Mod (·=w6.heap.size) w7 w10:=(Mod.of_ext _ hE79).trans hM10 (fun i hi=>.inl hi);obtain⟨w0,hw0,hws,hwm,hwe⟩:=zQr hz7 hM710 hm10;have hBr10:=hB9.mod hM10 nrq;have hlook:=pQx hnames root hr8;have nr6:¬w.heap.size=w6.heap.size:=by have:=hE36.size;have:=hE3.size;omega
  have nr61:¬w1.heap.size=w6.heap.size:=by have:=hE36.size;have:=hE3.size;omega
  have hBs10:=(hBs6.ext hE69).mod hM10 nr6;have hBp10:=(hBp6.ext hE69).mod hM10 nr61;have hE010:Ext w w10:=hM10.ext hE09 (fun i hi=>by have:=hE06.size;omega);refine aQL (aQv aQb ?_);refine aQe hBr10 rfl ?_;refine cQr (kv:=gQ2) (a:=aQh root) (v:=.int .i64 ((ixN (fs.map (·.1)) root).getD 0:Nat)) (b:=(ixN (fs.map (·.1)) root).isSome) aQb rfl rfl rfl rfl rfl zQF rfl rfl hm10 (by rw[hlook];cases ixN (fs.map (·.1)) root<;>rfl) (by rw[hlook];cases ixN (fs.map (·.1)) root<;>rfl) ?_;refine aQL (aQv aQb ?_);cases hix:ixN (fs.map (·.1)) root with
  | none=>
   rw[hix] at hrd;refine aQM rfl ?_;refine aQc hBs10 rfl (sc rfl) (fun w11 hg11 _ hB11=>?_);have hM11:Mod (·=w.heap.size) w10 w11:=zQE hg11 rfl;refine aQc (hBp10.mod hM11 hne) rfl (sc rfl) (fun w12 hg12 _ hB12=>?_);have hM12:Mod (·=w1.heap.size) w11 w12:=zQE hg12 rfl;refine rQO aQb rfl (.inl rfl) ?_;refine aQd (hB11.mod hM12 hne.symm) rfl ?_;refine aQd hB12 rfl ?_;rw[hrd];exact⟨hM12.ext (hM11.ext hE010 (fun i hi=>by omega)) (fun i hi=>by omega),rfl⟩
  | some n=>
  rw[hix] at hrd;simp only at hrd;refine aQN rfl ?_;have hnl:n<fs.length:=by have:=fQD hix;simpa using this
  refine aQL (eQs aQb rfl rfl rfl rfl ⟨_,_,_,_,rfl,rfl,?_⟩);refine aQL (aQv aQb ?_);refine call (bQm true w10) ?_;rintro _ w11 ⟨rfl,hE11⟩
  let p:RP:=⟨w8.heap.size,w7.heap.size,w6.heap.size,NA,nn,nc,nm,FA,nf,cf,fs⟩
  let m:RM:=⟨none,0,none,0,[],.pointer none,fun i=>i=w.heap.size∨i=w1.heap.size⟩
  let v:RV:=⟨0,0,0,[],⟨[],[],false⟩⟩
  have hE60:Ext w6 w0:=hwe w6 hE7 (Nat.le_refl _);have hE00:Ext w w0:=hE06.trans hE60;have hP:RPok w0 p:=⟨hN.ext hE00,hnb,hk,hF.ext hE00,hfok,hwm⟩
  have hz11:=hE11.size;have hz910:=hM10.size;have h11:Rr w0 w11 w11.heap.size p m v:=by
   refine⟨hw0.trans hE11,?_,?_,?_,?_,?_,Nat.le_refl _,.inl rfl,hBr10.ext hE11,Own.nil _ _ _ _,Own.nil _ _ _ _,rfl,(fun j s x hs=>by simp[v] at hs),?_,(Nat.zero_le _),(Nat.zero_le _),(fun x hx=>by cases hx),(fun _=>.inr rfl),(fun i hi=>by
    have:=hE36.size;have:=hE3.size;rcases hi with hi | hi<;>rw[hi]<;>omega)⟩
   ·show w0.heap.size<=w8.heap.size;omega
   ·show w0.heap.size<=w7.heap.size;omega
   ·show w8.heap.size<w11.heap.size;omega
   ·show w7.heap.size<w11.heap.size;omega
   ·show w8.heap.size≠w7.heap.size;omega
   ·refine⟨[],(hq9.mod hM10 (by show¬w7.heap.size=w6.heap.size;omega)).ext hE11,by simp,fun n=>by simp[aQS,v]⟩
  have hk11:DgO w11 (TS p m) p.nm.length ⟨none,0,0,[],1⟩ (fun _=>true):=⟨SlS.nil _,bQi _ true,fun ad e=>by cases e⟩
  have hws0:w0.heap.size<=w11.heap.size:=(hw0.trans hE11).size;have hout:∀i,RS p m i->i=w8.heap.size∨i=w7.heap.size:=fun i hi=>by
   rcases hi with hi | hi | ⟨_,e,_⟩ | ⟨_,e,_⟩
   ·exact .inl hi
   ·exact .inr hi
   ·cases e
   ·cases e
  have hBs11:=hBs10.ext hE11;have hBp11:=hBp10.ext hE11;have hs36:=hE36.size;have hs3:=hE3.size;have keep:∀w',Mod (RS p m) w11 w'->Ext w w'/\Blk w' w.heap.size 41 (bQd (.agg #[.string ByteArray.empty,.slice none 0 0]))/\Blk w' w1.heap.size 93 (plC ⟨0,0,0⟩):=fun w' hm=>by
   refine⟨hm.ext (hE010.trans hE11) (fun i hi=>?_),hBs11.mod hm (fun hi=>?_),hBp11.mod hm (fun hi=>?_)⟩
   ·have:=hE06.size;rcases hout i hi with rfl | rfl<;>omega
   ·rcases hout _ hi with e | e<;>omega
   ·rcases hout _ hi with e | e<;>omega
  refine aQX (qQs w0 w11.heap.size p hP hws0 65 m v n ⟨none,0,0,[],1⟩ (fun _=>true) w11 h11 hk11 hnl (fun hh=>by cases hh) (Nat.zero_le _) (Nat.le_refl _)) ?_ ?_
  rotate_left
  ·rintro ch w12 ⟨q,hq,rfl,hm12⟩;have hq:rdF nm fs 65 [] 0 n (fun _=>true) ⟨[],[],false⟩= .error q:=hq;rw[hq] at hrd;obtain⟨hE12,hs12,hp12⟩:=keep w12 hm12;refine eQe aQb rfl rfl (args:= #[.pointer (some ⟨w.heap.size,0,none⟩),.pointer (some ⟨w1.heap.size,0,none⟩)]) (by simp) ((uQR _ _ q w12 _ _ rfl rfl hne.symm hs12 hp12).mono ?_);rintro e u' w13 ⟨v,rfl,hs13,hR13⟩;refine⟨v,rfl,hs13,?_⟩;refine aQd hR13.1 rfl ?_;refine aQd hR13.2.1 rfl ?_;rw[hrd];exact⟨hR13.2.2.ext hE12 (fun i hi=>by rcases hi with rfl | rfl<;>omega),rfl⟩
  rintro _ w12 ⟨g',hg',m',hT',h12,hm12,_,_⟩;have hg':rdF nm fs 65 [] 0 n (fun _=>true) ⟨[],[],false⟩= .ok g':=hg';rw[hg'] at hrd;obtain⟨hE12,hs12,hp12⟩:=keep w12 hm12;refine aQL (aQv aQb ?_);have nb:=h12.nrow.2;have hb12:=h12.rb;have ht12:=h12.top;have hrl:∀i,aQx m'.BA i->w11.heap.size<=i:=fun i hi=>(h12.txt.rows i hi).1
  have nprs:¬(aQx m'.BA w8.heap.size∨w8.heap.size=w.heap.size∨w8.heap.size=w1.heap.size):=fun hh=>by
   rcases hh with hh | hh | hh
   ·exact nb hh
   ·omega
   ·omega
  have hd:=Ext.drew w12;refine aQm aQb (Mod (fun i=>aQx m'.BA i∨i=w.heap.size∨i=w1.heap.size) w12) 12 [(true,0),(true,1),(true,2),(true,4),(true,5),(true,6),(true,7),(true,9),(false,3),(true,8),(false,10),(false,11)] (by kernel_rfl) (Mod.of_ext _ hd) ?_;refine aQy (v:=.slice m'.OA g'.sg.length m'.oc) (fun w' hw'=>by rw[(h12.blk.mod hw' nprs).cell];rfl) ?_;have htl:=h12.tl;refine call (oQM w11.heap.size w8.heap.size 157 5 (rdC p m' {v with g:=g'}) m'.BA m'.bc g'.tx w12.drew (h12.blk.ext hd) rfl (h12.txt.ext hd) h12.b8 (by simp only at htl;omega)) ?_;rintro _ w13 ⟨rfl,hm13⟩;have hM13:Mod (fun i=>aQx m'.BA i∨i=w.heap.size∨i=w1.heap.size) w12 w13:=(Mod.of_ext _ hd).trans hm13 (fun i hi=>.inl (.inl hi));refine⟨hM13,?_⟩;have nsB:¬aQx m'.BA w.heap.size:=fun hh=>by have:=hrl _ hh;omega
  have npB:¬aQx m'.BA w1.heap.size:=fun hh=>by have:=hrl _ hh;omega
  refine aQc ((hs12.ext hd).mod hm13 nsB) rfl (sc rfl) (fun w14 hg14 _ hB14=>?_);have hM14:Mod (·=w.heap.size) w13 w14:=zQE hg14 rfl;have hM14':=hM13.trans hM14 (fun i hi=>.inl (.inr (.inl hi)));refine⟨hM14',?_⟩;refine aQc (((hp12.ext hd).mod hm13 npB).mod hM14 hne) rfl (sc rfl) (fun w15 hg15 _ hB15=>?_);have hM15:Mod (·=w1.heap.size) w14 w15:=zQE hg15 rfl;have hM15':=hM14'.trans hM15 (fun i hi=>.inl (.inr (.inr hi)));refine⟨hM15',?_⟩;have hBs15:=hB14.mod hM15 hne.symm;refine aQv aQb ?_;refine pQf aQb rfl rfl (.inl rfl) (args:= #[.pointer (some ⟨w.heap.size,0,none⟩),.pointer (some ⟨w1.heap.size,0,none⟩)]) (by simp) ((mQL _ _ w15).mono ?_);rintro e u' w16 ⟨u,rfl,hs16,hE16⟩;refine⟨u,rfl,hs16,?_⟩;refine aQd (hBs15.ext hE16) rfl ?_;refine aQd (hB15.ext hE16) rfl ?_;rw[hrd];have hE15:Ext w w15:=hM15'.ext hE12 (fun i hi=>by
   rcases hi with hi | rfl | rfl
   ·have:=hrl _ hi;omega
   ·exact Nat.le_refl _
   ·omega)
  have nO:∀i,aQx m'.OA i->¬(aQx m'.BA i∨i=w.heap.size∨i=w1.heap.size):=fun i hi hh=>by
   have:=(h12.out.rows i hi).1;rcases hh with hh | rfl | rfl
   ·exact h12.out.apart h12.txt (by decide) hi hh
   ·omega
   ·omega
  refine⟨hE15.trans hE16,⟨h12.b8,h12.tl,h12.sl⟩,m'.OA,m'.oc,m'.L,rfl,SgIn.ext ⟨(h12.out.mod hM15' nO).sl,rfl,h12.len,fun j s x h1 h2=>?_⟩ hE16⟩;have hdg:=h12.dgs j s x h1 h2;refine⟨SB.modo hdg.sb hM15' (fun ad e h0 hh=>?_),hdg.st⟩;rcases hh with hh | hh | hh
  ·exact hdg.off ad e h0 (.inl (.inr (.inr (.inr hh))))
  ·exact hdg.off ad e h0 (.inr (by rw[hT'];exact .inl hh))
  ·exact hdg.off ad e h0 (.inr (by rw[hT'];exact .inr hh))
end
end
section
open Go Go.RowKit
def gQT (c:Nat):Nat->Bool:=fun i=>decide (c/2^i % 2=1)
theorem qQu (x:Nat)(hx:x<18446744073709551616):IntKind.u64.wrap ((BitVec.ofInt 64 (x:Int) &&& BitVec.ofInt 64 1).toNat)=((x % 2:Nat):Int):=by
 have e:(BitVec.ofInt 64 (x:Int) &&& BitVec.ofInt 64 1).toNat=x % 2:=by
  rw[BitVec.ofInt_natCast,show BitVec.ofInt 64 1=BitVec.ofNat 64 1 from rfl,BitVec.toNat_and,BitVec.toNat_ofNat,BitVec.toNat_ofNat];rw[Nat.mod_eq_of_lt (by omega),show 1 % 2^64=1 by decide,Nat.and_one_is_mod]
 rw[e];rcases(show x % 2=0∨x % 2=1 by omega)with h | h<;>rw[h]<;>decide
theorem lQp (A:Option Addr)(n c:Nat)(nd:List Br)(root:Int)(cfg:Nat)(hcf:cfg<=18446744073709551615)(w:World)(h:SB w A n c nd)(hc:bQS nd root=0):
  Fn Tryz.prog 18 [dgV A n c root,.int .u64 cfg] w (fun v w'=>v= .bool (ev nd root (gQT cfg))/\Ext w w'):=by
 have hlen:=h.2;obtain⟨hsm,hv⟩:=bQC.1 hc;refine aQf (c:={c18 with cuts:=[]}) aQb Tryz.func18 rfl rfl rfl ?_;refine new (fun w1 hE1 hz1 hB1=>?_);refine aQd hB1 rfl ?_;refine call (dQI A n c nd root w1 (h.ext hE1)) ?_;rintro _ w2 ⟨rfl,hE2⟩;have hE02:=hE1.trans hE2;have hB2:=hB1.ext hE2;refine bQB hc ?_;refine aQe hB2 rfl ?_;refine loop aQb [5] (fun s:Int=>[.int .i64 s]) (fun s w'=>Ext w2 w'/\0<=s/\s<n+2/\ev nd s (gQT cfg)=ev nd root (gQT cfg)) (fun s _=>s.toNat) root rfl ⟨Ext.refl _,hv.2.1,by have:=hv.2.2.1;omega,rfl⟩ ?_;rintro s w3 ⟨hE3,s0,s1,hs⟩;have hE03:=hE02.trans hE3;refine aQq (fun h1=>?_) (fun h1=>?_)
 ·refine aQg (hB2.ext hE3) rfl ?_;refine aQa (((s-2).toNat:Nat):Int) (by omega) (by omega) ?_;refine aQp cQl (h.ext hE03) rfl (by omega) (fun p x hx hcx=>?_);refine aQK (vs:=x.cells) rfl hcx ?_;refine new (fun w4 hE4 hz4 hB4=>?_);refine aQc hB4 rfl (sc rfl) (fun w5 hg5 hz5 hB5=>?_);have hE35:Ext w3 w5:=aQJ hE4 hB4 hg5;obtain⟨b1,b2,b3,b4,b5,b6,b7,b8,b9,b10⟩:=hv.1 _ _ hx;have hev:=eQX hv.wf (n:=s) (e:=gQT cfg) (by omega) hx;refine aQg hB5 rfl ?_;refine fQr x.v.toNat (2^x.v.toNat) b1 (by show min x.v.toNat 64=_;omega) rfl ?_;have hlt:cfg/2^x.v.toNat<18446744073709551616:=Nat.lt_of_le_of_lt (Nat.div_le_self _ _) (by omega);refine norm (m:=((cfg/2^x.v.toNat % 2:Nat):Int)) (qQu _ hlt) ?_;refine aQP (fun h2=>?_) (fun h2=>?_)
  ·have hb:gQT cfg x.v.toNat=true:=decide_eq_true (by omega);rw[hb,if_pos rfl] at hev;refine aQe hB5 rfl ?_;exact⟨x.h,rfl,⟨hE3.trans hE35,b5,by omega,by rw[<-hev];exact hs⟩,by show x.h.toNat<s.toNat;omega⟩
  ·have hb:gQT cfg x.v.toNat=false:=decide_eq_false (by omega);rw[hb,if_neg (by decide)] at hev;refine aQe hB5 rfl ?_;exact⟨x.l,rfl,⟨hE3.trans hE35,b3,by omega,by rw[<-hev];exact hs⟩,by show x.l.toNat<s.toNat;omega⟩
 ·refine⟨?_,hE03⟩;rw[<-hs,bQP (by omega)];rfl
def bvL (l:List Bool):List Value:=l.map Value.bool
structure FhI (w0:World) (g:Nat) (f:List Fz) (e:Nat->Bool) (n s:Nat) (L:List Bool) (w:World):Prop where
 m:Mod (·=g) w0 w
 blk:Blk w g 4 (bvL L)
 len:L.length=n
 got:∀j,j<s->∃t,RepF f t j/\L[j]? =some (evF t e)
 rest:∀j,s<=j->j<n->L[j]? =some false
theorem FhI.ext {w0 w w':World}{g:Nat}{f:List Fz}{e:Nat->Bool}{n s:Nat}{L:List Bool}(h:FhI w0 g f e n s L w)(k1:Ext w w'):FhI w0 g f e n s L w':=
 ⟨h.m.trans (Mod.of_ext (·=g) k1) (fun _ hi=>.inl hi),h.blk.ext k1,h.len,h.got,h.rest⟩
def wQ9 (l:List Nat)(k:Nat):Bool:=decide (k/8<l.length)&&decide ((l[k/8]?.getD 0)/2^(k % 8) % 2=1)
def mQM (l:List Nat):Nat->Nat->Nat->(Nat->Bool)->Bool
 | 0,_,k,_=>wQ9 l k
 | d+1,v,k,e=>if e v then mQM l d (v+1) (k+2^v) e else mQM l d (v+1) k e
theorem nQO {nd:List Br}(hw:WfB nd){k:Nat}(hk:VIn k nd)(h0:∀b∈nd,0<=b.v){e e':Nat->Bool}(h:∀i,i<k->e i=e' i):∀(m:Nat)(n:Int),n.toNat<m->n<nd.length+2->ev nd n e=ev nd n e'
 | 0,n,hm,_=>by omega
 | m+1,n,hm,hn=>by
  by_cases h2:n<2
  ·rw[bQP h2,bQP h2]
  obtain⟨b,hb⟩:=iQL h2 hn;obtain⟨b3,b4,b5,b6⟩:=hw _ _ hb;have hbm:=List.mem_of_getElem? hb;have hv:=hk b hbm;have hv0:=h0 b hbm;rw[eQX hw h2 hb,eQX hw h2 hb,nQO hw hk h0 h m b.h (by omega) (by omega),nQO hw hk h0 h m b.l (by omega) (by omega),h b.v.toNat (by omega)]
theorem Set1.ext {k:Nat}{nd:List Br}{r:Int}{o:(Nat->Bool)->Bool}(hS:Set1 k nd r o){e e':Nat->Bool}(h:∀i,i<k->e i=e' i):o e=o e':=by
 rw[<-hS.mean e,<-hS.mean e'];refine nQO hS.vd.wf hS.vin (fun b hb=>?_) h (r.toNat+1) r (by omega) hS.vd.2.2.1;obtain⟨j,hj,rfl⟩:=List.mem_iff_getElem.1 hb;exact(hS.vd.1 j _ (List.getElem?_eq_getElem hj)).1
end
section
open Go Go.RowKit
def DgS (w:World)(k:Nat)(o:(Nat->Bool)->Bool)(v:Value)(w':World):Prop:=∃A n c nd r,v=dgV A n c r/\Ext w w'/\SB w' A n c nd/\Set1 k nd r o/\∀i,aQx A i->w.heap.size<=i
def wQl (w:World)(k:Nat)(o:(Nat->Bool)->Bool)(v:Value)(w':World):Prop:=∃A n c nd r,v= .tuple #[dgV A n c r,.int .i64 0]/\Ext w w'/\SB w' A n c nd/\Set1 k nd r o/\∀i,aQx A i->w.heap.size<=i
theorem fQN (b:Bool)(w:World):Fn Tryz.prog 29 [.bool b] w (fun v w'=>v=dgV none 0 0 (if b then 1 else 0)/\Ext w w'):=by
 refine aQf (c:={c29 with cuts:=[]}) aQb Tryz.func29 rfl rfl rfl ?_;refine new (fun w1 hE1 hz1 hB1=>?_);cases b with
 | true=>
  refine aQM rfl ?_;refine aQc hB1 rfl (sc rfl) (fun w3 hg3 _ hB3=>?_);refine aQd hB3 rfl ?_;exact⟨rfl,aQJ hE1 hB1 hg3⟩
 | false=>
  refine aQN rfl ?_;refine aQc hB1 rfl (sc rfl) (fun w3 hg3 _ hB3=>?_);refine aQd hB3 rfl ?_;exact⟨rfl,aQJ hE1 hB1 hg3⟩
section
variable {k:Nat} (hk:k<=12)
include hk
theorem hQP {a b:List Br}{ra rb:Int}{o o':(Nat->Bool)->Bool}(A:Option Addr)(n c:Nat)(B:Option Addr)(m d:Nat)(op:Int)(ho:op≠3/\op≠4)(w:World)(h:SB w A n c a)(h':SB w B m d b)(s:Set1 k a ra o)(s':Set1 k b rb o'):
  Fn Tryz.prog 58 [dgV A n c ra,dgV B m d rb,.int .i64 op] w (DgS w k (fun e=>opB op (o e) (o' e))):=by
 have l1:=s.len hk;have l2:=s'.len hk;have hal:=h.2;have hbl:=h'.2;have hb2:=jQE s.vd s'.vd op;have hmul:(a.length+2)*(b.length+2)<=4098*4098:=Nat.mul_le_mul (by omega) (by omega);refine(mQm A n c a ra B m d b rb op w h h' s.vd.dok s'.vd.dok s.vd.2.1 (by have:=s.vd.2.2.1;omega) s'.vd.2.1 (by have:=s'.vd.2.2.1;omega) (by omega) (by omega) (by omega) (by omega) ho).mono ?_;rintro v w' ⟨OA,q,oc,rfl,hE,hO,hR⟩;exact⟨OA,q,oc,_,_,rfl,hE,hO,bQ4 s s' op,hR⟩
theorem lQq {a b:List Br}{ra rb:Int}{o o':(Nat->Bool)->Bool}(A:Option Addr)(n c:Nat)(B:Option Addr)(m d:Nat)(w:World)(h:SB w A n c a)(h':SB w B m d b)(s:Set1 k a ra o)(s':Set1 k b rb o'):
  Fn Tryz.prog 66 [dgV A n c ra,dgV B m d rb] w (DgS w k (fun e=>opB 1 (o e) (o' e))):=by
 refine aQf (c:={c66 with cuts:=[]}) aQb Tryz.func66 rfl rfl rfl ?_;refine new (fun w1 hE1 hz1 hB1=>?_);refine new (fun w2 hE2 hz2 hB2=>?_);refine new (fun w3 hE3 hz3 hB3=>?_);have hE03:=(hE1.trans hE2).trans hE3;refine aQd ((hB1.ext hE2).ext hE3) rfl ?_;refine aQd (hB2.ext hE3) rfl ?_;refine call (hQP hk A n c B m d 1 (by decide) w3 (h.ext hE03) (h'.ext hE03) s s') ?_;rintro _ w4 ⟨PA,q,pc,nd,r,rfl,hE4,hP4,hS4,hR4⟩;refine aQc (hB3.ext hE4) rfl (sc rfl) (fun w5 hg5 _ hB5=>?_);have hM5:Mod (·=w2.heap.size) w4 w5:=zQE hg5 rfl;refine aQd hB5 rfl ?_;exact⟨PA,q,pc,nd,r,rfl,hM5.ext (hE03.trans hE4) (fun i hi=>by omega),hP4.mod hM5 (fun i hi e=>by have:=hR4 i hi;omega),hS4,fun i hi=>by have:=hR4 i hi;omega⟩
theorem lQr {a b:List Br}{ra rb:Int}{o o':(Nat->Bool)->Bool}(A:Option Addr)(n c:Nat)(B:Option Addr)(m d:Nat)(w:World)(h:SB w A n c a)(h':SB w B m d b)(s:Set1 k a ra o)(s':Set1 k b rb o'):
  Fn Tryz.prog 22 [dgV A n c ra,dgV B m d rb] w (DgS w k (fun e=>opB 0 (o e) (o' e))):=by
 refine aQf (c:={c22 with cuts:=[]}) aQb Tryz.func22 rfl rfl rfl ?_;refine new (fun w1 hE1 hz1 hB1=>?_);refine new (fun w2 hE2 hz2 hB2=>?_);refine new (fun w3 hE3 hz3 hB3=>?_);have hE03:=(hE1.trans hE2).trans hE3;refine aQd ((hB1.ext hE2).ext hE3) rfl ?_;refine aQd (hB2.ext hE3) rfl ?_;refine call (hQP hk A n c B m d 0 (by decide) w3 (h.ext hE03) (h'.ext hE03) s s') ?_;rintro _ w4 ⟨PA,q,pc,nd,r,rfl,hE4,hP4,hS4,hR4⟩;refine aQc (hB3.ext hE4) rfl (sc rfl) (fun w5 hg5 _ hB5=>?_);have hM5:Mod (·=w2.heap.size) w4 w5:=zQE hg5 rfl;refine aQd hB5 rfl ?_;exact⟨PA,q,pc,nd,r,rfl,hM5.ext (hE03.trans hE4) (fun i hi=>by omega),hP4.mod hM5 (fun i hi e=>by have:=hR4 i hi;omega),hS4,fun i hi=>by have:=hR4 i hi;omega⟩
theorem qQv {a:List Br}{ra:Int}{o:(Nat->Bool)->Bool}(A:Option Addr)(n c:Nat)(w:World)(h:SB w A n c a)(s:Set1 k a ra o):
  Fn Tryz.prog 59 [dgV A n c ra] w (DgS w k (fun e=> !o e)):=by
 refine aQf (c:={c59 with cuts:=[]}) aQb Tryz.func59 rfl rfl rfl ?_;refine new (fun w1 hE1 hz1 hB1=>?_);refine new (fun w2 hE2 hz2 hB2=>?_);have hE02:=hE1.trans hE2;have hB12:=hB1.ext hE2;refine aQm aQb (Ext w2) 3 [(true,0),(false,1),(false,2)] (by kernel_rfl) (Ext.drew w2) ?_;refine aQw (vs:=[.slice A n c,.int .i64 ra]) rfl (fun w' hw' j v hj=>by have:=(hB12.ext hw').cell j;rw[this];exact hj) ?_;refine call (fQN true _) ?_;rintro _ w3 ⟨rfl,hE3⟩;have hE23:=(Ext.drew w2).trans hE3;refine⟨hE23,?_⟩;have s1:Set1 k [] 1 (fun _=>true):=bQi k true;refine call (hQP hk A n c none 0 0 2 (by decide) w3 (h.ext (hE02.trans hE23)) (SlS.nil _) s s1) ?_;rintro _ w4 ⟨PA,q,pc,nd,r,rfl,hE4,hP4,hS4,hR4⟩;have hE24:=hE23.trans hE4;refine⟨hE24,?_⟩;have hz:=(hE02.trans hE23).size;refine aQc (hB2.ext hE24) rfl (sc rfl) (fun w5 hg5 _ hB5=>?_);have hM5:Mod (·=w1.heap.size) w4 w5:=zQE hg5 rfl;refine aQd hB5 rfl ?_;have hz2':=hE23.size;exact⟨PA,q,pc,nd,r,rfl,hM5.ext (hE02.trans hE24) (fun i hi=>by omega),hP4.mod hM5 (fun i hi e=>by have:=hR4 i hi;omega),hS4.congr (fun e=>by cases o e<;>rfl),fun i hi=>by have:=hR4 i hi;omega⟩
theorem qQw {a b:List Br}{ra rb:Int}{o o':(Nat->Bool)->Bool}(A:Option Addr)(n c:Nat)(B:Option Addr)(m d:Nat)(w:World)(h:SB w A n c a)(h':SB w B m d b)(s:Set1 k a ra o)(s':Set1 k b rb o'):
  Fn Tryz.prog 23 [dgV A n c ra,dgV B m d rb] w (DgS w k (fun e=>o e && !o' e)):=by
 refine aQf (c:={c23 with cuts:=[]}) aQb Tryz.func23 rfl rfl rfl ?_;refine new (fun w1 hE1 hz1 hB1=>?_);refine new (fun w2 hE2 hz2 hB2=>?_);refine new (fun w3 hE3 hz3 hB3=>?_);have hE03:=(hE1.trans hE2).trans hE3;have hB13:=(hB1.ext hE2).ext hE3;have hB23:=hB2.ext hE3;refine aQm aQb (Ext w3) 4 [(true,0),(true,1),(false,2),(false,3)] (by kernel_rfl) (Ext.drew w3) ?_;refine aQw (vs:=[.slice A n c,.int .i64 ra]) rfl (fun w' hw' j v hj=>by have:=(hB13.ext hw').cell j;rw[this];exact hj) ?_;refine aQw (vs:=[.slice B m d,.int .i64 rb]) rfl (fun w' hw' j v hj=>by have:=(hB23.ext hw').cell j;rw[this];exact hj) ?_;refine call (qQv hk B m d _ (h'.ext (hE03.trans (Ext.drew w3))) s') ?_;rintro _ w4 ⟨QA,q1,qc,nd1,r1,rfl,hE4,hQ4,hT4,_⟩;have hE34:=(Ext.drew w3).trans hE4;refine⟨hE34,?_⟩;refine call (lQr hk A n c QA q1 qc w4 (h.ext (hE03.trans hE34)) hQ4 s hT4) ?_;rintro _ w5 ⟨PA,q,pc,nd,r,rfl,hE5,hP5,hS5,hR5⟩;have hE35:=hE34.trans hE5;refine⟨hE35,?_⟩;have hz3':=hE34.size;refine aQc (hB3.ext hE35) rfl (sc rfl) (fun w6 hg6 _ hB6=>?_);have hM6:Mod (·=w2.heap.size) w5 w6:=zQE hg6 rfl;refine aQd hB6 rfl ?_;exact⟨PA,q,pc,nd,r,rfl,hM6.ext (hE03.trans hE35) (fun i hi=>by omega),hP5.mod hM6 (fun i hi e=>by have:=hR5 i hi;omega),hS5.congr (fun e=>by simp[opB]),fun i hi=>by have:=hR5 i hi;omega⟩
end
theorem mQN {k v:Nat}(hv:v<k)(hk:k<=64):Set1 k [⟨(v:Nat),0,1⟩] 2 (fun e=>e v):=⟨nQD (by omega) (by omega),fun b hb=>by simp only[List.mem_singleton] at hb;subst hb;show((v:Nat):Int)<k;omega,fun e=>by
 rw[eQX (nQD (k:=((v:Nat):Int)) (by omega) (by omega)).wf (by decide) (b:=⟨(v:Nat),0,1⟩) rfl,bQP (by simp),bQP (by simp)];cases h:e v<;>simp[h]⟩
end
section
section
open Go Go.RowKit
structure Sx where
 f:Int
 t:Int
 fl:Int
 at_:Int
 x:DV
def Sx.cells (y:Sx):List Value:=[.int .i64 y.f,.int .i64 y.t,.int .i64 y.fl,.int .i64 y.at_,.slice y.x.A y.x.n y.x.c,.int .i64 y.x.r]
theorem hQQ (y:Sx):y.cells.length=6:=rfl
structure SX (w:World) (A:Option Addr) (n c:Nat) (L:List Sx):Prop where
 sl:SlS Sx.cells 6 w A n c L
 dg:∀y∈L,SB w y.x.A y.x.n y.x.c y.x.nd
theorem SX.ext {w w':World}{A:Option Addr}{n c:Nat}{L:List Sx}(h:SX w A n c L)(k:Ext w w'):SX w' A n c L:=⟨h.sl.ext k,fun y hy=>(h.dg y hy).ext k⟩
def uQT (tx:List Nat)(at_:Int)(y:Sx):Prop:=y.f=at_/\at_<y.t/\y.t<=tx.length/\tx[(y.t-1).toNat]? =some 10/\bQS y.x.nd y.x.r=0/\0<=y.fl/\0<=y.at_/\y.at_<=1048576-(y.t-y.f)
def pQg (tx:List Nat):Int->List Sx->Prop
 | at_,[]=>at_=tx.length
 | at_,y::L=>uQT tx at_ y/\pQg tx y.t L
open Classical in
noncomputable def qQx (tx:List Nat)(L:List Sx):Int:=if 1048576<tx.length∨65536<L.length then 2 else if pQg tx 0 L then 0 else 70
theorem lQs {tx:List Nat}{L:List Sx}:qQx tx L=0↔tx.length<=1048576/\L.length<=65536/\pQg tx 0 L:=by
 unfold qQx;by_cases h1:1048576<tx.length∨65536<L.length
 ·rw[if_pos h1];constructor
  ·intro h;cases h
  ·rintro⟨a,b,_⟩;omega
 ·rw[if_neg h1];by_cases h2:pQg tx 0 L
  ·rw[if_pos h2];exact⟨fun _=>⟨by omega,by omega,h2⟩,fun _=>rfl⟩
  ·rw[if_neg h2];constructor
   ·intro h;cases h
   ·rintro⟨_,_,h⟩;exact absurd h h2
structure ChkI (w0:World) (tx:List Nat) (L:List Sx) (i:Nat) (at_:Int) (w:World):Prop where
 e:Ext w0 w
 le:i<=L.length
 a0:0<=at_
 al:at_<=tx.length
 rs:pQg tx 0 L↔pQg tx at_ (L.drop i)
set_option maxHeartbeats 1600000 in
theorem qQy (tx:List Nat)(A:Option Addr)(n c:Nat)(L:List Sx)(w:World)(h:SX w A n c L)(h8:∀x∈tx,x<256):
  Fn Tryz.prog 54 [uQS tx A n c] w (fun u w'=>u= .int .i64 (qQx tx L)/\Ext w w'):=by
 have hlen:=h.sl.2;have hts:=aQj tx;refine aQf (c:={c54 with cuts:=[]}) aQb Tryz.func54 rfl rfl rfl ?_;refine new (fun w1 hE1 hz1 hB1=>?_);refine aQg hB1 rfl ?_;refine aQq (fun c1=>?_) (fun c1=>?_)
 ·exact⟨by unfold qQx;rw[if_pos (.inl (by omega))],hE1⟩
 refine aQe hB1 rfl ?_;refine aQq (fun c2=>?_) (fun c2=>?_)
 ·exact⟨by unfold qQx;rw[if_pos (.inr (by omega))],hE1⟩
 have hcs:qQx tx L=open Classical in if pQg tx 0 L then 0 else 70:=by unfold qQx;rw[if_neg (by omega)]
 refine aQe hB1 rfl ?_;refine loop aQb [19,3] (fun s:Nat×Int=>[.int .i64 s.1,.int .i64 s.2]) (fun s w'=>ChkI w1 tx L s.1 s.2 w') (fun s _=>L.length-s.1) (0,0) rfl ⟨Ext.refl _,Nat.zero_le _,Int.le_refl _,by omega,Iff.rfl⟩ ?_;rintro⟨i,at_⟩ w2 hI;have hE02:=hE1.trans hI.e;have a0:=hI.a0;have al:=hI.al;simp only at a0 al;refine aQq (fun c3=>?_) (fun c3=>?_)
 ·have hi:i<n:=by omega
  refine aQp hQQ (h.sl.ext hE02) rfl hi (fun p y hy hc=>?_);refine aQK (vs:=y.cells) rfl hc ?_;refine new (fun w3 hE3 hz3 hB3=>?_);refine aQc hB3 rfl (sc rfl) (fun w4 hg4 _ hB4=>?_);have hE24:Ext w2 w4:=aQJ hE3 hB3 hg4;have hE04:=hE02.trans hE24;have hB1':=hB1.ext (hI.e.trans hE24);have hdrop:L.drop i=y::L.drop (i+1):=by
   rw[List.drop_eq_getElem_cons (by omega)];congr 1;exact Option.some.inj ((List.getElem?_eq_getElem (by omega)).symm.trans hy)
  have hrs:=hI.rs;simp only at hrs;rw[hdrop,pQg] at hrs;have bad:¬uQT tx at_ y->∀w',Ext w w'->(Value.int .i64 70= .int .i64 (qQx tx L))/\Ext w w':=fun hno w' hE=>⟨by rw[hcs,if_neg (fun hh=>hno (hrs.1 hh).1)],hE⟩
  refine aQg hB4 rfl ?_;refine cQj (fun d1=>?_) (fun d1=>?_)
  ·exact bad (fun hb=>d1 hb.1) _ hE04
  refine aQe hB4 rfl ?_;refine aQq (fun d2=>?_) (fun d2=>?_)
  ·exact bad (fun hb=>by have:=hb.2.1;omega) _ hE04
  refine aQe hB4 rfl ?_;refine aQg hB1' rfl ?_;refine aQq (fun d3=>?_) (fun d3=>?_)
  ·exact bad (fun hb=>by have:=hb.2.2.1;omega) _ hE04
  have hyt:y.t<=tx.length:=by omega
  refine aQg hB1' rfl ?_;refine aQe hB4 rfl ?_;have hj:(y.t-1).toNat<tx.length:=by omega
  refine aQa (((y.t-1).toNat:Nat):Int) (by omega) (by omega) ?_;refine cQp (by rw[hts];exact hj) (fun b hb _=>?_);rw[aQG h8] at hb;refine cQj (fun d4=>?_) (fun d4=>?_)
  ·exact bad (fun hh=>by have:=hh.2.2.2.1;rw[hb] at this;exact d4 (by have:=Option.some.inj this;omega)) _ hE04
  have hb10:tx[(y.t-1).toNat]? =some 10:=by rw[hb];congr 1;omega
  refine aQK (vs:=[.slice y.x.A y.x.n y.x.c,.int .i64 y.x.r]) rfl (fun j v hj=>by rw[Addr.add_add];exact(hB4.cell _).trans (by match j,hj with | 0,hj=>exact hj | 1,hj=>exact hj)) ?_;refine call (dQI y.x.A y.x.n y.x.c y.x.nd y.x.r w4 ((h.dg y (List.mem_of_getElem? hy)).ext hE04)) ?_;rintro _ w5 ⟨rfl,hE5⟩;have hE05:=hE04.trans hE5;have hB5:=hB4.ext hE5;refine cQj (fun d5=>?_) (fun d5=>?_)
  ·exact bad (fun hh=>d5 hh.2.2.2.2.1) _ hE05
  refine aQe hB5 rfl ?_;refine aQq (fun d6=>?_) (fun d6=>?_)
  ·exact bad (fun hh=>by have:=hh.2.2.2.2.2.1;omega) _ hE05
  refine aQe hB5 rfl ?_;refine aQq (fun d7=>?_) (fun d7=>?_)
  ·exact bad (fun hh=>by have:=hh.2.2.2.2.2.2.1;omega) _ hE05
  refine aQe hB5 rfl ?_;refine aQe hB5 rfl ?_;refine aQg hB5 rfl ?_;refine aQa (y.t-y.f) rfl (by omega) ?_;refine aQa (1048576-(y.t-y.f)) rfl (by omega) ?_;refine aQq (fun d8=>?_) (fun d8=>?_)
  ·exact bad (fun hh=>by have:=hh.2.2.2.2.2.2.2;omega) _ hE05
  refine aQe hB5 rfl ?_;refine aQa ((i+1:Nat):Int) (by show((i:Nat):Int)+1=_;omega) (by omega) ?_;have hok:uQT tx at_ y:=⟨d1,by omega,hyt,hb10,d5,by omega,by omega,by omega⟩
  exact⟨(i+1,y.t),rfl,⟨hI.e.trans (hE24.trans hE5),by show i+1<=L.length;omega,by show 0<=y.t;omega,hyt,by simp only;rw[hrs];exact⟨fun hh=>hh.2,fun hh=>⟨hok,hh⟩⟩⟩,by show L.length-(i+1)<L.length-i;omega⟩
 ·have hdrop:L.drop i=[]:=List.drop_eq_nil_of_le (by omega);have hrs:=hI.rs;simp only at hrs;rw[hdrop,pQg] at hrs;refine aQg (hB1.ext hI.e) rfl ?_;refine aQq (fun d1=>?_) (fun d1=>?_)
  ·exact⟨by rw[hcs,if_neg (fun hh=>by have:=hrs.1 hh;omega)],hE02⟩
  ·exact⟨by rw[hcs,if_pos (hrs.2 (by omega))],hE02⟩
end
section
open Go Go.RowKit
structure SegB (tx:List Nat) (y:Sx):Prop where
 f0:0<=y.f
 ft:y.f<y.t
 tl:y.t<=tx.length
 ck:bQS y.x.nd y.x.r=0
 l0:0<=y.fl
 a0:0<=y.at_
 a1:y.at_<=1048576
theorem nQP {tx:List Nat}:∀{L:List Sx}{a:Int},0<=a->pQg tx a L->∀y∈L,SegB tx y
 | [],_,_,_,y,hy=>by cases hy
 | z::L,a,ha,h,y,hy=>by
  obtain⟨⟨h1,h2,h3,h4,h5,h6,h7,h8⟩,hr⟩:=h;rcases List.mem_cons.1 hy with rfl | hy
  ·exact⟨by omega,by omega,h3,h5,h6,h7,by omega⟩
  ·exact nQP (by omega) hr y hy
def jQ5 (L:List Sx):Int:=(L.map (fun y=>y.t-y.f)).sum
theorem dQR (y:Sx)(L:List Sx):jQ5 (y::L)=(y.t-y.f)+jQ5 L:=by simp[jQ5]
theorem qQz {tx:List Nat}:∀{L:List Sx},(∀y∈L,SegB tx y)->0<=jQ5 L
 | [],_=>by simp[jQ5]
 | y::L,h=>by
  rw[dQR];have:=(h y (by simp)).ft;have:0<=jQ5 L:=qQz (tx:=tx) (fun z hz=>h z (List.mem_cons_of_mem _ hz));omega
theorem nQQ {tx:List Nat}:∀{L:List Sx}{a:Int},pQg tx a L->jQ5 L=tx.length-a
 | [],a,h=>by have:a=tx.length:=h;simp[jQ5,this]
 | y::L,a,h=>by
  rw[dQR,nQQ h.2,h.1.1];omega
theorem hQS {tx:List Nat}(q:Sx->Bool):∀{L:List Sx},(∀y∈L,SegB tx y)->jQ5 (L.filter q)<=jQ5 L
 | [],_=>by simp[jQ5]
 | y::L,h=>by
  have h1:=(h y (by simp)).ft;have h2:jQ5 (L.filter q)<=jQ5 L:=hQS (tx:=tx) q (fun z hz=>h z (List.mem_cons_of_mem _ hz));rw[List.filter_cons];split
  ·rw[dQR,dQR];omega
  ·rw[dQR];omega
def inS (c:Nat)(y:Sx):Bool:=ev y.x.nd y.x.r (gQT c)
def gQs (c:Nat)(L:List Sx):List Sx:=L.filter (inS c)
def cQR (tx:List Nat)(y:Sx):List Nat:=(tx.take y.t.toNat).drop y.f.toNat
noncomputable def xQa (tx:List Nat)(L:List Sx)(c:Nat):List Nat:=if qQx tx L=0 then(gQs c L).flatMap (cQR tx)else []
theorem qQA (y:Sx):∀u∈y.cells,aQ8 u=true:=by intro u hu;simp[Sx.cells] at hu;rcases hu with rfl | rfl | rfl | rfl | rfl | rfl<;>rfl
structure SelI (w0:World) (base:Nat) (c:Nat) (L:List Sx) (i:Nat) (O:Option Addr) (oc:Nat) (w:World):Prop where
 e:Ext w0 w
 le:i<=L.length
 own:Own w base 48 6 O (gQs c (L.take i)).length oc ((gQs c (L.take i)).flatMap Sx.cells)
set_option maxHeartbeats 1600000 in
theorem mQO (tx:List Nat)(A:Option Addr)(n cp:Nat)(L:List Sx)(c:Nat)(w:World)(h:SX w A n cp L)(hc:c<=18446744073709551615)(hv:∀y∈L,bQS y.x.nd y.x.r=0)(hn:n<=65536):
  Fn Tryz.prog 55 [uQS tx A n cp,.int .u64 c] w (fun u w'=>∃O oc,u= .slice O (gQs c L).length oc/\Ext w w'/\SX w' O (gQs c L).length oc (gQs c L)/\Own w' w.heap.size 48 6 O (gQs c L).length oc ((gQs c L).flatMap Sx.cells)):=by
 have hlen:=h.sl.2;refine aQf (c:={c55 with cuts:=[]}) aQb Tryz.func55 rfl rfl rfl ?_;refine new (fun w1 hE1 hz1 hB1=>?_);refine aQe hB1 rfl ?_;refine loop aQb [11,5] (fun s:Nat×Option Addr×Nat=>[.int .i64 s.1,.slice s.2.1 (gQs c (L.take s.1)).length s.2.2]) (fun s w'=>SelI w1 w1.heap.size c L s.1 s.2.1 s.2.2 w') (fun s _=>L.length-s.1) (0,none,0) rfl ⟨Ext.refl _,Nat.zero_le _,Own.nil _ _ _ _⟩ ?_;rintro⟨i,O,oc⟩ w2 hI;have hE02:=hE1.trans hI.e;have ho:=hI.own;have hle:=hI.le;simp only at ho hle;refine aQq (fun c3=>?_) (fun c3=>?_)
 ·have hi:i<n:=by omega
  refine aQp hQQ (h.sl.ext hE02) rfl hi (fun p y hy hcl=>?_);have htk:L.take (i+1)=L.take i++ [y]:=by rw[List.take_add_one,hy];rfl
  refine aQK (vs:=y.cells) rfl hcl ?_;refine new (fun w3 hE3 hz3 hB3=>?_);refine aQc hB3 rfl (sc rfl) (fun w4 hg4 _ hB4=>?_);have hE24:Ext w2 w4:=aQJ hE3 hB3 hg4;have hE04:=hE02.trans hE24;refine aQK (vs:=[.slice y.x.A y.x.n y.x.c,.int .i64 y.x.r]) rfl (fun j v hj=>by rw[Addr.add_add];exact(hB4.cell _).trans (by match j,hj with | 0,hj=>exact hj | 1,hj=>exact hj)) ?_;have hym:=List.mem_of_getElem? hy;refine call (lQp y.x.A y.x.n y.x.c y.x.nd y.x.r c hc w4 ((h.dg y hym).ext hE04) (hv y hym)) ?_;rintro _ w5 ⟨rfl,hE5⟩;have hE25:=hE24.trans hE5;have hB5:=hB4.ext hE5;refine wif (fun d1=>?_) (fun d1=>?_)
  ·have d1:inS c y=true:=d1;have hsl:gQs c (L.take (i+1))=gQs c (L.take i)++ [y]:=by rw[htk];unfold gQs;rw[List.filter_append];simp[d1]
   refine aQd hB5 rfl ?_;refine aQl aQb [y.cells] rfl rfl rfl rfl rfl ⟨rfl,rfl,⟨⟩⟩ rfl (fun cs hh=>by simp only[List.mem_singleton] at hh;subst hh;rfl) rfl (by decide) (by decide) ?_;intro w6 hE6 hz6 hB6;have hE26:=hE25.trans hE6;have hs6:Sl w6 6 (some ⟨w5.heap.size,0,none⟩) 1 1 y.cells:=Sl.own (sz:=6) (n:=1) hB6 (Nat.le_refl _) (by decide) (by simp[Sx.cells]);have hfl:(gQs c (L.take i)).length<=i:=Nat.le_trans (List.length_filter_le _ _) (by simp;omega);refine bQf (n:=(gQs c (L.take i)).length) aQb rfl rfl rfl rfl rfl (by decide) rfl rfl ⟨_,rfl⟩ rfl rfl (ho.ext hE26) hs6 (qQA y) (by unfold maxLen;omega) (by show((gQs c (L.take i)).length+1)*64<=_;omega) (by have:=hI.e.size;have:=hE26.size;omega) ?_;intro A' c' w7 hm7 hown7 hmv7;refine aQa ((i+1:Nat):Int) (by show((i:Nat):Int)+1=_;omega) (by omega) ?_;refine⟨(i+1,A',c'),by simp only[hsl,List.length_append];rfl,⟨hm7.ext (hI.e.trans hE26) (fun k hk=>(ho.rows k hk).1),by show i+1<=L.length;omega,?_⟩,by show L.length-(i+1)<L.length-i;omega⟩;simp only;rw[hsl,List.flatMap_append,List.length_append];simpa using hown7
  ·have d1:inS c y=false:=d1;have hsl:gQs c (L.take (i+1))=gQs c (L.take i):=by rw[htk];unfold gQs;rw[List.filter_append];simp[d1]
   refine aQa ((i+1:Nat):Int) (by show((i:Nat):Int)+1=_;omega) (by omega) ?_;refine⟨(i+1,O,oc),by simp only[hsl];rfl,⟨hI.e.trans hE25,by show i+1<=L.length;omega,?_⟩,by show L.length-(i+1)<L.length-i;omega⟩;simp only;rw[hsl];exact ho.ext hE25
 ·have hall:L.take i=L:=List.take_of_length_le (by omega);rw[hall] at ho;refine⟨O,oc,?_,hE02,⟨⟨ho.sl,rfl⟩,fun y hy=>(h.dg y (List.mem_filter.1 hy).1).ext hE02⟩,ho.up (by omega)⟩;rw[hall]
theorem iQY {tx:List Nat}:∀{L:List Sx},(∀y∈L,SegB tx y)->((L.flatMap (cQR tx)).length:Int)=jQ5 L
 | [],_=>rfl
 | y::L,h=>by
  have h1:=h y (by simp);have h2:=iQY (L:=L) (tx:=tx) (fun z hz=>h z (List.mem_cons_of_mem _ hz));have:=h1.f0;have:=h1.ft;have:=h1.tl;rw[List.flatMap_cons,List.length_append,dQR,<-h2];have:(cQR tx y).length=y.t.toNat-y.f.toNat:=by unfold cQR;rw[List.length_drop,List.length_take];omega
  rw[this];omega
theorem lQt {tx:List Nat}(h8:∀x∈tx,x<256)(y:Sx):∀x∈cQR tx y,x<256:=fun x hx=>h8 x (List.mem_of_mem_take (List.mem_of_mem_drop hx))
structure SelJ (w0:World) (base g:Nat) (tx:List Nat) (M:List Sx) (i:Nat) (w:World):Prop where
 e:Ext w0 w
 le:i<=M.length
 b:∃A c,Bld w base g 109 [] A c ((M.take i).flatMap (cQR tx))
set_option maxHeartbeats 1600000 in
theorem oQX (tx:List Nat)(A:Option Addr)(n cp:Nat)(L:List Sx)(c:Nat)(w:World)(h:SX w A n cp L)(hc:c<=18446744073709551615)(h8:∀x∈tx,x<256):
  Fn Tryz.prog 21 [uQS tx A n cp,.int .u64 c] w (fun u w'=>u= .string (aQh (xQa tx L c))/\Ext w w'):=by
 have hlen:=h.sl.2;refine aQf (c:={c21 with cuts:=[]}) aQb Tryz.func21 rfl rfl rfl ?_;refine new (fun w1 hE1 hz1 hB1=>?_);refine aQd hB1 rfl ?_;refine call (qQy tx A n cp L w1 (h.ext hE1) h8) ?_;rintro _ w2 ⟨rfl,hE2⟩;have hE02:=hE1.trans hE2;refine cQj (fun c1=>?_) (fun c1=>?_)
 ·exact⟨by unfold xQa;rw[if_neg c1];rfl,hE02⟩
 obtain⟨t1,t2,t3⟩:=lQs.1 c1;have hall:=nQP (Int.le_refl 0) t3;refine new (fun w3 hE3 hz3 hB3=>?_);have hE03:=hE02.trans hE3;refine aQd (hB1.ext (hE2.trans hE3)) rfl ?_;refine call (mQO tx A n cp L c w3 (h.ext hE03) hc (fun y hy=>(hall y hy).ck) (by omega)) ?_;rintro _ w4 ⟨O,oc,rfl,hE4,hO4,how4⟩;have hE04:=hE03.trans hE4;have hmall:∀y∈gQs c L,SegB tx y:=fun y hy=>hall y (List.mem_filter.1 hy).1
 have hmdg:∀y∈gQs c L,SB w y.x.A y.x.n y.x.c y.x.nd:=fun y hy=>h.dg y (List.mem_filter.1 hy).1
 have htot:jQ5 (gQs c L)<=tx.length:=by
  have e1:=hQS (inS c) hall;have e2:=nQQ t3;unfold gQs;omega
 have hml:(gQs c L).length<=65536:=Nat.le_trans (List.length_filter_le _ _) t2;have hsp:xQa tx L c=(gQs c L).flatMap (cQR tx):=if_pos c1;generalize hM:gQs c L=M at*;have hz24:=hE4.size;have hrow4:=how4.rows;have hb4:Bld w4 w4.heap.size w2.heap.size 109 [] none 0 (([]:List Sx).flatMap (cQR tx)):=⟨by omega,Nat.le_refl _,⟨_,.inl rfl,hB3.ext hE4⟩,Own.nil _ _ _ _⟩
 have hg2:=hE02.size;have hpl:∀i,(((M.take i).flatMap (cQR tx)).length:Int)<=tx.length:=fun i=>by
  have e1:=iQY (L:=M.take i) (tx:=tx) (fun z hz=>hmall z (List.mem_of_mem_take hz));have e2:=qQz (L:=M.drop i) (tx:=tx) (fun z hz=>hmall z (List.mem_of_mem_drop hz));have e3:jQ5 M=jQ5 (M.take i)+jQ5 (M.drop i):=by
   unfold jQ5;rw[<-List.sum_append,<-List.map_append,List.take_append_drop]
  omega
 refine loop aQb [15] (fun i:Nat=>[.int .i64 i]) (fun i w'=>SelJ w2 w4.heap.size w2.heap.size tx M i w'/\Mod (fun k=>k=w2.heap.size∨w4.heap.size<=k) w4 w') (fun i _=>M.length-i) 0 rfl ⟨⟨hE3.trans hE4,Nat.zero_le _,_,_,hb4⟩,Mod.refl _ _⟩ ?_;rintro i w5 ⟨hI,hM45⟩;have hE05:Ext w w5:=hE02.trans hI.e;have how5:Own w5 w3.heap.size 48 6 O M.length oc (M.flatMap Sx.cells):=how4.mod hM45 (fun k hk hS=>by have:=hrow4 k hk;omega);obtain⟨BA,bc,hb5⟩:=hI.b;refine aQq (fun c3=>?_) (fun c3=>?_)
 ·have hi:i<M.length:=by omega
  refine aQp (l:=M) hQQ ⟨how5.sl,rfl⟩ rfl hi (fun p y hy hcl=>?_);have hym:=List.mem_of_getElem? hy;have hyb:=hmall y hym;have htk:M.take (i+1)=M.take i++ [y]:=by rw[List.take_add_one,hy];rfl
  refine aQK (vs:=y.cells) rfl hcl ?_;refine new (fun w6 hE6 hz6 hB6=>?_);refine aQc hB6 rfl (sc rfl) (fun w7 hg7 _ hB7=>?_);have hE57:Ext w5 w7:=aQJ hE6 hB6 hg7;refine aQg ((hB1.ext hE2).ext (hI.e.trans hE57)) rfl ?_;refine aQg hB7 rfl ?_;refine aQe hB7 rfl ?_;have q1:=hyb.f0;have q2:=hyb.ft;have q3:=hyb.tl;have hts:=aQj tx;refine aQ1 (v':=.string (aQh (cQR tx y))) ⟨q1,by omega,by rw[hts];omega⟩ (by rw[aQt];rfl) ?_;have hpn:=hpl (i+1);rw[htk,List.flatMap_append,List.length_append] at hpn;have hpe: [y].flatMap (cQR tx)=cQR tx y:=by simp
  rw[hpe] at hpn;have hps:=aQj (cQR tx y);refine call (aQ0 w4.heap.size w2.heap.size _ [] BA bc _ (aQh (cQR tx y)) w7 cQk (hb5.grow hE57) (by rw[hps];omega)) ?_;rintro _ w8 ⟨A8,c8,hb8,hm8,hv8⟩;have hbr:=(hb5.own.rows)
  have hS8:∀k,BldS w2.heap.size BA k->k=w2.heap.size∨w4.heap.size<=k:=fun k hk=>hk.elim .inl (fun hk=>.inr (hbr k hk).1)
  refine aQa ((i+1:Nat):Int) (by show((i:Nat):Int)+1=_;omega) (by omega) ?_;refine⟨i+1,rfl,⟨⟨hm8.ext (hI.e.trans hE57) (fun k hk=>by rcases hS8 k hk with e | e<;>omega),hi,A8,c8,?_⟩,?_⟩,by show M.length-(i+1)<M.length-i;omega⟩
  ·rw[htk,List.flatMap_append,hpe];rw[aQG (lQt h8 y)] at hb8;exact hb8
  ·exact(hM45.trans (Mod.of_ext (fun k=>k=w2.heap.size∨w4.heap.size<=k) hE57) (fun k hk=>.inl hk)).trans (hm8.mono (fun k hk=>.inl (hS8 k hk))) (fun k hk=>.inl hk)
 ·have hall:M.take i=M:=List.take_of_length_le (by omega);rw[hall] at hb5;have hpn:=hpl i;rw[hall] at hpn;refine call (kQO w4.heap.size w2.heap.size _ [] BA bc _ w5 hb5 (fun x hx=>by
   obtain⟨y,_,hxy⟩:=List.mem_flatMap.1 hx;exact lQt h8 y x hxy) (by omega)) ?_
  rintro _ w6 ⟨rfl,hm6⟩;have hbr:=(hb5.own.rows)
  exact⟨by rw[hsp],hm6.ext hE05 (fun k hk=>by have:=hbr k hk;omega)⟩
end
section
open Go Go.RowKit
abbrev I2:=Int×Int
abbrev i2K:I2->Value:=fun t=>.agg #[.int .i64 t.1,.int .i64 t.2]
theorem zQs (a b:I2)(n:Nat)(w:World):(Op.equalIn (n+2) 253 (i2K a) (i2K b)).run Tryz.prog w= .ok (decide (a=b)) w:=by
 obtain⟨i,hi⟩:=Option.isSome_iff_exists.1 (show(Tryz.prog.info? 3).isSome=true by kernel_rfl);obtain⟨a0,a1⟩:=a;obtain⟨b0,b1⟩:=b;have e:=run_equalIn_array (w:=w) (n+1) #[.int .i64 a0,.int .i64 a1] #[.int .i64 b0,.int .i64 b1] Tryz.underlying253 hi;rw[ci1,show List.range 2=[0,1] from rfl] at e;refine e.trans ?_;have p0:∀x y:Int,(part 3 #[Value.int .i64 x,.int .i64 y] (0*1)).run Tryz.prog w= .ok (.int .i64 x) w:=fun x y=>bQH k3 rfl w
 have p1:∀x y:Int,(part 3 #[Value.int .i64 x,.int .i64 y] (1*1)).run Tryz.prog w= .ok (.int .i64 y) w:=fun x y=>bQH k3 rfl w
 have dd:decide ((a0,a1)=(b0,b1))=(a0==b0&&a1==b1):=by
  by_cases h0:a0=b0<;>by_cases h1:a1=b1<;>simp[h0,h1]
 rw[dd];simp only[Op.eqItems,Sem.run_bind,p0,Result.andThen_ok,pQ9];cases h0:a0==b0 with
 | false=>simp
 | true=>
  simp only[Bool.not_true,Bool.false_eq_true,if_false,Sem.run_bind,p1,Result.andThen_ok,pQ9,Bool.true_and];cases h1:a1==b1<;>simp
theorem uQU (b:Bool)(a:I2)(n:Nat)(w:World):(Instr.checkKey b (n+2) 253 (i2K a)).run Tryz.prog w= .ok () w:=by
 obtain⟨i,hi⟩:=Option.isSome_iff_exists.1 (show(Tryz.prog.info? 3).isSome=true by kernel_rfl);have p0:∀x y:Int,(part 3 #[Value.int .i64 x,.int .i64 y] 0).run Tryz.prog w= .ok (.int .i64 x) w:=fun x y=>bQH k3 rfl w
 have p1:∀x y:Int,(part 3 #[Value.int .i64 x,.int .i64 y] 1).run Tryz.prog w= .ok (.int .i64 y) w:=fun x y=>bQH k3 rfl w
 have hz:(sizeOf 3).run Tryz.prog w= .ok 1 w:=by rw[<-ci1];exact Go.run_sizeOf w hi
 simp[Instr.checkKey,run_underlying Tryz.underlying253,run_underlying Tryz.underlying3,hz,p0,p1,Std.Legacy.Range.forIn_eq_forIn_range',Std.Legacy.Range.size,List.range'_succ]
theorem sQz:KeyQ Tryz.prog 253 i2K:=
 KeyQ.askingA Tryz.underlying253 (fun a b w=>zQs a b 9998 w) (fun b a w=>uQU b a 9998 w) (fun a=>by simp[Instr.sameBits])
def gQt (a:List Br)(x:Int)(b:List Br)(y:Int):Prop:=∃e,ev a x e=true/\ev b y e=true
theorem qQB {a:List Br}(h:Rd0 a){x:Int}(h0:0<=x)(h1:x<a.length+2)(hx:x≠0):∃e,ev a x e=true:=by
 apply Classical.byContradiction;intro hn;refine hx (inj h h0 (by decide) h1 (by omega) (fun e=>?_));have e1:ev a 0 e=false:=by rw[bQP (by decide)];rfl
 rw[e1];cases hc:ev a x e with
 | false=>rfl
 | true=>exact absurd ⟨e,hc⟩ hn
theorem oQY {a b:List Br}(ha:Rd0 a)(hb:Rd0 b){x y:Int}(x0:0<=x)(x1:x<a.length+2)(y0:0<=y)(y1:y<b.length+2){v:Int}(hv:v=min (aQz a x) (aQz b y))(h64:v<64):
  gQt a x b y↔gQt a (aQk a x v).1 b (aQk b y v).1∨gQt a (aQk a x v).2 b (aQk b y v).2:=by
 have l1:v<=aQz a x:=by rw[hv,Int.min_def];split<;>omega
 have l2:v<=aQz b y:=by rw[hv,Int.min_def];split<;>omega
 obtain⟨p1,p2,p3,p4,p5⟩:=dQK ha x0 x1 l1 h64;obtain⟨q1,q2,q3,q4,q5⟩:=dQK hb y0 y1 l2 h64;have v0:0<=v:=by
  have:=ha.lvl0 x1;have:=hb.lvl0 y1;rw[hv,Int.min_def];split<;>omega
 constructor
 ·rintro⟨e,e1,e2⟩;rw[p1] at e1;rw[q1] at e2;cases he:e v.toNat with
  | true=>rw[he,if_pos rfl] at e1 e2;exact .inr ⟨e,e1,e2⟩
  | false=>rw[he,if_neg (by decide)] at e1 e2;exact .inl ⟨e,e1,e2⟩
 ·rintro(⟨e,e1,e2⟩ | ⟨e,e1,e2⟩)
  ·refine⟨upd e v.toNat false,?_,?_⟩
   ·rw[p1,show upd e v.toNat false v.toNat=false from if_pos rfl,if_neg (by decide),dQn ha v.toNat false e _ _ (Nat.lt_succ_self _) p4 (by omega)];exact e1
   ·rw[q1,show upd e v.toNat false v.toNat=false from if_pos rfl,if_neg (by decide),dQn hb v.toNat false e _ _ (Nat.lt_succ_self _) q4 (by omega)];exact e2
  ·refine⟨upd e v.toNat true,?_,?_⟩
   ·rw[p1,show upd e v.toNat true v.toNat=true from if_pos rfl,if_pos rfl,dQn ha v.toNat true e _ _ (Nat.lt_succ_self _) p5 (by omega)];exact e1
   ·rw[q1,show upd e v.toNat true v.toNat=true from if_pos rfl,if_pos rfl,dQn hb v.toNat true e _ _ (Nat.lt_succ_self _) q5 (by omega)];exact e2
structure MP where
 D:DV
 E:DV
 bo:Nat
 sx:Nat
 ax:Nat
 bx:Nat
 cx:Nat
 q:Nat
def MP.caps (p:MP):List Value:=[VP.ptr p.bo,VP.ptr p.sx,VP.ptr p.ax,VP.ptr p.bx,VP.ptr p.cx]
def MP.clo (p:MP):Value:=.func (.func 166) #[] #[VP.ptr p.bo,VP.ptr p.sx,VP.ptr p.ax,VP.ptr p.bx,VP.ptr p.cx]
structure MK (w:World) (p:MP):Prop where
 bob:Blk w p.bo 4 [.bool true]
 sxb:Blk w p.sx 251 [.map (some p.q)]
 axb:Blk w p.ax 32 p.D.cells
 bxb:Blk w p.bx 32 p.E.cells
 cxb:Blk w p.cx 252 [p.clo]
 as_:SB w p.D.A p.D.n p.D.c p.D.nd
 bs:SB w p.E.A p.E.n p.E.c p.E.nd
 off:p.bo≠p.q/\p.sx≠p.q/\p.ax≠p.q/\p.bx≠p.q/\p.cx≠p.q
 rowA:∀ad,p.D.A=some ad->0<p.D.n->ad.block≠p.q
 rowB:∀ad,p.E.A=some ad->0<p.E.n->ad.block≠p.q
theorem MK.mod {w w':World}{p:MP}(h:MK w p)(hm:Mod (·=p.q) w w'):MK w' p:=by
 obtain⟨o1,o2,o3,o4,o5⟩:=h.off;refine⟨h.bob.mod hm o1,h.sxb.mod hm o2,h.axb.mod hm o3,h.bxb.mod hm o4,h.cxb.mod hm o5,⟨h.as_.1.modS hm ?_,h.as_.2⟩,⟨h.bs.1.modS hm ?_,h.bs.2⟩,h.off,h.rowA,h.rowB⟩
 ·rintro h0 i ⟨ad,e,rfl⟩;exact h.rowA ad e h0
 ·rintro h0 i ⟨ad,e,rfl⟩;exact h.rowB ad e h0
theorem MK.ext {w w':World}{p:MP}(h:MK w p)(k:Ext w w'):MK w' p:=h.mod (Mod.of_ext _ k)
def lQu (w:World)(q:Nat)(S:List I2):Prop:=∃m,MapQ i2K w q m/\∀t,(aQS t m).getD (.bool false)= .bool (decide (t∈S))
def MtC (p:MP)(x y:Int)(S:List I2)(w:World)(v:Value)(w':World):Prop:=
 Mod (·=p.q) w w'/\∃r:Bool,v= .bool r/\(r=true->gQt p.D.nd x p.E.nd y)/\(r=false->¬gQt p.D.nd x p.E.nd y/\∃S',lQu w' p.q S'/\∀t∈S',t∈S∨¬gQt p.D.nd t.1 p.E.nd t.2)
set_option maxHeartbeats 1600000 in
theorem lQv (p:MP)(ha:Rd0 p.D.nd)(hb:Rd0 p.E.nd):∀(k:Nat)(x y:Int)(S:List I2)(w:World),
  MK w p->lQu w p.q S->(∀t∈S,t.1+t.2<=x+y->¬gQt p.D.nd t.1 p.E.nd t.2)->0<=x->0<=y->x<p.D.n+2->y<p.E.n+2->x+y<k->
  Fn Tryz.prog 166 (.int .i64 x:: .int .i64 y::p.caps) w (MtC p x y S w)
 | 0,x,y,_,_,_,_,_,x0,y0,_,_,hk=>by omega
 | k+1,x,y,S,w,hK,hS,hno,x0,y0,hx,hy,hk=>by
  have ih:=lQv p ha hb k;have hal:p.D.nd.length=p.D.n:=hK.as_.2;have hbl:p.E.nd.length=p.E.n:=hK.bs.2;refine aQf (c:={xQT with cuts:=[]}) aQb Tryz.func166 rfl rfl rfl ?_;refine aQP (fun c1=>?_) (fun c1=>?_)
  ·exact⟨Mod.refl _ _,false,rfl,fun h=>(by cases h),fun _=>⟨(fun⟨e,e1,_⟩=>by rw[c1,bQP (by decide)] at e1;cases e1),S,hS,fun t ht=>.inl ht⟩⟩
  refine aQq (fun c2=>?_) (fun c2=>?_)
  ·refine aQg hK.bob rfl ?_;by_cases y1:y=1
   ·subst y1;refine aQN rfl ?_;refine aQO c2 ?_;refine⟨Mod.refl _ _,true,rfl,fun _=>?_,fun h=>by cases h⟩;obtain⟨e,he⟩:=qQB ha x0 (by omega) c1;exact⟨e,he,by rw[bQP (by decide)];rfl⟩
   ·have y00:y=0:=by omega
    subst y00;refine aQM rfl ?_;exact⟨Mod.refl _ _,false,rfl,fun h=>(by cases h),fun _=>⟨(fun⟨e,_,e1⟩=>by rw[bQP (by decide)] at e1;cases e1),S,hS,fun t ht=>.inl ht⟩⟩
  refine aQB c2 ?_;obtain⟨mq,hmq,hmem⟩:=hS;refine aQg hK.sxb rfl ?_;refine gQi (kv:=i2K) (a:=((x,y):I2)) aQb rfl rfl rfl rfl sQz rfl rfl hmq (hmem (x,y)) ?_;refine aQq (fun c3=>?_) (fun c3=>?_)
  ·exact⟨Mod.refl _ _,false,rfl,fun h=>(by cases h),fun _=>⟨hno (x,y) c3 (Int.le_refl _),S,⟨mq,hmq,hmem⟩,fun t ht=>.inl ht⟩⟩
  refine aQg hK.sxb rfl ?_;refine bQ3 (kv:=i2K) (a:=((x,y):I2)) aQb rfl rfl rfl rfl sQz rfl rfl rfl hmq (fun w1 hM1 hz1 hq1=>?_);have hK1:=hK.mod hM1;have hS1:lQu w1 p.q ((x,y)::S):=⟨_,hq1,fun t=>by
   rw[bQe];by_cases ht:t=(x,y)
   ·subst ht;simp
   ·rw[if_neg ht,hmem t];simp[ht]⟩
  have hv64:min (aQz p.D.nd x) (aQz p.E.nd y)<64:=by
   have:=cQz hb.dok (n:=y) c2 (by omega);rw[Int.min_def];split<;>omega
  have hl0:=ha.lvl0 (n:=x) (by omega);have hl1:=hb.lvl0 (n:=y) (by omega);refine aQm aQb (Ext w1) 8 [(true,0),(true,1),(true,3),(true,4),(false,2),(false,5),(true,6),(true,7)] (by kernel_rfl) (Ext.drew w1) ?_;refine aQw (vs:=p.D.cells) rfl (fun w' hw' j v hj=>by rw[(hK1.axb.ext hw').cell];exact hj) ?_;refine aQw (vs:=p.E.cells) rfl (fun w' hw' j v hj=>by rw[(hK1.bxb.ext hw').cell];exact hj) ?_;refine call (bQT p.D.A p.D.n p.D.c p.D.r x p.D.nd _ (hK1.as_.ext (Ext.drew w1)) (by omega)) ?_;rintro u w2 ⟨rfl,hE2⟩;have hE12:=(Ext.drew w1).trans hE2;refine⟨hE12,?_⟩;refine call (bQT p.E.A p.E.n p.E.c p.E.r y p.E.nd _ (hK1.bs.ext hE12) (by omega)) ?_;rintro u w3 ⟨rfl,hE3⟩;have hE13:=hE12.trans hE3;refine⟨hE13,?_⟩;have hmin:(if aQz p.E.nd y<aQz p.D.nd x then aQz p.E.nd y else aQz p.D.nd x)=min (aQz p.D.nd x) (aQz p.E.nd y):=by
   rw[Int.min_def];split<;>split<;>omega
  refine norm (m:=min (aQz p.D.nd x) (aQz p.E.nd y)) hmin ?_;have hkids:=oQY ha hb x0 (by omega) y0 (by omega) (rfl:min (aQz p.D.nd x) (aQz p.E.nd y)=_) hv64;have hvx:aQz p.D.nd x=min (aQz p.D.nd x) (aQz p.E.nd y)∨aQz p.E.nd y=min (aQz p.D.nd x) (aQz p.E.nd y):=by rw[Int.min_def];split<;>simp
  generalize hveq:min (aQz p.D.nd x) (aQz p.E.nd y)=v at*;obtain⟨s1,s2,s3,s4,s5⟩:=bQg ha.dok (n:=x) x0 hv64;obtain⟨t1,t2,t3,t4,t5⟩:=bQg hb.dok (n:=y) y0 hv64;have dec:(aQk p.D.nd x v).1+(aQk p.E.nd y v).1<x+y/\(aQk p.D.nd x v).2+(aQk p.E.nd y v).2<x+y:=by
   rcases hvx with e | e
   ·have:=s5 e;omega
   ·have:=t5 e;omega
  have hK3:=hK1.ext hE13;refine aQd hK3.axb rfl ?_;refine call (cQb p.D.A p.D.n p.D.c p.D.r x v p.D.nd _ hK3.as_ (by omega) hv64) ?_;rintro u w4 ⟨rfl,hE4⟩;have hK4:=hK3.ext hE4;refine aQd hK4.bxb rfl ?_;refine call (cQb p.E.A p.E.n p.E.c p.E.r y v p.E.nd _ hK4.bs (by omega) hv64) ?_;rintro u w5 ⟨rfl,hE5⟩;have hK5:=hK4.ext hE5;have hE15:=(hE13.trans hE4).trans hE5;have hM5:Mod (·=p.q) w w5:=hM1.trans (Mod.of_ext (·=p.q) hE15) (fun i hi=>.inl hi);have hS5:lQu w5 p.q ((x,y)::S):=let ⟨m,k1,k2⟩:=hS1;⟨m,k1.ext hE15,k2⟩;refine aQg hK5.cxb rfl ?_;refine call (ih (aQk p.D.nd x v).1 (aQk p.E.nd y v).1 ((x,y)::S) w5 hK5 hS5 (fun t ht hle=>by
   rcases List.mem_cons.1 ht with rfl | ht
   ·exact absurd hle (by simp only;omega)
   ·exact hno t ht (by omega)) s1 t1 (by omega) (by omega) (by omega)) ?_
  rintro _ w6 ⟨hM6,r0,rfl,ht0,hf0⟩;have hM06:Mod (·=p.q) w w6:=hM5.trans hM6 (fun i hi=>.inl hi);cases r0 with
  | true=>
   refine aQM rfl ?_;exact⟨hM06,true,rfl,fun _=>hkids.2 (.inl (ht0 rfl)),fun h=>by cases h⟩
  | false=>
   obtain⟨n0,S6,hS6,hin6⟩:=hf0 rfl;refine aQN rfl ?_;have hK6:=hK5.mod hM6;refine aQg hK6.cxb rfl ?_;refine call (ih (aQk p.D.nd x v).2 (aQk p.E.nd y v).2 S6 w6 hK6 hS6 (fun t ht hle=>by
    rcases hin6 t ht with ht | ht
    ·rcases List.mem_cons.1 ht with rfl | ht
     ·exact absurd hle (by simp only;omega)
     ·exact hno t ht (by omega)
    ·exact ht) s3 t3 (by omega) (by omega) (by omega)) ?_
   rintro _ w7 ⟨hM7,r1,rfl,ht1,hf1⟩;have hM07:Mod (·=p.q) w w7:=hM06.trans hM7 (fun i hi=>.inl hi);refine⟨hM07,r1,rfl,fun h=>hkids.2 (.inr (ht1 h)),fun h=>?_⟩;obtain⟨n1,S7,hS7,hin7⟩:=hf1 h;have nn:¬gQt p.D.nd x p.E.nd y:=fun hh=>(hkids.1 hh).elim n0 n1
   refine⟨nn,S7,hS7,fun t ht=>?_⟩;rcases hin7 t ht with ht | ht
   ·rcases hin6 t ht with ht | ht
    ·rcases List.mem_cons.1 ht with rfl | ht
     ·exact .inr nn
     ·exact .inl ht
    ·exact .inr ht
   ·exact .inr ht
theorem sQA (A:Option Addr)(n c:Nat)(a:List Br)(ra:Int)(B:Option Addr)(m d:Nat)(b:List Br)(rb:Int)(w:World)(h:SB w A n c a)(h':SB w B m d b)(ha:VD a ra)(hb:VD b rb):
  Fn Tryz.prog 112 [dgV A n c ra,dgV B m d rb,.bool true] w (fun u w'=>∃r:Bool,u= .bool r/\Ext w w'/\(r=true↔gQt a ra b rb)):=by
 have hal:=h.2;have hbl:=h'.2;refine aQf (c:={xQR with cuts:=[]}) aQb Tryz.func112 rfl rfl rfl ?_;refine new (fun w1 hE1 hz1 hB1=>?_);refine new (fun w2 hE2 hz2 hB2=>?_);refine new (fun w3 hE3 hz3 hB3=>?_);have hE03:=(hE1.trans hE2).trans hE3;refine cQD aQb i2K rfl ?_;intro w4 hE4 hz4 hq4;refine new (fun w5 hE5 hz5 hB5=>?_);refine aQC hB5 (by decide) (fun w6 hM6 hB6=>?_);have hE46:Ext w4 w6:=hM6.ext hE5 (fun i hi=>by omega);refine new (fun w7 hE7 hz7 hB7=>?_);refine aQC hB7 (by decide) (fun w8 hM8 hB8=>?_);have hE68:Ext w6 w8:=hM8.ext hE7 (fun i hi=>by omega);have hE48:=hE46.trans hE68;have hE38:=hE4.trans hE48;have hE08:=hE03.trans hE38;have z6:=hE46.size
 let p:MP:=⟨⟨A,n,c,a,ra⟩,⟨B,m,d,b,rb⟩,w2.heap.size,w4.heap.size,w.heap.size,w1.heap.size,w6.heap.size,w3.heap.size⟩
 have hK:MK w8 p:=by
  refine⟨hB3.ext hE38,hB6.ext hE68,hB1.ext ((hE2.trans hE3).trans hE38),hB2.ext (hE3.trans hE38),hB8,h.ext hE08,h'.ext hE08,?_,fun ad e h0=>?_,fun ad e h0=>?_⟩
  ·simp only[p];omega
  ·have:=SB.lt h ad e h0;simp only[p];omega
  ·have:=SB.lt h' ad e h0;simp only[p];omega
 refine aQg hK.cxb rfl ?_;refine aQe hK.axb rfl ?_;refine aQe hK.bxb rfl ?_;refine call (lQv p ha.rd0 hb.rd0 (ra.toNat+rb.toNat+1) ra rb [] w8 hK ⟨[],hq4.ext hE48,fun t=>rfl⟩ (fun t ht=>by cases ht) ha.2.1 hb.2.1 (by have:=ha.2.2.1;simp only[p];omega) (by have:=hb.2.2.1;simp only[p];omega) (by have:=ha.2.1;have:=hb.2.1;omega)) ?_;rintro _ w9 ⟨hM9,r,rfl,h1,h2⟩;refine⟨r,rfl,hM9.ext hE08 (fun i hi=>by simp only[p] at hi;have:=hE03.size;omega),⟨h1,fun hh=>?_⟩⟩;cases r with
 | true=>rfl
 | false=>exact absurd hh (h2 rfl).1
open Classical in
noncomputable def uQV (a:List Br)(ra:Int)(b:List Br)(rb:Int):Bool:=decide (bQS a ra=0/\bQS b rb=0/\¬gQt a ra b rb)
open Classical in
theorem nQR {a:List Br}{ra:Int}{b:List Br}{rb:Int}:uQV a ra b rb=true↔bQS a ra=0/\bQS b rb=0/\¬gQt a ra b rb:=by unfold uQV;exact decide_eq_true_iff
theorem tQC {a:List Br}{ra:Int}{b:List Br}{rb:Int}(h:bQS a ra=0/\bQS b rb=0/\¬gQt a ra b rb):uQV a ra b rb=true:=nQR.2 h
theorem qQC {a:List Br}{ra:Int}{b:List Br}{rb:Int}(h:¬(bQS a ra=0/\bQS b rb=0/\¬gQt a ra b rb)):uQV a ra b rb=false:=by
 cases hh:uQV a ra b rb with
 | false=>rfl
 | true=>exact absurd (nQR.1 hh) h
theorem hQT (A:Option Addr)(n c:Nat)(a:List Br)(ra:Int)(B:Option Addr)(m d:Nat)(b:List Br)(rb:Int)(w:World)(h:SB w A n c a)(h':SB w B m d b):
  Fn Tryz.prog 97 [dgV A n c ra,dgV B m d rb] w (fun u w'=>u= .bool (uQV a ra b rb)/\Ext w w'):=by
 refine aQf (c:={c97 with cuts:=[]}) aQb Tryz.func97 rfl rfl rfl ?_;refine new (fun w1 hE1 hz1 hB1=>?_);refine new (fun w2 hE2 hz2 hB2=>?_);have hE02:=hE1.trans hE2;refine aQd (hB1.ext hE2) rfl ?_;refine aQd hB2 rfl ?_;refine aQl aQb [(⟨A,n,c,a,ra⟩:DV).cells,(⟨B,m,d,b,rb⟩:DV).cells] rfl rfl rfl rfl rfl ⟨rfl,rfl,rfl,rfl,⟨⟩⟩ rfl (fun cs h=>by simp only[List.mem_cons,List.not_mem_nil,or_false] at h;rcases h with rfl | rfl<;>rfl) rfl (by decide) (by decide) ?_;intro w5 hE5 hz5 hB5;have hE05:=hE02.trans hE5;have hL:SlS DV.cells 2 w5 (some ⟨w2.heap.size,0,none⟩) 2 2 [⟨A,n,c,a,ra⟩,⟨B,m,d,b,rb⟩]:=⟨Sl.own (sz:=2) (n:=2) hB5 (Nat.le_refl _) (by decide) (by simp[DV.cells]),rfl⟩
 refine call (fQE _ 2 2 _ w5 hL (fun x hx=>by
  simp only[List.mem_cons,List.not_mem_nil,or_false] at hx;rcases hx with rfl | rfl
  ·exact h.ext hE05
  ·exact h'.ext hE05)) ?_
 rintro v w6 ⟨rfl,hE6⟩;have hE06:=hE05.trans hE6;have ef:cQ1 [(⟨A,n,c,a,ra⟩:DV),⟨B,m,d,b,rb⟩]=if bQS a ra≠0 then bQS a ra else if bQS b rb≠0 then bQS b rb else 0:=rfl
 have hf0:cQ1 [(⟨A,n,c,a,ra⟩:DV),⟨B,m,d,b,rb⟩]=0↔bQS a ra=0/\bQS b rb=0:=by
  rw[ef];by_cases h1:bQS a ra=0
  ·rw[if_neg (fun hh=>hh h1)];by_cases h2:bQS b rb=0
   ·rw[if_neg (fun hh=>hh h2)];simp[h1,h2]
   ·rw[if_pos h2];simp[h2]
  ·rw[if_pos h1];simp[h1]
 refine aQP (fun c1=>?_) (fun c1=>?_)
 ·obtain⟨ca,cb⟩:=hf0.1 c1;refine aQd ((hB1.ext hE2).ext (hE5.trans hE6)) rfl ?_;refine aQd (hB2.ext (hE5.trans hE6)) rfl ?_;refine call (sQA A n c a ra B m d b rb w6 (h.ext hE06) (h'.ext hE06) (bQC.1 ca).2 (bQC.1 cb).2) ?_;rintro _ w7 ⟨r,rfl,hE7,hr⟩;refine⟨?_,hE06.trans hE7⟩;cases r with
  | true=>rw[qQC (fun hh=>hh.2.2 (hr.1 rfl))];rfl
  | false=>rw[tQC ⟨ca,cb,fun hh=>by have:=hr.2 hh;cases this⟩];rfl
 ·exact⟨by rw[qQC (fun hh=>c1 (hf0.2 ⟨hh.1,hh.2.1⟩))],hE06⟩
def ixV (l:List Nat):List Value:=l.map (fun(i:Nat)=>Value.int .i64 i)
end
end
section
section
open Go Go.RowKit
def dQS (a:List Br)(x:Int)(b:List Br)(y:Int):Prop:=∃e,ev a x e=true/\ev b y e=false
theorem mQP {a b:List Br}(ha:Rd0 a)(hb:Rd0 b){x y:Int}(x0:0<=x)(x1:x<a.length+2)(y0:0<=y)(y1:y<b.length+2){v:Int}(hv:v=min (aQz a x) (aQz b y))(h64:v<64):
  dQS a x b y↔dQS a (aQk a x v).1 b (aQk b y v).1∨dQS a (aQk a x v).2 b (aQk b y v).2:=by
 have l1:v<=aQz a x:=by rw[hv,Int.min_def];split<;>omega
 have l2:v<=aQz b y:=by rw[hv,Int.min_def];split<;>omega
 obtain⟨p1,p2,p3,p4,p5⟩:=dQK ha x0 x1 l1 h64;obtain⟨q1,q2,q3,q4,q5⟩:=dQK hb y0 y1 l2 h64;have v0:0<=v:=by
  have:=ha.lvl0 x1;have:=hb.lvl0 y1;rw[hv,Int.min_def];split<;>omega
 constructor
 ·rintro⟨e,e1,e2⟩;rw[p1] at e1;rw[q1] at e2;cases he:e v.toNat with
  | true=>rw[he,if_pos rfl] at e1 e2;exact .inr ⟨e,e1,e2⟩
  | false=>rw[he,if_neg (by decide)] at e1 e2;exact .inl ⟨e,e1,e2⟩
 ·rintro(⟨e,e1,e2⟩ | ⟨e,e1,e2⟩)
  ·refine⟨upd e v.toNat false,?_,?_⟩
   ·rw[p1,show upd e v.toNat false v.toNat=false from if_pos rfl,if_neg (by decide),dQn ha v.toNat false e _ _ (Nat.lt_succ_self _) p4 (by omega)];exact e1
   ·rw[q1,show upd e v.toNat false v.toNat=false from if_pos rfl,if_neg (by decide),dQn hb v.toNat false e _ _ (Nat.lt_succ_self _) q4 (by omega)];exact e2
  ·refine⟨upd e v.toNat true,?_,?_⟩
   ·rw[p1,show upd e v.toNat true v.toNat=true from if_pos rfl,if_pos rfl,dQn ha v.toNat true e _ _ (Nat.lt_succ_self _) p5 (by omega)];exact e1
   ·rw[q1,show upd e v.toNat true v.toNat=true from if_pos rfl,if_pos rfl,dQn hb v.toNat true e _ _ (Nat.lt_succ_self _) q5 (by omega)];exact e2
structure MPn where
 D:DV
 E:DV
 bo:Nat
 sx:Nat
 ax:Nat
 bx:Nat
 cx:Nat
 q:Nat
def MPn.caps (p:MPn):List Value:=[VP.ptr p.bo,VP.ptr p.sx,VP.ptr p.ax,VP.ptr p.bx,VP.ptr p.cx]
def MPn.clo (p:MPn):Value:=.func (.func 166) #[] #[VP.ptr p.bo,VP.ptr p.sx,VP.ptr p.ax,VP.ptr p.bx,VP.ptr p.cx]
structure MKn (w:World) (p:MPn):Prop where
 bob:Blk w p.bo 4 [.bool false]
 sxb:Blk w p.sx 251 [.map (some p.q)]
 axb:Blk w p.ax 32 p.D.cells
 bxb:Blk w p.bx 32 p.E.cells
 cxb:Blk w p.cx 252 [p.clo]
 as_:SB w p.D.A p.D.n p.D.c p.D.nd
 bs:SB w p.E.A p.E.n p.E.c p.E.nd
 off:p.bo≠p.q/\p.sx≠p.q/\p.ax≠p.q/\p.bx≠p.q/\p.cx≠p.q
 rowA:∀ad,p.D.A=some ad->0<p.D.n->ad.block≠p.q
 rowB:∀ad,p.E.A=some ad->0<p.E.n->ad.block≠p.q
theorem MKn.mod {w w':World}{p:MPn}(h:MKn w p)(hm:Mod (·=p.q) w w'):MKn w' p:=by
 obtain⟨o1,o2,o3,o4,o5⟩:=h.off;refine⟨h.bob.mod hm o1,h.sxb.mod hm o2,h.axb.mod hm o3,h.bxb.mod hm o4,h.cxb.mod hm o5,⟨h.as_.1.modS hm ?_,h.as_.2⟩,⟨h.bs.1.modS hm ?_,h.bs.2⟩,h.off,h.rowA,h.rowB⟩
 ·rintro h0 i ⟨ad,e,rfl⟩;exact h.rowA ad e h0
 ·rintro h0 i ⟨ad,e,rfl⟩;exact h.rowB ad e h0
theorem MKn.ext {w w':World}{p:MPn}(h:MKn w p)(k:Ext w w'):MKn w' p:=h.mod (Mod.of_ext _ k)
def zQt (p:MPn)(x y:Int)(S:List I2)(w:World)(v:Value)(w':World):Prop:=
 Mod (·=p.q) w w'/\∃r:Bool,v= .bool r/\(r=true->dQS p.D.nd x p.E.nd y)/\(r=false->¬dQS p.D.nd x p.E.nd y/\∃S',lQu w' p.q S'/\∀t∈S',t∈S∨¬dQS p.D.nd t.1 p.E.nd t.2)
set_option maxHeartbeats 1600000 in
theorem iQZ (p:MPn)(ha:Rd0 p.D.nd)(hb:Rd0 p.E.nd):∀(k:Nat)(x y:Int)(S:List I2)(w:World),
  MKn w p->lQu w p.q S->(∀t∈S,t.1+t.2<=x+y->¬dQS p.D.nd t.1 p.E.nd t.2)->0<=x->0<=y->x<p.D.n+2->y<p.E.n+2->x+y<k->
  Fn Tryz.prog 166 (.int .i64 x:: .int .i64 y::p.caps) w (zQt p x y S w)
 | 0,x,y,_,_,_,_,_,x0,y0,_,_,hk=>by omega
 | k+1,x,y,S,w,hK,hS,hno,x0,y0,hx,hy,hk=>by
  have ih:=iQZ p ha hb k;have hal:p.D.nd.length=p.D.n:=hK.as_.2;have hbl:p.E.nd.length=p.E.n:=hK.bs.2;refine aQf (c:={xQT with cuts:=[]}) aQb Tryz.func166 rfl rfl rfl ?_;refine aQP (fun c1=>?_) (fun c1=>?_)
  ·exact⟨Mod.refl _ _,false,rfl,fun h=>(by cases h),fun _=>⟨(fun⟨e,e1,_⟩=>by rw[c1,bQP (by decide)] at e1;cases e1),S,hS,fun t ht=>.inl ht⟩⟩
  refine aQq (fun c2=>?_) (fun c2=>?_)
  ·refine aQg hK.bob rfl ?_;by_cases y1:y=1
   ·subst y1;refine aQM rfl ?_;exact⟨Mod.refl _ _,false,rfl,fun h=>(by cases h),fun _=>⟨(fun⟨e,_,e1⟩=>by rw[bQP (by decide)] at e1;cases e1),S,hS,fun t ht=>.inl ht⟩⟩
   ·have y00:y=0:=by omega
    subst y00;refine aQN rfl ?_;refine aQO c2 ?_;refine⟨Mod.refl _ _,true,rfl,fun _=>?_,fun h=>by cases h⟩;obtain⟨e,he⟩:=qQB ha x0 (by omega) c1;exact⟨e,he,by rw[bQP (by decide)];rfl⟩
  refine aQB c2 ?_;obtain⟨mq,hmq,hmem⟩:=hS;refine aQg hK.sxb rfl ?_;refine gQi (kv:=i2K) (a:=((x,y):I2)) aQb rfl rfl rfl rfl sQz rfl rfl hmq (hmem (x,y)) ?_;refine aQq (fun c3=>?_) (fun c3=>?_)
  ·exact⟨Mod.refl _ _,false,rfl,fun h=>(by cases h),fun _=>⟨hno (x,y) c3 (Int.le_refl _),S,⟨mq,hmq,hmem⟩,fun t ht=>.inl ht⟩⟩
  refine aQg hK.sxb rfl ?_;refine bQ3 (kv:=i2K) (a:=((x,y):I2)) aQb rfl rfl rfl rfl sQz rfl rfl rfl hmq (fun w1 hM1 hz1 hq1=>?_);have hK1:=hK.mod hM1;have hS1:lQu w1 p.q ((x,y)::S):=⟨_,hq1,fun t=>by
   rw[bQe];by_cases ht:t=(x,y)
   ·subst ht;simp
   ·rw[if_neg ht,hmem t];simp[ht]⟩
  have hv64:min (aQz p.D.nd x) (aQz p.E.nd y)<64:=by
   have:=cQz hb.dok (n:=y) c2 (by omega);rw[Int.min_def];split<;>omega
  have hl0:=ha.lvl0 (n:=x) (by omega);have hl1:=hb.lvl0 (n:=y) (by omega);refine aQm aQb (Ext w1) 8 [(true,0),(true,1),(true,3),(true,4),(false,2),(false,5),(true,6),(true,7)] (by kernel_rfl) (Ext.drew w1) ?_;refine aQw (vs:=p.D.cells) rfl (fun w' hw' j v hj=>by rw[(hK1.axb.ext hw').cell];exact hj) ?_;refine aQw (vs:=p.E.cells) rfl (fun w' hw' j v hj=>by rw[(hK1.bxb.ext hw').cell];exact hj) ?_;refine call (bQT p.D.A p.D.n p.D.c p.D.r x p.D.nd _ (hK1.as_.ext (Ext.drew w1)) (by omega)) ?_;rintro u w2 ⟨rfl,hE2⟩;have hE12:=(Ext.drew w1).trans hE2;refine⟨hE12,?_⟩;refine call (bQT p.E.A p.E.n p.E.c p.E.r y p.E.nd _ (hK1.bs.ext hE12) (by omega)) ?_;rintro u w3 ⟨rfl,hE3⟩;have hE13:=hE12.trans hE3;refine⟨hE13,?_⟩;have hmin:(if aQz p.E.nd y<aQz p.D.nd x then aQz p.E.nd y else aQz p.D.nd x)=min (aQz p.D.nd x) (aQz p.E.nd y):=by
   rw[Int.min_def];split<;>split<;>omega
  refine norm (m:=min (aQz p.D.nd x) (aQz p.E.nd y)) hmin ?_;have hkids:=mQP ha hb x0 (by omega) y0 (by omega) (rfl:min (aQz p.D.nd x) (aQz p.E.nd y)=_) hv64;have hvx:aQz p.D.nd x=min (aQz p.D.nd x) (aQz p.E.nd y)∨aQz p.E.nd y=min (aQz p.D.nd x) (aQz p.E.nd y):=by rw[Int.min_def];split<;>simp
  generalize hveq:min (aQz p.D.nd x) (aQz p.E.nd y)=v at*;obtain⟨s1,s2,s3,s4,s5⟩:=bQg ha.dok (n:=x) x0 hv64;obtain⟨t1,t2,t3,t4,t5⟩:=bQg hb.dok (n:=y) y0 hv64;have dec:(aQk p.D.nd x v).1+(aQk p.E.nd y v).1<x+y/\(aQk p.D.nd x v).2+(aQk p.E.nd y v).2<x+y:=by
   rcases hvx with e | e
   ·have:=s5 e;omega
   ·have:=t5 e;omega
  have hK3:=hK1.ext hE13;refine aQd hK3.axb rfl ?_;refine call (cQb p.D.A p.D.n p.D.c p.D.r x v p.D.nd _ hK3.as_ (by omega) hv64) ?_;rintro u w4 ⟨rfl,hE4⟩;have hK4:=hK3.ext hE4;refine aQd hK4.bxb rfl ?_;refine call (cQb p.E.A p.E.n p.E.c p.E.r y v p.E.nd _ hK4.bs (by omega) hv64) ?_;rintro u w5 ⟨rfl,hE5⟩;have hK5:=hK4.ext hE5;have hE15:=(hE13.trans hE4).trans hE5;have hM5:Mod (·=p.q) w w5:=hM1.trans (Mod.of_ext (·=p.q) hE15) (fun i hi=>.inl hi);have hS5:lQu w5 p.q ((x,y)::S):=let ⟨m,k1,k2⟩:=hS1;⟨m,k1.ext hE15,k2⟩;refine aQg hK5.cxb rfl ?_;refine call (ih (aQk p.D.nd x v).1 (aQk p.E.nd y v).1 ((x,y)::S) w5 hK5 hS5 (fun t ht hle=>by
   rcases List.mem_cons.1 ht with rfl | ht
   ·exact absurd hle (by simp only;omega)
   ·exact hno t ht (by omega)) s1 t1 (by omega) (by omega) (by omega)) ?_
  rintro _ w6 ⟨hM6,r0,rfl,ht0,hf0⟩;have hM06:Mod (·=p.q) w w6:=hM5.trans hM6 (fun i hi=>.inl hi);cases r0 with
  | true=>
   refine aQM rfl ?_;exact⟨hM06,true,rfl,fun _=>hkids.2 (.inl (ht0 rfl)),fun h=>by cases h⟩
  | false=>
   obtain⟨n0,S6,hS6,hin6⟩:=hf0 rfl;refine aQN rfl ?_;have hK6:=hK5.mod hM6;refine aQg hK6.cxb rfl ?_;refine call (ih (aQk p.D.nd x v).2 (aQk p.E.nd y v).2 S6 w6 hK6 hS6 (fun t ht hle=>by
    rcases hin6 t ht with ht | ht
    ·rcases List.mem_cons.1 ht with rfl | ht
     ·exact absurd hle (by simp only;omega)
     ·exact hno t ht (by omega)
    ·exact ht) s3 t3 (by omega) (by omega) (by omega)) ?_
   rintro _ w7 ⟨hM7,r1,rfl,ht1,hf1⟩;have hM07:Mod (·=p.q) w w7:=hM06.trans hM7 (fun i hi=>.inl hi);refine⟨hM07,r1,rfl,fun h=>hkids.2 (.inr (ht1 h)),fun h=>?_⟩;obtain⟨n1,S7,hS7,hin7⟩:=hf1 h;have nn:¬dQS p.D.nd x p.E.nd y:=fun hh=>(hkids.1 hh).elim n0 n1
   refine⟨nn,S7,hS7,fun t ht=>?_⟩;rcases hin7 t ht with ht | ht
   ·rcases hin6 t ht with ht | ht
    ·rcases List.mem_cons.1 ht with rfl | ht
     ·exact .inr nn
     ·exact .inl ht
    ·exact .inr ht
   ·exact .inr ht
theorem qQD (A:Option Addr)(n c:Nat)(a:List Br)(ra:Int)(B:Option Addr)(m d:Nat)(b:List Br)(rb:Int)(w:World)(h:SB w A n c a)(h':SB w B m d b)(ha:VD a ra)(hb:VD b rb):
  Fn Tryz.prog 112 [dgV A n c ra,dgV B m d rb,.bool false] w (fun u w'=>∃r:Bool,u= .bool r/\Ext w w'/\(r=true↔dQS a ra b rb)):=by
 have hal:=h.2;have hbl:=h'.2;refine aQf (c:={xQR with cuts:=[]}) aQb Tryz.func112 rfl rfl rfl ?_;refine new (fun w1 hE1 hz1 hB1=>?_);refine new (fun w2 hE2 hz2 hB2=>?_);refine new (fun w3 hE3 hz3 hB3=>?_);have hE03:=(hE1.trans hE2).trans hE3;refine cQD aQb i2K rfl ?_;intro w4 hE4 hz4 hq4;refine new (fun w5 hE5 hz5 hB5=>?_);refine aQC hB5 (by decide) (fun w6 hM6 hB6=>?_);have hE46:Ext w4 w6:=hM6.ext hE5 (fun i hi=>by omega);refine new (fun w7 hE7 hz7 hB7=>?_);refine aQC hB7 (by decide) (fun w8 hM8 hB8=>?_);have hE68:Ext w6 w8:=hM8.ext hE7 (fun i hi=>by omega);have hE48:=hE46.trans hE68;have hE38:=hE4.trans hE48;have hE08:=hE03.trans hE38;have z6:=hE46.size
 let p:MPn:=⟨⟨A,n,c,a,ra⟩,⟨B,m,d,b,rb⟩,w2.heap.size,w4.heap.size,w.heap.size,w1.heap.size,w6.heap.size,w3.heap.size⟩
 have hK:MKn w8 p:=by
  refine⟨hB3.ext hE38,hB6.ext hE68,hB1.ext ((hE2.trans hE3).trans hE38),hB2.ext (hE3.trans hE38),hB8,h.ext hE08,h'.ext hE08,?_,fun ad e h0=>?_,fun ad e h0=>?_⟩
  ·simp only[p];omega
  ·have:=SB.lt h ad e h0;simp only[p];omega
  ·have:=SB.lt h' ad e h0;simp only[p];omega
 refine aQg hK.cxb rfl ?_;refine aQe hK.axb rfl ?_;refine aQe hK.bxb rfl ?_;refine call (iQZ p ha.rd0 hb.rd0 (ra.toNat+rb.toNat+1) ra rb [] w8 hK ⟨[],hq4.ext hE48,fun t=>rfl⟩ (fun t ht=>by cases ht) ha.2.1 hb.2.1 (by have:=ha.2.2.1;simp only[p];omega) (by have:=hb.2.2.1;simp only[p];omega) (by have:=ha.2.1;have:=hb.2.1;omega)) ?_;rintro _ w9 ⟨hM9,r,rfl,h1,h2⟩;refine⟨r,rfl,hM9.ext hE08 (fun i hi=>by simp only[p] at hi;have:=hE03.size;omega),⟨h1,fun hh=>?_⟩⟩;cases r with
 | true=>rfl
 | false=>exact absurd hh (h2 rfl).1
open Classical in
noncomputable def qQE (a:List Br)(ra:Int)(b:List Br)(rb:Int):Bool:=decide (bQS a ra=0/\bQS b rb=0/\¬dQS a ra b rb)
open Classical in
theorem jQ6 {a:List Br}{ra:Int}{b:List Br}{rb:Int}:qQE a ra b rb=true↔bQS a ra=0/\bQS b rb=0/\¬dQS a ra b rb:=by unfold qQE;exact decide_eq_true_iff
theorem wQm {a:List Br}{ra:Int}{b:List Br}{rb:Int}(h:bQS a ra=0/\bQS b rb=0/\¬dQS a ra b rb):qQE a ra b rb=true:=jQ6.2 h
theorem tQD {a:List Br}{ra:Int}{b:List Br}{rb:Int}(h:¬(bQS a ra=0/\bQS b rb=0/\¬dQS a ra b rb)):qQE a ra b rb=false:=by
 cases hh:qQE a ra b rb with
 | false=>rfl
 | true=>exact absurd (jQ6.1 hh) h
theorem lQw (A:Option Addr)(n c:Nat)(a:List Br)(ra:Int)(B:Option Addr)(m d:Nat)(b:List Br)(rb:Int)(w:World)(h:SB w A n c a)(h':SB w B m d b):
  Fn Tryz.prog 62 [dgV A n c ra,dgV B m d rb] w (fun u w'=>u= .bool (qQE a ra b rb)/\Ext w w'):=by
 refine aQf (c:={c62 with cuts:=[]}) aQb Tryz.func62 rfl rfl rfl ?_;refine new (fun w1 hE1 hz1 hB1=>?_);refine new (fun w2 hE2 hz2 hB2=>?_);have hE02:=hE1.trans hE2;refine aQd (hB1.ext hE2) rfl ?_;refine aQd hB2 rfl ?_;refine aQl aQb [(⟨A,n,c,a,ra⟩:DV).cells,(⟨B,m,d,b,rb⟩:DV).cells] rfl rfl rfl rfl rfl ⟨rfl,rfl,rfl,rfl,⟨⟩⟩ rfl (fun cs h=>by simp only[List.mem_cons,List.not_mem_nil,or_false] at h;rcases h with rfl | rfl<;>rfl) rfl (by decide) (by decide) ?_;intro w5 hE5 hz5 hB5;have hE05:=hE02.trans hE5;have hL:SlS DV.cells 2 w5 (some ⟨w2.heap.size,0,none⟩) 2 2 [⟨A,n,c,a,ra⟩,⟨B,m,d,b,rb⟩]:=⟨Sl.own (sz:=2) (n:=2) hB5 (Nat.le_refl _) (by decide) (by simp[DV.cells]),rfl⟩
 refine call (fQE _ 2 2 _ w5 hL (fun x hx=>by
  simp only[List.mem_cons,List.not_mem_nil,or_false] at hx;rcases hx with rfl | rfl
  ·exact h.ext hE05
  ·exact h'.ext hE05)) ?_
 rintro v w6 ⟨rfl,hE6⟩;have hE06:=hE05.trans hE6;have ef:cQ1 [(⟨A,n,c,a,ra⟩:DV),⟨B,m,d,b,rb⟩]=if bQS a ra≠0 then bQS a ra else if bQS b rb≠0 then bQS b rb else 0:=rfl
 have hf0:cQ1 [(⟨A,n,c,a,ra⟩:DV),⟨B,m,d,b,rb⟩]=0↔bQS a ra=0/\bQS b rb=0:=by
  rw[ef];by_cases h1:bQS a ra=0
  ·rw[if_neg (fun hh=>hh h1)];by_cases h2:bQS b rb=0
   ·rw[if_neg (fun hh=>hh h2)];simp[h1,h2]
   ·rw[if_pos h2];simp[h2]
  ·rw[if_pos h1];simp[h1]
 refine aQP (fun c1=>?_) (fun c1=>?_)
 ·obtain⟨ca,cb⟩:=hf0.1 c1;refine aQd ((hB1.ext hE2).ext (hE5.trans hE6)) rfl ?_;refine aQd (hB2.ext (hE5.trans hE6)) rfl ?_;refine call (qQD A n c a ra B m d b rb w6 (h.ext hE06) (h'.ext hE06) (bQC.1 ca).2 (bQC.1 cb).2) ?_;rintro _ w7 ⟨r,rfl,hE7,hr⟩;refine⟨?_,hE06.trans hE7⟩;cases r with
  | true=>rw[tQD (fun hh=>hh.2.2 (hr.1 rfl))];rfl
  | false=>rw[wQm ⟨ca,cb,fun hh=>by have:=hr.2 hh;cases this⟩];rfl
 ·exact⟨by rw[tQD (fun hh=>c1 (hf0.2 ⟨hh.1,hh.2.1⟩))],hE06⟩
end
end
section
open Go Go.RowKit
theorem cQU (l:List Nat)(w:World)(hl:∀x∈l,x<256):
  Fn Tryz.prog 47 [.string (aQh l)] w (fun u w'=>u= .bool (lQY l)/\Ext w w'):=by
 refine aQf (c:={c47 with cuts:=[]}) aQb Tryz.func47 rfl rfl rfl ?_;refine aQl aQb ([pIf,fQf,mQx].map (fun s=>[Value.string (aQh s)])) rfl rfl rfl rfl rfl ⟨rfl,rfl,rfl,rfl,rfl,rfl,⟨⟩⟩ rfl (fun cs h=>by simp only[List.mem_map] at h;obtain⟨s,_,rfl⟩:=h;rfl) rfl (by decide) (by decide) ?_;intro w1 hE1 hz1 hB1;refine loop aQb [7] (fun i:Nat=>[.int .i64 i]) (fun i w'=>w1=w'/\i<=3/\([pIf,fQf,mQx].take i).any (fun p=>p.isPrefixOf l)=false) (fun i _=>3-i) 0 rfl ⟨rfl,Nat.zero_le _,rfl⟩ ?_;rintro i _ ⟨rfl,hi,hno⟩;by_cases h3:i<3
 ·refine aQO (show((i:Nat):Int)<3 by omega) ?_;obtain⟨p,hp⟩:∃p,([pIf,fQf,mQx]:List (List Nat))[i]? =some p:=⟨_,List.getElem?_eq_getElem (show i<3 from h3)⟩
  have hp8:∀x∈p,x<256:=by
   have:∀q∈([pIf,fQf,mQx]:List (List Nat)),∀x∈q,x<256:=by decide
   exact this p (List.mem_of_getElem? hp)
  refine index (j:=i) h3 ?_;refine aQe (v:=.string (aQh p)) hB1 (by
   rcases(show i=0∨i=1∨i=2 by omega)with rfl | rfl | rfl<;>(cases hp;rfl)) ?_
  refine call (gQr l p w1 hl hp8) ?_;rintro _ _ ⟨rfl,rfl⟩;refine wif (fun d1=>?_) (fun d1=>?_)
  ·refine⟨?_,hE1⟩;have d1:p.isPrefixOf l=true:=d1;have hm:=List.mem_of_getElem? hp;simp only[List.mem_cons,List.not_mem_nil,or_false] at hm;unfold lQY;rcases hm with rfl | rfl | rfl<;>rw[d1]<;>simp
  ·have d1:p.isPrefixOf l=false:=d1;refine aQa ((i+1:Nat):Int) (by show((i:Nat):Int)+1=_;omega) (by omega) ?_;refine⟨i+1,rfl,⟨rfl,by omega,?_⟩,by show 3-(i+1)<3-i;omega⟩;rw[List.take_add_one,hp,List.any_append,hno];simp[d1]
 ·have hi3:i=3:=by omega
  subst hi3;refine aQB (by decide) ?_;have hno:(pIf.isPrefixOf l||(fQf.isPrefixOf l||(mQx.isPrefixOf l||false)))=false:=hno;simp only[Bool.or_eq_false_iff] at hno;obtain⟨n1,n2,n3,_⟩:=hno;have e:lQY l=(decide (l=cQi++ [10])||decide (l=cQQ++ [10])):=by unfold lQY;rw[n1,n2,n3];rfl
  have q1:(aQh l=(aQh (cQi++ [10])))↔l=cQi++ [10]:=⟨fun hh=>aQD hl (by decide) hh,fun hh=>by rw[hh]⟩
  have q2:(aQh l=(aQh (cQQ++ [10])))↔l=cQQ++ [10]:=⟨fun hh=>aQD hl (by decide) hh,fun hh=>by rw[hh]⟩
  by_cases c1:l=cQi++ [10]
  ·refine aQO (q1.2 c1) ?_;exact⟨by rw[e,decide_eq_true c1];rfl,hE1⟩
  ·refine aQB (fun hh=>c1 (q1.1 hh)) ?_;refine⟨?_,hE1⟩;rw[e,decide_eq_false c1,Bool.false_or];by_cases c2:l=cQQ++ [10]
   ·rw[decide_eq_true c2];exact congrArg Value.bool (decide_eq_true (q2.2 c2))
   ·rw[decide_eq_false c2];exact congrArg Value.bool (decide_eq_false (fun hh=>c2 (q2.1 hh)))
theorem qQF (l:List Nat)(w:World)(hl:∀x∈l,x<256)(hlen:l.length<=1000000000000):
  Fn Tryz.prog 168 [.string (aQh l),.string (aQh [10])] w (fun v w'=>v= .bool (l.getLast? ==some 10)/\w=w'):=by
 have hsz:=aQj l;refine aQf (c:=yQO) aQb Tryz.func168 rfl rfl rfl ?_;have h1:(aQh [10]).size=1:=rfl;refine aQq (fun c1=>?_) (fun c1=>?_)
 ·have hpos:1<=l.length:=by omega
  refine aQa ((l.length-1:Nat):Int) (by omega) (by omega) ?_;refine aQ1 (v':=.string (aQh (l.drop (l.length-1)))) ⟨by omega,by rw[hsz];omega,by rw[hsz];omega⟩ (by
   rw[aQt,hsz];show Value.string (aQh ((l.take l.length).drop _))=_;rw[List.take_of_length_le (Nat.le_refl _)];rfl) ?_
  refine⟨?_,rfl⟩;obtain⟨a,b,rfl⟩:∃a b,l=a++ [b]:=by
   rcases List.eq_nil_or_concat l with e | ⟨a,b,e⟩
   ·subst e;simp at hpos
   ·exact⟨a,b,by rw[e,List.concat_eq_append]⟩
  have e1:(a++ [b]).drop ((a++ [b]).length-1)=[b]:=by simp
  rw[e1];have hb:b<256:=hl b (by simp);rw[List.getLast?_concat];by_cases hb10:b=10
  ·subst hb10;simp
  ·have:¬aQh [b]=aQh [10]:=fun hh=>hb10 (by
    have:=aQD (l:=[b]) (m:=[10]) (by simpa using hb) (by decide) hh;simpa using this)
   simp[this,hb10]
 ·have hl0:l=[]:=List.eq_nil_of_length_eq_zero (by omega);subst hl0;exact⟨rfl,rfl⟩
theorem oQZ (l:List Nat)(w:World)(hl:∀x∈l,x<256)(hlen:l.length<=1000000000000):
  Fn Tryz.prog 113 [.string (aQh l),.string (aQh [10])] w (fun v w'=>v= .bool (l.getLast? ==some 10)/\w=w'):=by
 refine aQf (c:=yQd) aQb Tryz.func113 rfl rfl rfl ?_;refine call (qQF l w hl hlen) ?_;rintro _ _ ⟨rfl,rfl⟩;exact⟨rfl,rfl⟩
end
section
open Go Go.RowKit
variable {nm:List (List Nat)} {n:Nat}
theorem xQy {l:Tr}(w:Wt n l):dp (elT nm l)=0/\∀k,0<=dp ((elT nm l).take k):=by
 obtain⟨b1,b2⟩:=iQp nm w;cases l with
 | nil=>exact⟨rfl,fun k=>by simp[elT,dp]⟩
 | _=>
  rw[elT]
  ·refine⟨by rw[bQZ,eQT,b1];rfl,fun k=>?_⟩;cases k with
   | zero=>simp[dp]
   | succ k=>rw[List.take_succ_cons,bQZ,eQT];have:=b2 k;omega
  ·exact fun e=>by cases e
theorem uQW {h l:Tr}(w:Wt n h)(w':Wt n l):dp (fl nm h++elT nm l)=0/\∀k,0<=dp ((fl nm h++elT nm l).take k):=by
 obtain⟨a1,a2⟩:=iQp nm w;obtain⟨b1,b2⟩:=xQy (nm:=nm) w';refine⟨by rw[eQE,a1,b1];rfl,fun k=>?_⟩;rw[List.take_append,eQE];have:=a2 k;have:=b2 (k-(fl nm h).length);omega
theorem eQU:∀{t:Tr},Wt n t->∀A B,fl nm t=A++B->dp A=0->∃a b,t=ap a b/\fl nm a=A/\fl nm b=B
 | t,_,[],B,h,_=>⟨.nil,t,rfl,rfl,by simpa using h⟩
 | .nil,_,x::A,B,h,_=>by cases h
 | .ln s r,w,x::A,B,h,h0=>by
  rw[fl,List.cons_append] at h;obtain⟨rfl,h'⟩:=List.cons.inj h;rw[bQZ,(eQF w.1).1] at h0;obtain⟨a,b,rfl,h1,h2⟩:=eQU w.2 A B h' (by omega);exact⟨.ln s a,b,rfl,by rw[fl,h1],h2⟩
 | .sc v ng h l r,w,x::A,B,hf,h0=>by
  obtain⟨_,w1,w2,w3⟩:=w;rw[eQY,List.cons_append] at hf;obtain⟨rfl,hf'⟩:=List.cons.inj hf;rw[bQZ,hQL] at h0;obtain⟨d1,d2⟩:=uQW (nm:=nm) w1 w2;rcases List.append_eq_append_iff.1 hf' with⟨a',rfl,ha⟩ | ⟨c',hc,rfl⟩
  ·cases a' with
   | nil=>rw[List.append_nil] at h0;omega
   | cons y a'=>
    rw[List.cons_append] at ha;obtain⟨rfl,ha'⟩:=List.cons.inj ha;rw[eQE,bQZ,hQM] at h0;obtain⟨a,b,rfl,h1,h2⟩:=eQU w3 a' B ha' (by omega);exact⟨.sc v ng h l a,b,rfl,by rw[eQY,h1],h2⟩
  ·have:=d2 A.length;rw[hc,List.take_left] at this;omega
def NmI (nm:List (List Nat))(n:Nat):Prop:=∀v v' ng ng',v<n->v'<n->ifT nm v ng=ifT nm v' ng'->v=v'/\ng=ng'
theorem qQG (l:Tr)(z:List (List Nat)):(l= .nil/\elT nm l++cQQ::z=cQQ::z)∨(l≠ .nil/\elT nm l++cQQ::z=cQi::(fl nm l++cQQ::z)):=by
 cases l with
 | nil=>exact .inl ⟨rfl,rfl⟩
 | _=>exact .inr ⟨(by intro e;cases e),by simp[elT]⟩
theorem fQO (hI:NmI nm n):∀{a:Tr},Wt n a->∀{a':Tr},Wt n a'->∀{x x':List Nat}{y y':List (List Nat)},(x=cQi∨x=cQQ)->(x'=cQi∨x'=cQQ)->fl nm a++x::y=fl nm a'++x'::y'->a=a'/\x=x'/\y=y'
 | .nil,_,.nil,_,x,x',y,y',_,_,h=>by obtain⟨h1,h2⟩:=List.cons.inj h;exact⟨rfl,h1,h2⟩
 | .nil,_,.ln s r,w,x,x',y,y',hx,_,h=>by
  have h:=(List.cons.inj h).1;subst h;have:=eQF w.1;rcases hx with e | e
  ·exact absurd e this.2.2.1
  ·exact absurd e this.2.1
 | .nil,_,.sc v ng p q r,w,x,x',y,y',hx,_,h=>by
  rw[eQY] at h;have h:=(List.cons.inj h).1;have e:=hQL nm v ng;rw[<-h] at e;rcases hx with rfl | rfl
  ·rw[eQT] at e;cases e
  ·rw[hQM] at e;cases e
 | .ln s r,w,.nil,_,x,x',y,y',_,hx,h=>by
  have h:=(List.cons.inj h).1;subst h;have:=eQF w.1;rcases hx with e | e
  ·exact absurd e this.2.2.1
  ·exact absurd e this.2.1
 | .ln s r,w,.ln s' r',w',x,x',y,y',hx,hx',h=>by
  rw[fl,fl,List.cons_append,List.cons_append] at h;obtain⟨rfl,h'⟩:=List.cons.inj h;obtain⟨rfl,h1,h2⟩:=fQO hI w.2 w'.2 hx hx' h';exact⟨rfl,h1,h2⟩
 | .ln s r,w,.sc v ng p q r',w',x,x',y,y',_,_,h=>by
  rw[fl,eQY] at h;have h:=(List.cons.inj h).1;have e:=(eQF w.1).1;rw[h,hQL] at e;cases e
 | .sc v ng p q r,w,.nil,_,x,x',y,y',_,hx,h=>by
  rw[eQY] at h;have h:=(List.cons.inj h).1;have e:=hQL nm v ng;rw[h] at e;rcases hx with rfl | rfl
  ·rw[eQT] at e;cases e
  ·rw[hQM] at e;cases e
 | .sc v ng p q r',w,.ln s r,w',x,x',y,y',_,_,h=>by
  rw[fl,eQY] at h;have h:=(List.cons.inj h).1;have e:=(eQF w'.1).1;rw[<-h,hQL] at e;cases e
 | .sc v ng p q r,w,.sc v' ng' p' q' r',w',x,x',y,y',hx,hx',h=>by
  rw[eQY,eQY,List.cons_append,List.cons_append] at h;obtain⟨h0,hq⟩:=List.cons.inj h;obtain⟨e0,e0'⟩:=hI v v' ng ng' w.1 w'.1 h0;subst e0 e0';rw[List.append_assoc,List.append_assoc,List.append_assoc,List.append_assoc,List.cons_append,List.cons_append] at hq;rcases qQG (nm:=nm) q (fl nm r++x::y)with⟨e1,e2⟩ | ⟨e1,e2⟩<;>rcases qQG (nm:=nm) q' (fl nm r'++x'::y')with⟨f1,f2⟩ | ⟨f1,f2⟩<;>rw[e2,f2] at hq
  ·obtain⟨k1,_,k2⟩:=fQO hI w.2.1 w'.2.1 (.inr rfl) (.inr rfl) hq;obtain⟨k3,h1,h2⟩:=fQO hI w.2.2.2 w'.2.2.2 hx hx' k2;exact⟨by rw[k1,k3,e1,f1],h1,h2⟩
  ·obtain⟨_,e,_⟩:=fQO hI w.2.1 w'.2.1 (.inr rfl) (.inl rfl) hq;exact absurd e (by decide)
  ·obtain⟨_,e,_⟩:=fQO hI w.2.1 w'.2.1 (.inl rfl) (.inr rfl) hq;exact absurd e (by decide)
  ·obtain⟨k1,_,k2⟩:=fQO hI w.2.1 w'.2.1 (.inl rfl) (.inl rfl) hq;obtain⟨k3,_,k4⟩:=fQO hI w.2.2.1 w'.2.2.1 (.inr rfl) (.inr rfl) k2;obtain⟨k5,h1,h2⟩:=fQO hI w.2.2.2 w'.2.2.2 hx hx' k4;exact⟨by rw[k1,k3,k5],h1,h2⟩
theorem qQH (hI:NmI nm n){a a':Tr}(w:Wt n a)(w':Wt n a')(h:fl nm a=fl nm a'):a=a':=
 (fQO hI w w' (x:=cQQ) (x':=cQQ) (y:=[]) (y':=[]) (.inr rfl) (.inr rfl) (by rw[h])).1
def mkS (v:Nat)(h l e:Tr):Tr:=match h with
 | .nil=>.sc v true l .nil e
 | h=>.sc v false h l e
theorem hQU {v:Nat}{h l e:Tr}(hh:h≠ .nil):mkS v h l e= .sc v false h l e:=by
 cases h with
 | nil=>exact absurd rfl hh
 | _=>rfl
theorem tQE {l:Tr}(hh:l≠ .nil):elT nm l=cQi::fl nm l:=by
 cases l with
 | nil=>exact absurd rfl hh
 | _=>rfl
def ApL (a b:List (List Nat)):Prop:=∀s,bQc s= .txt->¬(a.head? =some s/\b.head? =some s)/\¬(a.getLast? =some s/\b.getLast? =some s)
theorem nQS {t:Tr}:fl nm t=[]↔t= .nil:=by
 cases t with
 | nil=>simp[fl]
 | ln s r=>simp[fl]
 | sc v ng h l r=>rw[eQY];simp
theorem uQX (hI:NmI nm n){v:Nat}{H L:Tr}(wH:Wt n H)(wL:Wt n L)(hne:fl nm H≠fl nm L):
  ∃P H2 L2 E,H=ap P (ap H2 E)/\L=ap P (ap L2 E)/\dQ8 nm v (fl nm H) (fl nm L)=fl nm (ap P (mkS v H2 L2 E))/\(H2≠ .nil∨L2≠ .nil)/\ApL (fl nm H2) (fl nm L2):=by
 obtain⟨p1,p2,p3,p4,p5⟩:=nQI (fl nm H) (fl nm L);generalize hp:cmn (fl nm H) (fl nm L)=p at*;obtain⟨P,H1,rfl,a1,a2⟩:=eQU wH _ _ (List.take_append_drop p (fl nm H)).symm p4;obtain⟨P',L1,rfl,b1,b2⟩:=eQU wL _ _ (List.take_append_drop p (fl nm L)).symm (by rw[<-p3];exact p4);obtain⟨wP,wH1⟩:=hQK.1 wH;obtain⟨wP',wL1⟩:=hQK.1 wL;have hPP:P=P':=qQH hI wP wP' (by rw[a1,b1,p3]);subst hPP;have hPl:(fl nm P).length=p:=by rw[a1,List.length_take];omega
 obtain⟨s1,s2,s3,s4,s5⟩:=mQH (fl nm H1) (fl nm L1);have hj:dQ8 nm v (fl nm (ap P H1)) (fl nm (ap P L1))=fl nm P++((if(fl nm H1).take ((fl nm H1).length-jQN (fl nm H1) (fl nm L1))=[] then ifT nm v true::(fl nm L1).take ((fl nm L1).length-jQN (fl nm H1) (fl nm L1))else ifT nm v false::((fl nm H1).take ((fl nm H1).length-jQN (fl nm H1) (fl nm L1))++if(fl nm L1).take ((fl nm L1).length-jQN (fl nm H1) (fl nm L1))=[] then [] else cQi::(fl nm L1).take ((fl nm L1).length-jQN (fl nm H1) (fl nm L1))))++cQQ::(fl nm H1).drop ((fl nm H1).length-jQN (fl nm H1) (fl nm L1))):=by
  unfold dQ8;simp only[hp];rw[<-a1,<-a2,<-b2]
 generalize jQN (fl nm H1) (fl nm L1)=s at*;have e1:dp ((fl nm H1).take ((fl nm H1).length-s))=0:=by
  have:=(iQp nm wH1).1;rw[<-List.take_append_drop ((fl nm H1).length-s) (fl nm H1),eQE,s4] at this;omega
 have e2:dp ((fl nm L1).take ((fl nm L1).length-s))=0:=by
  have:=(iQp nm wL1).1;rw[<-List.take_append_drop ((fl nm L1).length-s) (fl nm L1),eQE,<-s3,s4] at this;omega
 obtain⟨H2,E,rfl,c1,c2⟩:=eQU wH1 _ _ (List.take_append_drop ((fl nm H1).length-s) (fl nm H1)).symm e1;obtain⟨L2,E',rfl,d1,d2⟩:=eQU wL1 _ _ (List.take_append_drop ((fl nm L1).length-s) (fl nm L1)).symm e2;obtain⟨wH2,wE⟩:=hQK.1 wH1;obtain⟨wL2,wE'⟩:=hQK.1 wL1;have hEE:E=E':=qQH hI wE wE' (by rw[c2,d2,s3]);subst hEE;have hEl:(fl nm E).length=s:=by rw[c2,List.length_drop];omega
 refine⟨P,H2,L2,E,rfl,rfl,?_,?_,fun x hx=>⟨fun hh=>?_,fun hh=>?_⟩⟩
 ·rw[hj,<-c1,<-c2,<-d1,gQS];congr 1;by_cases e1:H2= .nil
  ·subst e1;rw[if_pos (nQS.2 rfl),mkS,eQY];simp[elT]
  ·rw[if_neg (fun e=>e1 (nQS.1 e)),hQU e1,eQY];by_cases e2:L2= .nil
   ·subst e2;rw[if_pos (nQS.2 rfl)];simp[elT]
   ·rw[if_neg (fun e=>e2 (nQS.1 e)),tQE e2];simp
 ·by_cases h:H2= .nil
  ·right
   intro h';subst h h';exact hne rfl
  ·exact .inl h
 ·obtain⟨h1,h2⟩:=hh;have:=p5 (p+1);cases hq:fl nm H2 with
  | nil=>rw[hq] at h1;cases h1
  | cons y A=>
   cases hq':fl nm L2 with
   | nil=>rw[hq'] at h2;cases h2
   | cons y' A'=>
    rw[hq] at h1;rw[hq'] at h2;cases h1;cases h2;rw[gQS,gQS,gQS,gQS,hq,hq',<-hPl] at this;have t1:∀z:List (List Nat),(fl nm P++(x::z)).take ((fl nm P).length+1)=fl nm P++ [x]:=fun z=>by rw[List.take_append];simp[List.take_of_length_le]
    rw[List.cons_append,List.cons_append,t1,t1,eQE,(iQp nm wP).1] at this;have:=this (by simp) (by simp) rfl (by simp[dp,(eQF hx).1]);omega
 ·obtain⟨h1,h2⟩:=hh;have:=s5 (s+1);rcases List.eq_nil_or_concat (fl nm H2)with hq | ⟨A,y,hq⟩
  ·rw[hq] at h1;cases h1
  rcases List.eq_nil_or_concat (fl nm L2)with hq' | ⟨A',y',hq'⟩
  ·rw[hq'] at h2;cases h2
  rw[List.concat_eq_append] at hq hq';rw[hq] at h1;rw[hq'] at h2;simp only[List.getLast?_concat,Option.some.injEq] at h1 h2;subst h1 h2;rw[gQS,gQS,hq,hq'] at this;have t1:∀z:List (List Nat),(z++ [y']++fl nm E).drop ((z++ [y']++fl nm E).length-(s+1))=y'::fl nm E:=fun z=>by
   rw[List.append_assoc,show(z++([y']++fl nm E)).length-(s+1)=z.length by simp only[List.length_append,List.length_cons,List.length_nil];omega,List.drop_left];rfl
  rw[t1,t1,bQZ,(eQF hx).1,(iQp nm wE).1] at this;have:=this (by simp only[List.length_append,List.length_cons,List.length_nil];omega) (by simp only[List.length_append,List.length_cons,List.length_nil];omega) rfl rfl;omega
end
section
open Go Go.RowKit
variable {nm:List (List Nat)} {n:Nat}
def eQV (e:Nat->Bool):Tr->List (List Nat)
 | .nil=>[]
 | .ln s r=>s::eQV e r
 | .sc v ng h l r=>(if(e v !=ng)=true then eQV e h else eQV e l)++eQV e r
theorem hQV (e:Nat->Bool):∀a b:Tr,eQV e (ap a b)=eQV e a++eQV e b
 | .nil,b=>rfl
 | .ln s r,b=>by rw[ap,eQV,eQV,hQV e r b];rfl
 | .sc v ng h l r,b=>by rw[ap,eQV,eQV,hQV e r b];simp
theorem wQn (e:Nat->Bool)(v:Nat)(h l r:Tr):eQV e (mkS v h l r)=(if e v=true then eQV e h else eQV e l)++eQV e r:=by
 by_cases hh:h= .nil
 ·subst hh;show(if(e v !=true)=true then eQV e l else [])++eQV e r=(if e v=true then [] else eQV e l)++eQV e r;generalize e v=b;cases b<;>rfl
 ·rw[hQU hh];show(if(e v !=false)=true then eQV e h else eQV e l)++eQV e r=_;generalize e v=b;cases b<;>rfl
def ShT (nm:List (List Nat)):Tr->Prop
 | .nil=>True
 | .ln _ r=>ShT nm r
 | .sc _ _ h l r=>h≠ .nil/\(l≠ .nil->ApL (fl nm h) (fl nm l))/\ShT nm h/\ShT nm l/\ShT nm r
theorem mQQ:∀{a b:Tr},ShT nm (ap a b)↔ShT nm a/\ShT nm b
 | .nil,b=>by simp[ap,ShT]
 | .ln s r,b=>by simp[ap,ShT,mQQ (a:=r) (b:=b)]
 | .sc v ng h l r,b=>by simp[ap,ShT,mQQ (a:=r) (b:=b),and_assoc]
theorem xQz {v:Nat}{h l r:Tr}(h1:h≠ .nil∨l≠ .nil)(h2:ApL (fl nm h) (fl nm l))(h3:ShT nm h)(h4:ShT nm l)(h5:ShT nm r):ShT nm (mkS v h l r):=by
 by_cases hh:h= .nil
 ·subst hh;exact⟨h1.resolve_left (fun e=>e rfl),fun e=>absurd rfl e,h4,trivial,h5⟩
 ·rw[hQU hh];exact⟨hh,fun _=>h2,h3,h4,h5⟩
def dT:Tr->Nat
 | .nil=>0
 | .ln _ r=>dT r
 | .sc _ _ h l r=>max (1+max (dT h) (dT l)) (dT r)
theorem wQo:∀a b:Tr,dT (ap a b)=max (dT a) (dT b)
 | .nil,b=>by simp[ap,dT]
 | .ln s r,b=>by rw[ap,dT,dT,wQo r b]
 | .sc v ng h l r,b=>by rw[ap,dT,dT,wQo r b,Nat.max_assoc]
theorem zQu (v:Nat)(h l r:Tr):dT (mkS v h l r)<=max (1+max (dT h) (dT l)) (dT r):=by
 by_cases hh:h= .nil
 ·subst hh;show max (1+max (dT l) 0) (dT r)<=_;simp only[dT];omega
 ·rw[hQU hh];exact Nat.le_refl _
def LnT (P:List Nat->Prop):Tr->Prop
 | .nil=>True
 | .ln s r=>P s/\LnT P r
 | .sc _ _ h l r=>LnT P h/\LnT P l/\LnT P r
theorem mQR {P:List Nat->Prop}:∀{a b:Tr},LnT P (ap a b)↔LnT P a/\LnT P b
 | .nil,b=>by simp[ap,LnT]
 | .ln s r,b=>by simp[ap,LnT,mQR (a:=r) (b:=b),and_assoc]
 | .sc v ng h l r,b=>by simp[ap,LnT,mQR (a:=r) (b:=b),and_assoc]
theorem xQA {P:List Nat->Prop}{v:Nat}{h l r:Tr}(h1:LnT P h)(h2:LnT P l)(h3:LnT P r):LnT P (mkS v h l r):=by
 by_cases hh:h= .nil
 ·subst hh;exact⟨h2,trivial,h3⟩
 ·rw[hQU hh];exact⟨h1,h2,h3⟩
theorem xQB {v:Nat}{h l r:Tr}(h0:v<n)(h1:Wt n h)(h2:Wt n l)(h3:Wt n r):Wt n (mkS v h l r):=by
 by_cases hh:h= .nil
 ·subst hh;exact⟨h0,h2,trivial,h3⟩
 ·rw[hQU hh];exact⟨h0,h1,h2,h3⟩
theorem wQp (v:Nat)(h l r:Tr):(fl nm (mkS v h l r)).length<=(fl nm h).length+(fl nm l).length+(fl nm r).length+3:=by
 by_cases hh:h= .nil
 ·subst hh;rw[mkS,eQY];simp[elT,fl];omega
 ·rw[hQU hh,eQY];by_cases hl:l= .nil
  ·subst hl;simp[elT,fl];omega
  ·rw[tQE hl];simp;omega
def lnT:List (List Nat)->Tr
 | []=>.nil
 | s::l=>.ln s (lnT l)
theorem uQY:∀l:List (List Nat),fl nm (lnT l)=l
 | []=>rfl
 | s::l=>by rw[lnT,fl,uQY l]
theorem tQF (e:Nat->Bool):∀l:List (List Nat),eQV e (lnT l)=l
 | []=>rfl
 | s::l=>by rw[lnT,eQV,tQF e l]
theorem wQq:∀l:List (List Nat),ShT nm (lnT l)
 | []=>trivial
 | s::l=>wQq l
theorem xQY:∀l:List (List Nat),dT (lnT l)=0
 | []=>rfl
 | s::l=>xQY l
theorem wQr:∀{l:List (List Nat)},(∀s∈l,bQc s= .txt)->Wt n (lnT l)
 | [],_=>trivial
 | s::l,h=>⟨h s (by simp),wQr (fun t ht=>h t (by simp[ht]))⟩
theorem wQs {P:List Nat->Prop}:∀{l:List (List Nat)},(∀s∈l,P s)->LnT P (lnT l)
 | [],_=>trivial
 | s::l,h=>⟨h s (by simp),wQs (fun t ht=>h t (by simp[ht]))⟩
def cQf (nm:List (List Nat))(f:Nat->List Nat):Nat->Nat->List Nat->List (List Nat)
 | 0,_,l=>aQi (f (l.headD 0))
 | k+1,v,l=>if∀c∈l,f c=f (l.headD 0)then aQi (f (l.headD 0))else
  if l.filter (fun c=> !c.testBit v)=[]∨l.filter (fun c=>c.testBit v)=[] then cQf nm f k (v+1) l else
  if cQf nm f k (v+1) (l.filter (fun c=>c.testBit v))=cQf nm f k (v+1) (l.filter (fun c=> !c.testBit v))then cQf nm f k (v+1) (l.filter (fun c=>c.testBit v))else
  dQ8 nm v (cQf nm f k (v+1) (l.filter (fun c=>c.testBit v))) (cQf nm f k (v+1) (l.filter (fun c=> !c.testBit v)))
theorem dQT {l:List Nat}(h:l≠ []):l.headD 0∈l:=by
 cases l with
 | nil=>exact absurd rfl h
 | cons a l=>simp
theorem eQG {f:Nat->List Nat}{l:List Nat}(hl:l≠ []){t:List Nat}(h:∀c∈l,f c=t):∀k v,cQf nm f k v l=aQi t:=by
 have h0:=h _ (dQT hl);intro k v;cases k with
 | zero=>rw[cQf,h0]
 | succ k=>rw[cQf,if_pos (fun c hc=>by rw[h c hc,h0]),h0]
theorem eQb {f:Nat->List Nat}{l:List Nat}(hl:l≠ [])(k v:Nat):cQf nm f (k+1) v l=
  if l.filter (fun c=> !c.testBit v)=[]∨l.filter (fun c=>c.testBit v)=[] then cQf nm f k (v+1) l else
  if cQf nm f k (v+1) (l.filter (fun c=>c.testBit v))=cQf nm f k (v+1) (l.filter (fun c=> !c.testBit v))then cQf nm f k (v+1) (l.filter (fun c=>c.testBit v))else
  dQ8 nm v (cQf nm f k (v+1) (l.filter (fun c=>c.testBit v))) (cQf nm f k (v+1) (l.filter (fun c=> !c.testBit v))):=by
 by_cases hc:∀c∈l,f c=f (l.headD 0)
 ·rw[eQG hl hc,eQG hl hc];split
  ·rfl
  ·rename_i h;have h1:l.filter (fun c=> !c.testBit v)≠ []:=fun e=>h (.inl e)
   have h2:l.filter (fun c=>c.testBit v)≠ []:=fun e=>h (.inr e)
   rw[eQG h1 (fun c hm=>hc c (List.mem_filter.1 hm).1),eQG h2 (fun c hm=>hc c (List.mem_filter.1 hm).1),if_pos rfl]
 ·rw[cQf,if_neg hc]
def wQt (t:List Nat):Prop:=∀s∈aQi t,bQc s= .txt
def Apt (l:List Nat)(v k:Nat):Prop:=∀c∈l,∀c'∈l,(∀i,v<=i->i<v+k->c.testBit i=c'.testBit i)->c=c'
theorem Apt.sub {l m:List Nat}{v k:Nat}(h:Apt l v (k+1))(hm:∀c∈m,c∈l)(he:∀c∈m,∀c'∈m,c.testBit v=c'.testBit v):Apt m (v+1) k:=fun c hc c' hc' hb=>h c (hm c hc) c' (hm c' hc') (fun i h1 h2=>by
 by_cases e:i=v
 ·subst e;exact he c hc c' hc'
 ·exact hb i (by omega) (by omega))
theorem nQT (hI:NmI nm n){f:Nat->List Nat}{P:List Nat->Prop}{M:Nat}:∀(k v:Nat)(l:List Nat),v+k<=n->l≠ []->Apt l v k->(∀c∈l,wQt (f c)/\(∀s∈aQi (f c),P s)/\(aQi (f c)).length<=M)->
  ∃T,cQf nm f k v l=fl nm T/\Wt n T/\ShT nm T/\dT T<=k/\LnT P T/\(fl nm T).length+3<=l.length*(M+3)/\∀c∈l,eQV (fun i=>c.testBit i) T=aQi (f c)
 | 0,v,l,hv,hl,ha,hp=>by
  have h0:=hp _ (dQT hl);have hall:∀c∈l,c=l.headD 0:=fun c hc=>ha c hc _ (dQT hl) (fun i h1 h2=>by omega)
  refine⟨lnT (aQi (f (l.headD 0))),by rw[uQY,cQf],wQr h0.1,wQq _,by rw[xQY];exact Nat.le_refl _,wQs h0.2.1,?_,fun c hc=>by rw[tQF,hall c hc]⟩;rw[uQY];have:1<=l.length:=List.length_pos_iff.2 hl;have:=Nat.mul_le_mul_right (M+3) this;have:=h0.2.2;omega
 | k+1,v,l,hv,hl,ha,hp=>by
  rw[eQb hl];split
  ·rename_i h;have he:∀c∈l,∀c'∈l,c.testBit v=c'.testBit v:=by
    rcases h with h | h
    ·have:=List.filter_eq_nil_iff.1 h;intro c hc c' hc';have h1:=this c hc;have h2:=this c' hc';simp at h1 h2;rw[h1,h2]
    ·have:=List.filter_eq_nil_iff.1 h;intro c hc c' hc';have h1:=this c hc;have h2:=this c' hc';simp at h1 h2;rw[h1,h2]
   obtain⟨T,h1,h2,h3,h4,h5⟩:=nQT hI (P:=P) (M:=M) k (v+1) l (by omega) hl (ha.sub (fun c hc=>hc) he) hp;exact⟨T,h1,h2,h3,by omega,h5⟩
  ·rename_i h;have n1:l.filter (fun c=> !c.testBit v)≠ []:=fun e=>h (.inl e)
   have n2:l.filter (fun c=>c.testBit v)≠ []:=fun e=>h (.inr e)
   have m1:∀c∈l.filter (fun c=> !c.testBit v),c∈l/\c.testBit v=false:=fun c hc=>by have:=List.mem_filter.1 hc;exact⟨this.1,by simpa using this.2⟩
   have m2:∀c∈l.filter (fun c=>c.testBit v),c∈l/\c.testBit v=true:=fun c hc=>by have:=List.mem_filter.1 hc;exact⟨this.1,by simpa using this.2⟩
   have hlen:(l.filter (fun c=>c.testBit v)).length+(l.filter (fun c=> !c.testBit v)).length=l.length:=by
    clear h hl ha hp n1 n2 m1 m2;induction l with
    | nil=>rfl
    | cons a l ih=>by_cases e:a.testBit v=true<;>simp[List.filter_cons,e]<;>omega
   obtain⟨L,a1,a2,a3,a4,a5,a6,a7⟩:=nQT hI (P:=P) (M:=M) k (v+1) _ (by omega) n1 (ha.sub (fun c hc=>(m1 c hc).1) (fun c hc c' hc'=>by rw[(m1 c hc).2,(m1 c' hc').2])) (fun c hc=>hp c (m1 c hc).1);obtain⟨H,b1,b2,b3,b4,b5,b6,b7⟩:=nQT hI (P:=P) (M:=M) k (v+1) _ (by omega) n2 (ha.sub (fun c hc=>(m2 c hc).1) (fun c hc c' hc'=>by rw[(m2 c hc).2,(m2 c' hc').2])) (fun c hc=>hp c (m2 c hc).1);rw[a1,b1];have hmul:l.length*(M+3)=(l.filter (fun c=>c.testBit v)).length*(M+3)+(l.filter (fun c=> !c.testBit v)).length*(M+3):=by rw[<-Nat.add_mul,hlen]
   split
   ·rename_i e;have hHL:H=L:=qQH hI b2 a2 e;subst hHL;refine⟨H,rfl,b2,b3,by omega,b5,by omega,fun c hc=>?_⟩;cases hb:c.testBit v with
    | true=>exact b7 c (List.mem_filter.2 ⟨hc,hb⟩)
    | false=>exact a7 c (List.mem_filter.2 ⟨hc,by simp[hb]⟩)
   ·rename_i e;obtain⟨Q,H2,L2,E,rfl,rfl,hj,hne,hap⟩:=uQX hI (v:=v) b2 a2 e;obtain⟨q1,q2⟩:=hQK.1 b2;obtain⟨q2,q3⟩:=hQK.1 q2;obtain⟨_,r2⟩:=hQK.1 a2;obtain⟨r2,_⟩:=hQK.1 r2;obtain⟨s1,s2⟩:=mQQ.1 b3;obtain⟨s2,s3⟩:=mQQ.1 s2;obtain⟨_,t2⟩:=mQQ.1 a3;obtain⟨t2,_⟩:=mQQ.1 t2;obtain⟨u1,u2⟩:=mQR.1 b5;obtain⟨u2,u3⟩:=mQR.1 u2;obtain⟨_,w2⟩:=mQR.1 a5;obtain⟨w2,_⟩:=mQR.1 w2;rw[wQo,wQo] at a4 b4;rw[gQS,gQS,List.length_append,List.length_append] at a6 b6;rw[hj];refine⟨_,rfl,hQK.2 ⟨q1,xQB (by omega) q2 r2 q3⟩,mQQ.2 ⟨s1,xQz hne hap s2 t2 s3⟩,?_,mQR.2 ⟨u1,xQA u2 w2 u3⟩,?_,fun c hc=>?_⟩
    ·rw[wQo];have:=zQu v H2 L2 E;omega
    ·rw[gQS,List.length_append];have:=wQp (nm:=nm) v H2 L2 E;omega
    ·rw[hQV,wQn];cases hb:c.testBit v with
     | true=>
      have:=b7 c (List.mem_filter.2 ⟨hc,hb⟩);rw[hQV,hQV] at this;rw[if_pos rfl];exact this
     | false=>
      have:=a7 c (List.mem_filter.2 ⟨hc,by simp[hb]⟩);rw[hQV,hQV] at this;rw[if_neg (by decide)];exact this
end
section
section
open Go Go.RowKit
def ChG:Nat->List Sg->Nat->Prop
 | a,[],b=>a=b
 | a,s::l,b=>s.f=a/\ChG s.t l b
theorem ChG.snoc {x:Sg}:∀{l:List Sg}{a b:Nat},ChG a (l++ [x]) b↔ChG a l x.f/\x.t=b
 | [],a,b=>by simp only[List.nil_append,ChG];exact⟨fun h=>⟨h.1.symm,h.2⟩,fun h=>⟨h.1.symm,h.2⟩⟩
 | s::l,a,b=>by
  simp only[List.cons_append,ChG];rw[ChG.snoc (l:=l)];exact⟨fun h=>⟨⟨h.1,h.2.1⟩,h.2.2⟩,fun h=>⟨h.1.1,h.1.2,h.2⟩⟩
structure SgOk (fs:List (List Nat×List Nat)) (tx:List Nat) (s:Sg):Prop where
 ft:s.f<s.t
 tl:s.t<=tx.length
 nl:tx[s.t-1]? =some 10
 src:∃x,fs[s.fl]? =some x/\s.at_+(s.t-s.f)<=x.2.length/\(x.2.drop s.at_).take (s.t-s.f)=(tx.take s.t).drop s.f
theorem SgOk.app {fs:List (List Nat×List Nat)}{tx:List Nat}{s:Sg}(h:SgOk fs tx s)(l:List Nat):SgOk fs (tx++l) s:=by
 obtain⟨h1,h2,h3,x,h4,h5,h6⟩:=h;refine⟨h1,by rw[List.length_append];omega,by rw[List.getElem?_append_left (by omega)];exact h3,x,h4,h5,?_⟩;rw[List.take_append_of_le_length h2];exact h6
structure GInv (fs:List (List Nat×List Nat)) (g:Gs):Prop where
 ch:ChG 0 g.sg g.tx.length
 ok:∀s∈g.sg,SgOk fs g.tx s
theorem GInv.fr {fs:List (List Nat×List Nat)}{g:Gs}(h:GInv fs g)(b:Bool):GInv fs {g with fr:=b}:=⟨h.ch,h.ok⟩
def qQI (n p:Nat)(k:BF)(g:Gs):Prop:=g.fr=false->∃l x,g.sg=l++ [x]/\x.fl=n/\x.at_+(x.t-x.f)=p/\x.o=k
theorem mQS {fs:List (List Nat×List Nat)}{n p:Nat}{k:BF}{g g':Gs}{s:List Nat}(h:GInv fs g)(hc:qQI n p k g){x:List Nat×List Nat}(hx:fs[n]? =some x)(hs:x.2.drop p=s++x.2.drop (p+s.length))(hp:p+s.length<=x.2.length)(hl:s.getLast? =some 10)
  (ha:fQ0 s n p k g=some g'):GInv fs g'/\qQI n (p+s.length) k g':=by
 unfold fQ0 at ha;split at ha
 ·cases ha
 cases ha;have hs0:0<s.length:=by
  cases s with
  | nil=>cases hl
  | cons _ _=>simp
 have hnl:(g.tx++s)[g.tx.length+s.length-1]? =some 10:=by
  rw[List.getElem?_append_right (by omega),show g.tx.length+s.length-1-g.tx.length=s.length-1 by omega,<-List.getLast?_eq_getElem?];exact hl
 cases hf:g.fr with
 | true=>
  rw[if_pos rfl,bQD];refine⟨⟨?_,fun y hy=>?_⟩,fun _=>⟨_,_,rfl,rfl,?_,rfl⟩⟩
  ·simp only;rw[ChG.snoc];exact⟨h.ch,by simp⟩
  ·simp only[List.mem_append,List.mem_singleton] at hy;rcases hy with hy | rfl
   ·exact(h.ok y hy).app s
   ·refine⟨by simp only;omega,by simp,hnl,x,hx,by simp only;omega,?_⟩;simp only;rw[show g.tx.length+s.length-g.tx.length=s.length by omega,hs,List.take_left,List.take_of_length_le (by simp),List.drop_left]
  ·simp only;omega
 | false=>
  rw[if_neg (by decide)];obtain⟨l,y,e,e1,e2,e3⟩:=hc hf;have hch:=h.ch;have hok:=h.ok;rw[e] at hch hok;rw[ChG.snoc] at hch;obtain⟨q1,q2,q3,z,q4,q5,q6⟩:=hok y (by simp);rw[e,bQD];have hz:z=x:=by rw[e1,hx] at q4;exact(Option.some.inj q4).symm
  subst hz;refine⟨⟨?_,fun u hu=>?_⟩,fun _=>⟨_,_,rfl,e1,?_,e3⟩⟩
  ·simp only;rw[ChG.snoc];exact⟨hch.1,by simp⟩
  ·simp only[List.mem_append,List.mem_singleton] at hu;rcases hu with hu | rfl
   ·exact(hok u (by simp[hu])).app s
   ·refine⟨by simp only;omega,by simp,hnl,z,q4,by simp only;omega,?_⟩;simp only;rw[show g.tx.length+s.length-y.f=(y.t-y.f)+s.length by omega,List.take_of_length_le (l:=g.tx++s) (by simp),List.drop_append_of_le_length (by omega)];rw[List.take_add,List.drop_drop,e2,hs,List.take_left,q6,hch.2,List.take_length]
  ·simp only;omega
theorem qQJ {nm:List (List Nat)}{fs:List (List Nat×List Nat)}{n d0:Nat}{inc:tQA}{x:List Nat×List Nat}(hx:fs[n]? =some x)
  (hi:∀r ln d k g g',inc r ln d k g= .ok g'->GInv fs g->GInv fs g'):∀(ls:List (List Nat)) (ln at_:Nat) (k:BF) (op:List Se) (g g':Gs),
  x.2.drop at_=unl ls->at_<=x.2.length->GInv fs g->qQI n at_ k g->rdL nm n d0 inc ls ln at_ k op g= .ok g'->GInv fs g'/\g'.fr=true
 | [],ln,at_,k,op,g,g',_,_,hg,_,hr=>by
  cases op with
  | nil=>simp only[rdL,Except.ok.injEq] at hr;subst hr;exact⟨hg.fr true,rfl⟩
  | cons _ _=>simp[rdL] at hr
 | s::ls,ln,at_,k,op,g,g',hd,hat,hg,hc,hr=>by
  have hl1:x.2.drop at_=(s++ [10])++unl ls:=by rw[hd,aQ7];simp
  have hL:(s++ [10]).length=s.length+1:=by simp
  have hlen:x.2.length-at_=s.length+1+(unl ls).length:=by
   have:=congrArg List.length hl1;simp only[List.length_drop,List.length_append,List.length_cons,List.length_nil] at this;omega
  have hd2:x.2.drop (at_+s.length+1)=unl ls:=by
   rw[show at_+s.length+1=at_+(s++ [10]).length by simp;omega,<-List.drop_drop,hl1,List.drop_left]
  have ih:=fun k op g g' h1 h2 h3=>qQJ (nm:=nm) (d0:=d0) hx hi ls (ln+1) (at_+s.length+1) k op g g' hd2 (by omega) h1 h2 h3
  have cf:∀k' (g:Gs),qQI n (at_+s.length+1) k' {g with fr:=true}:=fun k' g h=>by cases h
  rw[rdL.eq_def] at hr;simp only at hr;cases hdir:bQc s with
  | txt=>
   rw[hdir] at hr;simp only at hr;cases ha:fQ0 (s++ [10]) n at_ k g with
   | none=>rw[ha] at hr;cases hr
   | some g1=>
    rw[ha] at hr;simp only at hr;obtain⟨i1,i2⟩:=mQS hg hc hx (by rw[hL,<-Nat.add_assoc,hd2];exact hl1) (by rw[hL];omega) (by simp) ha;exact ih k op g1 g' i1 (by rw[hL,<-Nat.add_assoc] at i2;exact i2) hr
  | ifd r=>
   rw[hdir] at hr;simp only at hr;cases hs:gQ9 nm r with
   | error e=>rw[hs] at hr;cases hr
   | ok d=>
    rw[hs] at hr;simp only at hr;split at hr
    ·cases hr
    ·exact ih _ _ _ _ (hg.fr true) (cf _ _) hr
  | inc r=>
   rw[hdir] at hr;simp only at hr;cases hs:inc r (ln+1) (d0+op.length) k g with
   | error e=>rw[hs] at hr;cases hr
   | ok g1=>
    rw[hs] at hr;exact ih _ _ _ _ ((hi _ _ _ _ _ _ hs hg).fr true) (cf _ _) hr
  | elif r=>
   rw[hdir] at hr;cases op with
   | nil=>cases hr
   | cons y op=>
    simp only at hr;split at hr
    ·cases hr
    ·cases hs:gQ9 nm r with
     | error e=>rw[hs] at hr;cases hr
     | ok d=>rw[hs] at hr;exact ih _ _ _ _ (hg.fr true) (cf _ _) hr
  | els=>
   rw[hdir] at hr;cases op with
   | nil=>cases hr
   | cons y op=>
    simp only at hr;split at hr
    ·cases hr
    ·exact ih _ _ _ _ (hg.fr true) (cf _ _) hr
  | en=>
   rw[hdir] at hr;cases op with
   | nil=>cases hr
   | cons y op=>exact ih _ _ _ _ (hg.fr true) (cf _ _) hr
theorem qQK {nm:List (List Nat)}{fs:List (List Nat×List Nat)}(hf:∀x∈fs,cQ6 x.2):∀(f:Nat)(rd:List Nat)(d n:Nat)(k:BF)(g g':Gs),n<fs.length->GInv fs g->rdF nm fs f rd d n k g= .ok g'->GInv fs g'/\g'.fr=true
 | 0,_,_,_,_,_,_,_,_,hr=>by cases hr
 | f+1,rd,d,n,k,g,g',hn,hg,hr=>by
  have hx:fs[n]? =some fs[n]:=List.getElem?_eq_getElem hn;rw[rdF,hx] at hr;simp only[Option.map_some,Option.getD_some] at hr;refine qQJ hx ?_ (aQi fs[n].2) 0 0 k [] {g with fr:=true} g' (by rw[List.drop_zero,aQR (hf _ (List.getElem_mem hn))]) (Nat.zero_le _) (hg.fr true) (fun h=>by cases h) hr;intro r ln d' k' g1 g2 hi hg1;cases he:mQy (ixN (fs.map (·.1))) (n::rd) r with
  | error e=>rw[he] at hi;cases hi
  | ok m=>
   rw[he] at hi;simp only at hi;split at hi
   ·cases hi
   ·have hm:m<fs.length:=by
     obtain⟨_,tn,htn⟩:=mQK he;have:=fQD htn;simpa using this
    exact(qQK hf f _ _ m _ g1 g2 hm hg1 hi).1
theorem lQx {nm:List (List Nat)}{fs:List (List Nat×List Nat)}{root:List Nat}{g:Gs}(hr:cQJ nm fs root= .ok g):GInv fs g/\fs.length<=256/\∀x∈fs,x.2.length<=1048576:=by
 unfold cQJ at hr;split at hr
 ·cases hr
 cases hfe:bQ6 fs with
 | some p=>rw[hfe] at hr;cases hr
 | none=>
  rw[hfe] at hr;simp only at hr;have h256:fs.length<=256:=by
   unfold bQ6 at hfe;split at hfe
   ·cases hfe
   ·omega
  have hall:∀x∈fs,dQ7 x.1=true/\eQC x.2=true/\x.2.length<=1048576:=by
   unfold bQ6 at hfe;rw[if_neg (by omega)] at hfe;exact hQb fs [] 0 hfe
  cases hix:ixN (fs.map (·.1)) root with
  | none=>rw[hix] at hr;cases hr
  | some n=>
   rw[hix] at hr;simp only at hr;have hn:n<fs.length:=by have:=fQD hix;simpa using this
   exact⟨(qQK (fun x hx=>dQt (hall x hx).2.1) 65 [] 0 n _ _ g hn (⟨rfl,fun s hs=>by cases hs⟩:GInv fs ⟨[],[],false⟩) hr).1,h256,fun x hx=>(hall x hx).2.2⟩
end
section
open Go Go.RowKit
def mkX (s:Sg)(x:DV):Sx:=⟨s.f,s.t,s.fl,s.at_,x⟩
def AllS (k:Nat):List Sg->List Sx->Prop
 | [],[]=>True
 | s::l,y::m=>(y.f=s.f/\y.t=s.t/\y.fl=s.fl/\y.at_=s.at_/\Set1 k y.x.nd y.x.r s.o)/\AllS k l m
 | _,_=>False
theorem AllS.len {k:Nat}:∀{l:List Sg}{m:List Sx},AllS k l m->l.length=m.length
 | [],[],_=>rfl
 | _::_,_::_,h=>by simp[AllS.len h.2]
theorem AllS.get {k:Nat}:∀{l:List Sg}{m:List Sx}{i:Nat}{s:Sg}{y:Sx},AllS k l m->l[i]? =some s->m[i]? =some y->y.f=s.f/\y.t=s.t/\y.fl=s.fl/\y.at_=s.at_/\Set1 k y.x.nd y.x.r s.o
 | _::_,_::_,0,_,_,h,h1,h2=>by cases h1;cases h2;exact h.1
 | _::_,_::_,i+1,_,_,h,h1,h2=>AllS.get (i:=i) h.2 (by simpa using h1) (by simpa using h2)
theorem tQG {w:World}{k:Nat}{A:Option Addr}{n c:Nat}{sg:List Sg}{L:List DV}(h:SgIn w k A n c sg L):∃M,SX w A n c M/\AllS k sg M:=by
 have key:∀(sg:List Sg) (L:List DV),L.length=sg.length->(∀(j:Nat) (s:Sg) (x:DV),sg[j]? =some s->L[j]? =some x->SB w x.A x.n x.c x.nd/\Set1 k x.nd x.r s.o)->
   ∃M:List Sx,M.flatMap Sx.cells=sgV sg L/\M.length=sg.length/\(∀y∈M,SB w y.x.A y.x.n y.x.c y.x.nd)/\AllS k sg M:=by
  intro sg;induction sg with
  | nil=>
   intro L hl _;have:L=[]:=List.eq_nil_of_length_eq_zero hl;subst this;exact⟨[],rfl,rfl,(fun y hy=>by cases hy),⟨⟩⟩
  | cons s sg ih=>
   intro L hl hd;cases L with
   | nil=>cases hl
   | cons x L=>
    obtain⟨M,h1,h2,h3,h4⟩:=ih L (by simpa using hl) (fun j s x h1 h2=>hd (j+1) s x (by simpa using h1) (by simpa using h2));obtain⟨d1,d2⟩:=hd 0 s x rfl rfl;refine⟨mkX s x::M,?_,by simp[h2],?_,⟨⟨rfl,rfl,rfl,rfl,d2⟩,h4⟩⟩
    ·rw[List.flatMap_cons,h1];rfl
    ·intro y hy;rcases List.mem_cons.1 hy with rfl | hy
     ·exact d1
     ·exact h3 y hy
 obtain⟨M,h1,h2,h3,h4⟩:=key sg L h.len h.dg;exact⟨M,⟨⟨by rw[h1];exact h.sl,by rw[h2];exact h.n⟩,h3⟩,h4⟩
theorem nQU {k:Nat}(hk:k<=12){fs:List (List Nat×List Nat)}{tx:List Nat}(hft:∀x∈fs,x.2.length<=1048576):∀{sg:List Sg}{M:List Sx}{a:Nat},AllS k sg M->ChG a sg tx.length->(∀s∈sg,SgOk fs tx s)->pQg tx a M
 | [],[],a,_,h,_=>by have:a=tx.length:=h;subst this;rfl
 | s::sg,y::M,a,h,hc,hs=>by
  obtain⟨⟨e1,e2,e3,e4,e5⟩,hr⟩:=h;obtain⟨q1,q2,q3,x,q4,q5,q6⟩:=hs s (by simp);have hx:=hft x (List.mem_of_getElem? q4);have hcf:s.f=a:=hc.1;refine⟨⟨by omega,by omega,by omega,?_,e5.chk hk,by omega,by omega,by omega⟩,?_⟩
  ·rw[show(y.t-1).toNat=s.t-1 by omega];exact q3
  ·rw[e2];exact nQU hk hft hr hc.2 (fun z hz=>hs z (by simp[hz]))
theorem qQL {k:Nat}(hk:k<=12){nm:List (List Nat)}{fs:List (List Nat×List Nat)}{root:List Nat}{g:Gs}{M:List Sx}(hr:cQJ nm fs root= .ok g)(hg:GsOk g)(hM:AllS k g.sg M):qQx g.tx M=0:=by
 obtain⟨h1,h2,h3⟩:=lQx hr;exact lQs.2 ⟨hg.tl,by rw[<-hM.len];exact hg.sl,nQU hk h3 hM h1.ch h1.ok⟩
def onG (e:Nat->Bool)(sg:List Sg):List Sg:=sg.filter (fun s=>s.o e)
def bQn (tx:List Nat)(s:Sg):List Nat:=(tx.take s.t).drop s.f
def uQZ (tx:List Nat)(sg:List Sg)(e:Nat->Bool):List Nat:=(onG e sg).flatMap (bQn tx)
def uQ0:List Sg->List Sx->Prop
 | [],[]=>True
 | s::l,y::m=>(y.f=s.f/\y.t=s.t/\y.fl=s.fl/\y.at_=s.at_)/\uQ0 l m
 | _,_=>False
theorem AllS.on {k:Nat}(c:Nat):∀{l:List Sg}{m:List Sx},AllS k l m->uQ0 (onG (gQT c) l) (gQs c m)
 | [],[],_=>⟨⟩
 | s::l,y::m,⟨⟨h1,h2,h3,h4,h5⟩,h⟩=>by
  have ih:=h.on c;unfold onG gQs at ih ⊢;rw[List.filter_cons,List.filter_cons];have e:inS c y=s.o (gQT c):=h5.mean _;rw[e];split
  ·exact⟨⟨h1,h2,h3,h4⟩,ih⟩
  ·exact ih
theorem hQW {tx:List Nat}:∀{l:List Sg}{m:List Sx},uQ0 l m->m.flatMap (cQR tx)=l.flatMap (bQn tx)
 | [],[],_=>rfl
 | s::l,y::m,⟨⟨h1,h2,_,_⟩,h⟩=>by
  rw[List.flatMap_cons,List.flatMap_cons,hQW h];unfold cQR bQn;rw[h1,h2];rfl
structure SrcIn (w:World) (k:Nat) (A:Option Addr) (c:Nat) (g:Gs):Prop where
 ok:GsOk g
 kl:k<=12
 ex:∃M,SX w A g.sg.length c M/\AllS k g.sg M/\qQx g.tx M=0
theorem SrcIn.ext {w w':World}{k:Nat}{A:Option Addr}{c:Nat}{g:Gs}(h:SrcIn w k A c g)(hE:Ext w w'):SrcIn w' k A c g:=⟨h.ok,h.kl,let ⟨M,h1,h2,h3⟩:=h.ex;⟨M,h1.ext hE,h2,h3⟩⟩
theorem oQ0 {k:Nat}(hk:k<=12){nm:List (List Nat)}{fs:List (List Nat×List Nat)}{root:List Nat}{g:Gs}(hr:cQJ nm fs root= .ok g){w:World}{A:Option Addr}{c:Nat}{L:List DV}(hg:GsOk g)(h:SgIn w k A g.sg.length c g.sg L):SrcIn w k A c g:=by
 obtain⟨M,h1,h2⟩:=tQG h;exact⟨hg,hk,M,h1,h2,qQL hk hr hg h2⟩
section
variable {w:World} {k:Nat} {A:Option Addr} {c:Nat} {g:Gs}
theorem uQ1 (h:SrcIn w k A c g)(x:Nat)(hx:x<=18446744073709551615):Fn Tryz.prog 21 [uQS g.tx A g.sg.length c,.int .u64 x] w (fun u w'=>u= .string (aQh (uQZ g.tx g.sg (gQT x)))/\Ext w w'):=by
 obtain⟨M,h1,h2,h3⟩:=h.ex;refine(oQX g.tx A _ c M x w h1 hx h.ok.b8).mono ?_;rintro u w' ⟨rfl,hE⟩;exact⟨by unfold xQa uQZ;rw[if_pos h3,hQW (h2.on x)],hE⟩
end
end
section
open Go Go.RowKit
end
end
section
open Go Go.RowKit
theorem wQu (A:Option Addr)(n c:Nat)(nd:List Br)(root:Int)(cfg:Nat)(hcf:cfg<=18446744073709551615)(w:World)(h:SB w A n c nd)(hc:bQS nd root=0):
  Fn Tryz.prog 53 [dgV A n c root,.int .u64 cfg] w (fun v w'=>v= .bool (ev nd root (gQT cfg))/\Ext w w'):=by
 have hlen:=h.2;obtain⟨hsm,hv⟩:=bQC.1 hc;refine aQf (c:={c53 with cuts:=[]}) aQb Tryz.func53 rfl rfl rfl ?_;refine new (fun w1 hE1 hz1 hB1=>?_);refine aQe hB1 rfl ?_;refine loop aQb [5] (fun s:Int=>[.int .i64 s]) (fun s w'=>Ext w1 w'/\0<=s/\s<n+2/\ev nd s (gQT cfg)=ev nd root (gQT cfg)) (fun s _=>s.toNat) root rfl ⟨Ext.refl _,hv.2.1,by have:=hv.2.2.1;omega,rfl⟩ ?_;rintro s w3 ⟨hE3,s0,s1,hs⟩;have hE03:=hE1.trans hE3;refine aQq (fun h1=>?_) (fun h1=>?_)
 ·refine aQg (hB1.ext hE3) rfl ?_;refine aQa (((s-2).toNat:Nat):Int) (by omega) (by omega) ?_;refine aQp cQl (h.ext hE03) rfl (by omega) (fun p x hx hcx=>?_);refine aQK (vs:=x.cells) rfl hcx ?_;refine new (fun w4 hE4 hz4 hB4=>?_);refine aQc hB4 rfl (sc rfl) (fun w5 hg5 hz5 hB5=>?_);have hE35:Ext w3 w5:=aQJ hE4 hB4 hg5;obtain⟨b1,b2,b3,b4,b5,b6,b7,b8,b9,b10⟩:=hv.1 _ _ hx;have hev:=eQX hv.wf (n:=s) (e:=gQT cfg) (by omega) hx;refine aQg hB5 rfl ?_;refine cQh (x.v.toNat:Int) (by omega) (by omega) ?_;refine fQr x.v.toNat (2^x.v.toNat) (by omega) (by show min _ 64=_;omega) rfl ?_;have hlt:cfg/2^x.v.toNat<18446744073709551616:=Nat.lt_of_le_of_lt (Nat.div_le_self _ _) (by omega);refine norm (m:=((cfg/2^x.v.toNat % 2:Nat):Int)) (qQu _ hlt) ?_;refine aQP (fun h2=>?_) (fun h2=>?_)
  ·have hb:gQT cfg x.v.toNat=true:=decide_eq_true (by omega);rw[hb,if_pos rfl] at hev;refine aQe hB5 rfl ?_;exact⟨x.h,rfl,⟨hE3.trans hE35,b5,by omega,by rw[<-hev];exact hs⟩,by show x.h.toNat<s.toNat;omega⟩
  ·have hb:gQT cfg x.v.toNat=false:=decide_eq_false (by omega);rw[hb,if_neg (by decide)] at hev;refine aQe hB5 rfl ?_;exact⟨x.l,rfl,⟨hE3.trans hE35,b3,by omega,by rw[<-hev];exact hs⟩,by show x.l.toNat<s.toNat;omega⟩
 ·refine⟨?_,hE03⟩;rw[<-hs,bQP (by omega)];rfl
theorem sQB (x:Nat)(hx:x<256):IntKind.u8.wrap ((BitVec.ofInt 8 (x:Int) &&& BitVec.ofInt 8 1).toNat)=((x % 2:Nat):Int):=by
 have e:(BitVec.ofInt 8 (x:Int) &&& BitVec.ofInt 8 1).toNat=x % 2:=by
  rw[BitVec.ofInt_natCast,show BitVec.ofInt 8 1=BitVec.ofNat 8 1 from rfl,BitVec.toNat_and,BitVec.toNat_ofNat,BitVec.toNat_ofNat];rw[Nat.mod_eq_of_lt (by omega),show 1 % 2^8=1 by decide,Nat.and_one_is_mod]
 rw[e];rcases(show x % 2=0∨x % 2=1 by omega)with h | h<;>rw[h]<;>decide
theorem wQv (q:Nat):(((q:Nat):Int)==1)=decide (q=1):=by
 by_cases h:q=1
 ·subst h;rfl
 ·rw[decide_eq_false h];exact beq_eq_false_iff_ne.2 (by omega)
theorem xQZ (k:Nat)(hk:k<=1000000):IntKind.i64.wrap ((k:Int).tdiv 8)=((k/8:Nat):Int):=by
 rw[show(8:Int)=((8:Nat):Int) from rfl,rQ2];exact IntWalk.i64_in _ (by omega)
theorem zQv (v:Nat)(hv:v<=6):IntKind.i64.wrap (1*2^(min ((v:Nat):Int).toNat IntKind.i64.bits))=((2^v:Nat):Int):=by
 rcases(show v=0∨v=1∨v=2∨v=3∨v=4∨v=5∨v=6 by omega)with rfl | rfl | rfl | rfl | rfl | rfl | rfl<;>decide
theorem nQV (l:List Nat)(A:Option Addr)(n c N:Nat)(w0:World)(h:Sl w0 1 A n c (bQa l))(h8:∀x∈l,x<=255)(hN:N<=6):∀(d v k:Nat)(w:World),Ext w0 w->v+d=N->k<2^v->
  Fn Tryz.prog 72 [.slice A n c,.int .i64 N,.int .i64 v,.int .i64 k] w (DgS w N (mQM l d v k))
 | 0,v,k,w,hE,hv,hk=>by
  have hn:l.length=n:=by have:=h.len;rw[cQo] at this;omega
  have p6:2^v<=2^6:=Nat.pow_le_pow_right (by decide) (by omega);have hn9:n<=9223372036854775807:=by have:=h.le;have:=h.cap;simp only[maxLen] at this;omega
  refine aQf (c:={c72 with cuts:=[]}) aQb Tryz.func72 rfl rfl rfl ?_;refine new (fun w1 hE1 hz1 hB1=>?_);refine aQZ (by omega) ?_;refine normIf (m:=((k/8:Nat):Int)) (by decide) (xQZ k (by omega)) ?_;have fin:∀b:Bool,b=wQ9 l k->∀w2,Ext w1 w2->∀w3,w2.grownBy w3 (some w.heap.size)->DgS w N (mQM l 0 v k) (dgV none 0 0 (if b then 1 else 0)) w3:=fun b hb w2 hE2 w3 hg3=>by
   have hM3:Mod (·=w.heap.size) w2 w3:=zQE hg3 rfl;exact⟨none,0,0,[],_,rfl,hM3.ext (hE1.trans hE2) (fun i hi=>by omega),SlS.nil _,(bQi N b).congr (fun _=>by rw[hb];rfl),fun i hi=>by obtain⟨_,e,_⟩:=hi;cases e⟩
  refine aQq (fun h1=>?_) (fun h1=>?_)
  ·refine normIf (m:=((k/8:Nat):Int)) (by decide) (xQZ k (by omega)) ?_;have hg:=List.getElem?_eq_getElem (show k/8<l.length by omega);generalize l[k/8]=x at hg;have hx8:=h8 x (List.mem_of_getElem? hg);refine aQ3 ((h.ext hE).ext hE1) (by omega) (fun ad u hA hu hcell=>?_);rw[eQ9 hg] at hu;cases hu;refine load hcell ?_;have m8:k % 8<8:=Nat.mod_lt _ (by decide);refine jQg (d:=8) (by decide) ?_;refine norm (m:=((k % 8:Nat):Int)) (IntWalk.u64_in _ (by omega)) ?_;refine fQr (k % 8) (2^(k % 8)) (by omega) (by show min ((k % 8:Nat):Int).toNat 8=_;omega) rfl ?_;have hlt:x/2^(k % 8)<256:=Nat.lt_of_le_of_lt (Nat.div_le_self _ _) (by omega);refine norm (m:=((x/2^(k % 8) % 2:Nat):Int)) (sQB _ hlt) ?_;refine call (fQN (((x/2^(k % 8) % 2:Nat):Int)==1) w1) ?_;rintro _ w2 ⟨rfl,hE2⟩;refine aQc (hB1.ext hE2) rfl (sc rfl) (fun w3 hg3 _ hB3=>?_);refine aQd hB3 rfl ?_;refine fin _ ?_ w2 hE2 w3 hg3;unfold wQ9;rw[decide_eq_true (show k/8<l.length by omega),hg];simp only[Option.getD_some,Bool.true_and];exact wQv _
  ·refine call (fQN false w1) ?_;rintro _ w2 ⟨rfl,hE2⟩;refine aQc (hB1.ext hE2) rfl (sc rfl) (fun w3 hg3 _ hB3=>?_);refine aQd hB3 rfl ?_;refine fin false ?_ w2 hE2 w3 hg3;unfold wQ9;rw[decide_eq_false (show¬k/8<l.length by omega)];rfl
 | d+1,v,k,w,hE,hv,hk=>by
  have p6:2^v<=2^6:=Nat.pow_le_pow_right (by decide) (by omega);have ps:2^(v+1)=2^v+2^v:=by rw[Nat.pow_succ];omega
  have ih:=nQV l A n c N w0 h h8 hN d;refine aQf (c:={c72 with cuts:=[]}) aQb Tryz.func72 rfl rfl rfl ?_;refine new (fun w1 hE1 hz1 hB1=>?_);refine aQu (by omega) ?_;refine call (uQn (v:Nat) w1 (by omega) (by omega)) ?_;rintro _ w2 ⟨XA,xn,xc,rfl,hE2,hX2,_⟩;refine new (fun w3 hE3 hz3 hB3=>?_);refine aQc hB3 rfl (sc rfl) (fun w4 hg4 _ hB4=>?_);have hE24:Ext w2 w4:=aQJ hE3 hB3 hg4;have hE14:=hE2.trans hE24;have hE04:=hE1.trans hE14;have hX4:=hX2.ext hE24;have sv:=mQN (k:=N) (v:=v) (by omega) (by omega);have qB:∀w',Ext w4 w'->∀(j:Nat) (u:Value),[Value.slice XA xn xc,.int .i64 2][j]? =some u->w'.cell? ((⟨w2.heap.size,0,none⟩:Addr).add j)=some u:=fun w' hw' j u hj=>by rw[(hB4.ext hw').cell];exact hj
  refine aQm aQb (Ext w4) 21 [(true,0),(true,1),(true,2),(true,3),(true,4),(true,5),(true,6),(true,7),(true,8),(true,9),(true,12),(true,13),(true,14),(true,15),(true,16),(true,18),(false,10),(false,11),(false,17),(false,19),(false,20)] (by kernel_rfl) (Ext.drew w4) ?_;refine aQw (vs:=[.slice XA xn xc,.int .i64 2]) rfl (fun w' hw' j u hj=>qB w' hw' j u hj) ?_;refine aQa ((v+1:Nat):Int) (by omega) (by omega) ?_;refine norm (m:=((v:Nat):Int)) (IntWalk.u64_in _ (by omega)) ?_;refine normIf (m:=((2^v:Nat):Int)) (by omega) (zQv v (by omega)) ?_;refine aQa ((k+2^v:Nat):Int) (by omega) (by omega) ?_;refine aQa ((v+1:Nat):Int) (by omega) (by omega) ?_;refine aQw (vs:=[.slice XA xn xc,.int .i64 2]) rfl (fun w' hw' j u hj=>qB w' hw' j u hj) ?_;refine call (ih (v+1) (k+2^v) _ ((hE.trans hE04).trans (Ext.drew w4)) (by omega) (by omega)) ?_;rintro _ w5 ⟨T1,t1n,t1c,nd1,r1,rfl,hE5,hT1,hS1,_⟩;have hE45:=(Ext.drew w4).trans hE5;refine⟨hE45,?_⟩;refine call (lQr (by omega) XA xn xc T1 t1n t1c w5 (hX4.ext hE45) hT1 sv hS1) ?_;rintro _ w6 ⟨U1,u1n,u1c,ud1,q1,rfl,hE6,hU1,hV1,_⟩;have hE46:=hE45.trans hE6;refine⟨hE46,?_⟩;refine call (ih (v+1) k _ ((hE.trans hE04).trans hE46) (by omega) (by omega)) ?_;rintro _ w7 ⟨T2,t2n,t2c,nd2,r2,rfl,hE7,hT2,hS2,_⟩;have hE47:=hE46.trans hE7;refine⟨hE47,?_⟩;refine call (qQw (by omega) T2 t2n t2c XA xn xc w7 hT2 (hX4.ext hE47) hS2 sv) ?_;rintro _ w8 ⟨U2,u2n,u2c,ud2,q2,rfl,hE8,hU2,hV2,_⟩;have hE48:=hE47.trans hE8;refine⟨hE48,?_⟩;refine call (lQq (by omega) U1 u1n u1c U2 u2n u2c w8 ((hU1.ext hE7).ext hE8) hU2 hV1 hV2) ?_;rintro _ w9 ⟨U3,u3n,u3c,ud3,q3,rfl,hE9,hU3,hV3,hR3⟩;have hE49:=hE48.trans hE9;refine⟨hE49,?_⟩;have hz8:=(hE04.trans hE48).size;have hz1':=(hE14.trans hE48).size;refine aQc ((hB1.ext hE14).ext hE49) rfl (sc rfl) (fun w10 hg10 _ hB10=>?_);have hM10:Mod (·=w.heap.size) w9 w10:=zQE hg10 rfl;refine aQd hB10 rfl ?_;refine⟨U3,u3n,u3c,ud3,q3,rfl,hM10.ext (hE04.trans hE49) (fun i hi=>by omega),hU3.mod hM10 (fun i hi e=>by have:=hR3 i hi;omega),hV3.congr (fun e=>?_),fun i hi=>by have:=hR3 i hi;omega⟩;show opB 1 (opB 0 (e v) (mQM l d (v+1) (k+2^v) e)) (mQM l d (v+1) k e && !e v)=if e v then mQM l d (v+1) (k+2^v) e else mQM l d (v+1) k e
  cases e v<;>simp[opB]
theorem nQW (l:List Nat)(A:Option Addr)(n c N:Nat)(w:World)(h:Sl w 1 A n c (bQa l))(h8:∀x∈l,x<=255)(hN:N<=6):
  Fn Tryz.prog 28 [.slice A n c,.int .i64 N] w (DgS w N (mQM l N 0 0)):=by
 refine aQf (c:={c28 with cuts:=[]}) aQb Tryz.func28 rfl rfl rfl ?_;refine new (fun w1 hE1 hz1 hB1=>?_);refine norm (m:=((N:Nat):Int)) (by split<;>omega) ?_;refine norm (m:=((N:Nat):Int)) (by split<;>omega) ?_;refine call (nQV l A n c N w1 (h.ext hE1) h8 hN N 0 0 w1 (Ext.refl _) (by omega) (by decide)) ?_;rintro _ w2 ⟨U,un,uc,nd,r,rfl,hE2,hU,hS,hR⟩;refine aQc (hB1.ext hE2) rfl (sc rfl) (fun w3 hg3 _ hB3=>?_);have hM3:Mod (·=w.heap.size) w2 w3:=zQE hg3 rfl;refine aQd hB3 rfl ?_;exact⟨U,un,uc,nd,r,rfl,hM3.ext (hE1.trans hE2) (fun i hi=>by omega),hU.mod hM3 (fun i hi e=>by have:=hR i hi;omega),hS,fun i hi=>by have:=hR i hi;omega⟩
theorem lQy (ls:List (List Nat)):eQC (unl ls)=true:=by
 unfold eQC;rcases tQr ls with h | h
 ·rw[h];rfl
 ·rw[h];simp
theorem nQX {ls:List (List Nat)}(h:∀s∈ls,∀x∈s,x<256):∀x∈unl ls,x<256:=fun x hx=>by
 unfold unl at hx;obtain⟨s,hs,hxs⟩:=List.mem_flatMap.1 hx;rcases List.mem_append.1 hxs with hxs | hxs
 ·exact h s hs x hxs
 ·simp only[List.mem_singleton] at hxs;subst hxs;decide
theorem jQ7 (ls:List (List Nat))(s:List Nat):unl (ls++ [s])=unl ls++(s++ [10]):=by simp[unl]
theorem qQM {l:List Nat}:∀{names:List (List Nat)}{i:Nat}{acc:Option Nat},l∉names->ixR l names i acc=acc
 | [],_,_,_=>rfl
 | s::names,i,acc,h=>by
  simp only[List.mem_cons,not_or] at h;rw[ixR,if_neg (fun e=>h.1 e.symm)];exact qQM h.2
theorem sQC {x:List Nat}{l:List (List Nat)}(h:x∉l):ixN (x::l) x=some 0:=by
 unfold ixN;rw[ixR,if_pos rfl];exact qQM h
theorem uQ2 (F:List Nat):bQc (pIf++F)= .ifd F:=by simp[bQc,pIf,List.isPrefixOf]
theorem qQN (F:List Nat):bQc (fQf++F)= .elif F:=by simp[bQc,pIf,fQf,mQx,List.isPrefixOf]
abbrev CB:=List (Nat×BF)
def cbG (g:Gs):CB:=g.sg.flatMap (fun s=>(bQn g.tx s).map (fun b=>(b,s.o)))
theorem lQz {tx s:List Nat}{x:Sg}(h:x.t<=tx.length):bQn (tx++s) x=bQn tx x:=by
 unfold bQn;rw[List.take_append_of_le_length h]
theorem wQw (g:Gs)(b:Bool):cbG {g with fr:=b}=cbG g:=rfl
theorem hQX {tx s:List Nat}:∀{l:List Sg},(∀x∈l,x.t<=tx.length)->l.flatMap (fun x=>(bQn (tx++s) x).map (fun b=>(b,x.o)))=l.flatMap (fun x=>(bQn tx x).map (fun b=>(b,x.o)))
 | [],_=>rfl
 | x::l,h=>by rw[List.flatMap_cons,List.flatMap_cons,hQX (fun y hy=>h y (by simp[hy])),lQz (h x (by simp))]
theorem wQx {fs:List (List Nat×List Nat)}{n p:Nat}{k:BF}{g g':Gs}{s:List Nat}(h:GInv fs g)(hc:qQI n p k g)(ha:fQ0 s n p k g=some g'):cbG g'=cbG g++s.map (fun b=>(b,k)):=by
 unfold fQ0 at ha;split at ha
 ·cases ha
 cases ha;cases hf:g.fr with
 | true=>
  rw[if_pos rfl,bQD];unfold cbG;simp only;rw[List.flatMap_append,hQX (fun x hx=>(h.ok x hx).tl)];congr 1;simp only[List.flatMap_cons,List.flatMap_nil,List.append_nil];congr 1;unfold bQn;simp only;rw[List.take_of_length_le (by simp),List.drop_left]
 | false=>
  rw[if_neg (by decide)];obtain⟨l,y,e,e1,e2,e3⟩:=hc hf;have hch:=h.ch;have hok:=h.ok;rw[e] at hch hok;rw[ChG.snoc] at hch;have hy:=hok y (by simp);rw[e,bQD];unfold cbG;simp only;rw[e,List.flatMap_append,List.flatMap_append,hQX (fun x hx=>(hok x (by simp[hx])).tl),List.append_assoc];congr 1;have h1:=hy.ft;have h2:=hch.2;have e4:bQn (g.tx++s) {y with t:=g.tx.length+s.length}=bQn g.tx y++s:=by
   unfold bQn;simp only;rw[List.take_of_length_le (by simp),List.drop_append_of_le_length (by omega),h2,List.take_length]
  simp only[List.flatMap_cons,List.flatMap_nil,List.append_nil];rw[e4,List.map_append,e3]
theorem lQA {tx:List Nat}:∀{l:List Sg}{a:Nat},ChG a l tx.length->(∀x∈l,x.f<x.t/\x.t<=tx.length)->(l.flatMap (fun x=>(bQn tx x).map (fun b=>(b,x.o)))).map (·.1)=tx.drop a
 | [],a,h,_=>by
  have:a=tx.length:=h;subst this;simp
 | x::l,a,h,hx=>by
  obtain⟨h1,h2⟩:=hx x (by simp);rw[List.flatMap_cons,List.map_append,lQA h.2 (fun y hy=>hx y (by simp[hy]))];have:x.f=a:=h.1;subst this;rw[List.map_map];rw[show((fun(p:Nat×BF)=>p.1)∘fun b=>(b,x.o))=id from rfl,List.map_id];unfold bQn
  conv=>rhs;rw[<-List.take_append_drop x.t tx]
  rw[List.drop_append_of_le_length (by rw[List.length_take];omega)]
theorem wQy {fs:List (List Nat×List Nat)}{g:Gs}(h:GInv fs g):(cbG g).map (·.1)=g.tx:=by
 have:=lQA h.ch (fun x hx=>⟨(h.ok x hx).ft,(h.ok x hx).tl⟩);rw[List.drop_zero] at this;exact this
theorem wQz {fs:List (List Nat×List Nat)}{g:Gs}(h:GInv fs g):(cbG g).length=g.tx.length:=by
 rw[<-wQy h,List.length_map]
theorem wQA {tx:List Nat}:∀{l:List Sg}{a:Nat},ChG a l tx.length->(∀x∈l,x.f<x.t/\x.t<=tx.length)->a+l.length<=tx.length
 | [],a,h,_=>by have:a=tx.length:=h;simp;omega
 | x::l,a,h,hx=>by
  have h1:=hx x (by simp);have h2:=wQA h.2 (fun y hy=>hx y (by simp[hy]));have:x.f=a:=h.1;simp only[List.length_cons];omega
theorem wQB {fs:List (List Nat×List Nat)}{g:Gs}(h:GInv fs g):g.sg.length<=g.tx.length:=by
 have:=wQA h.ch (fun x hx=>⟨(h.ok x hx).ft,(h.ok x hx).tl⟩);omega
theorem wQC (g:Gs)(e:Nat->Bool):uQZ g.tx g.sg e=((cbG g).filter (fun p=>p.2 e)).map (·.1):=by
 unfold uQZ cbG onG;generalize g.sg=l;induction l with
 | nil=>rfl
 | cons x l ih=>
  rw[List.flatMap_cons,List.filter_append,List.map_append,<-ih,List.filter_cons];cases he:x.o e with
  | true=>
   rw[if_pos rfl,List.flatMap_cons];congr 1;rw[List.filter_map,List.map_map];rw[List.filter_eq_self.2 (fun b _=>by simpa using he)];rw[show((fun(p:Nat×BF)=>p.1)∘fun b=>(b,x.o))=id from rfl,List.map_id]
  | false=>
   rw[if_neg (by decide)];have:((bQn g.tx x).map (fun b=>(b,x.o))).filter (fun p=>p.2 e)=[]:=by
    rw[List.filter_eq_nil_iff];intro p hp;obtain⟨b,_,rfl⟩:=List.mem_map.1 hp;simp[he]
   rw[this]<;>rfl
inductive Mn where
 | tx (s:List Nat)
 | ifd (F:List Nat) (o:BF)
 | elif (F:List Nat) (o:BF)
 | els
 | en
 | inc
def xQb:List Nat:=[34,110,34]
def mnT:Mn->List Nat
 | .tx s=>s
 | .ifd F _=>pIf++F
 | .elif F _=>fQf++F
 | .els=>cQi
 | .en=>cQQ
 | .inc=>mQx++xQb
structure TxOk (s:List Nat):Prop where
 nl:10∉s
 dr:bQc s= .txt
 b8:∀x∈s,x<256
structure FOk (nm:List (List Nat)) (F:List Nat) (o:BF):Prop where
 nl:10∉F
 st:gQ9 nm F= .ok o
 b8:∀x∈F,x<256
def wfM (nm:List (List Nat))(ic:Bool)(D:Nat):List Bool->List Mn->Prop
 | [],[]=>True
 | _::_,[]=>False
 | op,.tx s::l=>TxOk s/\wfM nm ic D op l
 | op,.ifd F o::l=>FOk nm F o/\op.length<D/\wfM nm ic D (false::op) l
 | false::op,.elif F o::l=>FOk nm F o/\wfM nm ic D (false::op) l
 | false::op,.els::l=>wfM nm ic D (true::op) l
 | _::op,.en::l=>wfM nm ic D op l
 | op,.inc::l=>ic=true/\wfM nm ic D op l
 | _,_=>False
def emM (ie:BF->CB):List Mn->BF->List (BF×BF)->CB
 | [],_,_=>[]
 | .tx s::l,k,op=>(s++ [10]).map (fun b=>(b,k))++emM ie l k op
 | .ifd _ o::l,k,op=>emM ie l (dQd k o) ((k,eQR k o)::op)
 | .elif _ o::l,k,op=>match op with
  | []=>[]
  | (ou,re)::op=>emM ie l (dQd re o) ((ou,eQR re o)::op)
 | .els::l,k,op=>match op with
  | []=>[]
  | (ou,re)::op=>emM ie l re ((ou,re)::op)
 | .en::l,k,op=>match op with
  | []=>[]
  | (ou,_)::op=>emM ie l ou op
 | .inc::l,k,op=>ie k++emM ie l k op
theorem sQD (F:List Nat):bQc (mQx++F)= .inc F:=by simp[bQc,pIf,mQx,List.isPrefixOf]
abbrev opM (op:List Se):List (BF×BF):=op.map (fun x=>(x.ou,x.re))
abbrev flM (op:List Se):List Bool:=op.map (·.ot)
theorem wQD {fs:List (List Nat×List Nat)}{g:Gs}{s:List Nat}{n p:Nat}{k:BF}(h:GInv fs g)(hl:(cbG g).length+s.length<=60000):∃g',fQ0 s n p k g=some g':=by
 have h1:=wQz h;have h2:=wQB h;unfold fQ0;rw[if_neg (by intro hh;rcases hh with hh | ⟨_,hh⟩<;>omega)];exact⟨_,rfl⟩
theorem rdM {nm:List (List Nat)}{fs:List (List Nat×List Nat)}{n d0:Nat}{inc:tQA}{x:List Nat×List Nat}(hx:fs[n]? =some x){ic:Bool}{D:Nat}{ie:BF->CB}
  (hi:ic=true->∀ln d k g,GInv fs g->d0<=d->d<=d0+D->(cbG g).length+(ie k).length<=60000->∃g',inc xQb ln d k g= .ok g'/\GInv fs g'/\cbG g'=cbG g++ie k) (hd0:d0+D<64):
  ∀(l:List Mn) (ln at_:Nat) (k:BF) (op:List Se) (g:Gs),x.2.drop at_=unl (l.map mnT)->at_<=x.2.length->GInv fs g->qQI n at_ k g->wfM nm ic D (flM op) l->op.length<=D->(cbG g).length+(emM ie l k (opM op)).length<=60000->
   ∃g',rdL nm n d0 inc (l.map mnT) ln at_ k op g= .ok g'/\GInv fs g'/\cbG g'=cbG g++emM ie l k (opM op)
 | [],ln,at_,k,op,g,_,_,hg,_,hw,_,_=>by
  cases op with
  | nil=>exact⟨{g with fr:=true},rfl,hg.fr true,by rw[emM,List.append_nil];rfl⟩
  | cons y op=>exact hw.elim
 | m::l,ln,at_,k,op,g,hdr,hat,hg,hc,hw,hop,hlen=>by
  have hdr':x.2.drop at_=(mnT m++ [10])++unl (l.map mnT):=by rw[hdr,List.map_cons,aQ7];simp
  generalize hs:mnT m=s at hdr';have hL:(s++ [10]).length=s.length+1:=by simp
  have hln:x.2.length-at_=s.length+1+(unl (l.map mnT)).length:=by
   have:=congrArg List.length hdr';simp only[List.length_drop,List.length_append,List.length_cons,List.length_nil] at this;omega
  have hd2:x.2.drop (at_+s.length+1)=unl (l.map mnT):=by
   rw[show at_+s.length+1=at_+(s++ [10]).length by simp;omega,<-List.drop_drop,hdr',List.drop_left]
  have ih:=fun k op g h1 h2 h3 h4 h5=>rdM (nm:=nm) hx hi hd0 l (ln+1) (at_+s.length+1) k op g hd2 (by omega) h1 h2 h3 h4 h5
  have cf:∀k' (g:Gs),qQI n (at_+s.length+1) k' {g with fr:=true}:=fun k' g h=>by cases h
  rw[List.map_cons,hs];cases m with
  | tx t=>
   have ht:t=s:=hs;subst ht;obtain⟨w1,w2⟩:TxOk t/\wfM nm ic D (flM op) l:=by cases op<;>exact hw
   rw[emM,List.length_append,List.length_map] at hlen;obtain⟨g1,ha⟩:=wQD (s:=t++ [10]) (n:=n) (p:=at_) (k:=k) hg (by omega);obtain⟨i1,i2⟩:=mQS hg hc hx (by rw[hL,<-Nat.add_assoc,hd2];exact hdr') (by rw[hL];omega) (by simp) ha;have i3:=wQx hg hc ha;rw[dQ9 w1.dr,ha];obtain⟨g',r1,r2,r3⟩:=ih k op g1 i1 (by rw[hL,<-Nat.add_assoc] at i2;exact i2) w2 hop (by rw[i3,List.length_append,List.length_map];omega);exact⟨g',r1,r2,by rw[r3,i3,emM,List.append_assoc]⟩
  | ifd F o=>
   have ht:pIf++F=s:=hs;obtain⟨w1,w2,w3⟩:FOk nm F o/\(flM op).length<D/\wfM nm ic D (false::flM op) l:=by cases op<;>exact hw
   simp only[List.length_map] at w2;have hdir:bQc s= .ifd F:=by rw[<-ht];exact uQ2 _
   rw[jQY hdir,w1.st];simp only;rw[if_neg (by omega)];rw[emM] at hlen ⊢;exact ih _ (⟨k,eQR k o,false,ln+1⟩::op) {g with fr:=true} (hg.fr true) (cf _ _) w3 (by simp;omega) hlen
  | elif F o=>
   have ht:fQf++F=s:=hs;cases op with
   | nil=>exact hw.elim
   | cons y op=>
    have hot:y.ot=false:=by
     cases ho:y.ot with
     | false=>rfl
     | true=>
      have hw:wfM nm ic D (y.ot::flM op) (.elif F o::l):=hw;rw[ho] at hw;exact hw.elim
    obtain⟨w1,w3⟩:FOk nm F o/\wfM nm ic D (false::flM op) l:=by
     have hw:wfM nm ic D (y.ot::flM op) (.elif F o::l):=hw;rw[hot] at hw;exact hw
    have hdir:bQc s= .elif F:=by rw[<-ht];exact qQN _
    rw[hQa hdir,w1.st];simp only;rw[if_neg (by rw[hot];decide)];have e:emM ie (.elif F o::l) k (opM (y::op))=emM ie l (dQd y.re o) (opM ({y with re:=eQR y.re o}::op)):=rfl;rw[e] at hlen ⊢;exact ih _ ({y with re:=eQR y.re o}::op) {g with fr:=true} (hg.fr true) (cf _ _) (by rw[<-hot] at w3;exact w3) hop hlen
  | els=>
   have ht:cQi=s:=hs;subst ht;cases op with
   | nil=>exact hw.elim
   | cons y op=>
    have hot:y.ot=false:=by
     cases ho:y.ot with
     | false=>rfl
     | true=>
      have hw:wfM nm ic D (y.ot::flM op) (.els::l):=hw;rw[ho] at hw;exact hw.elim
    have w3:wfM nm ic D (true::flM op) l:=by
     have hw:wfM nm ic D (y.ot::flM op) (.els::l):=hw;rw[hot] at hw;exact hw
    rw[jQZ sQv];simp only;rw[if_neg (by rw[hot];decide)];have e:emM ie (.els::l) k (opM (y::op))=emM ie l y.re (opM ({y with ot:=true}::op)):=rfl;rw[e] at hlen ⊢;exact ih _ ({y with ot:=true}::op) {g with fr:=true} (hg.fr true) (cf _ _) w3 hop hlen
  | en=>
   have ht:cQQ=s:=hs;subst ht;cases op with
   | nil=>exact hw.elim
   | cons y op=>
    have w3:wfM nm ic D (flM op) l:=by
     have hw:wfM nm ic D (y.ot::flM op) (.en::l):=hw;cases hy:y.ot<;>rw[hy] at hw<;>exact hw
    rw[qQr uQM];have e:emM ie (.en::l) k (opM (y::op))=emM ie l y.ou (opM op):=rfl;rw[e] at hlen ⊢;exact ih _ op {g with fr:=true} (hg.fr true) (cf _ _) w3 (by simp at hop;omega) hlen
  | inc=>
   have ht:mQx++xQb=s:=hs;subst ht;obtain⟨w1,w2⟩:ic=true/\wfM nm ic D (flM op) l:=by
    cases op with
    | nil=>exact hw
    | cons y op=>
     have hw:wfM nm ic D (y.ot::flM op) (.inc::l):=hw;cases hy:y.ot<;>rw[hy] at hw<;>refine⟨hw.1,?_⟩<;>show wfM nm ic D (y.ot::flM op) l<;>rw[hy]<;>exact hw.2
   rw[emM,List.length_append] at hlen;obtain⟨g1,j1,j2,j3⟩:=hi w1 (ln+1) (d0+op.length) k g hg (by omega) (by omega) (by omega);rw[hQO (sQD xQb),j1];simp only;obtain⟨g',r1,r2,r3⟩:=ih k op {g1 with fr:=true} (j2.fr true) (cf _ _) w2 hop (by rw[wQw,j3,List.length_append];omega);exact⟨g',r1,r2,by rw[r3,wQw,j3,emM,List.append_assoc]⟩
end
section
open Go Go.RowKit Go.ChangeShapes
variable {H:Type} {enc:TypeId×Value->H}
theorem law_of {P:Program}{f:FuncId}{l:List Value}{w:World}(h:Fn P f l w (fun v w'=>v= .bool true/\Ext w w')):
  Calls P f l.toArray w fun e w'=>e= .returned (.bool true)/\Below w.heap.size w w':=by
 unfold Fn at h;exact h.mono fun e w' he=>by
  cases e with
  | returned v=>exact⟨by rw[he.1],he.2.below⟩
  | panicked ch=>exact he.elim
  | outgrown=>exact he.elim
theorem xQC {W:World}{a:Option Addr}{len cap:Nat}{d:DataW H}{p:List MemPlace}(h:DataW.Trod enc Tryz.prog W 0 (fun _=>true) true 37 (.slice a len cap) d p):∃l,Sl W 1 a len cap (aQ6 l)/\aQ2 l:=by
 obtain⟨fuel,hf⟩:=h;rcases Go.Deep.open_slice Tryz.underlying37 hf with⟨hcs,_⟩ | ⟨x,l,c,m,n,D,Pl,hcs,_,hl,hm,hmm,_,hx⟩
 ·simp[Value.cells] at hcs;obtain⟨rfl,rfl,rfl⟩:=hcs;exact⟨[],Sl.nil W 1,fun s hs=>by cases hs⟩
 ·simp[Value.cells] at hcs;obtain⟨rfl,rfl,rfl⟩:=hcs;simp only[if_true] at hmm;subst hmm;have hc9:Tryz.prog.cellsOf 9=1:=by kernel_rfl
  have each:∀i,i<m->∃y:ByteArray,y.size<=maxLen/\W.cell? (x.add i)=some (.string y):=by
   intro i hi;obtain⟨cs,h1,h2⟩:=hx i hi;rw[hc9] at h1;obtain⟨_,hlen,hcell⟩:=World.cells?_some h1
   match cs,hlen with
   | [v],_=>
    obtain⟨s,e1,_,hs1⟩:=DataW.trod_string Tryz.underlying9 h2;simp at e1;subst e1;refine⟨s,hs1,?_⟩;have:=hcell 0 (by decide);rw[Nat.mul_one] at this;simpa [add_add] using this
  have hin:Inhabited ByteArray:=⟨⟨#[]⟩⟩
  obtain⟨Y,hY⟩:=Go.Deep.choose_lt each;refine⟨(List.range len).map (fun i=>bQy (Y i)),⟨by simp[aQ6],hl,hm,fun _=>⟨x,rfl,fun j u hu=>?_⟩⟩,?_⟩
  ·simp only[aQ6,List.map_map,List.getElem?_map,Option.map_eq_some_iff] at hu;obtain⟨k,hk,rfl⟩:=hu;have hj:=(List.getElem?_eq_some_iff.1 hk).1;simp at hj;have:k=j:=by rw[List.getElem?_range hj] at hk;exact(Option.some.inj hk).symm
   subst this;rw[(hY k (by omega)).2];simp[jQi]
  ·intro y hy;simp only[List.mem_map,List.mem_range] at hy;obtain⟨i,hi,rfl⟩:=hy;have:=(hY i (by omega)).1;exact⟨oQt _,by rw[bQ8];simpa [maxLen] using this⟩
theorem tQH {W:World}{a:Option Addr}{len cap:Nat}{d:DataW H}{p:List MemPlace}(h:DataW.Trod enc Tryz.prog W 0 (fun _=>true) true 62 (.slice a len cap) d p):∃l,Sl W 1 a len cap (bQa l)/\∀b∈l,b<=255:=by
 obtain⟨fuel,hf⟩:=h;rcases open_ints Tryz.underlying62 Tryz.underlying5 (by kernel_rfl) hf with⟨hcs,_⟩ | ⟨x,l,c,zs,hcs,_,hl,hm,hz,_,hcell,hwz⟩
 ·simp[Value.cells] at hcs;obtain⟨rfl,rfl,rfl⟩:=hcs;exact⟨[],Sl.nil W 1,by simp⟩
 ·simp[Value.cells] at hcs;obtain⟨rfl,rfl,rfl⟩:=hcs;simp at hz;have hr:∀n∈zs,0<=n/\n<=255:=fun n hn=>by
   have:=hwz n hn;simp[Lit.wf,IntKind.min,IntKind.max,IntKind.signed,IntKind.bits] at this;omega
  refine⟨(zs.take len).map Int.toNat,⟨by simp[bQa];omega,hl,hm,fun _=>⟨x,rfl,fun j u hu=>?_⟩⟩,?_⟩
  ·simp only[bQa,List.map_map,List.getElem?_map,Option.map_eq_some_iff] at hu;obtain⟨y,hy,rfl⟩:=hu;rw[List.getElem?_take] at hy;split at hy
   ·rename_i hj;have hjz:j<zs.length:=by omega
    rw[List.getElem?_eq_getElem hjz] at hy;cases hy;have h2:=hr zs[j] (List.getElem_mem hjz);rw[hcell j hjz];have:zs.getD j 0=zs[j]:=by simp[hjz]
    rw[this];show some (Value.int .u8 _)=some (Value.int .u8 ((zs[j].toNat:Nat):Int));congr 2;omega
   ·cases hy
  ·intro y hy;simp only[List.mem_map] at hy;obtain⟨z,hz1,rfl⟩:=hy;have:=hr z (List.mem_of_mem_take hz1);omega
theorem u8_of {a:Int}(w:(Lit.int .u8 a).wf=true):∃n:Nat,a=n/\n<=255:=by
 simp[Lit.wf,IntKind.min,IntKind.max,IntKind.signed,IntKind.bits] at w;exact⟨a.toNat,by omega,by omega⟩
end
section
open Go Go.RowKit Go.ChangeShapes
variable {H:Type} {enc:TypeId×Value->H}
theorem xQ0 {α:Type}{l:List α}(h:l.length=3):∃a b c,l=[a,b,c]:=by
 match l,h with
 | [a,b,c],_=>exact⟨a,b,c,rfl⟩
theorem wQE {W:World}{α:Type}{cells:α->List Value}{e:Nat}(hce:∀x,(cells x).length=e)(he:0<e){t te:TypeId}{fuel:Nat}{cs:List Value}{z:DataW H×List MemPlace}
  (ht:Tryz.prog.underlying t=some (.slice te)) (hc5:Tryz.prog.cellsOf te=e) (hin:Inhabited α)
  (one:∀(cs:List Value) (fuel:Nat) (D:DataW H×List MemPlace),cs.length=e->DataW.trod enc Tryz.prog W 0 (fun _=>true) true fuel te cs=some D->∃y,cells y=cs)
  {a:Option Addr} {len cap:Nat} (hcs:cs=[.slice a len cap]) (hf:DataW.trod enc Tryz.prog W 0 (fun _=>true) true fuel t cs=some z):∃l,SlS cells e W a len cap l:=by
 subst hcs;rcases Go.Deep.open_slice ht hf with⟨hcs,_⟩ | ⟨x,l,c,m,n,D,Pl,hcs,_,hl,hm,hmm,_,hx⟩
 ·simp at hcs;obtain⟨rfl,rfl,rfl⟩:=hcs;exact⟨[],SlS.nil W⟩
 ·simp at hcs;obtain⟨rfl,rfl,rfl⟩:=hcs;simp only[if_true] at hmm;subst hmm;have each:∀i,i<m->∃y:α,∀j v,(cells y)[j]? =some v->W.cell? (x.add (i*e+j))=some v:=by
   intro i hi;obtain⟨cs,h1,h2⟩:=hx i hi;rw[hc5] at h1;obtain⟨_,hlen,hcell⟩:=World.cells?_some h1;obtain⟨y,rfl⟩:=one _ _ _ hlen h2;refine⟨y,fun j v hj=>?_⟩;have hj5:j<e:=by have:=(List.getElem?_eq_some_iff.1 hj).1;rw[hce] at this;exact this
   have:=hcell j hj5;rw[add_add] at this;rw[this];exact hj
  obtain⟨Y,hY⟩:=Go.Deep.choose_lt each;refine⟨(List.range len).map Y,⟨⟨?_,hl,hm,fun _=>⟨x,rfl,fun j u hu=>?_⟩⟩,by simp⟩⟩
  ·rw[aQ5 hce];simp
  ·have hjl:=(List.getElem?_eq_some_iff.1 hu).1;rw[aQ5 hce] at hjl;simp at hjl;have hi:j/e<len:=Nat.div_lt_of_lt_mul (by rw[Nat.mul_comm];exact hjl);have hr:j % e<e:=Nat.mod_lt _ he;have hdm:j/e*e+j % e=j:=by rw[Nat.mul_comm];exact Nat.div_add_mod j e
   have hg:((List.range len).map Y)[j/e]? =some (Y (j/e)):=by simp[hi]
   have hc:=List.getElem?_eq_getElem (l:=cells (Y (j/e))) (i:=j % e) (by rw[hce];exact hr);have h1:=cQd hce _ _ _ _ _ hg hc;rw[hdm,hu] at h1;have h2:=hY (j/e) (Nat.lt_of_lt_of_le hi hl) _ _ hc;rw[hdm] at h2;rw[h2,<-Option.some.inj h1]
end
section
open Go Go.RowKit Go.ChangeShapes
variable {H:Type} {enc:TypeId×Value->H}
theorem wQF {α:Type}{p:α->Prop}{f:α->List Value}{sz:Nat}{W:World}{a:Option Addr}{len cap:Nat}(h:∃l:List {x:α // p x},SlS (fun y=>f y.1) sz W a len cap l):∃l:List α,SlS f sz W a len cap l/\∀x∈l,p x:=by
 obtain⟨l,h1,h2⟩:=h;refine⟨l.map Subtype.val,⟨?_,by simpa using h2⟩,fun x hx=>?_⟩
 ·rw[List.flatMap_map];exact h1
 ·obtain⟨y,_,rfl⟩:=List.mem_map.1 hx;exact y.2
structure Lx where
 k:Nat
 i:Nat
 ws:List Nat
 A:Option Addr
 n:Nat
 c:Nat
structure LxOk (W:World) (x:Lx):Prop where
 k8:x.k<=255
 i8:x.i<=255
 sl:Sl W 1 x.A x.n x.c (bQa x.ws)
 w8:∀b∈x.ws,b<=255
theorem LxOk.ext {W W':World}{x:Lx}(h:LxOk W x)(k:Ext W W'):LxOk W' x:=⟨h.k8,h.i8,h.sl.ext k,h.w8⟩
end
section
open Go Go.RowKit
theorem xQD {nm:List (List Nat)}{ic:Bool}{D:Nat}{op:List Bool}{s:List Nat}{l:List Mn}(h:TxOk s)(h':wfM nm ic D op l):wfM nm ic D op (.tx s::l):=by
 cases op with
 | nil=>exact⟨h,h'⟩
 | cons b op=>cases b<;>exact⟨h,h'⟩
theorem wQG {nm:List (List Nat)}{ic:Bool}{D:Nat}{op:List Bool}{F:List Nat}{o:BF}{l:List Mn}(hb:FOk nm F o)(h:op.length<D)(h':wfM nm ic D (false::op) l):wfM nm ic D op (.ifd F o::l):=by
 cases op with
 | nil=>exact⟨hb,h,h'⟩
 | cons c op=>cases c<;>exact⟨hb,h,h'⟩
theorem wQH {nm:List (List Nat)}{ic:Bool}{D:Nat}{c:Bool}{op:List Bool}{l:List Mn}(h':wfM nm ic D op l):wfM nm ic D (c::op) (.en::l):=by
 cases c<;>exact h'
def xQc (nm:List (List Nat)):Mn->Prop
 | .tx s=>TxOk s
 | .ifd F o=>FOk nm F o
 | .elif F o=>FOk nm F o
 | _=>True
theorem tQI {nm:List (List Nat)}{ic:Bool}{D:Nat}:∀{l:List Mn}{op:List Bool},wfM nm ic D op l->∀m∈l,xQc nm m
 | [],_,_,m,hm=>by cases hm
 | x::l,op,h,m,hm=>by
  have key:xQc nm x/\∃op',wfM nm ic D op' l:=by
   cases x with
   | tx s=>cases op with
    | nil=>exact⟨h.1,_,h.2⟩
    | cons b op=>cases b<;>exact⟨h.1,_,h.2⟩
   | ifd F o=>cases op with
    | nil=>exact⟨h.1,_,h.2.2⟩
    | cons b op=>cases b<;>exact⟨h.1,_,h.2.2⟩
   | elif F o=>cases op with
    | nil=>exact h.elim
    | cons b op=>cases b with
     | false=>exact⟨h.1,_,h.2⟩
     | true=>exact h.elim
   | els=>cases op with
    | nil=>exact h.elim
    | cons b op=>cases b with
     | false=>exact⟨trivial,_,h⟩
     | true=>exact h.elim
   | en=>cases op with
    | nil=>exact h.elim
    | cons b op=>cases b<;>exact⟨trivial,_,h⟩
   | inc=>cases op with
    | nil=>exact⟨trivial,_,h.2⟩
    | cons b op=>cases b<;>exact⟨trivial,_,h.2⟩
  rcases List.mem_cons.1 hm with rfl | hm
  ·exact key.1
  ·obtain⟨op',h'⟩:=key.2;exact tQI h' m hm
theorem uQ3 {nm:List (List Nat)}{m:Mn}(h:xQc nm m):10∉mnT m/\∀x∈mnT m,x<256:=by
 cases m with
 | tx s=>exact⟨h.nl,h.b8⟩
 | ifd F o=>exact⟨by simp[mnT,pIf,h.nl],qQo (by decide) h.b8⟩
 | elif F o=>exact⟨by simp[mnT,fQf,h.nl],qQo (by decide) h.b8⟩
 | els=>exact⟨by decide,by decide⟩
 | en=>exact⟨by decide,by decide⟩
 | inc=>exact⟨by decide,by decide⟩
theorem qQO {nm:List (List Nat)}{l:List Mn}(h:∀m∈l,xQc nm m):gQn (l.map mnT):=fun s hs=>by
 obtain⟨m,hm,rfl⟩:=List.mem_map.1 hs;exact(uQ3 (h m hm)).1
def LnB (M:Nat)(l:List Mn):Prop:=∀m∈l,(mnT m).length<M
theorem qQP {M:Nat}:∀{l:List Mn},LnB M l->(unl (l.map mnT)).length<=l.length*M
 | [],_=>by simp[unl]
 | m::l,h=>by
  rw[List.map_cons,aQ7,List.length_append,List.length_cons,List.length_cons];have h1:=qQP (fun x hx=>h x (by simp[hx]):LnB M l);have h2:=h m (by simp);rw[Nat.add_mul,Nat.one_mul];omega
theorem tQJ {M:Nat}{ie:BF->CB}(hie:∀k,(ie k).length<=M):∀(l:List Mn)(k:BF)(op:List (BF×BF)),LnB M l->(emM ie l k op).length<=l.length*M
 | [],_,_,_=>by simp[emM]
 | m::l,k,op,h=>by
  have ih:=fun k op=>tQJ hie l k op (fun x hx=>h x (by simp[hx]))
  have hm:=h m (by simp);have e:(m::l).length*M=l.length*M+M:=by rw[List.length_cons,Nat.add_mul,Nat.one_mul]
  rw[e];cases m with
  | tx s=>
   have hm:s.length<M:=hm;have:=ih k op;rw[emM,List.length_append,List.length_map,List.length_append,List.length_singleton];omega
  | ifd F o=>have:=ih (dQd k o) ((k,eQR k o)::op);rw[emM];omega
  | elif F o=>
   cases op with
   | nil=>simp[emM]
   | cons x op=>obtain⟨ou,re⟩:=x;have:=ih (dQd re o) ((ou,eQR re o)::op);rw[emM];omega
  | els=>
   cases op with
   | nil=>simp[emM]
   | cons x op=>obtain⟨ou,re⟩:=x;have:=ih re ((ou,re)::op);rw[emM];omega
  | en=>
   cases op with
   | nil=>simp[emM]
   | cons x op=>obtain⟨ou,re⟩:=x;have:=ih ou op;rw[emM];omega
  | inc=>
   have:=hie k;have:=ih k op;rw[emM,List.length_append];omega
def noE:BF->CB:=fun _=>[]
theorem mQT {fs:List (List Nat×List Nat)}(h:fs.length<=256)(hc:fQg fs [] 0=none):bQ6 fs=none:=by
 unfold bQ6;rw[if_neg (by omega),hc]
def onl (e:Nat->Bool)(c:CB):List Nat:=(c.filter (fun p=>p.2 e)).map (·.1)
theorem uQ4 (e:Nat->Bool)(a b:CB):onl e (a++b)=onl e a++onl e b:=by simp[onl]
theorem xQE {e:Nat->Bool}{k:BF}(h:k e=true)(l:List Nat):onl e (l.map (fun b=>(b,k)))=l:=by
 induction l with
 | nil=>rfl
 | cons x l ih=>unfold onl at ih ⊢;rw[List.map_cons,List.filter_cons,if_pos (by exact h),List.map_cons,ih]
theorem xQF {e:Nat->Bool}{k:BF}(h:k e=false)(l:List Nat):onl e (l.map (fun b=>(b,k)))=[]:=by
 induction l with
 | nil=>rfl
 | cons x l ih=>unfold onl at ih ⊢;rw[List.map_cons,List.filter_cons,if_neg (by simp[h]),ih]
theorem sQE {nm:List (List Nat)}{M D:Nat}(hn:aQV nm=true)(hD:D<64){l:List Mn}(hw:wfM nm false D [] l)(hb:LnB M l)(hl:l.length*M<=60000){f:List Nat}(hf1:dQ7 f=true):
  ∃g,cQJ nm [(f,unl (l.map mnT))] f= .ok g/\cbG g=emM noE l (fun _=>true) []:=by
 have hL:=qQO (tQI hw);have l1:=qQP hb;generalize hF: [(f,unl (l.map mnT))]=fs;have hx0:fs[0]? =some (f,unl (l.map mnT)):=by rw[<-hF];rfl
 have hnames:fs.map (·.1)=[f]:=by rw[<-hF];rfl
 have hfe:bQ6 fs=none:=by
  rw[<-hF];refine mQT (by simp) ?_;rw[fQg,if_neg (fun hh=>hh ⟨hf1,(by simp),lQy _⟩),if_neg (by simp only;omega)];rfl
 unfold cQJ;rw[if_neg (by rw[hn];decide),hfe,hnames];simp only[show ixN [f] f=some 0 from sQC (by simp)];rw[rdF,hx0];simp only[Option.map_some,Option.getD_some];rw[bQY hL];have hg0:GInv fs ⟨[],[],true⟩:=⟨rfl,fun s hs=>by cases hs⟩
 have hlenE:=tQJ (ie:=noE) (fun _=>Nat.zero_le _) l (fun _=>true) [] hb;obtain⟨g,r1,r2,r3⟩:=rdM (nm:=nm) (n:=0) (d0:=0) (inc:=fun r ln d k g=>match mQy (ixN (fs.map (·.1))) [0] r with
   | .error e=>.error ⟨e,(0:Nat),ln⟩
   | .ok m=>if d=64 then .error ⟨2,(0:Nat),ln⟩else rdF nm fs 64 [0] (d+1) m k g) hx0 (ic:=false) (D:=D) (ie:=noE) (fun h=>by cases h) (by omega) l 0 0 (fun _=>true) [] ⟨[],[],true⟩ (by rw[List.drop_zero]) (Nat.zero_le _) hg0 (fun h=>by cases h) hw (Nat.zero_le _) (by
   have e:(cbG ⟨[],[],true⟩).length=0:=rfl;rw[e,Nat.zero_add];show(emM noE l (fun _=>true) []).length<=_;omega)
 exact⟨g,r1,r3⟩
end
section
open Go Go.RowKit
variable {nm:List (List Nat)} {n:Nat}
def vF (nm:List (List Nat))(v:Nat)(ng:Bool):List Nat:=(if ng then [33] else [])++(nm[v]?).getD []
def vO (v:Nat)(ng:Bool):BF:=fun e=>e v !=ng
def VOk (nm:List (List Nat))(n:Nat):Prop:=∀v ng,v<n->FOk nm (vF nm v ng) (vO v ng)
def gQK (nm:List (List Nat)):Tr->List Mn
 | .nil=>[]
 | .ln s r=>.tx s::gQK nm r
 | .sc v ng h .nil r=>.ifd (vF nm v ng) (vO v ng)::(gQK nm h++ .en::gQK nm r)
 | .sc v ng h l r=>.ifd (vF nm v ng) (vO v ng)::(gQK nm h++ .els::(gQK nm l++ .en::gQK nm r))
theorem sQF (v:Nat)(ng:Bool)(h l r:Tr):(l= .nil/\gQK nm (.sc v ng h l r)= .ifd (vF nm v ng) (vO v ng)::(gQK nm h++ .en::gQK nm r)/\fl nm (.sc v ng h l r)=ifT nm v ng::(fl nm h++cQQ::fl nm r))∨(l≠ .nil/\gQK nm (.sc v ng h l r)= .ifd (vF nm v ng) (vO v ng)::(gQK nm h++ .els::(gQK nm l++ .en::gQK nm r))/\fl nm (.sc v ng h l r)=ifT nm v ng::(fl nm h++cQi::(fl nm l++cQQ::fl nm r))):=by
 cases l with
 | nil=>exact .inl ⟨rfl,rfl,rfl⟩
 | _=>exact .inr ⟨(by intro e;cases e),rfl,rfl⟩
theorem lQB:∀t:Tr,(gQK nm t).map mnT=fl nm t
 | .nil=>rfl
 | .ln s r=>by rw[gQK,fl,List.map_cons,lQB r];rfl
 | .sc v ng h l r=>by
  rcases sQF (nm:=nm) v ng h l r with⟨_,h1,h2⟩ | ⟨_,h1,h2⟩<;>rw[h1,h2]
  ·simp only[List.map_cons,List.map_append,lQB h,lQB r];rfl
  ·simp only[List.map_cons,List.map_append,lQB h,lQB l,lQB r];rfl
theorem oQ1 (hV:VOk nm n){D:Nat}:∀(t:Tr)(op:List Bool)(rest:List Mn),Wt n t->LnT TxOk t->op.length+dT t<=D->wfM nm false D op rest->wfM nm false D op (gQK nm t++rest)
 | .nil,op,rest,_,_,_,hr=>hr
 | .ln s r,op,rest,w,hl,hd,hr=>by
  rw[gQK,List.cons_append];exact xQD hl.1 (oQ1 hV r op rest w.2 hl.2 hd hr)
 | .sc v ng h l r,op,rest,w,hl,hd,hr=>by
  have hd':op.length+max (1+max (dT h) (dT l)) (dT r)<=D:=hd;have ihr:=oQ1 hV r op rest w.2.2.2 hl.2.2 (by omega) hr;rcases sQF (nm:=nm) v ng h l r with⟨_,h1,_⟩ | ⟨_,h1,_⟩<;>rw[h1,List.cons_append,List.append_assoc]
  ·refine wQG (hV v ng w.1) (by omega) (oQ1 hV h (false::op) _ w.2.1 hl.1 (by rw[List.length_cons];omega) ?_);rw[List.cons_append];exact wQH ihr
  ·refine wQG (hV v ng w.1) (by omega) (oQ1 hV h (false::op) _ w.2.1 hl.1 (by rw[List.length_cons];omega) ?_);rw[List.cons_append,List.append_assoc];show wfM nm false D (true::op) _;refine oQ1 hV l (true::op) _ w.2.2.1 hl.2.1 (by rw[List.length_cons];omega) ?_;rw[List.cons_append];exact wQH ihr
theorem oQ2 {e:Nat->Bool}:∀(t:Tr)(rest:List Mn)(k:BF)(op:List (BF×BF)),onl e (emM noE (gQK nm t++rest) k op)=(if k e=true then unl (eQV e t)else [])++onl e (emM noE rest k op)
 | .nil,rest,k,op=>by
  have:(if k e=true then unl (eQV e .nil)else [])=[]:=by split<;>rfl
  rw[this]<;>rfl
 | .ln s r,rest,k,op=>by
  rw[gQK,List.cons_append,emM,uQ4,oQ2 r rest k op,<-List.append_assoc];congr 1;cases hk:k e with
  | true=>rw[xQE hk,if_pos rfl,if_pos rfl,eQV,aQ7];simp
  | false=>rw[xQF hk,if_neg (by decide),if_neg (by decide)];rfl
 | .sc v ng h l r,rest,k,op=>by
  have hs:eQV e (.sc v ng h l r)=(if(e v !=ng)=true then eQV e h else eQV e l)++eQV e r:=rfl;have hu:∀a b:List (List Nat),unl (a++b)=unl a++unl b:=fun a b=>by simp[unl]
  rcases sQF (nm:=nm) v ng h l r with⟨e0,h1,_⟩ | ⟨_,h1,_⟩<;>rw[h1,List.cons_append,List.append_assoc,emM,oQ2 h,List.cons_append,emM]
  ·show _++onl e (emM noE (gQK nm r++rest) k op)=_;rw[oQ2 r rest k op,<-List.append_assoc];congr 1;subst e0;rw[hs];cases hk:k e with
   | true=>
    have:dQd k (vO v ng) e=(e v !=ng):=by show(k e&&(e v !=ng))=_;rw[hk];rfl
    rw[this,if_pos rfl,if_pos rfl,hu];congr 1;generalize (e v !=ng)=b;cases b<;>rfl
   | false=>
    have:dQd k (vO v ng) e=false:=by show(k e&&(e v !=ng))=_;rw[hk];rfl
    rw[this]<;>rfl
  ·show _++onl e (emM noE ((gQK nm l++ .en::gQK nm r)++rest) (eQR k (vO v ng)) ((k,eQR k (vO v ng))::op))=_;rw[List.append_assoc,oQ2 l,List.cons_append,emM];show _++(_++onl e (emM noE (gQK nm r++rest) k op))=_;rw[oQ2 r rest k op,<-List.append_assoc,<-List.append_assoc];congr 1;rw[hs];cases hk:k e with
   | true=>
    have a1:dQd k (vO v ng) e=(e v !=ng):=by show(k e&&(e v !=ng))=_;rw[hk];rfl
    have a2:eQR k (vO v ng) e= !(e v !=ng):=by show(k e && !(e v !=ng))=_;rw[hk];rfl
    rw[a1,a2,if_pos rfl,if_pos rfl,hu];congr 1;generalize (e v !=ng)=b;cases b
    ·rfl
    ·exact List.append_nil _
   | false=>
    have a1:dQd k (vO v ng) e=false:=by show(k e&&(e v !=ng))=_;rw[hk];rfl
    have a2:eQR k (vO v ng) e=false:=by show(k e && !(e v !=ng))=_;rw[hk];rfl
    rw[a1,a2];rfl
theorem uQ5 (hn:aQV nm=true)(hV:VOk nm n){M D:Nat}(hD:D<64){t:Tr}(w:Wt n t)(hl:LnT TxOk t)(hd:dT t<=D)(hM:LnB M (gQK nm t))(hb:(fl nm t).length*M<=60000){f:List Nat}(hf:dQ7 f=true):
  ∃g,cQJ nm [(f,unl (fl nm t))] f= .ok g/\∀e,uQZ g.tx g.sg e=unl (eQV e t):=by
 have hw:=oQ1 hV t [] [] w hl (by simpa using hd) (show wfM nm false D [] [] from trivial);rw[List.append_nil] at hw;have hlen:(gQK nm t).length=(fl nm t).length:=by rw[<-lQB t,List.length_map]
 obtain⟨g,h1,h2⟩:=sQE hn hD hw hM (by rw[hlen];exact hb) hf;rw[lQB] at h1;refine⟨g,h1,fun e=>?_⟩;have:=oQ2 (nm:=nm) (e:=e) t [] (fun _=>true) [];rw[List.append_nil,<-h2,if_pos rfl] at this;rw[wQC];show onl e (cbG g)=_;rw[this];show unl (eQV e t)++onl e []=_;simp[onl]
end
section
open Go Go.RowKit
def vFm (v:Nat)(ng:Bool):Fm:=if ng then .not (.v v)else .v v
def okV (k v:Nat)(ng:Bool):Bool:=(match eQ0 (aQF.take k) (vF (aQF.take k) v ng)with
 | .ok t=>decide (t=vFm v ng)
 | .error _=>false)&&(vF (aQF.take k) v ng).all (fun b=>decide (b<256)&&b !=10)
theorem uQ6:((List.range 5).all fun k=>(List.range k).all fun v=>okV k v true&&okV k v false)=true:=by decide+kernel
theorem zQw {k:Nat}(hk:k<=4):VOk (aQF.take k) k:=fun v ng hv=>by
 have h1:=List.all_eq_true.1 uQ6 k (List.mem_range.2 (by omega));have h2:=List.all_eq_true.1 h1 v (List.mem_range.2 hv);have h3:okV k v ng=true:=by
  rw[Bool.and_eq_true] at h2;cases ng
  ·exact h2.2
  ·exact h2.1
 unfold okV at h3;rw[Bool.and_eq_true] at h3;obtain⟨h4,h5⟩:=h3;refine⟨fun hm=>?_,?_,fun x hx=>?_⟩
 ·have:=List.all_eq_true.1 h5 10 hm;simp at this
 ·unfold gQ9;split at h4
  ·rename_i t ht;rw[ht,of_decide_eq_true h4];show Except.ok (evF (vFm v ng))= .ok (vO v ng);congr 1;funext e;unfold vFm vO;cases ng
   ·show e v=(e v !=false);simp
   ·show(!e v)=(e v !=true);simp
  ·cases h4
 ·have:=List.all_eq_true.1 h5 x hx;simp at this;exact this.1
def okI (k v v':Nat)(ng ng':Bool):Bool:=decide (ifT (aQF.take k) v ng=ifT (aQF.take k) v' ng'->v=v'/\ng=ng')
theorem uQ7:((List.range 5).all fun k=>(List.range k).all fun v=>(List.range k).all fun v'=>okI k v v' true true&&okI k v v' true false&&okI k v v' false true&&okI k v v' false false)=true:=by decide+kernel
theorem wQI {k:Nat}(hk:k<=4):NmI (aQF.take k) k:=fun v v' ng ng' hv hv'=>by
 have h1:=List.all_eq_true.1 uQ7 k (List.mem_range.2 (by omega));have h2:=List.all_eq_true.1 h1 v (List.mem_range.2 hv);have h3:=List.all_eq_true.1 h2 v' (List.mem_range.2 hv');simp only[Bool.and_eq_true] at h3;obtain⟨⟨⟨a1,a2⟩,a3⟩,a4⟩:=h3;cases ng<;>cases ng'
 ·exact of_decide_eq_true a4
 ·exact of_decide_eq_true a3
 ·exact of_decide_eq_true a2
 ·exact of_decide_eq_true a1
theorem wQJ {k:Nat}(hk:k<=4){v:Nat}(hv:v<k)(ng:Bool):(vF (aQF.take k) v ng).length<=2:=by
 rcases(show k=0∨k=1∨k=2∨k=3∨k=4 by omega)with rfl | rfl | rfl | rfl | rfl
 ·omega
 all_goals
  rcases(show v=0∨v=1∨v=2∨v=3 by omega)with rfl | rfl | rfl | rfl<;>first | omega | (cases ng<;>decide)
def lnL (k:Nat):List Nat:=(([[120],[121],[122],[120,32,121],[],[35],[35,105,102,102],[101,110,100]]:List (List Nat))[k % 8]?).getD []
theorem nQY (k:Nat):TxOk (lnL k)/\(lnL k).length<=4:=by
 have h:k % 8<8:=Nat.mod_lt _ (by decide);unfold lnL;generalize k % 8=r at h;rcases(show r=0∨r=1∨r=2∨r=3∨r=4∨r=5∨r=6∨r=7 by omega)with rfl | rfl | rfl | rfl | rfl | rfl | rfl | rfl <;>
  exact⟨⟨by decide,by rfl,by decide⟩,by decide⟩
def lQZ (l:List Nat):List (List Nat):=(l.take 6).map lnL
theorem qQQ (l:List Nat):(∀s∈lQZ l,TxOk s/\s.length<=4)/\(lQZ l).length<=6:=by
 refine⟨fun s hs=>?_,?_⟩
 ·obtain⟨k,_,rfl⟩:=List.mem_map.1 hs;exact nQY k
 ·unfold lQZ;simp;omega
def nQZ (cls:List Nat)(texts:List (List Nat))(c:Nat):List (List Nat):=
 match texts[(cls[c]?).elim 0 (· % 4)]? with
 | some t=>lQZ t
 | none=>[lnL ((cls[c]?).elim 0 (· % 4))]
theorem fQi (cls:List Nat)(texts:List (List Nat))(c:Nat):(∀s∈nQZ cls texts c,TxOk s/\s.length<=4)/\(nQZ cls texts c).length<=6:=by
 unfold nQZ;split
 ·exact qQQ _
 ·refine⟨fun s hs=>?_,(by show 1<=6;decide)⟩;rw[List.mem_singleton.1 hs];exact nQY _
theorem hQY (cls:List Nat)(texts:List (List Nat))(c:Nat):aQi (unl (nQZ cls texts c))=nQZ cls texts c:=
 bQY (fun s hs=>((fQi cls texts c).1 s hs).1.nl)
theorem xQG {c c':Nat}(h:c<8)(h':c'<8)(hb:∀i,i<3->c.testBit i=c'.testBit i):c=c':=by
 refine Nat.eq_of_testBit_eq (fun i=>?_);by_cases hi:i<3
 ·exact hb i hi
 ·have e:8<=2^i:=Nat.le_trans (by decide) (Nat.pow_le_pow_right (by decide) (show 3<=i by omega));rw[Nat.testBit_lt_two_pow (by omega),Nat.testBit_lt_two_pow (by omega)]
theorem wQK {k:Nat}(hk:k<=4){M:Nat}(h8:8<=M):∀{t:Tr},Wt k t->LnT (fun s=>TxOk s/\s.length<M) t->LnB M (gQK (aQF.take k) t)
 | .nil,_,_=>fun m hm=>by cases hm
 | .ln s r,w,h=>fun m hm=>by
  rcases List.mem_cons.1 hm with rfl | hm
  ·exact h.1.2
  ·exact wQK hk h8 w.2 h.2 m hm
 | .sc v ng a l r,w,h=>fun m hm=>by
  have hi:(mnT (.ifd (vF (aQF.take k) v ng) (vO v ng))).length<M:=by
   have:=wQJ hk w.1 ng;show(pIf++_).length<M;rw[List.length_append];show 4+_<M;omega
  have he:(mnT .en).length<M:=by show 4<M;omega
  have hs:(mnT .els).length<M:=by show 5<M;omega
  have ha:=wQK hk h8 w.2.1 h.1;have hl:=wQK hk h8 w.2.2.1 h.2.1;have hr:=wQK hk h8 w.2.2.2 h.2.2;rcases sQF (nm:=aQF.take k) v ng a l r with⟨_,h1,_⟩ | ⟨_,h1,_⟩<;>rw[h1] at hm<;>simp only[List.mem_cons,List.mem_append] at hm
  ·rcases hm with rfl | hm | rfl | hm
   ·exact hi
   ·exact ha m hm
   ·exact he
   ·exact hr m hm
  ·rcases hm with rfl | hm | rfl | hm | rfl | hm
   ·exact hi
   ·exact ha m hm
   ·exact hs
   ·exact hl m hm
   ·exact he
   ·exact hr m hm
theorem hQZ {P Q:List Nat->Prop}(h:∀s,P s->Q s):∀{t:Tr},LnT P t->LnT Q t
 | .nil,_=>trivial
 | .ln s r,k=>⟨h s k.1,hQZ h k.2⟩
 | .sc _ _ a l r,k=>⟨hQZ h k.1,hQZ h k.2.1,hQZ h k.2.2⟩
theorem wQL (cls:List Nat)(texts:List (List Nat))(S:List Nat)(hS:S≠ [])(h8:∀c∈S,c<8)(hl:S.length<=8):
  ∃T,cQf (aQF.take 3) (fun c=>unl (nQZ cls texts c)) 3 0 S=fl (aQF.take 3) T/\Wt 3 T/\ShT (aQF.take 3) T/\(fl (aQF.take 3) T).length<=72/\LnT TxOk T/\∃g,cQJ (aQF.take 3) [([102],unl (fl (aQF.take 3) T))] [102]= .ok g/\∀c∈S,uQZ g.tx g.sg (fun i=>c.testBit i)=unl (nQZ cls texts c):=by
 obtain⟨T,h1,h2,h3,h4,h5,h6,h7⟩:=nQT (nm:=aQF.take 3) (n:=3) (wQI (by decide)) (f:=fun c=>unl (nQZ cls texts c)) (P:=fun s=>TxOk s/\s.length<8) (M:=6) 3 0 S (by decide) hS (fun c hc c' hc' hb=>xQG (h8 c hc) (h8 c' hc') (fun i hi=>hb i (by omega) (by omega))) (fun c hc=>by
  obtain⟨k1,k2⟩:=fQi cls texts c;rw[hQY];refine⟨fun s hs=>?_,fun s hs=>⟨(k1 s hs).1,by have:=(k1 s hs).2;omega⟩,k2⟩;rw[hQY] at hs;exact(k1 s hs).1.dr)
 have h5':=hQZ (fun s h=>h.1) h5;have hlen:(fl (aQF.take 3) T).length<=72:=by have:=Nat.mul_le_mul_right (6+3) hl;omega
 obtain⟨g,r1,r2⟩:=uQ5 (nm:=aQF.take 3) (n:=3) (by decide) (zQw (by decide)) (M:=8) (D:=3) (by decide) h2 h5' h4 (wQK (by decide) (Nat.le_refl _) h2 h5) (by omega) (f:=[102]) (by decide);exact⟨T,h1,h2,h3,hlen,h5',g,r1,fun c hc=>by rw[r2,h7 c hc,hQY]⟩
def rQR (b c:Nat):Bool:=decide (b % 256=0)||b.testBit c
def jQ8 (b:Nat):List Nat:=(List.range 8).filter (rQR b)
theorem uQ8 {b c:Nat}(h:c∈jQ8 b):c<8:=List.mem_range.1 (List.mem_filter.1 h).1
theorem nQ0 (b:Nat):(jQ8 b).length<=8:=Nat.le_trans (List.length_filter_le _ _) (by simp)
theorem hQ1 {b:Nat}(hb:b<=255):jQ8 b≠ []:=by
 intro e;have h:=List.filter_eq_nil_iff.1 e;have h0:∀c,c<8->rQR b c=false:=fun c hc=>by have:=h c (List.mem_range.2 hc);simpa using this
 unfold rQR at h0;have hb0:b≠0:=fun e=>by subst e;have:=h0 0 (by decide);simp at this
 refine hb0 (Nat.eq_of_testBit_eq (fun i=>?_));rw[Nat.zero_testBit];by_cases hi:i<8
 ·have:=h0 i hi;rw[Bool.or_eq_false_iff] at this;exact this.2
 ·exact Nat.testBit_lt_two_pow (Nat.lt_of_lt_of_le (show b<2^8 by omega) (Nat.pow_le_pow_right (by decide) (by omega)))
abbrev Pt:=List Nat×List (List Nat)
def sQG:List Pt->Nat->List (List Nat)->List Pt
 | [],c,s=>[([c],s)]
 | p::ps,c,s=>if p.2=s then(p.1++ [c],p.2)::ps else p::sQG ps c s
def jQ9 (single:Bool)(f:Nat->List (List Nat))(ps:List Pt)(c:Nat):List Pt:=if single then ps++ [([c],f c)] else sQG ps c (f c)
def cQc (single:Bool)(f:Nat->List (List Nat))(S:List Nat):List Pt:=S.foldl (jQ9 single f) []
structure PtOk (f:Nat->List (List Nat)) (S:List Nat) (ps:List Pt):Prop where
 cov:∀c∈S,∃p∈ps,c∈p.1
 tx:∀p∈ps,∀c∈p.1,c∈S/\f c=p.2
 ne:∀p∈ps,p.1≠ []
 dj:∀(i j:Nat) (p q:Pt) (c:Nat),ps[i]? =some p->ps[j]? =some q->c∈p.1->c∈q.1->i=j
theorem PtOk.snoc {f:Nat->List (List Nat)}{S:List Nat}{ps:List Pt}(h:PtOk f S ps){c:Nat}(hc:c∉S):PtOk f (S++ [c]) (ps++ [([c],f c)]):=by
 refine⟨fun d hd=>?_,fun p hp d hd=>?_,fun p hp=>?_,fun i j p q d hi hj hp hq=>?_⟩
 ·rcases List.mem_append.1 hd with hd | hd
  ·obtain⟨p,h1,h2⟩:=h.cov d hd;exact⟨p,List.mem_append_left _ h1,h2⟩
  ·exact⟨([c],f c),by simp,hd⟩
 ·rcases List.mem_append.1 hp with hp | hp
  ·exact⟨List.mem_append_left _ (h.tx p hp d hd).1,(h.tx p hp d hd).2⟩
  ·rw[List.mem_singleton.1 hp] at hd ⊢;have:d=c:=List.mem_singleton.1 hd;subst this;exact⟨by simp,rfl⟩
 ·rcases List.mem_append.1 hp with hp | hp
  ·exact h.ne p hp
  ·rw[List.mem_singleton.1 hp];simp
 ·have key:∀i p,(ps++ [([c],f c)])[i]? =some p->d∈p.1->(i<ps.length/\ps[i]? =some p/\d≠c)∨(i=ps.length/\d=c):=fun i p hi hp=>by
   by_cases hl:i<ps.length
   ·rw[List.getElem?_append_left hl] at hi;exact .inl ⟨hl,hi,fun e=>hc (e▸(h.tx p (List.mem_of_getElem? hi) d hp).1)⟩
   ·rw[List.getElem?_append_right (by omega)] at hi;have:i-ps.length=0:=by
     by_cases e:i-ps.length=0
     ·exact e
     ·rw[List.getElem?_eq_none (by simp;omega)] at hi;cases hi
    rw[this] at hi;cases hi;exact .inr ⟨by omega,List.mem_singleton.1 hp⟩
  rcases key i p hi hp with⟨_,a2,a3⟩ | ⟨a1,a2⟩<;>rcases key j q hj hq with⟨_,b2,b3⟩ | ⟨b1,b2⟩
  ·exact h.dj i j p q d a2 b2 hp hq
  ·exact absurd b2 a3
  ·exact absurd a2 b3
  ·omega
theorem PtOk.set {f:Nat->List (List Nat)}{S:List Nat}{ps:List Pt}(h:PtOk f S ps){c k:Nat}{p0:Pt}(hc:c∉S)(hk:ps[k]? =some p0)(hf:f c=p0.2):PtOk f (S++ [c]) (ps.set k (p0.1++ [c],p0.2)):=by
 have hkl:k<ps.length:=(List.getElem?_eq_some_iff.1 hk).1;have hp0:=List.mem_of_getElem? hk;have get:∀i p,(ps.set k (p0.1++ [c],p0.2))[i]? =some p->(i=k/\p=(p0.1++ [c],p0.2))∨(i≠k/\ps[i]? =some p):=fun i p hi=>by
  rw[List.getElem?_set] at hi;by_cases e:k=i
  ·rw[if_pos e,if_pos (by omega)] at hi;exact .inl ⟨e.symm,(Option.some.inj hi).symm⟩
  ·rw[if_neg e] at hi;exact .inr ⟨fun e'=>e e'.symm,hi⟩
 have mem:∀p∈ps.set k (p0.1++ [c],p0.2),p=(p0.1++ [c],p0.2)∨p∈ps:=fun p hp=>by
  obtain⟨i,hi⟩:=List.mem_iff_getElem?.1 hp;rcases get i p hi with⟨_,e⟩ | ⟨_,e⟩
  ·exact .inl e
  ·exact .inr (List.mem_of_getElem? e)
 refine⟨fun d hd=>?_,fun p hp d hd=>?_,fun p hp=>?_,fun i j p q d hi hj hp hq=>?_⟩
 ·have hk':(p0.1++ [c],p0.2)∈ps.set k (p0.1++ [c],p0.2):=List.mem_iff_getElem?.2 ⟨k,by rw[List.getElem?_set,if_pos rfl,if_pos hkl]⟩;rcases List.mem_append.1 hd with hd | hd
  ·obtain⟨p,h1,h2⟩:=h.cov d hd;obtain⟨i,hi⟩:=List.mem_iff_getElem?.1 h1;by_cases e:i=k
   ·subst e;rw[hk] at hi;cases hi;exact⟨_,hk',List.mem_append_left _ h2⟩
   ·exact⟨p,List.mem_iff_getElem?.2 ⟨i,by rw[List.getElem?_set,if_neg (fun e'=>e e'.symm),hi]⟩,h2⟩
  ·exact⟨_,hk',List.mem_append_right _ hd⟩
 ·rcases mem p hp with rfl | hp
  ·rcases List.mem_append.1 hd with hd | hd
   ·exact⟨List.mem_append_left _ (h.tx p0 hp0 d hd).1,(h.tx p0 hp0 d hd).2⟩
   ·rw[List.mem_singleton.1 hd];exact⟨by simp,hf⟩
  ·exact⟨List.mem_append_left _ (h.tx p hp d hd).1,(h.tx p hp d hd).2⟩
 ·rcases mem p hp with rfl | hp
  ·simp
  ·exact h.ne p hp
 ·have nc:∀(i:Nat) (p:Pt),ps[i]? =some p->c∉p.1:=fun i p hi hm=>hc (h.tx p (List.mem_of_getElem? hi) c hm).1
  rcases get i p hi with⟨rfl,rfl⟩ | ⟨e1,hi'⟩<;>rcases get j q hj with⟨rfl,rfl⟩ | ⟨e2,hj'⟩
  ·rfl
  ·rcases List.mem_append.1 hp with hp | hp
   ·exact h.dj _ _ _ _ d hk hj' hp hq
   ·rw[List.mem_singleton.1 hp] at hq;exact absurd hq (nc j q hj')
  ·rcases List.mem_append.1 hq with hq | hq
   ·exact h.dj _ _ _ _ d hi' hk hp hq
   ·rw[List.mem_singleton.1 hq] at hp;exact absurd hp (nc i p hi')
  ·exact h.dj _ _ _ _ d hi' hj' hp hq
def ixP (ps:List Pt)(s:List (List Nat)):Nat:=(ps.takeWhile (fun p=>decide (p.2≠s))).length
theorem wQM (ps:List Pt)(s:List (List Nat)):ixP ps s<=ps.length:=(List.takeWhile_sublist _).length_le
theorem kQa (c:Nat)(s:List (List Nat)):∀ps:List Pt,(∃p,ps[ixP ps s]? =some p/\p.2=s/\sQG ps c s=ps.set (ixP ps s) (p.1++ [c],p.2))∨(ixP ps s=ps.length/\sQG ps c s=ps++ [([c],s)])
 | []=>.inr ⟨rfl,rfl⟩
 | p::ps=>by
  by_cases h:p.2=s
  ·have e:ixP (p::ps) s=0:=by unfold ixP;simp[h]
   rw[e,sQG,if_pos h];exact .inl ⟨p,rfl,h,rfl⟩
  ·have e:ixP (p::ps) s=ixP ps s+1:=by unfold ixP;simp[h]
   rw[e,sQG,if_neg h];rcases kQa c s ps with⟨q,h1,h2,h3⟩ | ⟨h1,h2⟩
   ·exact .inl ⟨q,by simpa using h1,h2,by rw[h3];rfl⟩
   ·exact .inr ⟨by simp[h1],by rw[h2];rfl⟩
theorem sQH (single:Bool){f:Nat->List (List Nat)}{S:List Nat}{ps:List Pt}(h:PtOk f S ps){c:Nat}(hc:c∉S):PtOk f (S++ [c]) (jQ9 single f ps c):=by
 cases single with
 | true=>exact h.snoc hc
 | false=>
  show PtOk f (S++ [c]) (sQG ps c (f c));rcases kQa c (f c) ps with⟨p,h1,h2,h3⟩ | ⟨_,h2⟩
  ·rw[h3];exact h.set hc h1 h2.symm
  ·rw[h2];exact h.snoc hc
theorem mQU (single:Bool)(f:Nat->List (List Nat))(S:List Nat)(c:Nat):cQc single f (S++ [c])=jQ9 single f (cQc single f S) c:=by
 unfold cQc;rw[List.foldl_append];rfl
theorem hQ2 (single:Bool)(f:Nat->List (List Nat)):∀(S:List Nat),S.Nodup->PtOk f S (cQc single f S):=by
 have key:∀(T S:List Nat) (ps:List Pt),(S++T).Nodup->PtOk f S ps->PtOk f (S++T) (T.foldl (jQ9 single f) ps):=by
  intro T;induction T with
  | nil=>intro S ps _ h;simpa using h
  | cons c T ih=>
   intro S ps hn h;have hc:c∉S:=fun hm=>by
    have:=(List.nodup_append.1 hn).2.2 c hm c (by simp);exact this rfl
   have:=ih (S++ [c]) (jQ9 single f ps c) (by simpa using hn) (sQH single h hc);simpa using this
 intro S hn;have h0:PtOk f [] []:=⟨(fun c hc=>by cases hc),(fun p hp=>by cases hp),(fun p hp=>by cases hp),fun i j p q c hi=>by simp at hi⟩
 have:=key S [] [] (by simpa using hn) h0;rw[List.nil_append] at this;exact this
theorem uQ9 (b:Nat):(jQ8 b).Nodup:=(List.nodup_range).sublist (List.filter_sublist)
theorem mQV (c:Nat):gQT c=fun i=>c.testBit i:=by
 funext i;unfold gQT;rw[Nat.testBit_eq_decide_div_mod_eq]
def aQW (n:Nat)(o:BF):List Nat:=(List.range (2^n)).filter (fun c=>o (fun i=>c.testBit i))
theorem aQH {n:Nat}{o:BF}{c:Nat}:c∈aQW n o↔c<2^n/\o (fun i=>c.testBit i)=true:=by
 unfold aQW;rw[List.mem_filter,List.mem_range]
def xQd (n:Nat)(o:BF):Prop:=∀e e',(∀i,i<n->e i=e' i)->o e=o e'
theorem kQb:∀(n:Nat)(e:Nat->Bool),∃c,c<2^n/\∀i,i<n->c.testBit i=e i
 | 0,e=>⟨0,by decide,fun i hi=>absurd hi (by omega)⟩
 | n+1,e=>by
  obtain⟨c,hc,hb⟩:=kQb n e;cases he:e n with
  | false=>
   refine⟨c,Nat.lt_trans hc (Nat.pow_lt_pow_right (by decide) (by omega)),fun i hi=>?_⟩;by_cases h:i<n
   ·exact hb i h
   ·have:i=n:=by omega
    subst this;rw[he];exact Nat.testBit_lt_two_pow hc
  | true=>
   refine⟨2^n+c,by rw[Nat.pow_succ];omega,fun i hi=>?_⟩;by_cases h:i<n
   ·rw[Nat.testBit_two_pow_add_gt h,hb i h]
   ·have:i=n:=by omega
    subst this;rw[he,Nat.testBit_two_pow_add_eq,Nat.testBit_lt_two_pow hc];rfl
theorem Set1.dep {k:Nat}{nd:List Br}{r:Int}{o:BF}(h:Set1 k nd r o):xQd k o:=fun e e' he=>by
 rw[<-h.mean,<-h.mean];exact nQO h.vd.wf h.vin (fun b hb=>by
  obtain⟨j,hj⟩:=List.mem_iff_getElem?.1 hb;have:=h.vd.1 j b hj;exact this.1) he (r.toNat+1) r (by omega) h.vd.2.2.1
theorem qQR {n:Nat}{o:BF}(h:xQd n o){p:BF}(hp:xQd n p):(∀e,o e=true->p e=true)↔∀c∈aQW n o,p (fun i=>c.testBit i)=true:=by
 constructor
 ·exact fun k c hc=>k _ (aQH.1 hc).2
 ·intro k e he;obtain⟨c,hc,hb⟩:=kQb n e;rw[<-hp _ e hb];exact k c (aQH.2 ⟨hc,by rw[h _ e hb];exact he⟩)
theorem vQa {n:Nat}{o:BF}(h:xQd n o):aQW n o=[]↔∀e,o e=false:=by
 constructor
 ·intro k e;cases he:o e with
  | false=>rfl
  | true=>
   obtain⟨c,hc,hb⟩:=kQb n e;have:c∈aQW n o:=aQH.2 ⟨hc,by rw[h _ e hb];exact he⟩;rw[k] at this;cases this
 ·intro k;refine List.eq_nil_iff_forall_not_mem.2 (fun c hc=>?_);have:=(aQH.1 hc).2;rw[k] at this;cases this
theorem Set1.root0 {k:Nat}{nd:List Br}{r:Int}{o:BF}(h:Set1 k nd r o):r=0↔aQW k o=[]:=by
 rw[vQa h.dep];constructor
 ·rintro rfl e;rw[<-h.mean,bQP (by decide)];rfl
 ·intro h0;have:=h.unique (bQi k false) h0;exact congrArg Prod.snd this
theorem lQC {n:Nat}{o p:BF}{v:Nat}(b:Bool)(hp:∀e,p e=(o e&&(e v==b))):aQW n p=(aQW n o).filter (fun c=>c.testBit v==b):=by
 unfold aQW;rw[List.filter_filter];congr 1;funext c;rw[hp,Bool.and_comm]
theorem vQb {n:Nat}{o:BF}:Apt (aQW n o) 0 n:=fun c hc c' hc' hb=>by
 have h1:=(aQH.1 hc).1;have h2:=(aQH.1 hc').1;refine Nat.eq_of_testBit_eq (fun i=>?_);by_cases hi:i<n
 ·exact hb i (Nat.zero_le _) (by omega)
 ·have e:2^n<=2^i:=Nat.pow_le_pow_right (by decide) (by omega);rw[Nat.testBit_lt_two_pow (by omega),Nat.testBit_lt_two_pow (by omega)]
structure Pr where
 o:BF
 t:List Nat
abbrev bits (c:Nat):Nat->Bool:=fun i=>c.testBit i
def fP (ps:List Pr)(c:Nat):List Nat:=((ps.find? (fun p=>p.o (bits c))).map (·.t)).getD []
structure PaOk (S:List Nat) (ps:List Pr):Prop where
 cov:∀c∈S,∃p∈ps,p.o (bits c)=true
 dj:∀c∈S,∀(i j:Nat) (p q:Pr),ps[i]? =some p->ps[j]? =some q->p.o (bits c)=true->q.o (bits c)=true->i=j
theorem PaOk.sub {S T:List Nat}{ps:List Pr}(h:PaOk S ps)(hT:∀c∈T,c∈S):PaOk T ps:=⟨fun c hc=>h.cov c (hT c hc),fun c hc=>h.dj c (hT c hc)⟩
theorem PaOk.get {S:List Nat}{ps:List Pr}(h:PaOk S ps){c:Nat}(hc:c∈S){p:Pr}(hp:p∈ps)(hpc:p.o (bits c)=true):fP ps c=p.t:=by
 unfold fP;cases hf:ps.find? (fun p=>p.o (bits c))with
 | none=>
  have:=List.find?_eq_none.1 hf p hp;exact absurd hpc this
 | some q=>
  have hq:=List.find?_some hf;have hqm:=List.mem_of_find?_eq_some hf;obtain⟨i,hi⟩:=List.mem_iff_getElem?.1 hp;obtain⟨j,hj⟩:=List.mem_iff_getElem?.1 hqm;have:=h.dj c hc i j p q hi hj hpc hq;subst this;rw[hi] at hj;cases hj;rfl
theorem oQ3 {nm:List (List Nat)}{S:List Nat}{ps:List Pr}(h:PaOk S ps)(hS:S≠ []){p:Pr}(hp:p∈ps)(hw:∀c∈S,p.o (bits c)=true)(k v:Nat):cQf nm (fP ps) k v S=aQi p.t:=
 eQG hS (fun c hc=>h.get hc hp (hw c hc)) k v
theorem mQW {S:List Nat}{ps:List Pr}(h:PaOk S ps)(hS:S≠ []){v:Nat}(ha:Apt S v 0):∃p∈ps,∀c∈S,p.o (bits c)=true:=by
 obtain⟨c,hc⟩:∃c,c∈S:=⟨_,dQT hS⟩
 obtain⟨p,hp,hpc⟩:=h.cov c hc;refine⟨p,hp,fun d hd=>?_⟩;rw[ha d hd c hc (fun i h1 h2=>by omega)];exact hpc
abbrev hiS (S:List Nat)(v:Nat):List Nat:=S.filter (fun c=>c.testBit v)
abbrev loS (S:List Nat)(v:Nat):List Nat:=S.filter (fun c=> !c.testBit v)
theorem tQK {S:List Nat}{v:Nat}(h:loS S v=[]):hiS S v=S:=by
 rw[List.filter_eq_self];intro c hc;have:=List.filter_eq_nil_iff.1 h c hc;simpa using this
theorem wQN {S:List Nat}{v:Nat}(h:hiS S v=[]):loS S v=S:=by
 rw[List.filter_eq_self];intro c hc;have:=List.filter_eq_nil_iff.1 h c hc;simpa using this
theorem wQO {nm:List (List Nat)}{f:Nat->List Nat}{S:List Nat}(hS:S≠ []){k v:Nat}(h:loS S v=[]):cQf nm f (k+1) v S=cQf nm f k (v+1) (hiS S v):=by
 rw[eQb hS,if_pos (.inl h),tQK h]
theorem wQP {nm:List (List Nat)}{f:Nat->List Nat}{S:List Nat}(hS:S≠ []){k v:Nat}(h:hiS S v=[]):cQf nm f (k+1) v S=cQf nm f k (v+1) (loS S v):=by
 rw[eQb hS,if_pos (.inr h),wQN h]
theorem vQc {nm:List (List Nat)}{f:Nat->List Nat}{S:List Nat}(hS:S≠ []){k v:Nat}(h:loS S v≠ [])(h':hiS S v≠ []):cQf nm f (k+1) v S=if cQf nm f k (v+1) (hiS S v)=cQf nm f k (v+1) (loS S v)then cQf nm f k (v+1) (hiS S v)else dQ8 nm v (cQf nm f k (v+1) (hiS S v)) (cQf nm f k (v+1) (loS S v)):=by
 rw[eQb hS,if_neg (fun e=>e.elim h h')]
theorem wQQ {S:List Nat}{v k:Nat}(h:Apt S v (k+1)):Apt (hiS S v) (v+1) k:=h.sub (fun c hc=>(List.mem_filter.1 hc).1) (fun c hc c' hc'=>by
 rw[(List.mem_filter.1 hc).2,(List.mem_filter.1 hc').2])
theorem wQR {S:List Nat}{v k:Nat}(h:Apt S v (k+1)):Apt (loS S v) (v+1) k:=h.sub (fun c hc=>(List.mem_filter.1 hc).1) (fun c hc c' hc'=>by
 have h1:=(List.mem_filter.1 hc).2;have h2:=(List.mem_filter.1 hc').2;simp at h1 h2;rw[h1,h2])
noncomputable def ovD (n:Nat)(nd:List Br)(r:Int):Bool:=open Classical in decide (bQS nd r=0/\∀b∈nd,b.v<n)
def oD (x:DV):BF:=ev x.nd x.r
theorem iQ0 {n:Nat}{nd:List Br}{r:Int}:ovD n nd r=true↔bQS nd r=0/\VIn n nd:=by unfold ovD;exact decide_eq_true_iff
theorem eQH {n:Nat}{x:DV}(h:ovD n x.nd x.r=true):Set1 n x.nd x.r (oD x):=by
 obtain⟨h1,h2⟩:=iQ0.1 h;exact⟨(bQC.1 h1).2,h2,fun e=>rfl⟩
theorem eQ1 {n:Nat}(hn:n<=12){x:DV}{o:BF}(h:Set1 n x.nd x.r o):ovD n x.nd x.r=true/\∀e,oD x e=o e:=
 ⟨iQ0.2 ⟨h.chk hn,h.vin⟩,fun e=>h.mean e⟩
abbrev qQS (n:Nat)(R:List Nat)(o:BF):List Nat:=R.filter (fun c=> !o (bits c))
noncomputable def cQA (n:Nat):List Nat->List (DV×List Nat)->Bool
 | R,[]=>decide (R=[])
 | R,p::ps=>(ovD n p.1.nd p.1.r&&decide (aQW n (oD p.1)≠ [])&&(aQW n (oD p.1)).all (fun c=>decide (c∈R))&&bQE p.2)&&cQA n (qQS n R (oD p.1)) ps
def prs (ps:List (DV×List Nat)):List Pr:=ps.map (fun p=>⟨oD p.1,p.2⟩)
noncomputable def fQP (nm:List (List Nat))(d:DV)(ps:List (DV×List Nat)):Except Int (List Nat):=
 if aQV nm=false∨ovD nm.length d.nd d.r=false then .error 1
 else if cQA nm.length (aQW nm.length (oD d)) ps=false then .error 290
 else if ps=[] then .ok []
 else if 1048576<(unl (cQf nm (fP (prs ps)) nm.length 0 (aQW nm.length (oD d)))).length then .error 2
 else .ok (unl (cQf nm (fP (prs ps)) nm.length 0 (aQW nm.length (oD d))))
theorem kQc {n:Nat}{R:List Nat}{p:DV×List Nat}{ps:List (DV×List Nat)}:cQA n R (p::ps)=true↔(ovD n p.1.nd p.1.r=true/\aQW n (oD p.1)≠ []/\(∀c∈aQW n (oD p.1),c∈R)/\bQE p.2=true)/\cQA n (qQS n R (oD p.1)) ps=true:=by
 rw[cQA];simp only[Bool.and_eq_true,decide_eq_true_eq,List.all_eq_true];constructor
 ·rintro⟨⟨⟨⟨h1,h2⟩,h3⟩,h4⟩,h5⟩;exact⟨⟨h1,h2,h3,h4⟩,h5⟩
 ·rintro⟨⟨h1,h2,h3,h4⟩,h5⟩;exact⟨⟨⟨⟨h1,h2⟩,h3⟩,h4⟩,h5⟩
theorem tQL {n:Nat}:∀{ps:List (DV×List Nat)}{R:List Nat},(∀c∈R,c<2^n)->cQA n R ps=true->PaOk R (prs ps)/\(∀p∈ps,ovD n p.1.nd p.1.r=true/\aQW n (oD p.1)≠ []/\bQE p.2=true/\∀c∈aQW n (oD p.1),c∈R)
 | [],R,hR,h=>by
  have:R=[]:=by simpa [cQA] using h
  subst this;exact⟨⟨(fun c hc=>by cases hc),fun c hc=>by cases hc⟩,fun p hp=>by cases hp⟩
 | p::ps,R,hR,h=>by
  obtain⟨⟨h1,h2,h3,h4⟩,h5⟩:=kQc.1 h;obtain⟨⟨k1,k2⟩,k3⟩:=tQL (R:=qQS n R (oD p.1)) (fun c hc=>hR c (List.mem_filter.1 hc).1) h5;have hin:∀q∈ps,∀c,c<2^n->oD q.1 (bits c)=true->oD p.1 (bits c)=false:=fun q hq c hc hqc=>by
   have:=(k3 q hq).2.2.2 c (aQH.2 ⟨hc,hqc⟩);have:=(List.mem_filter.1 this).2;simpa using this
  refine⟨⟨fun c hc=>?_,fun c hc i j a b hi hj ha hb=>?_⟩,fun q hq=>?_⟩
  ·cases hpc:oD p.1 (bits c)with
   | true=>exact⟨_,List.mem_cons_self,hpc⟩
   | false=>
    obtain⟨q,hq,hqc⟩:=k1 c (List.mem_filter.2 ⟨hc,by simp[hpc]⟩);exact⟨q,List.mem_cons_of_mem _ hq,hqc⟩
  ·have hc8:=hR c hc;cases i with
   | zero=>
    cases j with
    | zero=>rfl
    | succ j=>
     have ea:a=⟨oD p.1,p.2⟩:=by simpa [prs] using hi.symm
     have hjm:b∈prs ps:=List.mem_of_getElem? (by simpa [prs] using hj);obtain⟨q,hq,rfl⟩:=List.mem_map.1 hjm;subst ea;have:=hin q hq c hc8 hb;exact absurd (ha.symm.trans this) (by decide)
   | succ i=>
    have him:a∈prs ps:=List.mem_of_getElem? (by simpa [prs] using hi);obtain⟨q,hq,rfl⟩:=List.mem_map.1 him;have hpc:=hin q hq c hc8 ha;cases j with
    | zero=>
     have eb:b=⟨oD p.1,p.2⟩:=by simpa [prs] using hj.symm
     subst eb;exact absurd (hb.symm.trans hpc) (by decide)
    | succ j=>
     have hcR:c∈qQS n R (oD p.1):=List.mem_filter.2 ⟨hc,by simp[hpc]⟩;have:=k2 c hcR i j _ _ (by simpa [prs] using hi) (by simpa [prs] using hj) ha hb;rw[this]
  ·rcases List.mem_cons.1 hq with rfl | hq
   ·exact⟨h1,h2,h4,h3⟩
   ·obtain⟨a1,a2,a3,a4⟩:=k3 q hq;exact⟨a1,a2,a3,fun c hc=>(List.mem_filter.1 (a4 c hc)).1⟩
theorem sQI (ls:List (List Nat))(A:Option Addr)(n c:Nat)(w:World)(h:Sl w 1 A n c (aQ6 ls))(hb:∀s∈ls,∀x∈s,x<256):
  Fn Tryz.prog 169 [.slice A n c,.func (.func 47) #[] #[]] w (fun u w'=>(∃k:Int,u= .int .i64 k/\(0<=k↔ls.any lQY=true))/\Ext w w'):=by
 have hn:ls.length=n:=by have:=h.len;rw[aQQ] at this;omega
 have hle:=h.le;have hcap:=h.cap;refine aQf (c:={yQP with cuts:=[]}) aQb Tryz.func169 rfl rfl rfl ?_;refine loop aQb [8] (fun i:Nat=>[.int .i64 i]) (fun i w'=>Ext w w'/\i<=n/\(ls.take i).any lQY=false) (fun i _=>n-i) 0 rfl ⟨Ext.refl _,Nat.zero_le _,by simp⟩ ?_;rintro i w1 ⟨hE1,hi,hno⟩;refine aQq (fun c1=>?_) (fun c1=>?_)
 ·have hin:i<n:=by omega
  have hg:ls[i]? =some ls[i]:=List.getElem?_eq_getElem (by omega);have hlb:=hb _ (List.mem_of_getElem? hg);generalize ls[i]=l at*;refine aQ3 (h.ext hE1) hin (fun ad u hA hu hcell=>?_);rw[cQI hg] at hu;cases hu;refine load hcell ?_;refine call (cQU l w1 hlb) ?_;rintro _ w2 ⟨rfl,hE2⟩;have htk:(ls.take (i+1)).any lQY=lQY l:=by rw[List.take_add_one,hg,List.any_append,hno];simp
  refine wif (fun d1=>?_) (fun d1=>?_)
  ·have d1:lQY l=true:=d1;exact⟨⟨i,rfl,⟨fun _=>List.any_eq_true.2 ⟨l,List.mem_of_getElem? hg,d1⟩,fun _=>by omega⟩⟩,hE1.trans hE2⟩
  ·have d1:lQY l=false:=d1;simp only[maxLen] at hcap;refine aQa ((i+1:Nat):Int) (by show((i:Nat):Int)+1=_;omega) (by omega) ?_;exact⟨i+1,rfl,⟨hE1.trans hE2,hin,by rw[htk,d1]⟩,by show n-(i+1)<n-i;omega⟩
 ·have hin:i=n:=by omega
  rw[hin,List.take_of_length_le (by omega)] at hno;exact⟨⟨-1,rfl,by rw[hno];simp⟩,hE1⟩
theorem lQD (ls:List (List Nat))(A:Option Addr)(n c:Nat)(w:World)(h:Sl w 1 A n c (aQ6 ls))(hb:∀s∈ls,∀x∈s,x<256):
  Fn Tryz.prog 114 [.slice A n c,.func (.func 47) #[] #[]] w (fun u w'=>u= .bool (ls.any lQY)/\Ext w w'):=by
 refine aQf (c:={yQe with cuts:=[]}) aQb Tryz.func114 rfl rfl rfl ?_;refine call (sQI ls A n c w h hb) ?_;rintro _ w1 ⟨⟨k,rfl,hk⟩,hE1⟩;refine⟨?_,hE1⟩;refine congrArg Value.bool ?_;cases ha:ls.any lQY with
 | true=>exact decide_eq_true (hk.2 ha)
 | false=>exact decide_eq_false (fun hh=>by rw[hk.1 hh] at ha;cases ha)
theorem lQE (l:List Nat)(w:World)(hl:∀x∈l,x<256)(hlen:l.length<=1000000000):
  Fn Tryz.prog 63 [.string (aQh l)] w (fun u w'=>u= .bool (bQE l)/\Ext w w'):=by
 refine aQf (c:={c63 with cuts:=[]}) aQb Tryz.func63 rfl rfl rfl ?_;have fin:∀w1,Ext w w1->eQC l=true->∀ls,qQf l=ls->∀w2,Ext w1 w2->(Value.bool (!(ls.any lQY))= .bool (bQE l)/\Ext w w2):=fun w1 hE1 ht ls hls w2 hE2=>by
  refine⟨?_,hE1.trans hE2⟩;rw[<-hls,jQQ (dQt ht),uQN,Bool.not_not];unfold bQE;rw[ht,Bool.true_and]
 by_cases h0:l=[]
 ·subst h0;refine aQM rfl ?_;refine call (fQK [] w hl hlen) ?_;rintro _ w1 ⟨A,c,rfl,hE1,hS1⟩;refine call (lQD _ A _ c w1 hS1.1 (fun s hs=>by simp[qQf,pcs] at hs)) ?_;rintro _ w2 ⟨rfl,hE2⟩;exact fin w1 hE1 rfl _ rfl w2 hE2
 ·refine aQB (fun e=>h0 (aQD hl (by simp) e)) ?_;refine call (oQZ l w hl (by omega)) ?_;rintro _ _ ⟨rfl,rfl⟩;refine wif (fun d1=>?_) (fun d1=>?_)
  ·have d1:(l.getLast? ==some 10)=true:=d1;have ht:eQC l=true:=by unfold eQC;rw[d1,Bool.or_true]
   refine call (fQK l w hl hlen) ?_;rintro _ w1 ⟨A,c,rfl,hE1,hS1⟩;refine call (lQD _ A _ c w1 hS1.1 (fun s hs x hx=>by
    rw[jQQ (dQt ht)] at hs;obtain⟨r,hr,rfl⟩:=List.mem_map.1 hs;rcases List.mem_append.1 hx with hx | hx
    ·have hu:=aQR (dQt ht);refine hl x ?_;rw[<-hu];exact List.mem_flatMap.2 ⟨r,hr,by simp[hx]⟩
    ·rw[List.mem_singleton.1 hx];decide)) ?_
   rintro _ w2 ⟨rfl,hE2⟩;exact fin w1 hE1 ht _ rfl w2 hE2
  ·have d1:(l.getLast? ==some 10)=false:=d1;refine⟨?_,Ext.refl _⟩;unfold bQE eQC;rw[d1,decide_eq_false h0];rfl
theorem sQJ (b:Br)(n bx:Nat)(w:World)(hB:Blk w bx 3 [.int .i64 n]):
  Fn Tryz.prog 110 [.agg b.cells.toArray,.pointer (some ⟨bx,0,none⟩)] w (fun u w'=>u= .bool (decide ((n:Int)<=b.v))/\Ext w w'):=by
 refine aQf (c:={yQb with cuts:=[]}) aQb Tryz.func110 rfl rfl rfl ?_;refine new (fun w1 hE1 hz1 hB1=>?_);refine aQg hB1 rfl ?_;refine aQg (hB.ext hE1) rfl ?_;exact⟨rfl,hE1⟩
theorem qQT (nd:List Br)(A:Option Addr)(m c n bx:Nat)(w:World)(h:SB w A m c nd)(hB:Blk w bx 3 [.int .i64 n]):
  Fn Tryz.prog 165 [.slice A m c,.func (.func 110) #[] #[.pointer (some ⟨bx,0,none⟩)]] w (fun u w'=>(∃k:Int,u= .int .i64 k/\(0<=k↔∃b∈nd,(n:Int)<=b.v))/\Ext w w'):=by
 have hn:=h.2;have hle:=h.1.le;have hcap:=h.1.cap;refine aQf (c:={yQM with cuts:=[]}) aQb Tryz.func165 rfl rfl rfl ?_;refine loop aQb [8] (fun i:Nat=>[.int .i64 i]) (fun i w'=>Ext w w'/\i<=m/\∀b∈nd.take i,¬(n:Int)<=b.v) (fun i _=>m-i) 0 rfl ⟨Ext.refl _,Nat.zero_le _,fun b hb=>by simp at hb⟩ ?_;rintro i w1 ⟨hE1,hi,hno⟩;refine aQq (fun c1=>?_) (fun c1=>?_)
 ·have hin:i<m:=by omega
  refine aQp cQl (h.ext hE1) rfl hin (fun p b hb hc=>?_);refine aQK (vs:=b.cells) rfl hc ?_;refine call (sQJ b n bx w1 (hB.ext hE1)) ?_;rintro _ w2 ⟨rfl,hE2⟩;have hbm:=List.mem_of_getElem? hb;refine aQq (fun d1=>?_) (fun d1=>?_)
  ·exact⟨⟨i,rfl,⟨fun _=>⟨b,hbm,d1⟩,fun _=>by omega⟩⟩,hE1.trans hE2⟩
  ·simp only[maxLen] at hcap;refine aQa ((i+1:Nat):Int) (by show((i:Nat):Int)+1=_;omega) (by omega) ?_;refine⟨i+1,rfl,⟨hE1.trans hE2,hin,fun b' hb'=>?_⟩,by show m-(i+1)<m-i;omega⟩;rw[List.take_add_one,hb] at hb';rcases List.mem_append.1 hb' with hb' | hb'
   ·exact hno b' hb'
   ·have:b'=b:=by simpa using hb'
    rw[this];exact d1
 ·have hin:i=m:=by omega
  rw[hin,List.take_of_length_le (by omega)] at hno;exact⟨⟨-1,rfl,⟨fun hh=>absurd hh (by decide),fun⟨b,hb,hh⟩=>absurd hh (hno b hb)⟩⟩,hE1⟩
theorem kQd (A:Option Addr)(m c n:Nat)(nd:List Br)(r:Int)(w:World)(h:SB w A m c nd):
  Fn Tryz.prog 61 [dgV A m c r,.int .i64 n] w (fun u w'=>u= .bool (ovD n nd r)/\Ext w w'):=by
 refine aQf (c:={c61 with cuts:=[]}) aQb Tryz.func61 rfl rfl rfl ?_;refine new (fun w1 hE1 hz1 hB1=>?_);refine new (fun w2 hE2 hz2 hB2=>?_);have hE02:=hE1.trans hE2;refine aQd (hB1.ext hE2) rfl ?_;refine call (dQI A m c nd r w2 (h.ext hE02)) ?_;rintro _ w3 ⟨rfl,hE3⟩;have hE03:=hE02.trans hE3;refine aQP (fun c1=>?_) (fun c1=>?_)
 ·refine aQg ((hB1.ext hE2).ext hE3) rfl ?_;refine call (aQf (c:={yQa with cuts:=[]}) (R:=fun u w'=>u= .bool (decide (∃b∈nd,(n:Int)<=b.v))/\Ext w3 w') aQb Tryz.func109 rfl rfl rfl ?_) ?_
  ·refine call (qQT nd A m c n w1.heap.size w3 (h.ext hE03) (hB2.ext hE3)) ?_;rintro _ w4 ⟨⟨k,rfl,hk⟩,hE4⟩;refine⟨?_,hE4⟩;refine congrArg Value.bool ?_;by_cases hh:∃b∈nd,(n:Int)<=b.v
   ·rw[decide_eq_true hh];exact decide_eq_true (hk.2 hh)
   ·rw[decide_eq_false hh];exact decide_eq_false (fun h2=>hh (hk.1 h2))
  rintro _ w4 ⟨rfl,hE4⟩;refine⟨?_,hE03.trans hE4⟩;refine congrArg Value.bool ?_;by_cases hh:∃b∈nd,(n:Int)<=b.v
  ·rw[decide_eq_true hh]
   symm;refine Bool.eq_false_iff.2 (fun ho=>?_);obtain⟨b,hb,hv⟩:=hh;have:=(iQ0.1 ho).2 b hb;omega
  ·rw[decide_eq_false hh];exact(iQ0.2 ⟨c1,fun b hb=>by
    apply Classical.byContradiction;intro hv;exact hh ⟨b,hb,by omega⟩⟩).symm
 ·refine⟨?_,hE03⟩;refine congrArg Value.bool ?_;exact(Bool.eq_false_iff.2 (fun ho=>c1 (iQ0.1 ho).1)).symm
theorem mQX {k:Nat}(hk:k<=12)(x y:DV){o o':BF}(w:World)(h:SB w x.A x.n x.c x.nd)(h':SB w y.A y.n y.c y.nd)(s:Set1 k x.nd x.r o)(s':Set1 k y.nd y.r o'):
  Fn Tryz.prog 115 [dgV x.A x.n x.c x.r,dgV none 0 0 0,dgV y.A y.n y.c y.r] w (wQl w k (fun e=> !o e&&o' e)):=by
 have hxl:=h.2;have hyl:=h'.2;have l1:=s.len hk;have l2:=s'.len hk;refine aQf (c:={yQf with cuts:=[]}) aQb Tryz.func115 rfl rfl rfl ?_;refine new (fun w1 hE1 hz1 hB1=>?_);refine new (fun w2 hE2 hz2 hB2=>?_);refine new (fun w3 hE3 hz3 hB3=>?_);refine new (fun w4 hE4 hz4 hB4=>?_);have hE34:=hE3.trans hE4;have hE24:=hE2.trans hE34;have hE04:=hE1.trans hE24;have hB14:=hB1.ext hE24;have hB24:=hB2.ext hE34;have hB34:=hB3.ext hE4;refine aQd hB14 rfl ?_;refine aQd hB24 rfl ?_;refine aQd hB34 rfl ?_;refine aQl aQb [x.cells,(⟨none,0,0,[],0⟩:DV).cells,y.cells] rfl rfl rfl rfl rfl ⟨rfl,rfl,rfl,rfl,rfl,rfl,⟨⟩⟩ rfl (fun cs h=>by simp only[List.mem_cons,List.not_mem_nil,or_false] at h;rcases h with rfl | rfl | rfl<;>rfl) rfl (by decide) (by decide) ?_;intro w5 hE5 hz5 hB5;have hE05:=hE04.trans hE5;have hL:SlS DV.cells 2 w5 (some ⟨w4.heap.size,0,none⟩) 3 3 [x,⟨none,0,0,[],0⟩,y]:=⟨Sl.own (sz:=2) (n:=3) hB5 (Nat.le_refl _) (by decide) (by simp[DV.cells]),rfl⟩
 refine call (fQE _ 3 3 _ w5 hL (fun z hz=>by
  simp only[List.mem_cons,List.not_mem_nil,or_false] at hz;rcases hz with rfl | rfl | rfl
  ·exact h.ext hE05
  ·exact SlS.nil _
  ·exact h'.ext hE05)) ?_
 rintro v w6 ⟨rfl,hE6⟩;have hE46:=hE5.trans hE6;have hE06:=hE04.trans hE46;have hf0:cQ1 [x,(⟨none,0,0,[],0⟩:DV),y]=0:=by
  have e1:bQS x.nd x.r=0:=s.chk hk;have e2:bQS y.nd y.r=0:=s'.chk hk;have e3:bQS ([]:List Br) 0=0:=(bQi k false).chk hk;simp[cQ1,e1,e2,e3]
 rw[hf0];refine bQB rfl ?_;refine aQd (hB14.ext hE46) rfl ?_;refine aQd (hB24.ext hE46) rfl ?_;refine aQd (hB34.ext hE46) rfl ?_;have va:=s.vd;have vb:=s'.vd;have hb2:=jQE va vb 4;have hmul:(x.nd.length+2)*(y.nd.length+2)<=4098*4098:=Nat.mul_le_mul (by omega) (by omega);refine call (qQj x.A x.n x.c x.nd x.r y.A y.n y.c y.nd y.r w6 (h.ext hE06) (h'.ext hE06) va.dok vb.dok va.2.1 (by have:=va.2.2.1;omega) vb.2.1 (by have:=vb.2.2.1;omega) (by omega) (by omega) (by omega)) ?_;have c4:Set1 k _ _ (fun e=> !o e&&o' e):=(bQ4 s s' 4).congr (fun e=>by simp[opB]);have hop:=eQB hk s s' 4;have hlim:rQP (cQO x.nd x.r y.nd y.r 4)=(cQO x.nd x.r y.nd y.r 4,0):=by unfold rQP;rw[if_neg (by have:=c4.len hk;omega)]
 generalize cQO x.nd x.r y.nd y.r 4=D at*;obtain⟨D1,D2⟩:=D;rintro v w7 ⟨OA,m,oc,rfl,hE7,hO7,hR7⟩;have hE47:=hE46.trans hE7;have z67:=hE06.size;refine call (hQE OA m oc _ _ w4 w7 hO7 (fun i hi=>by have:=hR7 i hi;have:=hE46.size;omega) hE47) ?_;rw[hlim];rintro v w8 ⟨PA,q,pc,rfl,hE8,hP8,hR8⟩;refine aQc (hB4.ext hE8) rfl (sc rfl) (fun w9 hg9 _ hB9=>?_);have hM9:Mod (·=w3.heap.size) w8 w9:=zQE hg9 rfl;refine aQd hB9 rfl ?_;exact⟨PA,q,pc,D1,D2,rfl,hM9.ext (hE04.trans hE8) (fun i hi=>by omega),⟨hP8.1.modS hM9 (fun _ i hi e=>by have:=hR8 i hi;omega),hP8.2⟩,c4,fun i hi=>by have:=hR8 i hi;omega⟩
theorem gQu (w:World):Fn Tryz.prog 44 [.int .i64 0] w (fun _ w'=>w=w'):=by
 refine aQf (c:={c44 with cuts:=[]}) aQb Tryz.func44 rfl rfl rfl ?_;refine bQB rfl ?_;exact rfl
theorem hQc (x:DV)(w:World):Fn Tryz.prog 100 [dgV x.A x.n x.c x.r,.int .i64 0] w (fun u w'=>u=dgV x.A x.n x.c x.r/\Ext w w'):=by
 refine aQf (c:={xQ2 with cuts:=[]}) aQb Tryz.func100 rfl rfl rfl ?_;refine new (fun w1 hE1 hz1 hB1=>?_);refine new (fun w2 hE2 hz2 hB2=>?_);refine call (gQu w2) ?_;rintro _ _ rfl;refine aQd (hB1.ext hE2) rfl ?_;refine aQc hB2 rfl (sc rfl) (fun w3 hg3 _ hB3=>?_);have hM3:Mod (·=w1.heap.size) w2 w3:=zQE hg3 rfl;refine aQd hB3 rfl ?_;exact⟨rfl,hM3.ext (hE1.trans hE2) (fun i hi=>by omega)⟩
theorem dQu {k:Nat}(hk:k<=12)(x y:DV){o o':BF}(w:World)(h:SB w x.A x.n x.c x.nd)(h':SB w y.A y.n y.c y.nd)(s:Set1 k x.nd x.r o)(s':Set1 k y.nd y.r o'):
  Fn Tryz.prog 49 [dgV x.A x.n x.c x.r,dgV y.A y.n y.c y.r] w (DgS w k (fun e=>o e&&o' e)):=by
 refine aQf (c:={c49 with cuts:=[]}) aQb Tryz.func49 rfl rfl rfl ?_;refine new (fun w1 hE1 hz1 hB1=>?_);refine new (fun w2 hE2 hz2 hB2=>?_);refine new (fun w3 hE3 hz3 hB3=>?_);have hE23:=hE2.trans hE3;have hE03:=hE1.trans hE23;refine aQd (hB1.ext hE23) rfl ?_;refine aQd (hB2.ext hE3) rfl ?_;refine call (hQF x.A x.n x.c x.nd x.r y.A y.n y.c y.nd y.r w3 (h.ext hE03) (h'.ext hE03)) ?_;rw[eQB hk s s' 0];have c1:Set1 k _ _ (fun e=>o e&&o' e):=(bQ4 s s' 0).congr (fun e=>by simp[opB]);generalize cQO x.nd x.r y.nd y.r 0=D at*;obtain⟨D1,D2⟩:=D;rintro _ w5 ⟨PA,pn,pc,rfl,hE5,hP5,hR5⟩;refine call (hQc ⟨PA,pn,pc,D1,D2⟩ w5) ?_;rintro _ w6 ⟨rfl,hE6⟩;have hE36:=hE5.trans hE6;refine aQc (hB3.ext hE36) rfl (sc rfl) (fun w7 hg7 _ hB7=>?_);have hM7:Mod (·=w2.heap.size) w6 w7:=zQE hg7 rfl;refine aQd hB7 rfl ?_;exact⟨PA,pn,pc,D1,D2,rfl,hM7.ext (hE03.trans hE36) (fun i hi=>by omega),SB.mod (hP5.ext hE6) hM7 (fun i hi e=>by have:=hR5 i hi;omega),c1,fun i hi=>by have:=hR5 i hi;omega⟩
theorem bQk {k:Nat}(hk:k<=12)(x y:DV){o o':BF}(w:World)(h:SB w x.A x.n x.c x.nd)(h':SB w y.A y.n y.c y.nd)(s:Set1 k x.nd x.r o)(s':Set1 k y.nd y.r o'):
  Fn Tryz.prog 64 [dgV x.A x.n x.c x.r,dgV y.A y.n y.c y.r] w (DgS w k (fun e=>o e && !o' e)):=by
 refine aQf (c:={c64 with cuts:=[]}) aQb Tryz.func64 rfl rfl rfl ?_;refine new (fun w1 hE1 hz1 hB1=>?_);refine new (fun w2 hE2 hz2 hB2=>?_);refine new (fun w3 hE3 hz3 hB3=>?_);have hE23:=hE2.trans hE3;have hE03:=hE1.trans hE23;refine aQd (hB2.ext hE3) rfl ?_;refine aQd (hB1.ext hE23) rfl ?_;refine call (mQX hk y x w3 (h'.ext hE03) (h.ext hE03) s' s) ?_;rintro _ w5 ⟨PA,pn,pc,D1,D2,rfl,hE5,hP5,hS5,hR5⟩;refine call (hQc ⟨PA,pn,pc,D1,D2⟩ w5) ?_;rintro _ w6 ⟨rfl,hE6⟩;have hE36:=hE5.trans hE6;refine aQc (hB3.ext hE36) rfl (sc rfl) (fun w7 hg7 _ hB7=>?_);have hM7:Mod (·=w2.heap.size) w6 w7:=zQE hg7 rfl;refine aQd hB7 rfl ?_;exact⟨PA,pn,pc,D1,D2,rfl,hM7.ext (hE03.trans hE36) (fun i hi=>by omega),SB.mod (hP5.ext hE6) hM7 (fun i hi e=>by have:=hR5 i hi;omega),hS5.congr (fun e=>by rw[Bool.and_comm]),fun i hi=>by have:=hR5 i hi;omega⟩
abbrev lfV (ls:List (List Nat)):List Value:=aQ6 (ls.map (·++ [10]))
theorem kQe (ls:List (List Nat)):(lfV ls).length=ls.length:=by rw[aQQ,List.length_map]
theorem cQ7 {ls:List (List Nat)}{j:Nat}{s:List Nat}(h:ls[j]? =some s):(lfV ls)[j]? =some (.string (aQh (s++ [10]))):=cQI (by rw[List.getElem?_map,h];rfl)
theorem Sl.from {w:World}{n c l:Nat}{A:Option Addr}{cs:List Value}(h:Sl w 1 A n c cs)(hl:l<=n):Sl w 1 (if c=l then A else A.map (·.add (l*1))) (n-l) (c-l) (cs.drop l):=by
 have h1:=h.len;have h2:=h.le;have h3:=h.cap;refine⟨by rw[List.length_drop];omega,by omega,by omega,fun h0=>?_⟩;obtain⟨ad,rfl,hc⟩:=h.at_ (by omega);refine⟨ad.add (l*1),by rw[if_neg (by omega)];rfl,fun j u hu=>?_⟩;rw[Addr.add_add,Nat.mul_one];exact hc _ _ (by rw[List.getElem?_drop] at hu;exact hu)
def sQK (ls:List (List Nat)):Prop:=∀s∈ls,(∀x∈s,x<256)/\s.length<=1000000000
theorem gQU {s:List Nat}(h:∀x∈s,x<256):∀x∈s++ [10],x<256:=fun x hx=>by
 rcases List.mem_append.1 hx with hx | hx
 ·exact h x hx
 ·rw[List.mem_singleton.1 hx];decide
def bkL (back:Bool)(a:List (List Nat)):List (List Nat):=if back then a.reverse else a
theorem qQU (back:Bool)(a:List (List Nat)):(bkL back a).length=a.length:=by cases back<;>simp[bkL]
theorem tQM {back:Bool}{a:List (List Nat)}{k:Nat}{s:List Nat}(h:(bkL back a)[k]? =some s):a[if back then a.length-1-k else k]? =some s:=by
 cases back with
 | false=>exact h
 | true=>
  have hk:k<a.length:=by have:=(List.getElem?_eq_some_iff.1 h).1;rw[qQU] at this;exact this
  rw[show bkL true a=a.reverse from rfl,List.getElem?_reverse hk] at h;exact h
theorem qQV (b:List (List Nat))(k best:Nat)(o:Int):sQw [] b k best o=best:=by cases b<;>rfl
theorem qQW (a:List (List Nat))(k best:Nat)(o:Int):sQw a [] k best o=best:=by cases a<;>rfl
theorem lQF {α:Type}{l:List α}{k:Nat}{x:α}(h:l[k]? =some x):l.drop k=x::l.drop (k+1):=by
 obtain⟨hk,e⟩:=List.getElem?_eq_some_iff.1 h;rw[List.drop_eq_getElem_cons hk,e]
set_option maxHeartbeats 800000 in
theorem iQ1 (a b:List (List Nat))(A B:Option Addr)(n c m d:Nat)(back:Bool)(w:World)(h:Sl w 1 A n c (lfV a))(h':Sl w 1 B m d (lfV b))(ha:sQK a)(hb:sQK b)(hn:n<=1000000000):
  Fn Tryz.prog 171 [.slice A n c,.slice B m d,.bool back] w (fun u w'=>u= .int .i64 (cmn (bkL back a) (bkL back b))/\Ext w w'):=by
 have hal:a.length=n:=by have:=h.len;rw[kQe] at this;omega
 have hbl:b.length=m:=by have:=h'.len;rw[kQe] at this;omega
 have hml:m<=9223372036854775807:=by have:=h'.le;have:=h'.cap;simp only[maxLen] at this;omega
 have hA:=qQU back a;have hB:=qQU back b;refine aQf (c:={yQR with cuts:=[]}) aQb Tryz.func171 rfl rfl rfl ?_;refine norm (m:=((min n m:Nat):Int)) (by rw[Nat.min_def];split<;>split<;>omega) ?_;generalize hmn:min n m=mn;have hm1:mn<=n:=by omega
 have hm2:mn<=m:=by omega
 have hm3:mn=n∨mn=m:=by omega
 refine loop aQb [17,7,8] (fun s:Nat×Nat×Int=>[.int .i64 s.1,.int .i64 s.2.1,.int .i64 s.2.2]) (fun s w'=>Ext w w'/\s.1<=mn/\s.2.1<=s.1/\ -(s.1:Int)<=s.2.2/\s.2.2<=s.1/\sQw ((bkL back a).drop s.1) ((bkL back b).drop s.1) s.1 s.2.1 s.2.2=cmn (bkL back a) (bkL back b)) (fun s _=>mn-s.1) (0,0,0) rfl ⟨Ext.refl _,Nat.zero_le _,Nat.le_refl _,by simp,by simp,rfl⟩ ?_;rintro⟨k,best,o⟩ w1 ⟨hE1,hk,hbk,ho1,ho2,hrs⟩;simp only at hk hbk ho1 ho2 hrs;refine aQq (fun c1=>?_) (fun c1=>?_)
 ·have hkn:k<mn:=by simp only at c1;omega
  obtain⟨x,hx⟩:∃x,(bkL back a)[k]? =some x:=⟨_,List.getElem?_eq_getElem (by omega)⟩
  obtain⟨y,hy⟩:∃y,(bkL back b)[k]? =some y:=⟨_,List.getElem?_eq_getElem (by omega)⟩
  rw[lQF hx,lQF hy,sQw] at hrs;have hx':=tQM hx;have hy':=tQM hy;have hxb:=ha x (List.mem_of_getElem? hx');have hyb:=hb y (List.mem_of_getElem? hy');obtain⟨x0,hx0⟩:∃x0,a[k]? =some x0:=⟨_,List.getElem?_eq_getElem (by omega)⟩
  obtain⟨y0,hy0⟩:∃y0,b[k]? =some y0:=⟨_,List.getElem?_eq_getElem (by omega)⟩
  refine aQm aQb (Ext w1) 10 [(true,0),(true,1),(true,2),(true,3),(true,4),(true,5),(true,6),(true,7),(true,8),(true,9)] (by kernel_rfl) (Ext.drew w1) ?_;refine aQ3 (h.ext hE1) (by omega) (fun ad u hA' hu hcell=>?_);rw[cQ7 hx0] at hu;cases hu;refine aQy (v:=.string (aQh (x0++ [10]))) (fun w' hw'=>hw'.cell hcell) ?_;refine aQ3 (h'.ext hE1) (by omega) (fun ad u hA' hu hcell=>?_);rw[cQ7 hy0] at hu;cases hu;refine aQy (v:=.string (aQh (y0++ [10]))) (fun w' hw'=>hw'.cell hcell) ?_;cases back with
  | false=>
   refine aQN rfl ?_;have ex:x=x0:=(Option.some.inj (hx0.symm.trans hx')).symm;have ey:y=y0:=(Option.some.inj (hy0.symm.trans hy')).symm;subst ex ey;have hE1':=hE1.trans (Ext.drew w1);have hns:(aQh (x++ [10])=aQh (y++ [10]))↔x=y:=⟨fun hh=>by have:=aQD (gQU hxb.1) (gQU hyb.1) hh;exact List.append_cancel_right this,fun hh=>by rw[hh]⟩
   by_cases hxy:x=y
   ·rw[if_pos hxy] at hrs;refine aQN (by simp[hns.2 hxy]) ?_;refine call (gQr (x++ [10]) pIf _ (gQU hxb.1) (by decide)) ?_;rintro _ _ ⟨rfl,rfl⟩;rw[tQy];cases hp:pIf.isPrefixOf x with
    | true=>
     have hd:dpL x=1:=by unfold dpL;rw[if_pos hp]
     refine aQM rfl ?_;refine aQa (o+1) rfl (by omega) ?_;have hrs2:=hrs;rw[hd] at hrs2;by_cases h0:o+1=0
     ·rw[if_pos h0] at hrs2;refine aQZ h0 ?_;refine aQa ((k+1:Nat):Int) (by show((k:Nat):Int)+1=_;omega) (by omega) ?_;refine aQa ((k+1:Nat):Int) (by show((k:Nat):Int)+1=_;omega) (by omega) ?_;exact⟨(k+1,k+1,o+1),rfl,⟨hE1',hkn,Nat.le_refl _,by show -((k+1:Nat):Int)<=o+1;omega,by show o+1<=((k+1:Nat):Int);omega,hrs2⟩,by show mn-(k+1)<mn-k;omega⟩
     ·rw[if_neg h0] at hrs2;refine aQu h0 ?_;refine aQa ((k+1:Nat):Int) (by show((k:Nat):Int)+1=_;omega) (by omega) ?_;exact⟨(k+1,best,o+1),rfl,⟨hE1',hkn,by show best<=k+1;omega,by show -((k+1:Nat):Int)<=o+1;omega,by show o+1<=((k+1:Nat):Int);omega,hrs2⟩,by show mn-(k+1)<mn-k;omega⟩
    | false=>
     refine aQN rfl ?_;have hne:(aQh (x++ [10])=aQh (cQQ++ [10]))↔x=cQQ:=⟨fun hh=>by have:=aQD (gQU hxb.1) (by decide) hh;exact List.append_cancel_right this,fun hh=>by rw[hh]⟩
     by_cases he:x=cQQ
     ·have hd:dpL x= -1:=by unfold dpL;rw[if_neg (by rw[hp];decide),if_pos he]
      refine aQO (hne.2 he) ?_;refine aQa (o-1) rfl (by omega) ?_;have hrs2:=hrs;rw[hd,show o+(-1)=o-1 by omega] at hrs2;by_cases h0:o-1=0
      ·rw[if_pos h0] at hrs2;refine aQZ h0 ?_;refine aQa ((k+1:Nat):Int) (by show((k:Nat):Int)+1=_;omega) (by omega) ?_;refine aQa ((k+1:Nat):Int) (by show((k:Nat):Int)+1=_;omega) (by omega) ?_;exact⟨(k+1,k+1,o-1),rfl,⟨hE1',hkn,Nat.le_refl _,by show -((k+1:Nat):Int)<=o-1;omega,by show o-1<=((k+1:Nat):Int);omega,hrs2⟩,by show mn-(k+1)<mn-k;omega⟩
      ·rw[if_neg h0] at hrs2;refine aQu h0 ?_;refine aQa ((k+1:Nat):Int) (by show((k:Nat):Int)+1=_;omega) (by omega) ?_;exact⟨(k+1,best,o-1),rfl,⟨hE1',hkn,by show best<=k+1;omega,by show -((k+1:Nat):Int)<=o-1;omega,by show o-1<=((k+1:Nat):Int);omega,hrs2⟩,by show mn-(k+1)<mn-k;omega⟩
     ·have hd:dpL x=0:=by unfold dpL;rw[if_neg (by rw[hp];decide),if_neg he]
      refine aQB (fun hh=>he (hne.1 hh)) ?_;have hrs2:=hrs;rw[hd,show o+0=o by omega] at hrs2;by_cases h0:o=0
      ·rw[if_pos h0] at hrs2;refine aQZ h0 ?_;refine aQa ((k+1:Nat):Int) (by show((k:Nat):Int)+1=_;omega) (by omega) ?_;refine aQa ((k+1:Nat):Int) (by show((k:Nat):Int)+1=_;omega) (by omega) ?_;exact⟨(k+1,k+1,o),rfl,⟨hE1',hkn,Nat.le_refl _,by show -((k+1:Nat):Int)<=o;omega,by show o<=((k+1:Nat):Int);omega,hrs2⟩,by show mn-(k+1)<mn-k;omega⟩
      ·rw[if_neg h0] at hrs2;refine aQu h0 ?_;refine aQa ((k+1:Nat):Int) (by show((k:Nat):Int)+1=_;omega) (by omega) ?_;exact⟨(k+1,best,o),rfl,⟨hE1',hkn,by show best<=k+1;omega,by show -((k+1:Nat):Int)<=o;omega,by show o<=((k+1:Nat):Int);omega,hrs2⟩,by show mn-(k+1)<mn-k;omega⟩
   ·rw[if_neg hxy] at hrs;refine aQM (by rw[decide_eq_false (fun hh=>hxy (hns.1 hh))];rfl) ?_;exact⟨by rw[<-hrs],hE1'⟩
  | true=>
   refine aQM rfl ?_;refine aQm aQb (Ext w1.drew) 18 [(true,0),(true,1),(true,2),(true,3),(true,4),(true,5),(true,6),(true,7),(true,8),(true,9),(true,10),(true,11),(true,12),(true,13),(true,14),(true,15),(true,16),(true,17)] (by kernel_rfl) (Ext.drew w1.drew) ?_;refine aQa ((a.length-1:Nat):Int) (by omega) (by omega) ?_;refine aQa ((a.length-1-k:Nat):Int) (by omega) (by omega) ?_;refine aQ3 ((h.ext hE1).ext (Ext.drew w1)) (by omega) (fun ad u hA' hu hcell=>?_);rw[cQ7 (show a[a.length-1-k]? =some x from hx')] at hu;cases hu;refine aQy (v:=.string (aQh (x++ [10]))) (fun w' hw'=>hw'.cell hcell) ?_;refine aQa ((b.length-1:Nat):Int) (by omega) (by omega) ?_;refine aQa ((b.length-1-k:Nat):Int) (by omega) (by omega) ?_;refine aQ3 ((h'.ext hE1).ext (Ext.drew w1)) (by omega) (fun ad u hA' hu hcell=>?_);rw[cQ7 (show b[b.length-1-k]? =some y from hy')] at hu;cases hu;refine aQy (v:=.string (aQh (y++ [10]))) (fun w' hw'=>hw'.cell hcell) ?_;have hE1':=(hE1.trans (Ext.drew w1)).trans (Ext.drew _);have hns:(aQh (x++ [10])=aQh (y++ [10]))↔x=y:=⟨fun hh=>by have:=aQD (gQU hxb.1) (gQU hyb.1) hh;exact List.append_cancel_right this,fun hh=>by rw[hh]⟩
   by_cases hxy:x=y
   ·rw[if_pos hxy] at hrs;refine aQN (by simp[hns.2 hxy]) ?_;refine call (gQr (x++ [10]) pIf _ (gQU hxb.1) (by decide)) ?_;rintro _ _ ⟨rfl,rfl⟩;rw[tQy];cases hp:pIf.isPrefixOf x with
    | true=>
     have hd:dpL x=1:=by unfold dpL;rw[if_pos hp]
     refine aQM rfl ?_;refine aQa (o+1) rfl (by omega) ?_;have hrs2:=hrs;rw[hd] at hrs2;by_cases h0:o+1=0
     ·rw[if_pos h0] at hrs2;refine aQZ h0 ?_;refine aQa ((k+1:Nat):Int) (by show((k:Nat):Int)+1=_;omega) (by omega) ?_;refine aQa ((k+1:Nat):Int) (by show((k:Nat):Int)+1=_;omega) (by omega) ?_;exact⟨(k+1,k+1,o+1),rfl,⟨hE1',hkn,Nat.le_refl _,by show -((k+1:Nat):Int)<=o+1;omega,by show o+1<=((k+1:Nat):Int);omega,hrs2⟩,by show mn-(k+1)<mn-k;omega⟩
     ·rw[if_neg h0] at hrs2;refine aQu h0 ?_;refine aQa ((k+1:Nat):Int) (by show((k:Nat):Int)+1=_;omega) (by omega) ?_;exact⟨(k+1,best,o+1),rfl,⟨hE1',hkn,by show best<=k+1;omega,by show -((k+1:Nat):Int)<=o+1;omega,by show o+1<=((k+1:Nat):Int);omega,hrs2⟩,by show mn-(k+1)<mn-k;omega⟩
    | false=>
     refine aQN rfl ?_;have hne:(aQh (x++ [10])=aQh (cQQ++ [10]))↔x=cQQ:=⟨fun hh=>by have:=aQD (gQU hxb.1) (by decide) hh;exact List.append_cancel_right this,fun hh=>by rw[hh]⟩
     by_cases he:x=cQQ
     ·have hd:dpL x= -1:=by unfold dpL;rw[if_neg (by rw[hp];decide),if_pos he]
      refine aQO (hne.2 he) ?_;refine aQa (o-1) rfl (by omega) ?_;have hrs2:=hrs;rw[hd,show o+(-1)=o-1 by omega] at hrs2;by_cases h0:o-1=0
      ·rw[if_pos h0] at hrs2;refine aQZ h0 ?_;refine aQa ((k+1:Nat):Int) (by show((k:Nat):Int)+1=_;omega) (by omega) ?_;refine aQa ((k+1:Nat):Int) (by show((k:Nat):Int)+1=_;omega) (by omega) ?_;exact⟨(k+1,k+1,o-1),rfl,⟨hE1',hkn,Nat.le_refl _,by show -((k+1:Nat):Int)<=o-1;omega,by show o-1<=((k+1:Nat):Int);omega,hrs2⟩,by show mn-(k+1)<mn-k;omega⟩
      ·rw[if_neg h0] at hrs2;refine aQu h0 ?_;refine aQa ((k+1:Nat):Int) (by show((k:Nat):Int)+1=_;omega) (by omega) ?_;exact⟨(k+1,best,o-1),rfl,⟨hE1',hkn,by show best<=k+1;omega,by show -((k+1:Nat):Int)<=o-1;omega,by show o-1<=((k+1:Nat):Int);omega,hrs2⟩,by show mn-(k+1)<mn-k;omega⟩
     ·have hd:dpL x=0:=by unfold dpL;rw[if_neg (by rw[hp];decide),if_neg he]
      refine aQB (fun hh=>he (hne.1 hh)) ?_;have hrs2:=hrs;rw[hd,show o+0=o by omega] at hrs2;by_cases h0:o=0
      ·rw[if_pos h0] at hrs2;refine aQZ h0 ?_;refine aQa ((k+1:Nat):Int) (by show((k:Nat):Int)+1=_;omega) (by omega) ?_;refine aQa ((k+1:Nat):Int) (by show((k:Nat):Int)+1=_;omega) (by omega) ?_;exact⟨(k+1,k+1,o),rfl,⟨hE1',hkn,Nat.le_refl _,by show -((k+1:Nat):Int)<=o;omega,by show o<=((k+1:Nat):Int);omega,hrs2⟩,by show mn-(k+1)<mn-k;omega⟩
      ·rw[if_neg h0] at hrs2;refine aQu h0 ?_;refine aQa ((k+1:Nat):Int) (by show((k:Nat):Int)+1=_;omega) (by omega) ?_;exact⟨(k+1,best,o),rfl,⟨hE1',hkn,by show best<=k+1;omega,by show -((k+1:Nat):Int)<=o;omega,by show o<=((k+1:Nat):Int);omega,hrs2⟩,by show mn-(k+1)<mn-k;omega⟩
   ·rw[if_neg hxy] at hrs;refine aQM (by rw[decide_eq_false (fun hh=>hxy (hns.1 hh))];rfl) ?_;exact⟨by rw[<-hrs],hE1'⟩
 ·have hkn:k=mn:=by simp only at c1;omega
  subst hkn;refine⟨?_,hE1⟩;rcases hm3 with e | e
  ·rw[List.drop_eq_nil_of_le (by omega),qQV] at hrs;rw[<-hrs]
  ·rw[List.drop_eq_nil_of_le (show(bkL back b).length<=k by omega),qQW] at hrs;rw[<-hrs]
theorem bQJ (ls:List (List Nat)):∀u∈aQ6 ls,aQ8 u=true:=fun u hu=>by
 unfold aQ6 at hu;obtain⟨s,_,rfl⟩:=List.mem_map.1 hu;rfl
theorem qQX (ls:List (List Nat))(A:Option Addr)(n c:Nat)(w:World)(h:Sl w 1 A n c (aQ6 ls))(hn:n<=1000000000):
  Fn Tryz.prog 172 [.slice A n c] w (fun u w'=>∃A' c',u= .slice A' n c'/\Ext w w'/\Own w' w.heap.size 9 1 A' n c' (aQ6 ls)):=by
 have hl:ls.length=n:=by have:=h.len;rw[aQQ] at this;omega
 refine aQf (c:={yQS with cuts:=[]}) aQb Tryz.func172 rfl rfl rfl ?_;cases A with
 | none=>
  have h0:n=0:=Classical.byContradiction (fun hh=>by obtain⟨ad,e,_⟩:=h.at_ (by omega);cases e);subst h0;have hls:ls=[]:=List.eq_nil_of_length_eq_zero hl;subst hls;refine aQM rfl ?_;exact⟨none,0,rfl,Ext.refl _,Own.nil _ _ _ _⟩
 | some a=>
  refine aQN rfl ?_;refine aQl aQb [] rfl rfl rfl rfl rfl ⟨⟩ rfl (fun cs h=>by cases h) rfl (by decide) (by decide) ?_;intro w1 hE1 hz1 hB1;have hO1:Own w1 w.heap.size 9 1 (some ⟨w.heap.size,0,none⟩) 0 0 []:=Own.empty hB1 (Nat.le_refl _);refine bQf (n:=0) aQb rfl rfl rfl rfl rfl (by decide) rfl rfl ⟨_,rfl⟩ rfl rfl hO1 (h.ext hE1) (bQJ ls) (by unfold maxLen;omega) (by show(0+n)*16<=_;omega) (by omega) ?_;intro A' c' w2 hm2 hown2 hmv2;rw[Nat.zero_add,List.nil_append] at hown2;refine⟨A',c',by rw[Nat.zero_add],hm2.ext hE1 (fun k hk=>(hO1.rows k hk).1),hown2⟩
theorem kQf (ls:List (List Nat))(k:Nat):(lfV ls).take k=lfV (ls.take k):=by simp[lfV,aQ6,List.map_take]
theorem nQ1 (ls:List (List Nat))(k:Nat):(lfV ls).drop k=lfV (ls.drop k):=by simp[lfV,aQ6,List.map_drop]
theorem vQd (a b:List (List Nat)):lfV (a++b)=lfV a++lfV b:=by simp[lfV,aQ6]
theorem hQ3 {c:Cx}(hg:c.g.Ok){o:Oper}{S:Env}{C:World->Prop}{K:Env->Prop}{t e:Nat}{x y:Operand}{A:Option Addr}{n cp:Nat}{h:Nat}{r:TyRow}(ho:o.op= .slice t x none (some y) none)(hr:aQA c.g.tys t=some r)(hd:r.d= .slice e){re:TyRow}(hre:aQA c.g.tys e=some re)
  (hx:S.ev x=some (.slice A n cp)) (hy:S.ev y=some (.int .i64 h)) (hh:h<=cp)
  (k:bQq c S o.dst (.v (.slice A h cp)) K):TOp c o S C K:=by
 have hr':=(hg.row hr).1;rw[hd] at hr';unfold TOp;refine⟨_,fun a w hf _=>?_,k⟩;have e1:=hf.ev hx;have e2:=hf.ev hy;simp[execOp,ho,e1,e2,Instr.sliceAt,Instr.slice,run_underlying hr',Instr.sliceBounds,Instr.sliceBound,asIntOf,hh,run_sizeOf hg hre];intro _;cases A<;>simp[Addr.add]
theorem hQ6 {c:Cx}(hg:c.g.Ok){o:Oper}{S:Env}{C:World->Prop}{K:Env->Prop}{t e:Nat}{x y:Operand}{A:Option Addr}{n cp:Nat}{l:Nat}{r:TyRow}(ho:o.op= .slice t x (some y) none none)(hr:aQA c.g.tys t=some r)(hd:r.d= .slice e){re:TyRow}(hre:aQA c.g.tys e=some re)
  (hx:S.ev x=some (.slice A n cp)) (hy:S.ev y=some (.int .i64 l)) (hl:l<=n)
  (k:bQq c S o.dst (.v (.slice (if cp=l then A else A.map (·.add (l*re.sz))) (n-l) (cp-l))) K):TOp c o S C K:=by
 have hr':=(hg.row hr).1;rw[hd] at hr';unfold TOp;refine⟨_,fun a w hf _=>?_,k⟩;have e1:=hf.ev hx;have e2:=hf.ev hy;simp[execOp,ho,e1,e2,Instr.sliceAt,Instr.slice,run_underlying hr',Instr.sliceBounds,Instr.sliceBound,asIntOf,hl,run_sizeOf hg hre]
structure Lo (w0 w:World) (O:Option Addr) (n oc:Nat) (ls:List (List Nat)):Prop where
 e:Ext w0 w
 ow:Own w w0.heap.size 9 1 O n oc (lfV ls)
theorem Lo.ext {w0 w w':World}{O:Option Addr}{n oc:Nat}{ls:List (List Nat)}(h:Lo w0 w O n oc ls)(k:Ext w w'):Lo w0 w' O n oc ls:=⟨h.e.trans k,h.ow.ext k⟩
theorem Lo.app {w0 w w':World}{O O':Option Addr}{n m oc oc':Nat}{ls ys:List (List Nat)}(h:Lo w0 w O n oc ls)(hm:Mod (aQx O) w w')(ho:Own w' w0.heap.size 9 1 O' (n+m) oc' (lfV ls++lfV ys)):Lo w0 w' O' (n+m) oc' (ls++ys):=
 ⟨hm.ext h.e (fun k hk=>(h.ow.rows k hk).1),by rw[vQd];exact ho⟩
theorem Lo.len {w0 w:World}{O:Option Addr}{n oc:Nat}{ls:List (List Nat)}(h:Lo w0 w O n oc ls):ls.length=n:=by have:=h.ow.sl.len;rw[kQe] at this;omega
theorem eQ2 {w:World}{A:Option Addr}{n c:Nat}{ls:List (List Nat)}(h:Sl w 1 A n c (lfV ls)):ls.length=n:=by have:=h.len;rw[kQe] at this;omega
theorem Lo.fin {w w0 w1:World}{O:Option Addr}{n oc:Nat}{ls:List (List Nat)}(hE:Ext w w0)(h:Lo w0 w1 O n oc ls):iQW w (.slice O n oc) (ls.map (·++ [10])) w1:=⟨O,oc,by rw[List.length_map,h.len],hE.trans h.e,by rw[List.length_map,h.len];exact⟨h.ow.sl,fun h0=>by obtain⟨g,sp,hA,_⟩:=h.ow.blk h0;exact⟨g,0,hA⟩⟩⟩
def nmT (nm:List (List Nat))(v:Nat):List Nat:=(nm[v]?).getD []
set_option maxHeartbeats 1600000 in
theorem sQL (nm:List (List Nat))(v:Nat)(H L:List (List Nat))(A B:Option Addr)(n c m d:Nat)(w:World)(h:Sl w 1 A n c (lfV H))(h':Sl w 1 B m d (lfV L))(hH:sQK H)(hL:sQK L)(hv:(nmT nm v).length<=1000000000)(hn:n<=100000000)(hm:m<=100000000):
  Fn Tryz.prog 118 [.string (aQh (nmT nm v)),.slice A n c,.slice B m d] w (fun u w'=>iQW w u ((dQ8 nm v H L).map (·++ [10])) w'):=by
 have hHl:=eQ2 h;have hLl:=eQ2 h';refine aQf (c:={yQi with cuts:=[]}) aQb Tryz.func118 rfl rfl rfl ?_;have hc1:=iQ1 H L A B n c m d false w h h' hH hL (by omega);have hp0:cmn (bkL false H) (bkL false L)=cmn H L:=rfl;rw[hp0] at hc1;refine call hc1 ?_;rintro _ w1 ⟨rfl,hE1⟩;obtain⟨p1,p2,_,_,_⟩:=nQI H L;have hjn:dQ8 nm v H L=dQ8 nm v H L:=rfl;unfold dQ8 at hjn;simp only at hjn;generalize hp:cmn H L=p at*;have hle:=h.le;have hle':=h'.le;refine bQ1 aQb rfl rfl rfl rfl rfl rfl (by omega) ?_;have ht:=(h.ext hE1).take (m:=p) (by omega);rw[Nat.mul_one,kQf] at ht;refine call (qQX ((H.take p).map (·++ [10])) A p c w1 ht (by omega)) ?_;rintro _ w2 ⟨O,oc,rfl,hE2,hO2⟩;have lo:Lo w1 w2 O p oc (H.take p):=⟨hE2,hO2⟩
 have q1:=(h.ext hE1).from (l:=p) (by omega)
 have q2:=(h'.ext hE1).from (l:=p) (by omega)
 rw[nQ1] at q1 q2;refine aQm aQb (Ext w2) 8 [(true,0),(true,1),(true,2),(true,3),(true,4),(true,5),(true,6),(true,7)] (by kernel_rfl) (Ext.drew w2) ?_;refine hQ6 aQb rfl rfl rfl rfl rfl rfl (by omega) ?_;refine hQ6 aQb rfl rfl rfl rfl rfl rfl (by omega) ?_;have lo2:=lo.ext (Ext.drew w2);have hDl:(H.drop p).length=n-p:=by rw[List.length_drop];omega
 have hDm:(L.drop p).length=m-p:=by rw[List.length_drop];omega
 have bD:∀{X:List (List Nat)} {k:Nat},sQK X->sQK (X.drop k):=fun hX s hs=>hX s (List.mem_of_mem_drop hs)
 have hc2:=iQ1 (H.drop p) (L.drop p) _ _ _ _ _ _ true w2.drew (q1.ext lo2.e) (q2.ext lo2.e) (bD hH) (bD hL) (by omega);have hs0:cmn (bkL true (H.drop p)) (bkL true (L.drop p))=jQN (H.drop p) (L.drop p):=rfl;rw[hs0] at hc2;refine call hc2 ?_;rintro _ w3 ⟨rfl,hE3⟩;have lo3:=lo2.ext hE3;obtain⟨s1,s2,_⟩:=mQH (H.drop p) (L.drop p);generalize hs:jQN (H.drop p) (L.drop p)=s at*;have hcA:p<=c:=by omega
 refine aQa ((n-p-s:Nat):Int) (by omega) (by omega) ?_;refine iQx aQb rfl rfl rfl rfl rfl rfl (by omega) ?_;refine aQm aQb (Ext w3) 14 [(true,0),(true,1),(true,2),(true,3),(true,4),(true,5),(true,6),(true,7),(true,8),(true,9),(true,10),(true,11),(true,12),(true,13)] (by kernel_rfl) (Ext.drew w3) ?_;refine aQa ((n-p-s:Nat):Int) (by omega) (by omega) ?_;refine hQ3 aQb rfl rfl rfl rfl rfl rfl (by omega) ?_;refine aQa ((m-p-s:Nat):Int) (by omega) (by omega) ?_;refine hQ3 aQb rfl rfl rfl rfl rfl rfl (by omega) ?_;have lo4:=lo3.ext (Ext.drew w3);have r1:=q1.take (m:=n-p-s) (by omega);have r2:=q2.take (m:=m-p-s) (by omega);have rE:=q1.from (l:=n-p-s) (by omega)
 rw[Nat.mul_one (n-p-s),kQf] at r1;rw[Nat.mul_one (m-p-s),kQf] at r2;rw[nQ1] at rE;have hj:dQ8 nm v H L=H.take p++((if(H.drop p).take (n-p-s)=[] then ifT nm v true::(L.drop p).take (m-p-s)else ifT nm v false::((H.drop p).take (n-p-s)++if(L.drop p).take (m-p-s)=[] then [] else cQi::(L.drop p).take (m-p-s)))++cQQ::(H.drop p).drop (n-p-s)):=by
  unfold dQ8;simp only[hp,hs,hDl,hDm]
 have lH2:=eQ2 r1;have lL2:=eQ2 r2;have lE:=eQ2 rE;generalize (H.drop p).take (n-p-s)=H2 at*;generalize (L.drop p).take (m-p-s)=L2 at*;generalize (H.drop p).drop (n-p-s)=E at*;have hvs:=aQj (nmT nm v);have h1s:(aQh [10]).size=1:=rfl;refine aQP (fun c7=>?_) (fun c7=>?_)
 ·have e2:H2=[]:=List.eq_nil_of_length_eq_zero (by omega);rw[if_pos e2] at hj;have hs5:=aQj (pIf++(33::nmT nm v));refine aQ1 (v':=.string (aQh (pIf++(33::nmT nm v)))) (by show(aQh [35,105,102,32,33]).size+_<=_;rw[aQj,hvs];show 5+_<=_;unfold maxLen;omega) (by show Value.string (aQh (pIf++ [33])++aQh (nmT nm v))=_;rw[bQr];rfl) ?_;refine aQ1 (v':=.string (aQh (ifT nm v true++ [10]))) (by rw[hs5];show _+1<=_;simp[pIf];unfold maxLen;omega) (by show Value.string (aQh (pIf++(33::nmT nm v))++aQh [10])=_;rw[bQr];rfl) ?_;refine aQl aQb [[Value.string (aQh (ifT nm v true++ [10]))]] rfl rfl rfl rfl rfl ⟨rfl,rfl,⟨⟩⟩ rfl (fun cs h=>by simp only[List.mem_singleton] at h;subst h;rfl) rfl (by decide) (by decide) ?_;intro wxa hExa hzxa hBxa;have sxa:Sl wxa 1 _ 1 1 (lfV [ifT nm v true]):=Sl.own' (n:=1) hBxa rfl (by decide);have lya:=lo4.ext hExa;have lza:=lya.len;refine bQf aQb rfl rfl rfl rfl rfl (by decide) rfl rfl ⟨_,rfl⟩ rfl rfl lya.ow sxa (bQJ _) (by unfold maxLen;omega) (by show(_+1)*16<=_;omega) lya.e.size ?_;intro Oa oca wa hma howa _;have loa:=lya.app hma howa;refine bQf aQb rfl rfl rfl rfl rfl (by decide) rfl rfl ⟨_,rfl⟩ rfl rfl loa.ow (r2.ext loa.e) (bQJ _) (by unfold maxLen;omega) (by show(_+_)*16<=_;omega) loa.e.size ?_;intro Ob ocb wb hmb howb _;have lob:=loa.app hmb howb;refine aQl aQb [[Value.string (aQh (cQQ++ [10]))]] rfl rfl rfl rfl rfl ⟨rfl,rfl,⟨⟩⟩ rfl (fun cs h=>by simp only[List.mem_singleton] at h;subst h;rfl) rfl (by decide) (by decide) ?_;intro wxc hExc hzxc hBxc;have sxc:Sl wxc 1 _ 1 1 (lfV [cQQ]):=Sl.own' (n:=1) hBxc rfl (by decide);have lyc:=lob.ext hExc;have lzc:=lyc.len;refine bQf aQb rfl rfl rfl rfl rfl (by decide) rfl rfl ⟨_,rfl⟩ rfl rfl lyc.ow sxc (bQJ _) (by unfold maxLen;omega) (by show(_+1)*16<=_;omega) lyc.e.size ?_;intro Oc occ wc hmc howc _;have loc:=lyc.app hmc howc;refine bQf aQb rfl rfl rfl rfl rfl (by decide) rfl rfl ⟨_,rfl⟩ rfl rfl loc.ow (rE.ext loc.e) (bQJ _) (by unfold maxLen;omega) (by show(_+_)*16<=_;omega) loc.e.size ?_;intro Od ocd wd hmd howd _;have lod:=loc.app hmd howd;have fin:=lod.fin hE1;have e9:((((H.take p++ [ifT nm v true])++L2)++ [cQQ])++E)=dQ8 nm v H L:=by rw[hj];simp
  rw[e9] at fin;exact fin
 ·have e2:H2≠ []:=fun e=>c7 (by subst e;simp at lH2;omega)
  rw[if_neg e2] at hj;have hs5:=aQj (pIf++nmT nm v);refine aQ1 (v':=.string (aQh (pIf++nmT nm v))) (by show(aQh [35,105,102,32]).size+_<=_;rw[aQj,hvs];show 4+_<=_;unfold maxLen;omega) (by show Value.string (aQh pIf++aQh (nmT nm v))=_;rw[bQr]) ?_;refine aQ1 (v':=.string (aQh (ifT nm v false++ [10]))) (by rw[hs5];show _+1<=_;simp[pIf];unfold maxLen;omega) (by show Value.string (aQh (pIf++nmT nm v)++aQh [10])=_;rw[bQr];rfl) ?_;refine aQl aQb [[Value.string (aQh (ifT nm v false++ [10]))]] rfl rfl rfl rfl rfl ⟨rfl,rfl,⟨⟩⟩ rfl (fun cs h=>by simp only[List.mem_singleton] at h;subst h;rfl) rfl (by decide) (by decide) ?_;intro wxa hExa hzxa hBxa;have sxa:Sl wxa 1 _ 1 1 (lfV [ifT nm v false]):=Sl.own' (n:=1) hBxa rfl (by decide);have lya:=lo4.ext hExa;have lza:=lya.len;refine bQf aQb rfl rfl rfl rfl rfl (by decide) rfl rfl ⟨_,rfl⟩ rfl rfl lya.ow sxa (bQJ _) (by unfold maxLen;omega) (by show(_+1)*16<=_;omega) lya.e.size ?_;intro Oa oca wa hma howa _;have loa:=lya.app hma howa;refine bQf aQb rfl rfl rfl rfl rfl (by decide) rfl rfl ⟨_,rfl⟩ rfl rfl loa.ow (r1.ext loa.e) (bQJ _) (by unfold maxLen;omega) (by show(_+_)*16<=_;omega) loa.e.size ?_;intro Ob ocb wb hmb howb _;have lob:=loa.app hmb howb;refine aQq (fun c8=>?_) (fun c8=>?_)
  ·have e3:L2≠ []:=fun e=>by subst e;simp at lL2;omega
   rw[if_neg e3] at hj;refine aQl aQb [[Value.string (aQh (cQi++ [10]))]] rfl rfl rfl rfl rfl ⟨rfl,rfl,⟨⟩⟩ rfl (fun cs h=>by simp only[List.mem_singleton] at h;subst h;rfl) rfl (by decide) (by decide) ?_;intro wxc hExc hzxc hBxc;have sxc:Sl wxc 1 _ 1 1 (lfV [cQi]):=Sl.own' (n:=1) hBxc rfl (by decide);have lyc:=lob.ext hExc;have lzc:=lyc.len;refine bQf aQb rfl rfl rfl rfl rfl (by decide) rfl rfl ⟨_,rfl⟩ rfl rfl lyc.ow sxc (bQJ _) (by unfold maxLen;omega) (by show(_+1)*16<=_;omega) lyc.e.size ?_;intro Oc occ wc hmc howc _;have loc:=lyc.app hmc howc;refine bQf aQb rfl rfl rfl rfl rfl (by decide) rfl rfl ⟨_,rfl⟩ rfl rfl loc.ow (r2.ext loc.e) (bQJ _) (by unfold maxLen;omega) (by show(_+_)*16<=_;omega) loc.e.size ?_;intro Od ocd wd hmd howd _;have lod:=loc.app hmd howd;refine aQl aQb [[Value.string (aQh (cQQ++ [10]))]] rfl rfl rfl rfl rfl ⟨rfl,rfl,⟨⟩⟩ rfl (fun cs h=>by simp only[List.mem_singleton] at h;subst h;rfl) rfl (by decide) (by decide) ?_;intro wxe hExe hzxe hBxe;have sxe:Sl wxe 1 _ 1 1 (lfV [cQQ]):=Sl.own' (n:=1) hBxe rfl (by decide);have lye:=lod.ext hExe;have lze:=lye.len;refine bQf aQb rfl rfl rfl rfl rfl (by decide) rfl rfl ⟨_,rfl⟩ rfl rfl lye.ow sxe (bQJ _) (by unfold maxLen;omega) (by show(_+1)*16<=_;omega) lye.e.size ?_;intro Oe oce we hme howe _;have loe:=lye.app hme howe;refine bQf aQb rfl rfl rfl rfl rfl (by decide) rfl rfl ⟨_,rfl⟩ rfl rfl loe.ow (rE.ext loe.e) (bQJ _) (by unfold maxLen;omega) (by show(_+_)*16<=_;omega) loe.e.size ?_;intro Of ocf wf hmf howf _;have lof:=loe.app hmf howf;have fin:=lof.fin hE1;have e9:((((((H.take p++ [ifT nm v false])++H2)++ [cQi])++L2)++ [cQQ])++E)=dQ8 nm v H L:=by rw[hj];simp
   rw[e9] at fin;exact fin
  ·have e3:L2=[]:=List.eq_nil_of_length_eq_zero (by omega);rw[if_pos e3] at hj;refine aQl aQb [[Value.string (aQh (cQQ++ [10]))]] rfl rfl rfl rfl rfl ⟨rfl,rfl,⟨⟩⟩ rfl (fun cs h=>by simp only[List.mem_singleton] at h;subst h;rfl) rfl (by decide) (by decide) ?_;intro wxc hExc hzxc hBxc;have sxc:Sl wxc 1 _ 1 1 (lfV [cQQ]):=Sl.own' (n:=1) hBxc rfl (by decide);have lyc:=lob.ext hExc;have lzc:=lyc.len;refine bQf aQb rfl rfl rfl rfl rfl (by decide) rfl rfl ⟨_,rfl⟩ rfl rfl lyc.ow sxc (bQJ _) (by unfold maxLen;omega) (by show(_+1)*16<=_;omega) lyc.e.size ?_;intro Oc occ wc hmc howc _;have loc:=lyc.app hmc howc;refine bQf aQb rfl rfl rfl rfl rfl (by decide) rfl rfl ⟨_,rfl⟩ rfl rfl loc.ow (rE.ext loc.e) (bQJ _) (by unfold maxLen;omega) (by show(_+_)*16<=_;omega) loc.e.size ?_;intro Od ocd wd hmd howd _;have lod:=loc.app hmd howd;have fin:=lod.fin hE1;have e9:((((H.take p++ [ifT nm v false])++H2)++ [cQQ])++E)=dQ8 nm v H L:=by rw[hj];simp
   rw[e9] at fin;exact fin
end
section
open Go Go.RowKit
theorem wQS {a b:List Nat}(h:aQh (a++ [10])=aQh (b++ [10]))(ha:∀x∈a,x<256)(hb:∀x∈b,x<256):a=b:=List.append_cancel_right (aQD (gQU ha) (gQU hb) h)
theorem sQM {α:Type}{l l':List α}{n:Nat}(h1:l.length=n)(h2:l'.length=n)(h:∀j,j<n->l[j]? =l'[j]?):l=l':=by
 refine List.ext_getElem? (fun j=>?_);by_cases hj:j<n
 ·exact h j hj
 ·rw[List.getElem?_eq_none (by omega),List.getElem?_eq_none (by omega)]
theorem qQY (A B:Option Addr)(n c m e:Nat)(l l':List (List Nat))(w:World)(h:Sl w 1 A n c (lfV l))(h':Sl w 1 B m e (lfV l'))(hb:sQK l)(hb':sQK l'):
  Fn Tryz.prog 117 [.slice A n c,.slice B m e] w (fun v w'=>v= .bool (decide (l=l'))/\Ext w w'):=by
 have hl:=eQ2 h;have hl':=eQ2 h';have hcap:n<=9223372036854775807:=by have:=h.le;have:=h.cap;simp only[maxLen] at this;omega
 refine aQf (c:={yQh with cuts:=[]}) aQb Tryz.func117 rfl rfl rfl ?_;refine cQj (fun h1=>?_) (fun h1=>?_)
 ·exact⟨by rw[decide_eq_false (fun e=>by subst e;omega)],Ext.refl w⟩
 refine loop aQb [13] (fun s:Nat=>[.int .i64 s]) (fun s w'=>Ext w w'/\s<=n/\∀j,j<s->l[j]? =l'[j]?) (fun s _=>n-s) 0 rfl ⟨Ext.refl w,Nat.zero_le _,fun j hj=>absurd hj (by omega)⟩ ?_;rintro s w1 ⟨hE1,hs,hall⟩;refine aQq (fun h2=>?_) (fun h2=>?_)
 ·have hsn:s<n:=by omega
  obtain⟨x,hx⟩:∃x,l[s]? =some x:=⟨_,List.getElem?_eq_getElem (by omega)⟩
  obtain⟨y,hy⟩:∃y,l'[s]? =some y:=⟨_,List.getElem?_eq_getElem (by omega)⟩
  refine aQm aQb (Ext w1) 9 [(true,0),(true,1),(true,2),(true,3),(true,4),(true,5),(true,6),(true,7),(true,8)] (by kernel_rfl) (Ext.drew w1) ?_;refine aQ3 (h.ext hE1) hsn (fun ad u hA hu hcell=>?_);rw[cQ7 hx] at hu;cases hu;refine aQy (v:=.string (aQh (x++ [10]))) (fun w' hw'=>hw'.cell hcell) ?_;refine aQ3 (h'.ext hE1) (by omega) (fun ad u hA hu hcell=>?_);rw[cQ7 hy] at hu;cases hu;refine aQy (v:=.string (aQh (y++ [10]))) (fun w' hw'=>hw'.cell hcell) ?_;have hEd:=hE1.trans (Ext.drew w1);have hxb:=hb x (List.mem_of_getElem? hx);have hyb:=hb' y (List.mem_of_getElem? hy);by_cases hxy:x=y
  ·refine aQN (by rw[hxy];simp) ?_;refine aQa ((s+1:Nat):Int) (by show((s:Nat):Int)+1=_;omega) (by omega) ?_;refine⟨s+1,rfl,⟨hEd,by omega,fun j hj=>?_⟩,by show n-(s+1)<n-s;omega⟩;by_cases hjs:j<s
   ·exact hall j hjs
   ·have:j=s:=by omega
    subst this;rw[hx,hy,hxy]
  ·refine aQM (by rw[decide_eq_false (fun hh=>hxy (wQS hh hxb.1 hyb.1))];rfl) ?_;refine⟨?_,hEd⟩;rw[decide_eq_false (fun e=>hxy (by subst e;rw[hx] at hy;exact Option.some.inj hy))]
 ·refine⟨?_,hE1⟩;rw[decide_eq_true (sQM hl (by omega) (fun j hj=>hall j (by omega)))]
theorem qQZ {nm:List (List Nat)}{v:Nat}{H L:List (List Nat)}{P:List Nat->Prop}(hH:∀s∈H,P s)(hL:∀s∈L,P s)(h1:∀ng,P (ifT nm v ng))(h2:P cQi)(h3:P cQQ):∀s∈dQ8 nm v H L,P s:=by
 intro s hs;unfold dQ8 at hs;simp only at hs;have t:∀{X:List (List Nat)} {a b:Nat},(∀s∈X,P s)->∀s∈(X.drop a).take b,P s:=fun h s hs=>h s (List.mem_of_mem_drop (List.mem_of_mem_take hs))
 generalize jQN (H.drop (cmn H L)) (L.drop (cmn H L))=q at*;generalize cmn H L=p at*;rcases List.mem_append.1 hs with hs | hs
 ·exact hH s (List.mem_of_mem_take hs)
 rcases List.mem_append.1 hs with hs | hs
 ·split at hs
  ·rcases List.mem_cons.1 hs with rfl | hs
   ·exact h1 true
   ·exact t hL s hs
  ·rcases List.mem_cons.1 hs with rfl | hs
   ·exact h1 false
   rcases List.mem_append.1 hs with hs | hs
   ·exact t hH s hs
   split at hs
   ·cases hs
   ·rcases List.mem_cons.1 hs with rfl | hs
    ·exact h2
    ·exact t hL s hs
 ·rcases List.mem_cons.1 hs with rfl | hs
  ·exact h3
  ·exact hH s (List.mem_of_mem_drop (List.mem_of_mem_drop hs))
theorem qQ0 (nm:List (List Nat))(v:Nat)(H L:List (List Nat)):(dQ8 nm v H L).length<=H.length+L.length+3:=by
 obtain⟨p1,p2,_⟩:=nQI H L;obtain⟨q1,q2,_⟩:=mQH (H.drop (cmn H L)) (L.drop (cmn H L));unfold dQ8;simp only;generalize jQN (H.drop (cmn H L)) (L.drop (cmn H L))=q at*;generalize cmn H L=p at*;rw[List.length_drop] at q1 q2;split
 ·simp only[List.length_append,List.length_cons,List.length_take,List.length_drop];omega
 ·split
  ·simp only[List.length_append,List.length_cons,List.length_take,List.length_drop,List.length_nil];omega
  ·simp only[List.length_append,List.length_cons,List.length_take,List.length_drop];omega
theorem gQL {nm:List (List Nat)}{f:Nat->List Nat}{P:List Nat->Prop}{M:Nat}(h1:∀v ng,P (ifT nm v ng))(h2:P cQi)(h3:P cQQ):∀(k v:Nat)(l:List Nat),l≠ []->(∀c∈l,(∀s∈aQi (f c),P s)/\(aQi (f c)).length<=M)->
  (∀s∈cQf nm f k v l,P s)/\(cQf nm f k v l).length+3<=l.length*(M+3)
 | 0,v,l,hl,hp=>by
  have h0:=hp _ (dQT hl);rw[cQf];have:1<=l.length:=List.length_pos_iff.2 hl;have:=Nat.mul_le_mul_right (M+3) this;exact⟨h0.1,by have:=h0.2;omega⟩
 | k+1,v,l,hl,hp=>by
  rw[eQb hl];split
  ·exact gQL h1 h2 h3 k (v+1) l hl hp
  ·rename_i h;have n1:l.filter (fun c=> !c.testBit v)≠ []:=fun e=>h (.inl e)
   have n2:l.filter (fun c=>c.testBit v)≠ []:=fun e=>h (.inr e)
   have hlen:(l.filter (fun c=>c.testBit v)).length+(l.filter (fun c=> !c.testBit v)).length=l.length:=by
    clear h hl hp n1 n2;induction l with
    | nil=>rfl
    | cons a l ih=>by_cases e:a.testBit v=true<;>simp[List.filter_cons,e]<;>omega
   obtain⟨a1,a2⟩:=gQL h1 h2 h3 (P:=P) (M:=M) k (v+1) _ n1 (fun c hc=>hp c (List.mem_filter.1 hc).1);obtain⟨b1,b2⟩:=gQL h1 h2 h3 (P:=P) (M:=M) k (v+1) _ n2 (fun c hc=>hp c (List.mem_filter.1 hc).1);have hmul:l.length*(M+3)=(l.filter (fun c=>c.testBit v)).length*(M+3)+(l.filter (fun c=> !c.testBit v)).length*(M+3):=by rw[<-Nat.add_mul,hlen]
   split
   ·exact⟨b1,by omega⟩
   ·refine⟨qQZ b1 a1 (h1 v) h2 h3,?_⟩;have:=qQ0 nm v (cQf nm f k (v+1) (l.filter (fun c=>c.testBit v))) (cQf nm f k (v+1) (l.filter (fun c=> !c.testBit v)));omega
end
section
open Go Go.RowKit
inductive PT where
 | done
 | skip
 | quiet (k:Nat) (t:PT)
 | fork (k:Nat) (t o:PT)
def PT.alts:PT->List Nat
 | .fork k _ o=>k::o.alts
 | _=>[]
def cQu (md:Region.Mode)(ops:Array Oper)(n:Nat):PT->Bool->Nat->Array Bool->Bool
 | .done,inch,m,listed=> !inch&&Nat.beq m 0&&Region.seqB md ops (ops.size-n) n listed
 | .skip,inch,_,_=>inch
 | .quiet _ _,_,0,_=>false
 | .quiet k t,inch,m+1,listed=> !inch&&(Nat.blt k n&&(Region.ready md ops listed).contains k&&Region.free md ops listed k&&cQu md ops n t false m (listed.setIfInBounds k true))
 | .fork _ _ _,_,0,_=>false
 | .fork k t o,inch,m+1,listed=>(inch||decide (Region.ready md ops listed=k::o.alts))&&(Nat.blt k n&&cQu md ops n t false m (listed.setIfInBounds k true))&&cQu md ops n o true (m+1) listed
def kQg (c:Cx)(all:List Oper)(C:World->Prop):PT->Env->World->(Env->World->Prop)->Prop
 | .done,S,w,K=>K S w
 | .skip,_,_,_=>True
 | .quiet k t,S,w,K=>match gQO all k with
  | some o=>eQZ all o S (fun S=>oQu c o S C (fun S=>kQg c all C t S w K)) (fun S=>bQq c S o.dst (.v undef) (fun S=>kQg c all C t S w K))
  | none=>False
 | .fork k t o,S,w,K=>(match gQO all k with
  | some op=>eQZ all op S (fun S=>fQ3 c op S w (fun S w=>C w/\kQg c all C t S w K) (fun _ _ _=>False)) (fun S=>bQq c S op.dst (.v undef) (fun S=>kQg c all C t S w K))
  | none=>False)/\kQg c all C o S w K
section
variable {c:Cx} {S:Env} {a:Act}
theorem cQ8 (hg:c.g.Ok){md:Region.Mode}{ops:List Oper}{C:World->Prop}{Q:Exit->Act->World->Prop}{n:Nat}(hs:Region.noSelect ops.toArray=true)(hk:rQ3 md ops.toArray n){K:Env->World->Prop}:
  ∀(t:PT) (m:Nat) (listed:Array Bool) (S:Env) (a:Act) (w:World),HeadInv md ops.toArray n listed->kQg c ops C t S w K->Fits c.N S a->C w->
  (cQu md ops.toArray n t false m listed=true->wpG c.g.P md ops.toArray (NoPan Q) C n (fun listed' a' w'=>Region.seqB md ops.toArray (ops.toArray.size-n) n listed'=true/\∃S',Fits c.N S' a'/\K S' w') m listed a w)/\
  (∀m',m=m'+1->cQu md ops.toArray n t true m listed=true->(∀i∈t.alts,i∈Region.ready md ops.toArray listed)->∀i∈t.alts,i<n/\wpOp c.g.P ops.toArray (NoPan Q) i (fun a' w'=>C w'/\wpG c.g.P md ops.toArray (NoPan Q) C n (fun listed' a' w'=>Region.seqB md ops.toArray (ops.toArray.size-n) n listed'=true/\∃S',Fits c.N S' a'/\K S' w') m' (listed.setIfInBounds i true) a' w') a w)
 | .done,m,listed,S,a,w,inv,h,hf,hC=>by
  refine⟨fun hB=>?_,fun m' hm hB=>?_⟩
  ·simp only[cQu,Bool.not_false,Bool.true_and,Bool.and_eq_true] at hB;have:=Nat.eq_of_beq_eq_true hB.1;subst this;exact⟨hB.2,S,hf,h⟩
  ·simp[cQu] at hB
 | .skip,m,listed,S,a,w,inv,h,hf,hC=>by
  refine⟨fun hB=>?_,fun m' hm hB _ i hi=>?_⟩
  ·simp[cQu] at hB
  ·simp[PT.alts] at hi
 | .quiet k t,0,listed,S,a,w,inv,h,hf,hC=>by
  refine⟨fun hB=>?_,fun m' hm hB=>?_⟩
  ·simp[cQu] at hB
  ·simp[cQu] at hB
 | .quiet k t,m+1,listed,S,a,w,inv,h,hf,hC=>by
  refine⟨fun hB=>?_,fun m' hm hB=>?_⟩
  ·simp only[cQu,Bool.not_false,Bool.true_and,Bool.and_eq_true] at hB;obtain⟨⟨⟨hkn,hr⟩,hfr⟩,hB'⟩:=hB;have hkn:k<n:=by rw[Nat.blt_eq] at hkn;exact hkn
   have hr':k∈Region.ready md ops.toArray listed:=by simpa using hr
   obtain⟨_,o,ho,_⟩:=mem_ready.1 hr';have hn:gQO ops k=some o:=by rw[dQx];simpa using ho
   simp only[kQg,hn] at h;have key:∃v,YieldsIf c.g.P ops.toArray C o v a/\∃S',Fits c.N S' (a.put o.dst v)/\kQg c ops C t S' w K:=by
    rcases bQX h hf with⟨hw,S1,hf1,h1⟩ | ⟨hw,S1,hf1,h1⟩
    ·obtain⟨v,h2,h3⟩:=dQ0 hg h1 hf1;exact⟨v,.inl ⟨hw,h2⟩,h3⟩
    ·exact⟨undef,.inr ⟨hw,rfl⟩,aQo (e:=.v undef) h1 hf1⟩
   obtain⟨v,hy,S',hf',h'⟩:=key;exact kQM ho (Region.noSelect_spec hs) hk hkn (fun listed' a' w' hL=>seqB_ready hL.1) m listed a w inv (Region.free_spec ho hfr) hr' hy hC
    ((cQ8 hg hs hk t m _ S' _ w (inv.set hr' hkn) h' hf' hC).1 hB')
  ·simp[cQu] at hB
 | .fork k t o,0,listed,S,a,w,inv,h,hf,hC=>by
  refine⟨fun hB=>?_,fun m' hm hB=>?_⟩
  ·simp[cQu] at hB
  ·simp[cQu] at hB
 | .fork k t o,m+1,listed,S,a,w,inv,h,hf,hC=>by
  have key:(Nat.blt k n&&cQu md ops.toArray n t false m (listed.setIfInBounds k true))=true->cQu md ops.toArray n o true (m+1) listed=true->(∀i∈(PT.fork k t o).alts,i∈Region.ready md ops.toArray listed)->
    ∀i∈(PT.fork k t o).alts,i<n/\wpOp c.g.P ops.toArray (NoPan Q) i (fun a' w'=>C w'/\wpG c.g.P md ops.toArray (NoPan Q) C n (fun listed' a' w'=>Region.seqB md ops.toArray (ops.toArray.size-n) n listed'=true/\∃S',Fits c.N S' a'/\K S' w') m (listed.setIfInBounds i true) a' w') a w:=by
   intro hB hBo hall i hi;simp only[Bool.and_eq_true] at hB;obtain⟨hkn,hB'⟩:=hB;have hkn:k<n:=by rw[Nat.blt_eq] at hkn;exact hkn
   simp only[PT.alts,List.mem_cons] at hi;have hr':k∈Region.ready md ops.toArray listed:=hall k (by simp[PT.alts]);obtain⟨h1,h2⟩:=h;rcases hi with rfl | hi
   ·refine⟨hkn,?_⟩;obtain⟨_,op,ho,_⟩:=mem_ready.1 hr';have hn:gQO ops i=some op:=by rw[dQx];simpa using ho
    simp only[hn] at h1;have inv':=inv.set hr' hkn;unfold wpOp;simp only[ho];rcases bQX h1 hf with⟨hw,S1,hf1,h3⟩ | ⟨hw,S1,hf1,h3⟩
    ·rw[if_pos hw];refine .inl ?_;have h4:=cQC hg h3 hf1;have h5:=Oper.wp_mono (K':=fun a' w'=>C w'/\wpG c.g.P md ops.toArray (NoPan Q) C n (fun listed' a' w'=>Region.seqB md ops.toArray (ops.toArray.size-n) n listed'=true/\∃S',Fits c.N S' a'/\K S' w') m (listed.setIfInBounds i true) a' w')
      (fun a' w' ⟨S',hf',hc',hk'⟩=>⟨hc',(cQ8 hg hs hk t m _ S' a' w' inv' hk' hf' hc').1 hB'⟩) h4
     unfold Oper.wp at h5 ⊢;generalize (execOp a.eval op).run c.g.P w=r at*;cases r with
     | ok nx w'=>
      cases nx<;>simp only[Oper.upon] at h5 ⊢ <;> try exact h5
      exact h5.mono fun e w'' he=>by
       cases e with
       | returned v=>exact he
       | panicked ch=>obtain⟨_,_,he⟩:=he;exact he.elim
       | outgrown=>obtain⟨_,_,_,_,he⟩:=he;exact he.elim
     | halt x w'=>cases x<;>simp only[Oper.upon] at h5 ⊢ <;> first | exact h5 | (obtain⟨_,_,h5⟩:=h5;exact h5.elim)
    ·rw[if_neg (by rw[hw];decide)];obtain⟨S',hf',h'⟩:=aQo (e:=.v undef) h3 hf1;exact⟨hC,(cQ8 hg hs hk t m _ S' _ w inv' h' hf' hC).1 hB'⟩
   ·exact(cQ8 hg hs hk o (m+1) listed S a w inv h2 hf hC).2 m rfl hBo (fun j hj=>hall j (by simp[PT.alts,hj])) i hi
  refine⟨fun hB=>?_,fun m' hm hB hall=>?_⟩
  ·simp only[cQu,Bool.false_or,Bool.and_eq_true,decide_eq_true_eq] at hB;obtain⟨⟨hr,hB1⟩,hB2⟩:=hB;have hr2:Region.ready md ops.toArray listed=(PT.fork k t o).alts:=hr;refine⟨fun h0=>(by rw[hr] at h0;cases h0),fun i hi=>?_⟩;exact key (by simpa using hB1) hB2 (fun j hj=>by rw[hr2];exact hj) i (by rw[hr2] at hi;exact hi)
  ·simp only[cQu,Bool.true_or,Bool.true_and] at hB;rw[Bool.and_eq_true] at hB;have hmm:m'=m:=by omega
   subst hmm;exact key hB.1 hB.2 hall
theorem hQ7 (hg:c.g.Ok){id:Nat}{ops:List Oper}{w:World}{Q:cQB}(C:World->Prop)(n:Nat)(t:PT)
  (hB:(Region.noSelect ops.toArray&&iQy .any ops.toArray n&&cQu .any ops.toArray n t false n (Array.replicate ops.toArray.size false))=true) (hC:C w.drew)
  (h:kQg {c with named:=1000000} ops C t S w.drew (fun S w=>dQa c ops (ops.drop n) S w (fun S w=>Q .normal S w) (fun _ _ _=>False))):cQw c id ops S w Q:=by
 unfold cQw;intro a hf;simp only[Bool.and_eq_true] at hB;obtain⟨⟨hs,hsk⟩,hpl⟩:=hB;have hk:=dQZ hsk;have hnle:n<=ops.length:=by
  rcases hk with hk | hk
  ·rw[hk];simp
  ·have:=hk.1;simp at this;omega
 refine Code.wp_mono NoPan.imp (wp_region_any hg.mixed ?_);have inv0:HeadInv .any ops.toArray n (Array.replicate ops.toArray.size false):=
  ⟨by simp,fun j oj _ hl=>(by rw[getD_replicate_false] at hl;cases hl),fun t _ ht=>getD_in (by simpa using ht) (getD_replicate_false _ _)⟩
 have H:=(cQ8 (c:={c with named:=1000000}) hg (Q:=Up c Q) hs hk t n _ S a _ inv0 h hf hC).1 hpl;have hdl:(ops.drop n).length=ops.toArray.size-n:=by simp
 have H2:=dQC (Q:=NoPan (Up c Q)) (g:=ops.toArray.size-n) (fun listed' a' w' hL=>by
  obtain⟨hq,S',hf',hk'⟩:=hL;have h2:=bQI (c:=c) hg ops _ _ _ _ hk' hf';have:=wpAny_of_seq (P:=c.g.P) (md:=.any) (ops:=ops.toArray) (Q':=NoPan (Up c Q)) (ops.drop n) n listed' a' w' (fun j=>by simp) (by rw[hdl];exact hq) (bQF (fun e a w hq=>by
   cases e with
   | normal=>exact hq
   | _=>exact absurd hq (by rintro⟨_,_,h⟩;exact h)) h2)
  rwa [hdl] at this) _ _ _ _ H
 rw[show n+(ops.toArray.size-n)=ops.toArray.size by simp;omega] at H2;exact H2
theorem sQN {α:Type}{id:Nat}{ops:List Oper}{w:World}{Q:cQB}(sl:List Nat)(val:α->List Value)(R:α->World->Prop)
  (hx:dQX (fQ6 (.region id ops.toArray true)) S [] (fun S0=>cQw c id ops S w (fun e S2 w2=>match e with
   | .normal=>∃s,nQi sl (val s) S0 (fun T=>Has T S2)/\R s w2
   | e=>Q e S2 w2)))
  (hy:dQX (fQ6 (.region id ops.toArray true)) S [] (fun S0=>∀s w',R s w'->nQi sl (val s) S0 (fun S1=>Q .normal S1 w'))):cQw c id ops S w Q:=by
 rw[gQY] at hx hy;unfold cQw at*;intro a hf;generalize gQA (fQ6 (.region id ops.toArray true)) S []=S0 at*;have hsplit:∀s (K:Env->Prop),nQi sl (val s) S0 K->K ((sl.zip ((val s).map Ent.v)).reverse++S0):=fun s K h=>by
  obtain⟨T,rfl,hk⟩:=hQn h;exact hk
 refine Code.wp_mono (fun e a2 w2 hq=>?_) (hx a hf);obtain⟨S2,hf2,hq⟩:=hq;cases e with
 | normal=>
  obtain⟨s,hz,hR⟩:=hq;exact⟨_,(hsplit s _ hz).fits hf2,hsplit s _ (hy s w2 hR)⟩
 | exit i=>exact⟨S2,hf2,hq⟩
 | goto l=>exact⟨S2,hf2,hq⟩
 | ret=>exact⟨S2,hf2,hq⟩
 | panic ch=>exact⟨S2,hf2,hq⟩
 | outgrown=>exact⟨S2,hf2,hq⟩
end
end
end Go.Proofs.YtjabbbcdgmlojaaGreatDoor
