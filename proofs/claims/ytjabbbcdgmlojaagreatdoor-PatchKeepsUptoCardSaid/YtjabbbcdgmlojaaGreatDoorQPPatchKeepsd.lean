/-
  What PPatchKeeps rests on, part 4 (wip/shake.py).
  Conditions: none.
-/
import Derived.Test.YtjabbbcdgmlojaaGreatDoorQPPatchKeepsc
set_option linter.all false
set_option linter.deprecated false
set_option maxHeartbeats 12800000
namespace Go.Proofs.YtjabbbcdgmlojaaGreatDoor
open Go Go.RowKit
section
theorem fZ (a b:List Nat)(h:a.length+b.length<=100000):(Qd a).size+(Qd b).size<=maxLen:=by
 rw[Xe,Xe];unfold maxLen;omega
def RL (p q:List Nat)(b:Nat):List Nat:=
 if b=0∨b=1 then p else if b=2 then 33::p else if b=3 then p++ [32,38,38,32]++q else if b=4 then p++ [32,124,124,32,33]++q
 else if b=5 then [33,40]++p++ [32,38,38,32]++q++ [41] else if b=6 then [33]++p++ [38,38,33]++q else [116,114,117,101]
def Yu (nm:List (List Nat))(b:Nat):List Nat:=
 if nm=[] then([[116,114,117,101],[102,97,108,115,101],[33,102,97,108,115,101]][b % 3]?).getD []
 else RL ((nm[b/8 % nm.length]?).getD []) ((nm[(b/64+b/8+1) % nm.length]?).getD []) (b % 8)
theorem RN (nm:List (List Nat))(A:Option Addr)(n c:Nat)(b:Nat)(w:World)(h:Sl w 1 A n c (XB nm))(hl:∀s∈nm,s.length<=100)(hb:b<=255):
  Fn Tryz.prog 130 [.slice A n c,.int .u8 b] w (λv w'=>v= .string (Qd (Yu nm b))/\Ext w w'):=by
 have hn:nm.length=n:=by have:=h.len;rw[aU] at this;omega
 have bz:n<=9223372036854775807:=by have:=h.le;have:=h.cap;simp only[maxLen] at this;omega
 refine QF (c:={cQi with cuts:=[]}) Qa Tryz.func130 rfl rfl rfl ?_;refine X3 (λc1=>?_) (λc1=>?_)
 ·have xW:nm=[]:=Wg (by omega);have oI:Yu nm b=([[116,114,117,101],[102,97,108,115,101],[33,102,97,108,115,101]][b % 3]?).getD []:=Qf xW;have h3:b % 3<3:=aP _ (by decide);refine Xh Qa ([[116,114,117,101],[102,97,108,115,101],[33,102,97,108,115,101]].map (λs=>[Value.string (Qd s)])) rfl rfl rfl rfl rfl ⟨rfl,rfl,rfl,rfl,rfl,rfl,⟨⟩⟩ rfl (λcs h=>by simp only[X7] at h;obtain⟨s,_,rfl⟩:=h;rfl) rfl (by decide) (by decide) ?_;intro w1 Qe Q4 Qh;refine Qi ((b:Nat):Int) rfl (by omega) ?_;refine normIf (m:=((b % 3:Nat):Int)) (by decide) rfl ?_;refine index (j:=b % 3) h3 ?_;refine Qo Qh (v:=.string (Qd (([[116,114,117,101],[102,97,108,115,101],[33,102,97,108,115,101]][b % 3]?).getD []))) (by
   generalize b % 3=r at h3;rcases(show r=0∨r=1∨r=2 by omega)with rfl | rfl | rfl<;>rfl) ?_
  exact⟨by rw[oI],Qe⟩
 ·have QU:nm≠ []:=λe=>by rw[e] at hn;simp at hn;omega
  have W6:0<n:=by omega
  have oI:Yu nm b=RL ((nm[b/8 % nm.length]?).getD []) ((nm[(b/64+b/8+1) % nm.length]?).getD []) (b % 8):=if_neg QU;rw[hn] at oI;have l1:b/8 % n<n:=aP _ W6;have l2:(b/64+b/8+1) % n<n:=aP _ W6;have wN:IntKind.u8.wrap (((b:Nat):Int).tdiv 8)=((b/8:Nat):Int):=by
   show IntKind.u8.wrap ((b/8:Nat):Int)=_;rw[rW];omega
  have UY:IntKind.u8.wrap (((b:Nat):Int).tdiv 64)=((b/64:Nat):Int):=by
   show IntKind.u8.wrap ((b/64:Nat):Int)=_;rw[rW];omega
  have eK:nm[b/8 % n]? =some (nm[b/8 % n]'(by omega)):=Xp _;have cU:nm[(b/64+b/8+1) % n]? =some (nm[(b/64+b/8+1) % n]'(by omega)):=Xp _;have mQY:=hl _ (Xm eK);have mQZ:=hl _ (Xm cU);rw[eK,cU] at oI;simp only[fG] at oI;generalize nm[b/8 % n]'(by omega)=p at*;generalize nm[(b/64+b/8+1) % n]'(by omega)=q at*;have ps:=Xe p;have qs:=Xe q;refine normIf (m:=((b/8:Nat):Int)) (by decide) wN ?_;refine Qi ((b/8:Nat):Int) rfl (by omega) ?_;refine normIf (m:=((b/8 % n:Nat):Int)) (by omega) (dD _ _) ?_;refine KC h l1 (λad u hA hu Xq=>?_);rw[j8 eK] at hu;cases hu;refine load Xq ?_;refine normIf (m:=((b/64:Nat):Int)) (by decide) UY ?_;refine normIf (m:=((b/8:Nat):Int)) (by decide) wN ?_;refine norm (m:=((b/64+b/8:Nat):Int)) (by show IntKind.u8.wrap (((b/64:Nat):Int)+((b/8:Nat):Int))=_;rw[<-Int.natCast_add,rW];omega) ?_;refine norm (m:=((b/64+b/8+1:Nat):Int)) (by show IntKind.u8.wrap (((b/64+b/8:Nat):Int)+((1:Nat):Int))=_;rw[<-Int.natCast_add,rW];omega) ?_;refine Qi ((b/64+b/8+1:Nat):Int) rfl (by omega) ?_;refine normIf (m:=(((b/64+b/8+1) % n:Nat):Int)) (by omega) (dD _ _) ?_;refine KC h l2 (λad' u' Dz gv lQ1=>?_);rw[j8 cU] at gv;cases gv;refine load lQ1 ?_;have d4:((b:Nat):Int).tmod 8=((b % 8:Nat):Int):=dD b 8;have m8:b % 8<8:=aP _ (by decide);generalize b % 8=r at d4 m8 oI;refine normIf (m:=((r:Nat):Int)) (by decide) d4 ?_;clear d4 wN UY;rw[oI];rcases(show r=0∨r=1∨r=2∨r=3∨r=4∨r=5∨r=6∨r=7 by omega)with rfl | rfl | rfl | rfl | rfl | rfl | rfl | rfl
  ·refine Q8 rfl ?_;exact⟨rfl,Ext.refl _⟩
  ·refine Q3 rfl ?_;refine Q8 rfl ?_;exact⟨rfl,Ext.refl _⟩
  ·refine Q3 rfl ?_;refine Q3 rfl ?_;refine Q8 rfl ?_;refine XH (v':=.string (Qd ([33]++p))) (fZ [33] p (by simp;omega)) (QC Value.string (ZV [33] p)) ?_;exact⟨rfl,Ext.refl _⟩
  ·refine Q3 rfl ?_;refine Q3 rfl ?_;refine Q3 rfl ?_;refine Q8 rfl ?_;refine XH (v':=.string (Qd (p++ [32,38,38,32]))) (fZ p [32,38,38,32] (by simp;omega)) (QC Value.string (ZV p [32,38,38,32])) ?_;refine XH (v':=.string (Qd ((p++ [32,38,38,32])++q))) (fZ (p++ [32,38,38,32]) q (by simp;omega)) (QC Value.string (ZV (p++ [32,38,38,32]) q)) ?_;exact⟨rfl,Ext.refl _⟩
  ·refine Q3 rfl ?_;refine Q3 rfl ?_;refine Q3 rfl ?_;refine Q3 rfl ?_;refine Q8 rfl ?_;refine XH (v':=.string (Qd (p++ [32,124,124,32,33]))) (fZ p [32,124,124,32,33] (by simp;omega)) (QC Value.string (ZV p [32,124,124,32,33])) ?_;refine XH (v':=.string (Qd ((p++ [32,124,124,32,33])++q))) (fZ (p++ [32,124,124,32,33]) q (by simp;omega)) (QC Value.string (ZV (p++ [32,124,124,32,33]) q)) ?_;exact⟨rfl,Ext.refl _⟩
  ·refine Q3 rfl ?_;refine Q3 rfl ?_;refine Q3 rfl ?_;refine Q3 rfl ?_;refine Q3 rfl ?_;refine Q8 rfl ?_;refine XH (v':=.string (Qd ([33,40]++p))) (fZ [33,40] p (by simp;omega)) (QC Value.string (ZV [33,40] p)) ?_;refine XH (v':=.string (Qd (([33,40]++p)++ [32,38,38,32]))) (fZ ([33,40]++p) [32,38,38,32] (by simp;omega)) (QC Value.string (ZV ([33,40]++p) [32,38,38,32])) ?_;refine XH (v':=.string (Qd (([33,40]++p++ [32,38,38,32])++q))) (fZ ([33,40]++p++ [32,38,38,32]) q (by simp;omega)) (QC Value.string (ZV ([33,40]++p++ [32,38,38,32]) q)) ?_;refine XH (v':=.string (Qd (([33,40]++p++ [32,38,38,32]++q)++ [41]))) (fZ ([33,40]++p++ [32,38,38,32]++q) [41] (by simp;omega)) (QC Value.string (ZV ([33,40]++p++ [32,38,38,32]++q) [41])) ?_;exact⟨rfl,Ext.refl _⟩
  ·refine Q3 rfl ?_;refine Q3 rfl ?_;refine Q3 rfl ?_;refine Q3 rfl ?_;refine Q3 rfl ?_;refine Q3 rfl ?_;refine Q8 rfl ?_;refine XH (v':=.string (Qd ([33]++p))) (fZ [33] p (by simp;omega)) (QC Value.string (ZV [33] p)) ?_;refine XH (v':=.string (Qd (([33]++p)++ [38,38,33]))) (fZ ([33]++p) [38,38,33] (by simp;omega)) (QC Value.string (ZV ([33]++p) [38,38,33])) ?_;refine XH (v':=.string (Qd (([33]++p++ [38,38,33])++q))) (fZ ([33]++p++ [38,38,33]) q (by simp;omega)) (QC Value.string (ZV ([33]++p++ [38,38,33]) q)) ?_;exact⟨rfl,Ext.refl _⟩
  ·refine Q3 rfl ?_;refine Q3 rfl ?_;refine Q3 rfl ?_;refine Q3 rfl ?_;refine Q3 rfl ?_;refine Q3 rfl ?_;refine Q3 rfl ?_;exact⟨rfl,Ext.refl _⟩
def gQG (p q:Fm)(b:Nat):Fm:=
 if b=0∨b=1 then p else if b=2 then .not p else if b=3 then .and p q else if b=4 then .or p (.not q)else if b=5 then .not (.and p q)else if b=6 then .and (.not p) (.not q)else .c true
def AH (k b:Nat):Fm:=if k=0 then(if b % 3=0 then .c true else if b % 3=1 then .c false else .not (.c false))else gQG (.v (b/8 % k)) (.v ((b/64+b/8+1) % k)) (b % 8)
def pQ (k b:Nat):Bool:=match fW (ZJ.take k) (Yu (ZJ.take k) b)with
 | .ok t=>decide (t=AH k b)
 | .error _=>false
theorem wg {k b:Nat}(h:pQ k b=true):fW (ZJ.take k) (Yu (ZJ.take k) b)= .ok (AH k b):=by
 unfold pQ at h;split at h
 ·rename_i t ht;rw[ht,aQ h]
 ·cases h
theorem gQH:(List.range 256).all (pQ 4)=true:=by decide+kernel
theorem gQI:(List.range 256).all (pQ 3)=true:=by decide+kernel
theorem gQJ:(List.range 256).all (pQ 2)=true:=by decide+kernel
theorem gQK:(List.range 256).all (pQ 1)=true:=by decide+kernel
theorem gQL:(List.range 256).all (pQ 0)=true:=by decide+kernel
theorem gQM {k b:Nat}(hk:k<=4)(hb:b<=255):fW (ZJ.take k) (Yu (ZJ.take k) b)= .ok (AH k b):=by
 have hm:b∈List.range 256:=jS.2 (by omega);rcases(show k=0∨k=1∨k=2∨k=3∨k=4 by omega)with rfl | rfl | rfl | rfl | rfl
 ·exact wg (Ym.1 gQL b hm)
 ·exact wg (Ym.1 gQK b hm)
 ·exact wg (Ym.1 gQJ b hm)
 ·exact wg (Ym.1 gQI b hm)
 ·exact wg (Ym.1 gQH b hm)
def s7 (k b:Nat):BF:=evF (AH k b)
theorem gQN {k b:Nat}(hk:k<=4)(hb:b<=255):VH (ZJ.take k) (Yu (ZJ.take k) b)= .ok (s7 k b):=by
 unfold VH;rw[gQM hk hb]<;>rfl
theorem gQO (x:Nat)(hx:x<256):IntKind.u8.wrap ((BitVec.ofInt 8 (x:Int) &&& BitVec.ofInt 8 1).toNat)=((x % 2:Nat):Int):=by
 have e:(BitVec.ofInt 8 (x:Int) &&& BitVec.ofInt 8 1).toNat=x % 2:=by
  rw[BitVec.ofInt_natCast,show BitVec.ofInt 8 1=BitVec.ofNat 8 1 from rfl,BitVec.toNat_and,BitVec.toNat_ofNat,BitVec.toNat_ofNat];rw[jR (by omega),show 1 % 2^8=1 by decide,Nat.and_one_is_mod]
 rw[e];rcases(show x % 2=0∨x % 2=1 by omega)with h | h<;>rw[h]<;>decide
theorem gQP (q:Nat):(((q:Nat):Int)==1)=decide (q=1):=by
 by_cases h:q=1
 ·subst h;rfl
 ·rw[Zq h];exact beq_eq_false_iff_ne.2 (by omega)
theorem RO (k:Nat)(hk:k<=1000000):IntKind.i64.wrap ((k:Int).tdiv 8)=((k/8:Nat):Int):=by
 rw[show(8:Int)=((8:Nat):Int) from rfl,bQF];exact IntWalk.i64_in _ (by omega)
theorem gQQ (v:Nat)(hv:v<=6):IntKind.i64.wrap (1*2^(min ((v:Nat):Int).toNat IntKind.i64.bits))=((2^v:Nat):Int):=by
 rcases(show v=0∨v=1∨v=2∨v=3∨v=4∨v=5∨v=6 by omega)with rfl | rfl | rfl | rfl | rfl | rfl | rfl<;>decide
theorem RQ (l:List Nat)(A:Option Addr)(n c N:Nat)(w0:World)(h:Sl w0 1 A n c (Vb l))(h8:∀x∈l,x<=255)(hN:N<=6):∀(d v k:Nat)(w:World),Ext w0 w->v+d=N->k<2^v->
  Fn Tryz.prog 72 [.slice A n c,.int .i64 N,.int .i64 v,.int .i64 k] w (gQ w N (bQ l d v k))
 | 0,v,k,w,hE,hv,hk=>by
  have hn:l.length=n:=by have:=h.len;rw[rY] at this;omega
  have p6:2^v<=2^6:=aO (by decide) (by omega);have G9:n<=9223372036854775807:=by have:=h.le;have:=h.cap;simp only[maxLen] at this;omega
  refine QF (c:={NV with cuts:=[]}) Qa Tryz.func72 rfl rfl rfl ?_;refine new (λw1 Qe Q4 Qh=>?_);refine Jp (by omega) ?_;refine normIf (m:=((k/8:Nat):Int)) (by decide) (RO k (by omega)) ?_;have fin:∀b:Bool,b=AA l k->∀w2,Ext w1 w2->∀w3,w2.grownBy w3 (some w.heap.size)->gQ w N (bQ l 0 v k) (Xk none 0 0 (if b then 1 else 0)) w3:=λb hb w2 Qg w3 Z7=>by
   have Z1:Mod (·=w.heap.size) w2 w3:=nQQ Z7 rfl;exact⟨none,0,0,[],_,rfl,Z1.ext (Qe.trans Qg) (λi hi=>by omega),SlS.nil _,(aW N b).congr (λ_=>by rw[hb];rfl),λi hi=>by obtain⟨_,e,_⟩:=hi;cases e⟩
  refine Qz (λh1=>?_) (λh1=>?_)
  ·refine normIf (m:=((k/8:Nat):Int)) (by decide) (RO k (by omega)) ?_;have hg:=Xp (show k/8<l.length by omega);generalize l[k/8]=x at hg;have G7:=h8 x (Xm hg);refine KC ((h.ext hE).ext Qe) (by omega) (λad u hA hu Xq=>?_);rw[px hg] at hu;cases hu;refine load Xq ?_;have m8:k % 8<8:=aP _ (by decide);refine NG (d:=8) (by decide) ?_;refine norm (m:=((k % 8:Nat):Int)) (IntWalk.u64_in _ (by omega)) ?_;refine Es (k % 8) (2^(k % 8)) (by omega) (by show min ((k % 8:Nat):Int).toNat 8=_;omega) rfl ?_;have Xc:x/2^(k % 8)<256:=Nat.lt_of_le_of_lt (Nat.div_le_self _ _) (by omega);refine norm (m:=((x/2^(k % 8) % 2:Nat):Int)) (gQO _ Xc) ?_;refine call (vZ (((x/2^(k % 8) % 2:Nat):Int)==1) w1) ?_;rintro _ w2 ⟨rfl,Qg⟩;refine Qv (Qh.ext Qg) rfl (sc rfl) (λw3 Z7 _ Qu=>?_);refine Qt Qu rfl ?_;refine fin _ ?_ w2 Qg w3 Z7;unfold AA;rw[Zy (show k/8<l.length by omega),hg];simp only[fG,cw];exact gQP _
  ·refine call (vZ false w1) ?_;rintro _ w2 ⟨rfl,Qg⟩;refine Qv (Qh.ext Qg) rfl (sc rfl) (λw3 Z7 _ Qu=>?_);refine Qt Qu rfl ?_;refine fin false ?_ w2 Qg w3 Z7;unfold AA;rw[Zq (show¬k/8<l.length by omega)]<;>rfl
 | d+1,v,k,w,hE,hv,hk=>by
  have p6:2^v<=2^6:=aO (by decide) (by omega);have ps:2^(v+1)=2^v+2^v:=by rw[lT];omega
  have ih:=RQ l A n c N w0 h h8 hN d;refine QF (c:={NV with cuts:=[]}) Qa Tryz.func72 rfl rfl rfl ?_;refine new (λw1 Qe Q4 Qh=>?_);refine Xy (by omega) ?_;refine call (eQx (v:Nat) w1 (by omega) (by omega)) ?_;rintro _ w2 ⟨XA,xn,xc,rfl,Qg,Kw,_⟩;refine new (λw3 Qj JC Qu=>?_);refine Qv Qu rfl (sc rfl) (λw4 cT _ Q7=>?_);have J1:Ext w2 w4:=X9 Qj Qu cT;have JN:=Qg.trans J1;have XG:=Qe.trans JN;have YN:=Kw.ext J1;have sv:=FP (k:=N) (v:=v) (by omega) (by omega);have qB:∀w',Ext w4 w'->∀(j:Nat) (u:Value),[Value.slice XA xn xc,.int .i64 2][j]? =some u->w'.cell? ((⟨w2.heap.size,0,none⟩:Addr).add j)=some u:=λw' Qb j u hj=>by rw[(Q7.ext Qb).cell];exact hj
  refine XK Qa (Ext w4) 21 [(true,0),(true,1),(true,2),(true,3),(true,4),(true,5),(true,6),(true,7),(true,8),(true,9),(true,12),(true,13),(true,14),(true,15),(true,16),(true,18),(false,10),(false,11),(false,17),(false,19),(false,20)] (by kernel_rfl) (Ext.drew w4) ?_;refine Xs (vs:=[.slice XA xn xc,.int .i64 2]) rfl (λw' Qb j u hj=>qB w' Qb j u hj) ?_;refine Qi ((v+1:Nat):Int) (by omega) (by omega) ?_;refine norm (m:=((v:Nat):Int)) (IntWalk.u64_in _ (by omega)) ?_;refine normIf (m:=((2^v:Nat):Int)) (by omega) (gQQ v (by omega)) ?_;refine Qi ((k+2^v:Nat):Int) (by omega) (by omega) ?_;refine Qi ((v+1:Nat):Int) (by omega) (by omega) ?_;refine Xs (vs:=[.slice XA xn xc,.int .i64 2]) rfl (λw' Qb j u hj=>qB w' Qb j u hj) ?_;refine call (ih (v+1) (k+2^v) _ ((hE.trans XG).trans (Ext.drew w4)) (by omega) (by omega)) ?_;rintro _ w5 ⟨T1,t1n,t1c,nd1,r1,rfl,Qw,hT1,KS,_⟩;have aB:=(Ext.drew w4).trans Qw;refine⟨aB,?_⟩;refine call (Ry (by omega) XA xn xc T1 t1n t1c w5 (YN.ext aB) hT1 sv KS) ?_;rintro _ w6 ⟨U1,u1n,u1c,ud1,q1,rfl,QO,hU1,qC,_⟩;have XF:=aB.trans QO;refine⟨XF,?_⟩;refine call (ih (v+1) k _ ((hE.trans XG).trans XF) (by omega) (by omega)) ?_;rintro _ w7 ⟨T2,t2n,t2c,jv,r2,rfl,Xb,Wv,Ho,_⟩;have Ye:=XF.trans Xb;refine⟨Ye,?_⟩;refine call (gQr (by omega) T2 t2n t2c XA xn xc w7 Wv (YN.ext Ye) Ho sv) ?_;rintro _ w8 ⟨U2,u2n,u2c,ud2,q2,rfl,Xl,m7,BQ,_⟩;have jz:=Ye.trans Xl;refine⟨jz,?_⟩;refine call (gQp (by omega) U1 u1n u1c U2 u2n u2c w8 ((hU1.ext Xb).ext Xl) m7 qC BQ) ?_;rintro _ w9 ⟨U3,u3n,u3c,ud3,q3,rfl,Xt,hU3,kW,np⟩;have tU:=jz.trans Xt;refine⟨tU,?_⟩;have Yw:=(XG.trans jz).size;have kQb:=(JN.trans jz).size;refine Qv ((Qh.ext JN).ext tU) rfl (sc rfl) (λQy ir _ JM=>?_);have Zo:Mod (·=w.heap.size) w9 Qy:=nQQ ir rfl;refine Qt JM rfl ?_;refine⟨U3,u3n,u3c,ud3,q3,rfl,Zo.ext (XG.trans tU) (λi hi=>by omega),hU3.mod Zo (λi hi e=>by have:=np i hi;omega),kW.congr (λe=>?_),λi hi=>by have:=np i hi;omega⟩;show Kv 1 (Kv 0 (e v) (bQ l d (v+1) (k+2^v) e)) (bQ l d (v+1) k e && !e v)=if e v then bQ l d (v+1) (k+2^v) e else bQ l d (v+1) k e
  cases e v<;>simp[Kv]
theorem f9 (l:List Nat)(A:Option Addr)(n c N:Nat)(w:World)(h:Sl w 1 A n c (Vb l))(h8:∀x∈l,x<=255)(hN:N<=6):
  Fn Tryz.prog 28 [.slice A n c,.int .i64 N] w (gQ w N (bQ l N 0 0)):=by
 refine QF (c:={c28 with cuts:=[]}) Qa Tryz.func28 rfl rfl rfl ?_;refine new (λw1 Qe Q4 Qh=>?_);refine norm (m:=((N:Nat):Int)) (by split<;>omega) ?_;refine norm (m:=((N:Nat):Int)) (by split<;>omega) ?_;refine call (RQ l A n c N w1 (h.ext Qe) h8 hN N 0 0 w1 (Ext.refl _) (by omega) (by decide)) ?_;rintro _ w2 ⟨U,un,uc,nd,r,rfl,Qg,hU,hS,hR⟩;refine Qv (Qh.ext Qg) rfl (sc rfl) (λw3 Z7 _ Qu=>?_);have Z1:Mod (·=w.heap.size) w2 w3:=nQQ Z7 rfl;refine Qt Qu rfl ?_;exact⟨U,un,uc,nd,r,rfl,Z1.ext (Qe.trans Qg) (λi hi=>by omega),hU.mod Z1 (λi hi e=>by have:=hR i hi;omega),hS,λi hi=>by have:=hR i hi;omega⟩
theorem gQR {s:List Nat}(h:s.head? ≠some 35):Zn s= .txt:=by
 unfold Zn;cases s with
 | nil=>rfl
 | cons b t=>
  have hb:b≠35:=λe=>h (by rw[e];rfl)
  have e1:ZQ.isPrefixOf (b::t)=false:=by simp[ZQ,List.isPrefixOf,hb.symm]
  have e2:pInc.isPrefixOf (b::t)=false:=by simp[pInc,List.isPrefixOf,hb.symm]
  have e3:pElif.isPrefixOf (b::t)=false:=by simp[pElif,List.isPrefixOf,hb.symm]
  rw[e1,e2,e3,if_neg (by decide),if_neg (by decide),if_neg (by decide),if_neg (by simp[V0,hb]),if_neg (by simp[ZK,hb])]
theorem gQS (ls:List (List Nat)):aX (Qp ls)=true:=by
 unfold aX;rcases Fo ls with h | h
 ·rw[h]<;>rfl
 ·rw[h];simp
theorem gQT {ls:List (List Nat)}(h:∀s∈ls,∀x∈s,x<256):∀x∈Qp ls,x<256:=λx hx=>by
 unfold Qp at hx;obtain⟨s,hs,hxs⟩:=WE.1 hx;rcases XM.1 hxs with hxs | hxs
 ·exact h s hs x hxs
 ·simp only[QN] at hxs;subst hxs;decide
theorem RR (ls:List (List Nat))(s:List Nat):Qp (ls++ [s])=Qp ls++(s++ [10]):=by simp[Qp]
theorem RT {l:List Nat}:∀{names:List (List Nat)}{i:Nat}{QQ:Option Nat},l∉names->dH l names i QQ=QQ
 | [],_,_,_=>rfl
 | s::names,i,QQ,h=>by
  simp only[Q1,not_or] at h;rw[dH,if_neg (λe=>h.1 e.symm)];exact RT h.2
theorem gQU {x:List Nat}{l:List (List Nat)}(h:x∉l):Jd (x::l) x=some 0:=by
 unfold Jd;rw[dH,Qf rfl];exact RT h
theorem gQV (F:List Nat):Zn (ZQ++F)= .ifd F:=by simp[Zn,ZQ,List.isPrefixOf]
theorem gQW (F:List Nat):Zn (pElif++F)= .elif F:=by simp[Zn,ZQ,pElif,pInc,List.isPrefixOf]
abbrev CB:=List (Nat×BF)
def aY (g:Gs):CB:=g.sg.flatMap (λs=>(Vf g.tx s).map (λb=>(b,s.o)))
theorem RU {tx s:List Nat}{x:Sg}(h:x.t<=tx.length):Vf (tx++s) x=Vf tx x:=by
 unfold Vf;rw[DX h]
theorem RW (g:Gs)(b:Bool):aY {g with fr:=b}=aY g:=rfl
theorem FU {tx s:List Nat}:∀{l:List Sg},(∀x∈l,x.t<=tx.length)->l.flatMap (λx=>(Vf (tx++s) x).map (λb=>(b,x.o)))=l.flatMap (λx=>(Vf tx x).map (λb=>(b,x.o)))
 | [],_=>rfl
 | x::l,h=>by rw[Yl,Yl,FU (λy hy=>h y (by simp[hy])),RU (h x (by simp))]
theorem gQX {fs:List (List Nat×List Nat)}{n p:Nat}{k:BF}{g g':Gs}{s:List Nat}(h:GInv fs g)(hc:gT n p k g)(ha:KZ s n p k g=some g'):aY g'=aY g++s.map (λb=>(b,k)):=by
 unfold KZ at ha;split at ha
 ·cases ha
 cases ha;cases hf:g.fr with
 | true=>
  rw[Qf rfl,gO];unfold aY;simp only;rw[WF,FU (λx hx=>(h.ok x hx).tl)];congr 1;simp only[Yl,rM,KW];congr 1;unfold Vf;simp only;rw[Jc (by simp),o0]
 | false=>
  rw[if_neg (by decide)];obtain⟨l,y,e,e1,e2,e3⟩:=hc hf;have Jj:=h.ch;have X0:=h.ok;rw[e] at Jj X0;rw[ChG.snoc] at Jj;have hy:=X0 y (by simp);rw[e,gO];unfold aY;simp only;rw[e,WF,WF,FU (λx hx=>(X0 x (by simp[hx])).tl),J7];congr 1;have h1:=hy.ft;have h2:=Jj.2;have e4:Vf (g.tx++s) {y with t:=g.tx.length+s.length}=Vf g.tx y++s:=by
   unfold Vf;simp only;rw[Jc (by simp),M4 (by omega),h2,lR]
  simp only[Yl,rM,KW];rw[e4,ep,e3]
theorem RX {tx:List Nat}:∀{l:List Sg}{a:Nat},ChG a l tx.length->(∀x∈l,x.f<x.t/\x.t<=tx.length)->(l.flatMap (λx=>(Vf tx x).map (λb=>(b,x.o)))).map (·.1)=tx.drop a
 | [],a,h,_=>by
  have:a=tx.length:=h;subst this;simp
 | x::l,a,h,hx=>by
  obtain⟨h1,h2⟩:=hx x (by simp);rw[Yl,ep,RX h.2 (λy hy=>hx y (by simp[hy]))];have:x.f=a:=h.1;subst this;rw[oV];rw[show((λ(p:Nat×BF)=>p.1)∘λb=>(b,x.o))=id from rfl,List.map_id];unfold Vf
  conv=>rhs;rw[<-lQ x.t tx]
  rw[M4 (by rw[K8];omega)]
theorem gQY {fs:List (List Nat×List Nat)}{g:Gs}(h:GInv fs g):(aY g).map (·.1)=g.tx:=by
 have:=RX h.ch (λx hx=>⟨(h.ok x hx).ft,(h.ok x hx).tl⟩);rw[rK] at this;exact this
theorem gQZ {fs:List (List Nat×List Nat)}{g:Gs}(h:GInv fs g):(aY g).length=g.tx.length:=by
 rw[<-gQY h,JF]
theorem RY {tx:List Nat}:∀{l:List Sg}{a:Nat},ChG a l tx.length->(∀x∈l,x.f<x.t/\x.t<=tx.length)->a+l.length<=tx.length
 | [],a,h,_=>by have:a=tx.length:=h;simp;omega
 | x::l,a,h,hx=>by
  have h1:=hx x (by simp);have h2:=RY h.2 (λy hy=>hx y (by simp[hy]));have:x.f=a:=h.1;simp only[Q6];omega
theorem gQ0 {fs:List (List Nat×List Nat)}{g:Gs}(h:GInv fs g):g.sg.length<=g.tx.length:=by
 have:=RY h.ch (λx hx=>⟨(h.ok x hx).ft,(h.ok x hx).tl⟩);omega
inductive Mn where
 | tx (s:List Nat)
 | ifd (F:List Nat) (o:BF)
 | elif (F:List Nat) (o:BF)
 | els
 | en
 | inc
def wh:List Nat:=[34,110,34]
def Jz:Mn->List Nat
 | .tx s=>s
 | .ifd F _=>ZQ++F
 | .elif F _=>pElif++F
 | .els=>V0
 | .en=>ZK
 | .inc=>pInc++wh
structure TxOk (s:List Nat):Prop where
 nl:10∉s
 dr:Zn s= .txt
 b8:∀x∈s,x<256
structure FOk (nm:List (List Nat)) (F:List Nat) (o:BF):Prop where
 nl:10∉F
 st:VH nm F= .ok o
 b8:∀x∈F,x<256
def J9 (nm:List (List Nat))(ic:Bool)(D:Nat):List Bool->List Mn->Prop
 | [],[]=>True
 | _::_,[]=>False
 | op,.tx s::l=>TxOk s/\J9 nm ic D op l
 | op,.ifd F o::l=>FOk nm F o/\op.length<D/\J9 nm ic D (false::op) l
 | false::op,.elif F o::l=>FOk nm F o/\J9 nm ic D (false::op) l
 | false::op,.els::l=>J9 nm ic D (true::op) l
 | _::op,.en::l=>J9 nm ic D op l
 | op,.inc::l=>ic=true/\J9 nm ic D op l
 | _,_=>False
def Ki (ie:BF->CB):List Mn->BF->List (BF×BF)->CB
 | [],_,_=>[]
 | .tx s::l,k,op=>(s++ [10]).map (λb=>(b,k))++Ki ie l k op
 | .ifd _ o::l,k,op=>Ki ie l (ZW k o) ((k,KG k o)::op)
 | .elif _ o::l,k,op=>match op with
  | []=>[]
  | (ou,re)::op=>Ki ie l (ZW re o) ((ou,KG re o)::op)
 | .els::l,k,op=>match op with
  | []=>[]
  | (ou,re)::op=>Ki ie l re ((ou,re)::op)
 | .en::l,k,op=>match op with
  | []=>[]
  | (ou,_)::op=>Ki ie l ou op
 | .inc::l,k,op=>ie k++Ki ie l k op
theorem gQ1 (F:List Nat):Zn (pInc++F)= .inc F:=by simp[Zn,ZQ,pInc,List.isPrefixOf]
abbrev jf (op:List Se):List (BF×BF):=op.map (λx=>(x.ou,x.re))
abbrev cN (op:List Se):List Bool:=op.map (·.ot)
theorem gQ2 {fs:List (List Nat×List Nat)}{g:Gs}{s:List Nat}{n p:Nat}{k:BF}(h:GInv fs g)(hl:(aY g).length+s.length<=60000):∃g',KZ s n p k g=some g':=by
 have h1:=gQZ h;have h2:=gQ0 h;unfold KZ;rw[if_neg (by intro hh;rcases hh with hh | ⟨_,hh⟩<;>omega)];exact⟨_,rfl⟩
theorem RZ {nm:List (List Nat)}{fs:List (List Nat×List Nat)}{n d0:Nat}{inc:mE}{x:List Nat×List Nat}(hx:fs[n]? =some x){ic:Bool}{D:Nat}{ie:BF->CB}
  (hi:ic=true->∀ln d k g,GInv fs g->d0<=d->d<=d0+D->(aY g).length+(ie k).length<=60000->∃g',inc wh ln d k g= .ok g'/\GInv fs g'/\aY g'=aY g++ie k) (Ie:d0+D<64):
  ∀(l:List Mn) (ln at_:Nat) (k:BF) (op:List Se) (g:Gs),x.2.drop at_=Qp (l.map Jz)->at_<=x.2.length->GInv fs g->gT n at_ k g->J9 nm ic D (cN op) l->op.length<=D->(aY g).length+(Ki ie l k (jf op)).length<=60000->
   ∃g',ZX nm n d0 inc (l.map Jz) ln at_ k op g= .ok g'/\GInv fs g'/\aY g'=aY g++Ki ie l k (jf op)
 | [],ln,at_,k,op,g,_,_,hg,_,hw,_,_=>by
  cases op with
  | nil=>exact⟨{g with fr:=true},rfl,hg.fr true,by rw[Ki,KW];rfl⟩
  | cons y op=>exact hw.elim
 | m::l,ln,at_,k,op,g,cr,bA,hg,hc,hw,Zm,QY=>by
  have DB:x.2.drop at_=(Jz m++ [10])++Qp (l.map Jz):=by rw[cr,Vl,V3];simp
  generalize hs:Jz m=s at DB;have hL:(s++ [10]).length=s.length+1:=by simp
  have gw:x.2.length-at_=s.length+1+(Qp (l.map Jz)).length:=by
   have:=QC List.length DB;simp only[Wj,Qq,Q6,Jn] at this;omega
  have az:x.2.drop (at_+s.length+1)=Qp (l.map Jz):=by
   rw[show at_+s.length+1=at_+(s++ [10]).length by simp;omega,<-lP,DB,o0]
  have ih:=λk op g h1 h2 h3 h4 h5=>RZ (nm:=nm) hx hi Ie l (ln+1) (at_+s.length+1) k op g az (by omega) h1 h2 h3 h4 h5
  have cf:∀k' (g:Gs),gT n (at_+s.length+1) k' {g with fr:=true}:=λk' g h=>by cases h
  rw[Vl,hs];cases m with
  | tx t=>
   have ht:t=s:=hs;subst ht;obtain⟨w1,w2⟩:TxOk t/\J9 nm ic D (cN op) l:=by cases op<;>exact hw
   rw[Ki,Qq,JF] at QY;obtain⟨g1,ha⟩:=gQ2 (s:=t++ [10]) (n:=n) (p:=at_) (k:=k) hg (by omega);obtain⟨i1,i2⟩:=FT hg hc hx (by rw[hL,<-jP,az];exact DB) (by rw[hL];omega) (by simp) ha;have i3:=gQX hg hc ha;rw[kI w1.dr,ha];obtain⟨g',r1,r2,r3⟩:=ih k op g1 i1 (by rw[hL,<-jP] at i2;exact i2) w2 Zm (by rw[i3,Qq,JF];omega);exact⟨g',r1,r2,by rw[r3,i3,Ki,J7]⟩
  | ifd F o=>
   have ht:ZQ++F=s:=hs;obtain⟨w1,w2,w3⟩:FOk nm F o/\(cN op).length<D/\J9 nm ic D (false::cN op) l:=by cases op<;>exact hw
   simp only[JF] at w2;have XX:Zn s= .ifd F:=by rw[<-ht];exact gQV _
   rw[As XX,w1.st];simp only;rw[if_neg (by omega)];rw[Ki] at QY ⊢;exact ih _ (⟨k,KG k o,false,ln+1⟩::op) {g with fr:=true} (hg.fr true) (cf _ _) w3 (by simp;omega) QY
  | elif F o=>
   have ht:pElif++F=s:=hs;cases op with
   | nil=>exact hw.elim
   | cons y op=>
    have dm:y.ot=false:=by
     cases ho:y.ot with
     | false=>rfl
     | true=>
      have hw:J9 nm ic D (y.ot::cN op) (.elif F o::l):=hw;rw[ho] at hw;exact hw.elim
    obtain⟨w1,w3⟩:FOk nm F o/\J9 nm ic D (false::cN op) l:=by
     have hw:J9 nm ic D (y.ot::cN op) (.elif F o::l):=hw;rw[dm] at hw;exact hw
    have XX:Zn s= .elif F:=by rw[<-ht];exact gQW _
    rw[At XX,w1.st];simp only;rw[if_neg (by rw[dm];decide)];have e:Ki ie (.elif F o::l) k (jf (y::op))=Ki ie l (ZW y.re o) (jf ({y with re:=KG y.re o}::op)):=rfl;rw[e] at QY ⊢;exact ih _ ({y with re:=KG y.re o}::op) {g with fr:=true} (hg.fr true) (cf _ _) (by rw[<-dm] at w3;exact w3) Zm QY
  | els=>
   have ht:V0=s:=hs;subst ht;cases op with
   | nil=>exact hw.elim
   | cons y op=>
    have dm:y.ot=false:=by
     cases ho:y.ot with
     | false=>rfl
     | true=>
      have hw:J9 nm ic D (y.ot::cN op) (.els::l):=hw;rw[ho] at hw;exact hw.elim
    have w3:J9 nm ic D (true::cN op) l:=by
     have hw:J9 nm ic D (y.ot::cN op) (.els::l):=hw;rw[dm] at hw;exact hw
    rw[Av fQG];simp only;rw[if_neg (by rw[dm];decide)];have e:Ki ie (.els::l) k (jf (y::op))=Ki ie l y.re (jf ({y with ot:=true}::op)):=rfl;rw[e] at QY ⊢;exact ih _ ({y with ot:=true}::op) {g with fr:=true} (hg.fr true) (cf _ _) w3 Zm QY
  | en=>
   have ht:ZK=s:=hs;subst ht;cases op with
   | nil=>exact hw.elim
   | cons y op=>
    have w3:J9 nm ic D (cN op) l:=by
     have hw:J9 nm ic D (y.ot::cN op) (.en::l):=hw;cases hy:y.ot<;>rw[hy] at hw<;>exact hw
    rw[FL fQH];have e:Ki ie (.en::l) k (jf (y::op))=Ki ie l y.ou (jf op):=rfl;rw[e] at QY ⊢;exact ih _ op {g with fr:=true} (hg.fr true) (cf _ _) w3 (by simp at Zm;omega) QY
  | inc=>
   have ht:pInc++wh=s:=hs;subst ht;obtain⟨w1,w2⟩:ic=true/\J9 nm ic D (cN op) l:=by
    cases op with
    | nil=>exact hw
    | cons y op=>
     have hw:J9 nm ic D (y.ot::cN op) (.inc::l):=hw;cases hy:y.ot<;>rw[hy] at hw<;>refine⟨hw.1,?_⟩<;>show J9 nm ic D (y.ot::cN op) l<;>rw[hy]<;>exact hw.2
   rw[Ki,Qq] at QY;obtain⟨g1,j1,j2,j3⟩:=hi w1 (ln+1) (d0+op.length) k g hg (by omega) (by omega) (by omega);rw[vX (gQ1 wh),j1];simp only;obtain⟨g',r1,r2,r3⟩:=ih k op {g1 with fr:=true} (j2.fr true) (cf _ _) w2 Zm (by rw[RW,j3,Qq];omega);exact⟨g',r1,r2,by rw[r3,RW,j3,Ki,J7]⟩
end
section
open Go Go.RowKit Go.ChangeShapes
variable {H:Type} {enc:TypeId×Value->H}
theorem law_of {P:Program}{f:FuncId}{l:List Value}{w:World}(h:Fn P f l w (λv w'=>v= .bool true/\Ext w w')):
  Calls P f l.toArray w λe w'=>e= .returned (.bool true)/\Below w.heap.size w w':=by
 unfold Fn at h;exact h.mono λe w' he=>by
  cases e with
  | returned v=>exact⟨by rw[he.1],he.2.below⟩
  | panicked ch=>exact he.elim
  | outgrown=>exact he.elim
theorem mQu {W:World}{a:Option Addr}{len cap:Nat}{d:DataW H}{p:List MemPlace}(h:DataW.Trod enc Tryz.prog W 0 (λ_=>true) true 37 (.slice a len cap) d p):∃l,Sl W 1 a len cap (XB l)/\Ku l:=by
 obtain⟨cv,hf⟩:=h;rcases Go.Deep.open_slice Tryz.underlying37 hf with⟨XY,_⟩ | ⟨x,l,c,m,n,D,Pl,XY,_,hl,hm,ZI,_,hx⟩
 ·simp[Value.cells] at XY;obtain⟨rfl,rfl,rfl⟩:=XY;exact⟨[],Sl.nil W 1,λs hs=>by cases hs⟩
 ·simp[Value.cells] at XY;obtain⟨rfl,rfl,rfl⟩:=XY;simp only[if_true] at ZI;subst ZI;have hc9:Tryz.prog.cellsOf 9=1:=by kernel_rfl
  have each:∀i,i<m->∃y:ByteArray,y.size<=maxLen/\W.cell? (x.add i)=some (.string y):=by
   intro i hi;obtain⟨cs,h1,h2⟩:=hx i hi;rw[hc9] at h1;obtain⟨_,QY,Xq⟩:=World.cells?_some h1
   match cs,QY with
   | [v],_=>
    obtain⟨s,e1,_,bZ⟩:=DataW.trod_string Tryz.underlying9 h2;simp at e1;subst e1;refine⟨s,bZ,?_⟩;have:=Xq 0 (by decide);rw[YT] at this;simpa [add_add] using this
  have QZ:Inhabited ByteArray:=⟨⟨#[]⟩⟩
  obtain⟨Y,hY⟩:=Go.Deep.choose_lt each;refine⟨(List.range len).map (λi=>YV (Y i)),⟨by simp[XB],hl,hm,λ_=>⟨x,rfl,λj u hu=>?_⟩⟩,?_⟩
  ·simp only[XB,oV,aL,DR] at hu;obtain⟨k,hk,rfl⟩:=hu;have hj:=(ZY.1 hk).1;simp at hj;have:k=j:=by rw[List.getElem?_range hj] at hk;exact(Option.some.inj hk).symm
   subst this;rw[(hY k (by omega)).2];simp[bQN]
  ·intro y hy;simp only[X7,jS] at hy;obtain⟨i,hi,rfl⟩:=hy;have:=(hY i (by omega)).1;exact⟨bQM _,by rw[vf];simpa [maxLen] using this⟩
theorem gQ3 {W:World}{a:Option Addr}{len cap:Nat}{d:DataW H}{p:List MemPlace}(h:DataW.Trod enc Tryz.prog W 0 (λ_=>true) true 62 (.slice a len cap) d p):∃l,Sl W 1 a len cap (Vb l)/\∀b∈l,b<=255:=by
 obtain⟨cv,hf⟩:=h;rcases open_ints Tryz.underlying62 Tryz.underlying5 (by kernel_rfl) hf with⟨XY,_⟩ | ⟨x,l,c,zs,XY,_,hl,hm,hz,_,Xq,yf⟩
 ·simp[Value.cells] at XY;obtain⟨rfl,rfl,rfl⟩:=XY;exact⟨[],Sl.nil W 1,by simp⟩
 ·simp[Value.cells] at XY;obtain⟨rfl,rfl,rfl⟩:=XY;simp at hz;have hr:∀n∈zs,0<=n/\n<=255:=λn hn=>by
   have:=yf n hn;simp[Lit.wf,IntKind.min,IntKind.max,IntKind.signed,IntKind.bits] at this;omega
  refine⟨(zs.take len).map Int.toNat,⟨by simp[Vb];omega,hl,hm,λ_=>⟨x,rfl,λj u hu=>?_⟩⟩,?_⟩
  ·simp only[Vb,oV,aL,DR] at hu;obtain⟨y,hy,rfl⟩:=hu;rw[DO] at hy;split at hy
   ·rename_i hj;have DC:j<zs.length:=by omega
    rw[Xp DC] at hy;cases hy;have h2:=hr zs[j] (M1 DC);rw[Xq j DC];have:zs.getD j 0=zs[j]:=by simp[DC]
    rw[this];show some (Value.int .u8 _)=some (Value.int .u8 ((zs[j].toNat:Nat):Int));congr 2;omega
   ·cases hy
  ·intro y hy;simp only[X7] at hy;obtain⟨z,Q4,rfl⟩:=hy;have:=hr z (aN Q4);omega
theorem u8_of {a:Int}(w:(Lit.int .u8 a).wf=true):∃n:Nat,a=n/\n<=255:=by
 simp[Lit.wf,IntKind.min,IntKind.max,IntKind.signed,IntKind.bits] at w;exact⟨a.toNat,by omega,by omega⟩
end
section
open Go Go.RowKit Go.ChangeShapes
variable {H:Type} {enc:TypeId×Value->H}
theorem AI {α:Type}{l:List α}(h:l.length=3):∃a b c,l=[a,b,c]:=by
 match l,h with
 | [a,b,c],_=>exact⟨a,b,c,rfl⟩
theorem R0 {W:World}{α:Type}{cells:α->List Value}{e:Nat}(yB:∀x,(cells x).length=e)(he:0<e){t te:TypeId}{cv:Nat}{cs:List Value}{z:DataW H×List MemPlace}
  (ht:Tryz.prog.underlying t=some (.slice te)) (hc5:Tryz.prog.cellsOf te=e) (QZ:Inhabited α)
  (one:∀(cs:List Value) (cv:Nat) (D:DataW H×List MemPlace),cs.length=e->DataW.trod enc Tryz.prog W 0 (λ_=>true) true cv te cs=some D->∃y,cells y=cs)
  {a:Option Addr} {len cap:Nat} (XY:cs=[.slice a len cap]) (hf:DataW.trod enc Tryz.prog W 0 (λ_=>true) true cv t cs=some z):∃l,SlS cells e W a len cap l:=by
 subst XY;rcases Go.Deep.open_slice ht hf with⟨XY,_⟩ | ⟨x,l,c,m,n,D,Pl,XY,_,hl,hm,ZI,_,hx⟩
 ·simp at XY;obtain⟨rfl,rfl,rfl⟩:=XY;exact⟨[],SlS.nil W⟩
 ·simp at XY;obtain⟨rfl,rfl,rfl⟩:=XY;simp only[if_true] at ZI;subst ZI;have each:∀i,i<m->∃y:α,∀j v,(cells y)[j]? =some v->W.cell? (x.add (i*e+j))=some v:=by
   intro i hi;obtain⟨cs,h1,h2⟩:=hx i hi;rw[hc5] at h1;obtain⟨_,QY,Xq⟩:=World.cells?_some h1;obtain⟨y,rfl⟩:=one _ _ _ QY h2;refine⟨y,λj v hj=>?_⟩;have hj5:j<e:=by have:=(ZY.1 hj).1;rw[yB] at this;exact this
   have:=Xq j hj5;rw[add_add] at this;rw[this];exact hj
  obtain⟨Y,hY⟩:=Go.Deep.choose_lt each;refine⟨(List.range len).map Y,⟨⟨?_,hl,hm,λ_=>⟨x,rfl,λj u hu=>?_⟩⟩,by simp⟩⟩
  ·rw[dG yB];simp
  ·have W4:=(ZY.1 hu).1;rw[dG yB] at W4;simp at W4;have hi:j/e<len:=Nat.div_lt_of_lt_mul (by rw[uM];exact W4);have hr:j % e<e:=aP _ he;have Dr:j/e*e+j % e=j:=by rw[uM];exact Nat.div_add_mod j e
   have hg:((List.range len).map Y)[j/e]? =some (Y (j/e)):=by simp[hi]
   have hc:=Xp (l:=cells (Y (j/e))) (i:=j % e) (by rw[yB];exact hr);have h1:=i7 yB _ _ _ _ _ hg hc;rw[Dr,hu] at h1;have h2:=hY (j/e) (VT hi hl) _ _ hc;rw[Dr] at h2;rw[h2,<-Option.some.inj h1]
end
section
open Go Go.RowKit Go.ChangeShapes
variable {H:Type} {enc:TypeId×Value->H}
theorem R1 {α:Type}{p:α->Prop}{f:α->List Value}{sz:Nat}{W:World}{a:Option Addr}{len cap:Nat}(h:∃l:List {x:α // p x},SlS (λy=>f y.1) sz W a len cap l):∃l:List α,SlS f sz W a len cap l/\∀x∈l,p x:=by
 obtain⟨l,h1,h2⟩:=h;refine⟨l.map Subtype.val,⟨?_,by simpa using h2⟩,λx hx=>?_⟩
 ·rw[List.flatMap_map];exact h1
 ·obtain⟨y,_,rfl⟩:=X7.1 hx;exact y.2
structure Lx where
 k:Nat
 i:Nat
 ws:List Nat
 A:Option Addr
 n:Nat
 c:Nat
def Lx.cells (x:Lx):List Value:=[.int .u8 (x.k:Nat),.int .u8 (x.i:Nat),.slice x.A x.n x.c]
structure LxOk (W:World) (x:Lx):Prop where
 k8:x.k<=255
 i8:x.i<=255
 sl:Sl W 1 x.A x.n x.c (Vb x.ws)
 w8:∀b∈x.ws,b<=255
theorem LxOk.ext {W W':World}{x:Lx}(h:LxOk W x)(k:Ext W W'):LxOk W' x:=⟨h.k8,h.i8,h.sl.ext k,h.w8⟩
theorem gQ4 {W:World}(cs:List Value)(cv:Nat)(D:DataW H×List MemPlace)(hl:cs.length=3)(h:DataW.trod enc Tryz.prog W 0 (λ_=>true) true cv 83 cs=some D):∃y:{x:Lx // LxOk W x},y.1.cells=cs:=by
 have qD:Tryz.prog.cellsOf 5=1:=by kernel_rfl
 have BR:Tryz.prog.cellsOf 62=1:=by kernel_rfl
 obtain⟨xs,k,_,_,_,gr,ZT⟩:=DataW.trod_struct Tryz.underlying83 h;obtain⟨y0,y1,y2,rfl⟩:=AI (show xs.length=3 from gr);obtain⟨v0,v1,v2,rfl⟩:=AI hl;have g0:=ZT 0 _ rfl;have g1:=ZT 1 _ rfl;have g2:=ZT 2 _ rfl;simp[qD,BR] at g0 g1 g2;obtain⟨n0,e0,_,w0⟩:=DataW.trod_int Tryz.underlying5 g0;obtain⟨n1,e1,_,w1⟩:=DataW.trod_int Tryz.underlying5 g1;simp at e0 e1;subst e0 e1;have key:∃a n c,v2= .slice a n c:=by
  rcases Go.Deep.open_slice Tryz.underlying62 g2 with⟨XY,_⟩ | ⟨x,l,c,m,n,D,Pl,XY,_⟩
  ·simp at XY;exact⟨_,_,_,XY⟩
  ·simp at XY;exact⟨_,_,_,XY⟩
 obtain⟨a,n,c,rfl⟩:=key;obtain⟨ws,hS,h8⟩:=gQ3 ⟨_,g2⟩;obtain⟨m0,rfl,q0⟩:=u8_of w0;obtain⟨m1,rfl,q1⟩:=u8_of w1;exact⟨⟨⟨m0,m1,ws,a,n,c⟩,⟨q0,q1,hS,h8⟩⟩,rfl⟩
theorem gQ5 {W:World}{a:Option Addr}{len cap:Nat}{d:DataW H}{p:List MemPlace}(h:DataW.Trod enc Tryz.prog W 0 (λ_=>true) true 22 (.slice a len cap) d p):∃l,SlS Lx.cells 3 W a len cap l/\∀x∈l,LxOk W x:=by
 obtain⟨cv,hf⟩:=h;exact R1 (R0 (cells:=λy:{x:Lx // LxOk W x}=>y.1.cells) (λ_=>rfl) (by decide) Tryz.underlying22 (by kernel_rfl) ⟨⟨⟨0,0,[],none,0,0⟩,⟨by simp,by simp,Sl.nil W 1,by simp⟩⟩⟩ gQ4 rfl hf)
end
noncomputable section
theorem okL:((List.range 5).all λk=>(List.range 256).all λb=>(Yu (ZJ.take k) b).all (λx=>decide (x≠10/\x<256))&&decide ((Yu (ZJ.take k) b).length<=20))=true:=by decide+kernel
theorem s9 {k b:Nat}(hk:k<=4)(hb:b<=255):10∉Yu (ZJ.take k) b/\(∀x∈Yu (ZJ.take k) b,x<256)/\(Yu (ZJ.take k) b).length<=20:=by
 have h:=Ym.1 (Ym.1 okL k (jS.2 (by omega))) b (jS.2 (by omega));rw[Jl] at h;have h1:=Ym.1 h.1;exact⟨λhh=>(aQ (h1 10 hh)).1 rfl,λx hx=>(aQ (h1 x hx)).2,aQ h.2⟩
def YK (k:Nat):List Nat:=([[120],[43],[121],[42],[40],[41],[105,102],[101,108,115,101],[59],[94],[122],[37,99]][k % 12]?).getD []
theorem R2 (k:Nat):10∉YK k/\35∉YK k/\(∀x∈YK k,x<256)/\(YK k).length<=4:=by
 unfold YK;have h:=aP k (show 12>0 by decide);generalize k % 12=r at h;have key:(List.range 12).all (λr=>decide (10∉(([[120],[43],[121],[42],[40],[41],[105,102],[101,108,115,101],[59],[94],[122],[37,99]]:List (List Nat))[r]?).getD []/\35∉(([[120],[43],[121],[42],[40],[41],[105,102],[101,108,115,101],[59],[94],[122],[37,99]]:List (List Nat))[r]?).getD []/\(∀x∈(([[120],[43],[121],[42],[40],[41],[105,102],[101,108,115,101],[59],[94],[122],[37,99]]:List (List Nat))[r]?).getD [],x<256)/\((([[120],[43],[121],[42],[40],[41],[105,102],[101,108,115,101],[59],[94],[122],[37,99]]:List (List Nat))[r]?).getD []).length<=4))=true:=by decide
 exact aQ (Ym.1 key r (jS.2 h))
def av:Bool->List Nat->List Nat
 | _,[]=>[]
 | sp,w::l=>(if sp then [32] else [])++(YK w++(if w % 12=11 then [] else av true l))
theorem R3:∀(sp:Bool)(l:List Nat),10∉av sp l/\35∉av sp l/\(∀x∈av sp l,x<256)/\(av sp l).length<=5*l.length
 | _,[]=>by simp[av]
 | sp,w::l=>by
  obtain⟨h1,h2,h3,h4⟩:=R2 w;obtain⟨i1,i2,i3,i4⟩:=R3 true l;have key:∀x∈av sp (w::l),x=32∨x∈YK w∨x∈av true l:=λx hx=>by
   rw[av] at hx;rcases XM.1 hx with hx | hx
   ·cases sp<;>simp at hx;exact .inl hx
   rcases XM.1 hx with hx | hx
   ·exact .inr (.inl hx)
   ·split at hx
    ·cases hx
    ·exact .inr (.inr hx)
  refine⟨λh=>?_,λh=>?_,λx hx=>?_,?_⟩
  ·rcases key _ h with h | h | h
   ·cases h
   ·exact h1 h
   ·exact i1 h
  ·rcases key _ h with h | h | h
   ·cases h
   ·exact h2 h
   ·exact i2 h
  ·rcases key _ hx with h | h | h
   ·omega
   ·exact h3 _ h
   ·exact i3 _ h
  ·rw[av,Qq,Qq,Q6];have e1:(if sp=true then [32] else []:List Nat).length<=1:=by split<;>simp
   have e2:(if w % 12=11 then [] else av true l).length<=5*l.length:=by split<;>simp[i4]
   omega
def Kp (k:Nat)(ws:List Nat):List Nat:=List.replicate (k/8 % 4) 32++av false (ws.take 6)
theorem mJ (k:Nat)(ws:List Nat):10∉Kp k ws/\35∉Kp k ws/\(∀x∈Kp k ws,x<256)/\(Kp k ws).length<=33:=by
 obtain⟨h1,h2,h3,h4⟩:=R3 false (ws.take 6);have hl:(ws.take 6).length<=6:=by rw[K8];omega
 have key:∀x∈Kp k ws,x=32∨x∈av false (ws.take 6):=λx hx=>by
  rcases XM.1 hx with hx | hx
  ·exact .inl (yU hx)
  ·exact .inr hx
 refine⟨λh=>?_,λh=>?_,λx hx=>?_,?_⟩
 ·rcases key _ h with h | h
  ·cases h
  ·exact h1 h
 ·rcases key _ h with h | h
  ·cases h
  ·exact h2 h
 ·rcases key _ hx with h | h
  ·omega
  ·exact h3 _ h
 ·unfold Kp;rw[Qq,List.length_replicate];omega
theorem gQ6 (k:Nat)(ws:List Nat):TxOk (Kp k ws):=by
 obtain⟨h1,h2,h3,_⟩:=mJ k ws;exact⟨h1,gQR (λe=>h2 (List.mem_of_mem_head? e)),h3⟩
theorem R4 {k b:Nat}(hk:k<=4)(hb:b<=255):FOk (ZJ.take k) (Yu (ZJ.take k) b) (s7 k b):=
 ⟨(s9 hk hb).1,gQN hk hb,(s9 hk hb).2.1⟩
def V8 (k0:Nat)(ic:Bool)(x:Lx)(op:List Bool):Mn×List Bool:=
 if x.k % 8=4/\op.length<3 then(.ifd (Yu (ZJ.take k0) x.i) (s7 k0 x.i),false::op)
 else if x.k % 8=5/\op.head? =some false/\x.i % 2=0 then(.elif (Yu (ZJ.take k0) (x.i/2)) (s7 k0 (x.i/2)),op)
 else if x.k % 8=5/\op.head? =some false then(.els,true::op.tail)
 else if x.k % 8=6/\op≠ [] then(.en,op.tail)
 else if x.k % 8=7/\ic=true then(.inc,op)
 else(.tx (Kp x.k x.ws),op)
def YL (k0:Nat)(ic:Bool):List Lx->List Bool->List Mn
 | [],op=>op.map (λ_=>.en)
 | x::l,op=>(V8 k0 ic x op).1::YL k0 ic l (V8 k0 ic x op).2
theorem R5 (nm:List (List Nat))(ic:Bool)(D:Nat):∀(op:List Bool),J9 nm ic D op (op.map (λ_=>.en))
 | []=>trivial
 | b::op=>by
  have:=R5 nm ic D op;cases b<;>exact this
theorem gQ7 {nm:List (List Nat)}{ic:Bool}{D:Nat}{op:List Bool}{s:List Nat}{l:List Mn}(h:TxOk s)(h':J9 nm ic D op l):J9 nm ic D op (.tx s::l):=by
 cases op with
 | nil=>exact⟨h,h'⟩
 | cons b op=>cases b<;>exact⟨h,h'⟩
theorem gQ8 {nm:List (List Nat)}{ic:Bool}{D:Nat}{op:List Bool}{l:List Mn}(h:ic=true)(h':J9 nm ic D op l):J9 nm ic D op (.inc::l):=by
 cases op with
 | nil=>exact⟨h,h'⟩
 | cons b op=>cases b<;>exact⟨h,h'⟩
theorem gQ9 {nm:List (List Nat)}{ic:Bool}{D:Nat}{op:List Bool}{F:List Nat}{o:BF}{l:List Mn}(hb:FOk nm F o)(h:op.length<D)(h':J9 nm ic D (false::op) l):J9 nm ic D op (.ifd F o::l):=by
 cases op with
 | nil=>exact⟨hb,h,h'⟩
 | cons c op=>cases c<;>exact⟨hb,h,h'⟩
theorem hQa {nm:List (List Nat)}{ic:Bool}{D:Nat}{c:Bool}{op:List Bool}{l:List Mn}(h':J9 nm ic D op l):J9 nm ic D (c::op) (.en::l):=by
 cases c<;>exact h'
theorem R6 {k0:Nat}(hk:k0<=4)(ic:Bool):∀(l:List Lx)(op:List Bool),(∀x∈l,x.i<=255)->op.length<=3->J9 (ZJ.take k0) ic 3 op (YL k0 ic l op)
 | [],op,_,_=>R5 _ ic 3 op
 | x::l,op,hx,Zm=>by
  have WB:=hx x (by simp);have ih:=λop h=>R6 hk ic l op (λy hy=>hx y (by simp[hy])) h
  rw[YL];unfold V8;split
  ·rename_i h;exact gQ9 (R4 hk WB) h.2 (ih _ (by simp;omega))
  split
  ·rename_i h;cases op with
   | nil=>cases h.2.1
   | cons b op=>
    have hb:b=false:=by have:=h.2.1;simpa using this
    subst hb;exact⟨R4 hk (by omega),ih _ Zm⟩
  split
  ·rename_i h;cases op with
   | nil=>cases h.2
   | cons b op=>
    have hb:b=false:=by have:=h.2;simpa using this
    subst hb;exact ih (true::op) Zm
  split
  ·rename_i h;cases op with
   | nil=>exact Xn rfl h.2
   | cons b op=>exact hQa (ih op (by simp at Zm;omega))
  split
  ·rename_i h;exact gQ8 h.2 (ih _ Zm)
  ·exact gQ7 (gQ6 _ _) (ih _ Zm)
def wi (nm:List (List Nat)):Mn->Prop
 | .tx s=>TxOk s
 | .ifd F o=>FOk nm F o
 | .elif F o=>FOk nm F o
 | _=>True
theorem AJ {nm:List (List Nat)}{ic:Bool}{D:Nat}:∀{l:List Mn}{op:List Bool},J9 nm ic D op l->∀m∈l,wi nm m
 | [],_,_,m,hm=>by cases hm
 | x::l,op,h,m,hm=>by
  have key:wi nm x/\∃Xx,J9 nm ic D Xx l:=by
   cases x with
   | tx s=>cases op with
    | nil=>exact⟨h.1,_,h.2⟩
    | cons b op=>cases b<;>exact⟨h.1,_,h.2⟩
   | ifd F o=>cases op with
    | nil=>exact⟨h.1,_,h.2.2⟩
    | cons b op=>cases b<;>exact⟨h.1,_,h.2.2⟩
   | elif F o=>cases op with
    | nil=>exact h.elim
    | cons b op=>cases b with
     | false=>exact⟨h.1,_,h.2⟩
     | true=>exact h.elim
   | els=>cases op with
    | nil=>exact h.elim
    | cons b op=>cases b with
     | false=>exact⟨trivial,_,h⟩
     | true=>exact h.elim
   | en=>cases op with
    | nil=>exact h.elim
    | cons b op=>cases b<;>exact⟨trivial,_,h⟩
   | inc=>cases op with
    | nil=>exact⟨trivial,_,h.2⟩
    | cons b op=>cases b<;>exact⟨trivial,_,h.2⟩
  rcases Q1.1 hm with rfl | hm
  ·exact key.1
  ·obtain⟨Xx,h'⟩:=key.2;exact AJ h' m hm
theorem R7 {nm:List (List Nat)}{m:Mn}(h:wi nm m):10∉Jz m/\∀x∈Jz m,x<256:=by
 cases m with
 | tx s=>exact⟨h.nl,h.b8⟩
 | ifd F o=>exact⟨by simp[Jz,ZQ,h.nl],FK (by decide) h.b8⟩
 | elif F o=>exact⟨by simp[Jz,pElif,h.nl],FK (by decide) h.b8⟩
 | els=>exact⟨by decide,by decide⟩
 | en=>exact⟨by decide,by decide⟩
 | inc=>exact⟨by decide,by decide⟩
theorem hQb {nm:List (List Nat)}{l:List Mn}(h:∀m∈l,wi nm m):kB (l.map Jz):=λs hs=>by
 obtain⟨m,hm,rfl⟩:=X7.1 hs;exact(R7 (h m hm)).1
theorem R8 {nm:List (List Nat)}{l:List Mn}(h:∀m∈l,wi nm m):∀x∈Qp (l.map Jz),x<256:=gQT (λs hs=>by
 obtain⟨m,hm,rfl⟩:=X7.1 hs;exact(R7 (h m hm)).2)
def ta (M:Nat)(l:List Mn):Prop:=∀m∈l,(Jz m).length<M
theorem FW {M:Nat}:∀{l:List Mn},ta M l->(Qp (l.map Jz)).length<=l.length*M
 | [],_=>by simp[Qp]
 | m::l,h=>by
  rw[Vl,V3,Qq,Q6,Q6];have h1:=FW (λx hx=>h x (by simp[hx]):ta M l);have h2:=h m (by simp);rw[oW,yY];omega
theorem R9 {M:Nat}{ie:BF->CB}(Dy:∀k,(ie k).length<=M):∀(l:List Mn)(k:BF)(op:List (BF×BF)),ta M l->(Ki ie l k op).length<=l.length*M
 | [],_,_,_=>by simp[Ki]
 | m::l,k,op,h=>by
  have ih:=λk op=>R9 Dy l k op (λx hx=>h x (by simp[hx]))
  have hm:=h m (by simp);have e:(m::l).length*M=l.length*M+M:=by rw[Q6,oW,yY]
  rw[e];cases m with
  | tx s=>
   have hm:s.length<M:=hm;have:=ih k op;rw[Ki,Qq,JF,Qq,o6];omega
  | ifd F o=>have:=ih (ZW k o) ((k,KG k o)::op);rw[Ki];omega
  | elif F o=>
   cases op with
   | nil=>simp[Ki]
   | cons x op=>obtain⟨ou,re⟩:=x;have:=ih (ZW re o) ((ou,KG re o)::op);rw[Ki];omega
  | els=>
   cases op with
   | nil=>simp[Ki]
   | cons x op=>obtain⟨ou,re⟩:=x;have:=ih re ((ou,re)::op);rw[Ki];omega
  | en=>
   cases op with
   | nil=>simp[Ki]
   | cons x op=>obtain⟨ou,re⟩:=x;have:=ih ou op;rw[Ki];omega
  | inc=>
   have:=Dy k;have:=ih k op;rw[Ki,Qq];omega
theorem FX {k0:Nat}{ic:Bool}{x:Lx}{op:List Bool}(h:op.length<=3):(V8 k0 ic x op).2.length<=3:=by
 unfold V8;split
 ·rename_i h;simp;omega
 split
 ·exact h
 split
 ·rename_i hh;cases op with
  | nil=>cases hh.2
  | cons b op=>simpa using h
 split
 ·simp;omega
 split<;>exact h
theorem Sa (k0:Nat)(ic:Bool):∀(l:List Lx)(op:List Bool),op.length<=3->(YL k0 ic l op).length<=l.length+3
 | [],op,h=>by simp[YL];omega
 | x::l,op,h=>by
  rw[YL,Q6,Q6];have:=Sa k0 ic l _ (FX (k0:=k0) (ic:=ic) (x:=x) h);omega
theorem FY {k0:Nat}(hk:k0<=4){ic:Bool}{x:Lx}(hx:x.i<=255){op:List Bool}:(Jz (V8 k0 ic x op).1).length<34:=by
 unfold V8;split
 ·have:=(s9 hk hx).2.2;simp[Jz,ZQ];omega
 split
 ·have:=(s9 hk (show x.i/2<=255 by omega)).2.2;simp[Jz,pElif];omega
 split
 ·exact(by decide:(Jz Mn.els).length<34)
 split
 ·exact(by decide:(Jz Mn.en).length<34)
 split
 ·exact(by decide:(Jz Mn.inc).length<34)
 ·have:=(mJ x.k x.ws).2.2.2;show(Kp x.k x.ws).length<34;omega
theorem Sb {k0:Nat}(hk:k0<=4)(ic:Bool):∀(l:List Lx)(op:List Bool),(∀x∈l,x.i<=255)->ta 34 (YL k0 ic l op)
 | [],op,_=>λm hm=>by
  obtain⟨_,_,rfl⟩:=X7.1 hm;decide
 | x::l,op,h=>λm hm=>by
  rw[YL] at hm;rcases Q1.1 hm with rfl | hm
  ·exact FY hk (h x (by simp))
  ·exact Sb hk ic l _ (λy hy=>h y (by simp[hy])) m hm
def FZ (k0:Nat)(main:List Lx):List Mn:=YL k0 true (main.take 12) []
def hQc (k0:Nat)(bB:List Lx):List Mn:=YL k0 false (bB.take 5) []
def F0 (k0:Nat)(main bB:List Lx):List (List Nat×List Nat):=[([109],Qp ((FZ k0 main).map Jz)),([110],Qp ((hQc k0 bB).map Jz))]
def AK:BF->CB:=λ_=>[]
theorem hQd {fs:List (List Nat×List Nat)}(h:fs.length<=256)(hc:cJ fs [] 0=none):YJ fs=none:=by
 unfold YJ;rw[if_neg (by omega),hc]
theorem hQe {nm:List (List Nat)}{M D:Nat}(hn:ZF nm=true)(hD:D<64){l:List Mn}(hw:J9 nm false D [] l)(hb:ta M l)(hl:l.length*M<=60000){f:List Nat}(Zf:mA f=true):
  ∃g,V5 nm [(f,Qp (l.map Jz))] f= .ok g/\aY g=Ki AK l (λ_=>true) []:=by
 have hL:=hQb (AJ hw);have l1:=FW hb;generalize hF: [(f,Qp (l.map Jz))]=fs;have cV:fs[0]? =some (f,Qp (l.map Jz)):=by rw[<-hF]<;>rfl
 have Mb:fs.map (·.1)=[f]:=by rw[<-hF]<;>rfl
 have KL:YJ fs=none:=by
  rw[<-hF];refine hQd (by simp) ?_;rw[cJ,if_neg (λhh=>hh ⟨Zf,(by simp),gQS _⟩),if_neg (by simp only;omega)];rfl
 unfold V5;rw[if_neg (by rw[hn];decide),KL,Mb];simp only[show Jd [f] f=some 0 from gQU (by simp)];rw[WN,cV];simp only[uK,fG];rw[Fl hL];have wC:GInv fs ⟨[],[],true⟩:=⟨rfl,λs hs=>by cases hs⟩
 have nQC:=R9 (ie:=AK) (λ_=>Xr _) l (λ_=>true) [] hb;obtain⟨g,r1,r2,r3⟩:=RZ (nm:=nm) (n:=0) (d0:=0) (inc:=λr ln d k g=>match cI (Jd (fs.map (·.1))) [0] r with
   | .error e=>.error ⟨e,(0:Nat),ln⟩
   | .ok m=>if d=64 then .error ⟨2,(0:Nat),ln⟩else WN nm fs 64 [0] (d+1) m k g) cV (ic:=false) (D:=D) (ie:=AK) (λh=>by cases h) (by omega) l 0 0 (λ_=>true) [] ⟨[],[],true⟩ (by rw[rK]) (Xr _) wC (λh=>by cases h) hw (Xr _) (by
   have e:(aY ⟨[],[],true⟩).length=0:=rfl;rw[e,Wh];show(Ki AK l (λ_=>true) []).length<=_;omega)
 exact⟨g,r1,r3⟩
def wj (b c:Nat):Bool:=decide (b % 256=0)||b.testBit c
def F3 (b:Nat):List Nat:=(List.range 8).filter (wj b)
theorem hQf {b:Nat}(hb:b<=255):F3 b≠ []:=by
 intro e;have h:=M5.1 e;have h0:∀c,c<8->wj b c=false:=λc hc=>by have:=h c (jS.2 hc);simpa using this
 unfold wj at h0;have fa:b≠0:=λe=>by subst e;have:=h0 0 (by decide);simp at this
 refine fa (Nat.eq_of_testBit_eq (λi=>?_));rw[Nat.zero_testBit];by_cases hi:i<8
 ·have:=h0 i hi;rw[Bool.or_eq_false_iff] at this;exact this.2
 ·exact D4 (VT (show b<2^8 by omega) (aO (by decide) (by omega)))
theorem hQg (c:Nat):FN c=λi=>c.testBit i:=by
 funext i;unfold FN;rw[Nat.testBit_eq_decide_div_mod_eq]
def QL (n:Nat)(o:BF):List Nat:=(List.range (2^n)).filter (λc=>o (λi=>c.testBit i))
theorem Js {n:Nat}{o:BF}{c:Nat}:c∈QL n o↔c<2^n/\o (λi=>c.testBit i)=true:=by
 unfold QL;rw[VU,jS]
def AL (n:Nat)(o:BF):Prop:=∀e e',(∀i,i<n->e i=e' i)->o e=o e'
theorem AM:∀(n:Nat)(e:Nat->Bool),∃c,c<2^n/\∀i,i<n->c.testBit i=e i
 | 0,e=>⟨0,by decide,λi hi=>Xn hi (by omega)⟩
 | n+1,e=>by
  obtain⟨c,hc,hb⟩:=AM n e;cases he:e n with
  | false=>
   refine⟨c,Nat.lt_trans hc (Nat.pow_lt_pow_right (by decide) (by omega)),λi hi=>?_⟩;by_cases h:i<n
   ·exact hb i h
   ·have:i=n:=by omega
    subst this;rw[he];exact D4 hc
  | true=>
   refine⟨2^n+c,by rw[lT];omega,λi hi=>?_⟩;by_cases h:i<n
   ·rw[Nat.testBit_two_pow_add_gt h,hb i h]
   ·have:i=n:=by omega
    subst this;rw[he,Nat.testBit_two_pow_add_eq,D4 hc]<;>rfl
theorem Set1.dep {k:Nat}{nd:List Br}{r:Int}{o:BF}(h:Set1 k nd r o):AL k o:=λe e' he=>by
 rw[<-h.mean,<-h.mean];exact AB h.vd.wf h.vin (λb hb=>by
  obtain⟨j,hj⟩:=uQ.1 hb;have:=h.vd.1 j b hj;exact this.1) he (r.toNat+1) r (by omega) h.vd.2.2.1
theorem Sc {n:Nat}{o:BF}(h:AL n o){p:BF}(hp:AL n p):(∀e,o e=true->p e=true)↔∀c∈QL n o,p (λi=>c.testBit i)=true:=by
 constructor
 ·exactλk c hc=>k _ (Js.1 hc).2
 ·intro k e he;obtain⟨c,hc,hb⟩:=AM n e;rw[<-hp _ e hb];exact k c (Js.2 ⟨hc,by rw[h _ e hb];exact he⟩)
theorem hQh {n:Nat}{o:BF}(h:AL n o):QL n o=[]↔∀e,o e=false:=by
 constructor
 ·intro k e;cases he:o e with
  | false=>rfl
  | true=>
   obtain⟨c,hc,hb⟩:=AM n e;have:c∈QL n o:=Js.2 ⟨hc,by rw[h _ e hb];exact he⟩;rw[k] at this;cases this
 ·intro k;refine List.eq_nil_iff_forall_not_mem.2 (λc hc=>?_);have:=(Js.1 hc).2;rw[k] at this;cases this
theorem Set1.root0 {k:Nat}{nd:List Br}{r:Int}{o:BF}(h:Set1 k nd r o):r=0↔QL k o=[]:=by
 rw[hQh h.dep];constructor
 ·rintro rfl e;rw[<-h.mean,JT (by decide)]<;>rfl
 ·intro h0;have:=h.unique (aW k false) h0;exact QC Prod.snd this
theorem Sd {n:Nat}{o p:BF}{v:Nat}(b:Bool)(hp:∀e,p e=(o e&&(e v==b))):QL n p=(QL n o).filter (λc=>c.testBit v==b):=by
 unfold QL;rw[List.filter_filter];congr 1;funext c;rw[hp,Bool.and_comm]
theorem hQi {n:Nat}{o:BF}:Apt (QL n o) 0 n:=λc hc c' Jv hb=>by
 have h1:=(Js.1 hc).1;have h2:=(Js.1 Jv).1;refine Nat.eq_of_testBit_eq (λi=>?_);by_cases hi:i<n
 ·exact hb i (Xr _) (by omega)
 ·have e:2^n<=2^i:=aO (by decide) (by omega);rw[D4 (by omega),D4 (by omega)]
structure Pr where
 o:BF
 t:List Nat
abbrev bits (c:Nat):Nat->Bool:=λi=>c.testBit i
def fP (ps:List Pr)(c:Nat):List Nat:=((ps.find? (λp=>p.o (bits c))).map (·.t)).getD []
structure PaOk (S:List Nat) (ps:List Pr):Prop where
 cov:∀c∈S,∃p∈ps,p.o (bits c)=true
 dj:∀c∈S,∀(i j:Nat) (p q:Pr),ps[i]? =some p->ps[j]? =some q->p.o (bits c)=true->q.o (bits c)=true->i=j
theorem PaOk.sub {S T:List Nat}{ps:List Pr}(h:PaOk S ps)(hT:∀c∈T,c∈S):PaOk T ps:=⟨λc hc=>h.cov c (hT c hc),λc hc=>h.dj c (hT c hc)⟩
theorem PaOk.get {S:List Nat}{ps:List Pr}(h:PaOk S ps){c:Nat}(hc:c∈S){p:Pr}(hp:p∈ps)(Kt:p.o (bits c)=true):fP ps c=p.t:=by
 unfold fP;cases hf:ps.find? (λp=>p.o (bits c))with
 | none=>
  have:=uL.1 hf p hp;exact Xn Kt this
 | some q=>
  have hq:=List.find?_some hf;have iM:=aQ7 hf;obtain⟨i,hi⟩:=uQ.1 hp;obtain⟨j,hj⟩:=uQ.1 iM;have:=h.dj c hc i j p q hi hj Kt hq;subst this;rw[hi] at hj;cases hj;rfl
theorem hQj {nm:List (List Nat)}{S:List Nat}{ps:List Pr}(h:PaOk S ps)(hS:S≠ []){p:Pr}(hp:p∈ps)(hw:∀c∈S,p.o (bits c)=true)(k v:Nat):Zi nm (fP ps) k v S=QR p.t:=
 sZ hS (λc hc=>h.get hc hp (hw c hc)) k v
theorem hQk {S:List Nat}{ps:List Pr}(h:PaOk S ps)(hS:S≠ []){v:Nat}(ha:Apt S v 0):∃p∈ps,∀c∈S,p.o (bits c)=true:=by
 obtain⟨c,hc⟩:∃c,c∈S:=⟨_,AG hS⟩
 obtain⟨p,hp,Kt⟩:=h.cov c hc;refine⟨p,hp,λd hd=>?_⟩;rw[ha d hd c hc (λi h1 h2=>by omega)];exact Kt
abbrev dR (S:List Nat)(v:Nat):List Nat:=S.filter (λc=>c.testBit v)
abbrev ga (S:List Nat)(v:Nat):List Nat:=S.filter (λc=> !c.testBit v)
theorem Sf {S:List Nat}{v:Nat}(h:ga S v=[]):dR S v=S:=by
 rw[List.filter_eq_self];intro c hc;have:=M5.1 h c hc;simpa using this
theorem hQl {S:List Nat}{v:Nat}(h:dR S v=[]):ga S v=S:=by
 rw[List.filter_eq_self];intro c hc;have:=M5.1 h c hc;simpa using this
theorem hQm {nm:List (List Nat)}{f:Nat->List Nat}{S:List Nat}(hS:S≠ []){k v:Nat}(h:ga S v=[]):Zi nm f (k+1) v S=Zi nm f k (v+1) (dR S v):=by
 rw[s6 hS,Qf (.inl h),Sf h]
theorem hQn {nm:List (List Nat)}{f:Nat->List Nat}{S:List Nat}(hS:S≠ []){k v:Nat}(h:dR S v=[]):Zi nm f (k+1) v S=Zi nm f k (v+1) (ga S v):=by
 rw[s6 hS,Qf (.inr h),hQl h]
theorem hQo {nm:List (List Nat)}{f:Nat->List Nat}{S:List Nat}(hS:S≠ []){k v:Nat}(h:ga S v≠ [])(h':dR S v≠ []):Zi nm f (k+1) v S=if Zi nm f k (v+1) (dR S v)=Zi nm f k (v+1) (ga S v)then Zi nm f k (v+1) (dR S v)else bO nm v (Zi nm f k (v+1) (dR S v)) (Zi nm f k (v+1) (ga S v)):=by
 rw[s6 hS,if_neg (λe=>e.elim h h')]
theorem hQp {S:List Nat}{v k:Nat}(h:Apt S v (k+1)):Apt (dR S v) (v+1) k:=h.sub (λc hc=>(VU.1 hc).1) (λc hc c' Jv=>by
 rw[(VU.1 hc).2,(VU.1 Jv).2])
theorem hQq {S:List Nat}{v k:Nat}(h:Apt S v (k+1)):Apt (ga S v) (v+1) k:=h.sub (λc hc=>(VU.1 hc).1) (λc hc c' Jv=>by
 have h1:=(VU.1 hc).2;have h2:=(VU.1 Jv).2;simp at h1 h2;rw[h1,h2])
def Ka (n:Nat)(nd:List Br)(r:Int):Bool:=open Classical in decide (XL nd r=0/\∀b∈nd,b.v<n)
def oD (x:DV):BF:=ev x.nd x.r
theorem td {n:Nat}{nd:List Br}{r:Int}:Ka n nd r=true↔XL nd r=0/\VIn n nd:=by unfold Ka;exact decide_eq_true_iff
theorem gU {n:Nat}{x:DV}(h:Ka n x.nd x.r=true):Set1 n x.nd x.r (oD x):=by
 obtain⟨h1,h2⟩:=td.1 h;exact⟨(gK.1 h1).2,h2,λe=>rfl⟩
theorem jg {n:Nat}(hn:n<=12){x:DV}{o:BF}(h:Set1 n x.nd x.r o):Ka n x.nd x.r=true/\∀e,oD x e=o e:=
 ⟨td.2 ⟨h.chk hn,h.vin⟩,λe=>h.mean e⟩
abbrev jh (n:Nat)(R:List Nat)(o:BF):List Nat:=R.filter (λc=> !o (bits c))
def aw (n:Nat):List Nat->List (DV×List Nat)->Bool
 | R,[]=>decide (R=[])
 | R,p::ps=>(Ka n p.1.nd p.1.r&&decide (QL n (oD p.1)≠ [])&&(QL n (oD p.1)).all (λc=>decide (c∈R))&&V6 p.2)&&aw n (jh n R (oD p.1)) ps
def Zs (ps:List (DV×List Nat)):List Pr:=ps.map (λp=>⟨oD p.1,p.2⟩)
def kJ (nm:List (List Nat))(d:DV)(ps:List (DV×List Nat)):Except Int (List Nat):=
 if ZF nm=false∨Ka nm.length d.nd d.r=false then .error 1
 else if aw nm.length (QL nm.length (oD d)) ps=false then .error 290
 else if ps=[] then .ok []
 else if 1048576<(Qp (Zi nm (fP (Zs ps)) nm.length 0 (QL nm.length (oD d)))).length then .error 2
 else .ok (Qp (Zi nm (fP (Zs ps)) nm.length 0 (QL nm.length (oD d))))
theorem F4 {n:Nat}{R:List Nat}{p:DV×List Nat}{ps:List (DV×List Nat)}:aw n R (p::ps)=true↔(Ka n p.1.nd p.1.r=true/\QL n (oD p.1)≠ []/\(∀c∈QL n (oD p.1),c∈R)/\V6 p.2=true)/\aw n (jh n R (oD p.1)) ps=true:=by
 rw[aw];simp only[Jl,Vm,Ym];constructor
 ·rintro⟨⟨⟨⟨h1,h2⟩,h3⟩,h4⟩,h5⟩;exact⟨⟨h1,h2,h3,h4⟩,h5⟩
 ·rintro⟨⟨h1,h2,h3,h4⟩,h5⟩;exact⟨⟨⟨⟨h1,h2⟩,h3⟩,h4⟩,h5⟩
theorem Sh {n:Nat}:∀{ps:List (DV×List Nat)}{R:List Nat},(∀c∈R,c<2^n)->aw n R ps=true->PaOk R (Zs ps)/\(∀p∈ps,Ka n p.1.nd p.1.r=true/\QL n (oD p.1)≠ []/\V6 p.2=true/\∀c∈QL n (oD p.1),c∈R)
 | [],R,hR,h=>by
  have:R=[]:=by simpa [aw] using h
  subst this;exact⟨⟨(λc hc=>by cases hc),λc hc=>by cases hc⟩,λp hp=>by cases hp⟩
 | p::ps,R,hR,h=>by
  obtain⟨⟨h1,h2,h3,h4⟩,h5⟩:=F4.1 h;obtain⟨⟨k1,k2⟩,k3⟩:=Sh (R:=jh n R (oD p.1)) (λc hc=>hR c (VU.1 hc).1) h5;have QZ:∀q∈ps,∀c,c<2^n->oD q.1 (bits c)=true->oD p.1 (bits c)=false:=λq hq c hc Mc=>by
   have:=(k3 q hq).2.2.2 c (Js.2 ⟨hc,Mc⟩);have:=(VU.1 this).2;simpa using this
  refine⟨⟨λc hc=>?_,λc hc i j a b hi hj ha hb=>?_⟩,λq hq=>?_⟩
  ·cases Kt:oD p.1 (bits c)with
   | true=>exact⟨_,M6,Kt⟩
   | false=>
    obtain⟨q,hq,Mc⟩:=k1 c (VU.2 ⟨hc,by simp[Kt]⟩);exact⟨q,rN _ hq,Mc⟩
  ·have tT:=hR c hc;cases i with
   | zero=>
    cases j with
    | zero=>rfl
    | succ j=>
     have ea:a=⟨oD p.1,p.2⟩:=by simpa [Zs] using hi.symm
     have hjm:b∈Zs ps:=Xm (by simpa [Zs] using hj);obtain⟨q,hq,rfl⟩:=X7.1 hjm;subst ea;have:=QZ q hq c tT hb;exact Xn (ha.symm.trans this) (by decide)
   | succ i=>
    have him:a∈Zs ps:=Xm (by simpa [Zs] using hi);obtain⟨q,hq,rfl⟩:=X7.1 him;have Kt:=QZ q hq c tT ha;cases j with
    | zero=>
     have eb:b=⟨oD p.1,p.2⟩:=by simpa [Zs] using hj.symm
     subst eb;exact Xn (hb.symm.trans Kt) (by decide)
    | succ j=>
     have hcR:c∈jh n R (oD p.1):=VU.2 ⟨hc,by simp[Kt]⟩;have:=k2 c hcR i j _ _ (by simpa [Zs] using hi) (by simpa [Zs] using hj) ha hb;rw[this]
  ·rcases Q1.1 hq with rfl | hq
   ·exact⟨h1,h2,h4,h3⟩
   ·obtain⟨a1,a2,a3,a4⟩:=k3 q hq;exact⟨a1,a2,a3,λc hc=>(VU.1 (a4 c hc)).1⟩
theorem hQr (ls:List (List Nat))(A:Option Addr)(n c:Nat)(w:World)(h:Sl w 1 A n c (XB ls))(hb:∀s∈ls,∀x∈s,x<256):
  Fn Tryz.prog 169 [.slice A n c,.func (.func 47) #[] #[]] w (λu w'=>(∃k:Int,u= .int .i64 k/\(0<=k↔ls.any bP=true))/\Ext w w'):=by
 have hn:ls.length=n:=by have:=h.len;rw[aU] at this;omega
 have Zz:=h.le;have bz:=h.cap;refine QF (c:={cQP with cuts:=[]}) Qa Tryz.func169 rfl rfl rfl ?_;refine loop Qa [8] (λi:Nat=>[.int .i64 i]) (λi w'=>Ext w w'/\i<=n/\(ls.take i).any bP=false) (λi _=>n-i) 0 rfl ⟨Ext.refl _,Xr _,by simp⟩ ?_;rintro i w1 ⟨Qe,hi,Xi⟩;refine Qz (λc1=>?_) (λc1=>?_)
 ·have QZ:i<n:=by omega
  have hg:ls[i]? =some ls[i]:=Xp (by omega);have uy:=hb _ (Xm hg);generalize ls[i]=l at*;refine KC (h.ext Qe) QZ (λad u hA hu Xq=>?_);rw[j8 hg] at hu;cases hu;refine load Xq ?_;refine call (AF l w1 uy) ?_;rintro _ w2 ⟨rfl,Qg⟩;have Wd:(ls.take (i+1)).any bP=bP l:=by rw[K9,hg,List.any_append,Xi];simp
  refine WI (λd1=>?_) (λd1=>?_)
  ·have d1:bP l=true:=d1;exact⟨⟨i,rfl,⟨λ_=>uR.2 ⟨l,Xm hg,d1⟩,λ_=>by omega⟩⟩,Qe.trans Qg⟩
  ·have d1:bP l=false:=d1;simp only[maxLen] at bz;refine Qi ((i+1:Nat):Int) (by show((i:Nat):Int)+1=_;omega) (by omega) ?_;exact⟨i+1,rfl,⟨Qe.trans Qg,QZ,by rw[Wd,d1]⟩,by show n-(i+1)<n-i;omega⟩
 ·have QZ:i=n:=by omega
  rw[QZ,Jc (by omega)] at Xi;exact⟨⟨-1,rfl,by rw[Xi];simp⟩,Qe⟩
theorem Si (ls:List (List Nat))(A:Option Addr)(n c:Nat)(w:World)(h:Sl w 1 A n c (XB ls))(hb:∀s∈ls,∀x∈s,x<256):
  Fn Tryz.prog 114 [.slice A n c,.func (.func 47) #[] #[]] w (λu w'=>u= .bool (ls.any bP)/\Ext w w'):=by
 refine QF (c:={cQc with cuts:=[]}) Qa Tryz.func114 rfl rfl rfl ?_;refine call (hQr ls A n c w h hb) ?_;rintro _ w1 ⟨⟨k,rfl,hk⟩,Qe⟩;refine⟨?_,Qe⟩;refine QC Value.bool ?_;cases ha:ls.any bP with
 | true=>exact Zy (hk.2 ha)
 | false=>exact Zq (λhh=>by rw[hk.1 hh] at ha;cases ha)
theorem Sj (l:List Nat)(w:World)(hl:∀x∈l,x<256)(QY:l.length<=1000000000):
  Fn Tryz.prog 63 [.string (Qd l)] w (λu w'=>u= .bool (V6 l)/\Ext w w'):=by
 refine QF (c:={c63 with cuts:=[]}) Qa Tryz.func63 rfl rfl rfl ?_;have fin:∀w1,Ext w w1->aX l=true->∀ls,ap l=ls->∀w2,Ext w1 w2->(Value.bool (!(ls.any bP))= .bool (V6 l)/\Ext w w2):=λw1 Qe ht ls Ks w2 Qg=>by
  refine⟨?_,Qe.trans Qg⟩;rw[<-Ks,vU (mH ht),fQM,Bool.not_not];unfold V6;rw[ht,cw]
 by_cases h0:l=[]
 ·subst h0;refine Q8 rfl ?_;refine call (Am [] w hl QY) ?_;rintro _ w1 ⟨A,c,rfl,Qe,KS⟩;refine call (Si _ A _ c w1 KS.1 (λs hs=>by simp[ap,Z0] at hs)) ?_;rintro _ w2 ⟨rfl,Qg⟩;exact fin w1 Qe rfl _ rfl w2 Qg
 ·refine XD (λe=>h0 (J8 hl (by simp) e)) ?_;refine call (gQD l w hl (by omega)) ?_;rintro _ _ ⟨rfl,rfl⟩;refine WI (λd1=>?_) (λd1=>?_)
  ·have d1:(l.getLast? ==some 10)=true:=d1;have ht:aX l=true:=by unfold aX;rw[d1,Bool.or_true]
   refine call (Am l w hl QY) ?_;rintro _ w1 ⟨A,c,rfl,Qe,KS⟩;refine call (Si _ A _ c w1 KS.1 (λs hs x hx=>by
    rw[vU (mH ht)] at hs;obtain⟨r,hr,rfl⟩:=X7.1 hs;rcases XM.1 hx with hx | hx
    ·have hu:=V4 (mH ht);refine hl x ?_;rw[<-hu];exact WE.2 ⟨r,hr,by simp[hx]⟩
    ·rw[QN.1 hx];decide)) ?_
   rintro _ w2 ⟨rfl,Qg⟩;exact fin w1 Qe ht _ rfl w2 Qg
  ·have d1:(l.getLast? ==some 10)=false:=d1;refine⟨?_,Ext.refl _⟩;unfold V6 aX;rw[d1,Zq h0]<;>rfl
theorem hQs (b:Br)(n bx:Nat)(w:World)(hB:Blk w bx 3 [.int .i64 n]):
  Fn Tryz.prog 110 [.agg b.cells.toArray,.pointer (some ⟨bx,0,none⟩)] w (λu w'=>u= .bool (decide ((n:Int)<=b.v))/\Ext w w'):=by
 refine QF (c:={bQ9 with cuts:=[]}) Qa Tryz.func110 rfl rfl rfl ?_;refine new (λw1 Qe Q4 Qh=>?_);refine QD Qh rfl ?_;refine QD (hB.ext Qe) rfl ?_;exact⟨rfl,Qe⟩
theorem hQt (nd:List Br)(A:Option Addr)(m c n bx:Nat)(w:World)(h:SB w A m c nd)(hB:Blk w bx 3 [.int .i64 n]):
  Fn Tryz.prog 165 [.slice A m c,.func (.func 110) #[] #[.pointer (some ⟨bx,0,none⟩)]] w (λu w'=>(∃k:Int,u= .int .i64 k/\(0<=k↔∃b∈nd,(n:Int)<=b.v))/\Ext w w'):=by
 have hn:=h.2;have Zz:=h.1.le;have bz:=h.1.cap;refine QF (c:={cQM with cuts:=[]}) Qa Tryz.func165 rfl rfl rfl ?_;refine loop Qa [8] (λi:Nat=>[.int .i64 i]) (λi w'=>Ext w w'/\i<=m/\∀b∈nd.take i,¬(n:Int)<=b.v) (λi _=>m-i) 0 rfl ⟨Ext.refl _,Xr _,λb hb=>by simp at hb⟩ ?_;rintro i w1 ⟨Qe,hi,Xi⟩;refine Qz (λc1=>?_) (λc1=>?_)
 ·have QZ:i<m:=by omega
  refine Zv ah (h.ext Qe) rfl QZ (λp b hb hc=>?_);refine Kn (vs:=b.cells) rfl hc ?_;refine call (hQs b n bx w1 (hB.ext Qe)) ?_;rintro _ w2 ⟨rfl,Qg⟩;have uz:=Xm hb;refine Qz (λd1=>?_) (λd1=>?_)
  ·exact⟨⟨i,rfl,⟨λ_=>⟨b,uz,d1⟩,λ_=>by omega⟩⟩,Qe.trans Qg⟩
  ·simp only[maxLen] at bz;refine Qi ((i+1:Nat):Int) (by show((i:Nat):Int)+1=_;omega) (by omega) ?_;refine⟨i+1,rfl,⟨Qe.trans Qg,QZ,λb' hb'=>?_⟩,by show m-(i+1)<m-i;omega⟩;rw[K9,hb] at hb';rcases XM.1 hb' with hb' | hb'
   ·exact Xi b' hb'
   ·have:b'=b:=by simpa using hb'
    rw[this];exact d1
 ·have QZ:i=m:=by omega
  rw[QZ,Jc (by omega)] at Xi;exact⟨⟨-1,rfl,⟨λhh=>Xn hh (by decide),λ⟨b,hb,hh⟩=>Xn hh (Xi b hb)⟩⟩,Qe⟩
theorem F5 (A:Option Addr)(m c n:Nat)(nd:List Br)(r:Int)(w:World)(h:SB w A m c nd):
  Fn Tryz.prog 61 [Xk A m c r,.int .i64 n] w (λu w'=>u= .bool (Ka n nd r)/\Ext w w'):=by
 refine QF (c:={c61 with cuts:=[]}) Qa Tryz.func61 rfl rfl rfl ?_;refine new (λw1 Qe Q4 Qh=>?_);refine new (λw2 Qg Zb Qx=>?_);have Q5:=Qe.trans Qg;refine Qt (Qh.ext Qg) rfl ?_;refine call (zM A m c nd r w2 (h.ext Q5)) ?_;rintro _ w3 ⟨rfl,Qj⟩;have QX:=Q5.trans Qj;refine X3 (λc1=>?_) (λc1=>?_)
 ·refine QD ((Qh.ext Qg).ext Qj) rfl ?_;refine call (QF (c:={bQ8 with cuts:=[]}) (R:=λu w'=>u= .bool (decide (∃b∈nd,(n:Int)<=b.v))/\Ext w3 w') Qa Tryz.func109 rfl rfl rfl ?_) ?_
  ·refine call (hQt nd A m c n w1.heap.size w3 (h.ext QX) (Qx.ext Qj)) ?_;rintro _ w4 ⟨⟨k,rfl,hk⟩,Qs⟩;refine⟨?_,Qs⟩;refine QC Value.bool ?_;by_cases hh:∃b∈nd,(n:Int)<=b.v
   ·rw[Zy hh];exact Zy (hk.2 hh)
   ·rw[Zq hh];exact Zq (λh2=>hh (hk.1 h2))
  rintro _ w4 ⟨rfl,Qs⟩;refine⟨?_,QX.trans Qs⟩;refine QC Value.bool ?_;by_cases hh:∃b∈nd,(n:Int)<=b.v
  ·rw[Zy hh]
   symm;refine fI.2 (λho=>?_);obtain⟨b,hb,hv⟩:=hh;have:=(td.1 ho).2 b hb;omega
  ·rw[Zq hh];exact(td.2 ⟨c1,λb hb=>by
    apply Classical.byContradiction;intro hv;exact hh ⟨b,hb,by omega⟩⟩).symm
 ·refine⟨?_,QX⟩;refine QC Value.bool ?_;exact(fI.2 (λho=>c1 (td.1 ho).1)).symm
theorem hQu {k:Nat}(hk:k<=12)(x y:DV){o o':BF}(w:World)(h:SB w x.A x.n x.c x.nd)(h':SB w y.A y.n y.c y.nd)(s:Set1 k x.nd x.r o)(s':Set1 k y.nd y.r o'):
  Fn Tryz.prog 115 [Xk x.A x.n x.c x.r,Xk none 0 0 0,Xk y.A y.n y.c y.r] w (vY w k (λe=> !o e&&o' e)):=by
 have gr:=h.2;have hyl:=h'.2;have l1:=s.len hk;have l2:=s'.len hk;refine QF (c:={cQd with cuts:=[]}) Qa Tryz.func115 rfl rfl rfl ?_;refine new (λw1 Qe Q4 Qh=>?_);refine new (λw2 Qg Zb Qx=>?_);refine new (λw3 Qj JC Qu=>?_);refine new (λw4 Qs KO Q7=>?_);have KR:=Qj.trans Qs;have J1:=Qg.trans KR;have XG:=Qe.trans J1;have J2:=Qh.ext J1;have lj:=Qx.ext KR;have jt:=Qu.ext Qs;refine Qt J2 rfl ?_;refine Qt lj rfl ?_;refine Qt jt rfl ?_;refine Xh Qa [x.cells,(⟨none,0,0,[],0⟩:DV).cells,y.cells] rfl rfl rfl rfl rfl ⟨rfl,rfl,rfl,rfl,rfl,rfl,⟨⟩⟩ rfl (λcs h=>by simp only[Q1,Jo,Jw] at h;rcases h with rfl | rfl | rfl<;>rfl) rfl (by decide) (by decide) ?_;intro w5 Qw KP QG;have J3:=XG.trans Qw;have hL:SlS DV.cells 2 w5 (some ⟨w4.heap.size,0,none⟩) 3 3 [x,⟨none,0,0,[],0⟩,y]:=⟨Sl.own (sz:=2) (n:=3) QG (QB _) (by decide) (by simp[DV.cells]),rfl⟩
 refine call (Ac _ 3 3 _ w5 hL (λz hz=>by
  simp only[Q1,Jo,Jw] at hz;rcases hz with rfl | rfl | rfl
  ·exact h.ext J3
  ·exact SlS.nil _
  ·exact h'.ext J3)) ?_
 rintro v w6 ⟨rfl,QO⟩;have XF:=Qw.trans QO;have XR:=XG.trans XF;have iy:cH [x,(⟨none,0,0,[],0⟩:DV),y]=0:=by
  have e1:XL x.nd x.r=0:=s.chk hk;have e2:XL y.nd y.r=0:=s'.chk hk;have e3:XL ([]:List Br) 0=0:=(aW k false).chk hk;simp[cH,e1,e2,e3]
 rw[iy];refine ac rfl ?_;refine Qt (J2.ext XF) rfl ?_;refine Qt (lj.ext XF) rfl ?_;refine Qt (jt.ext XF) rfl ?_;have va:=s.vd;have vb:=s'.vd;have hb2:=E8 va vb 4;have Dq:(x.nd.length+2)*(y.nd.length+2)<=4098*4098:=Nat.mul_le_mul (by omega) (by omega);refine call (fQS x.A x.n x.c x.nd x.r y.A y.n y.c y.nd y.r w6 (h.ext XR) (h'.ext XR) va.dok vb.dok va.2.1 (by have:=va.2.2.1;omega) vb.2.1 (by have:=vb.2.2.1;omega) (by omega) (by omega) (by omega)) ?_;have c4:Set1 k _ _ (λe=> !o e&&o' e):=(eC s s' 4).congr (λe=>by simp[Kv]);have Zm:=gM hk s s' 4;have eo:jb (VF x.nd x.r y.nd y.r 4)=(VF x.nd x.r y.nd y.r 4,0):=by unfold jb;rw[if_neg (by have:=c4.len hk;omega)]
 generalize VF x.nd x.r y.nd y.r 4=D at*;obtain⟨D1,D2⟩:=D;rintro v w7 ⟨OA,m,oc,rfl,Xb,H4,Vr⟩;have Ye:=XF.trans Xb;have z67:=XR.size;refine call (PO OA m oc _ _ w4 w7 H4 (λi hi=>by have:=Vr i hi;have:=XF.size;omega) Ye) ?_;rw[eo];rintro v w8 ⟨PA,q,pc,rfl,Xl,wY,tM⟩;refine Qv (Q7.ext Xl) rfl (sc rfl) (λw9 eZ _ JD=>?_);have Zj:Mod (·=w3.heap.size) w8 w9:=nQQ eZ rfl;refine Qt JD rfl ?_;exact⟨PA,q,pc,D1,D2,rfl,Zj.ext (XG.trans Xl) (λi hi=>by omega),⟨wY.1.modS Zj (λ_ i hi e=>by have:=tM i hi;omega),wY.2⟩,c4,λi hi=>by have:=tM i hi;omega⟩
theorem F6 (w:World):Fn Tryz.prog 44 [.int .i64 0] w (λ_ w'=>w=w'):=by
 refine QF (c:={NR with cuts:=[]}) Qa Tryz.func44 rfl rfl rfl ?_;refine ac rfl ?_;exact rfl
theorem AN (x:DV)(w:World):Fn Tryz.prog 100 [Xk x.A x.n x.c x.r,.int .i64 0] w (λu w'=>u=Xk x.A x.n x.c x.r/\Ext w w'):=by
 refine QF (c:={bQ0 with cuts:=[]}) Qa Tryz.func100 rfl rfl rfl ?_;refine new (λw1 Qe Q4 Qh=>?_);refine new (λw2 Qg Zb Qx=>?_);refine call (F6 w2) ?_;rintro _ _ rfl;refine Qt (Qh.ext Qg) rfl ?_;refine Qv Qx rfl (sc rfl) (λw3 Z7 _ Qu=>?_);have Z1:Mod (·=w1.heap.size) w2 w3:=nQQ Z7 rfl;refine Qt Qu rfl ?_;exact⟨rfl,Z1.ext (Qe.trans Qg) (λi hi=>by omega)⟩
theorem mK {k:Nat}(hk:k<=12)(x y:DV){o o':BF}(w:World)(h:SB w x.A x.n x.c x.nd)(h':SB w y.A y.n y.c y.nd)(s:Set1 k x.nd x.r o)(s':Set1 k y.nd y.r o'):
  Fn Tryz.prog 49 [Xk x.A x.n x.c x.r,Xk y.A y.n y.c y.r] w (gQ w k (λe=>o e&&o' e)):=by
 refine QF (c:={c49 with cuts:=[]}) Qa Tryz.func49 rfl rfl rfl ?_;refine new (λw1 Qe Q4 Qh=>?_);refine new (λw2 Qg Zb Qx=>?_);refine new (λw3 Qj JC Qu=>?_);have Yy:=Qg.trans Qj;have QX:=Qe.trans Yy;refine Qt (Qh.ext Yy) rfl ?_;refine Qt (Qx.ext Qj) rfl ?_;refine call (vP x.A x.n x.c x.nd x.r y.A y.n y.c y.nd y.r w3 (h.ext QX) (h'.ext QX)) ?_;rw[gM hk s s' 0];have c1:Set1 k _ _ (λe=>o e&&o' e):=(eC s s' 0).congr (λe=>by simp[Kv]);generalize VF x.nd x.r y.nd y.r 0=D at*;obtain⟨D1,D2⟩:=D;rintro _ w5 ⟨PA,pn,pc,rfl,Qw,qm,bq⟩;refine call (AN ⟨PA,pn,pc,D1,D2⟩ w5) ?_;rintro _ w6 ⟨rfl,QO⟩;have bt:=Qw.trans QO;refine Qv (Qu.ext bt) rfl (sc rfl) (λw7 ZB _ Q2=>?_);have Xf:Mod (·=w2.heap.size) w6 w7:=nQQ ZB rfl;refine Qt Q2 rfl ?_;exact⟨PA,pn,pc,D1,D2,rfl,Xf.ext (QX.trans bt) (λi hi=>by omega),SB.mod (qm.ext QO) Xf (λi hi e=>by have:=bq i hi;omega),c1,λi hi=>by have:=bq i hi;omega⟩
theorem eF {k:Nat}(hk:k<=12)(x y:DV){o o':BF}(w:World)(h:SB w x.A x.n x.c x.nd)(h':SB w y.A y.n y.c y.nd)(s:Set1 k x.nd x.r o)(s':Set1 k y.nd y.r o'):
  Fn Tryz.prog 64 [Xk x.A x.n x.c x.r,Xk y.A y.n y.c y.r] w (gQ w k (λe=>o e && !o' e)):=by
 refine QF (c:={c64 with cuts:=[]}) Qa Tryz.func64 rfl rfl rfl ?_;refine new (λw1 Qe Q4 Qh=>?_);refine new (λw2 Qg Zb Qx=>?_);refine new (λw3 Qj JC Qu=>?_);have Yy:=Qg.trans Qj;have QX:=Qe.trans Yy;refine Qt (Qx.ext Qj) rfl ?_;refine Qt (Qh.ext Yy) rfl ?_;refine call (hQu hk y x w3 (h'.ext QX) (h.ext QX) s' s) ?_;rintro _ w5 ⟨PA,pn,pc,D1,D2,rfl,Qw,qm,dZ,bq⟩;refine call (AN ⟨PA,pn,pc,D1,D2⟩ w5) ?_;rintro _ w6 ⟨rfl,QO⟩;have bt:=Qw.trans QO;refine Qv (Qu.ext bt) rfl (sc rfl) (λw7 ZB _ Q2=>?_);have Xf:Mod (·=w2.heap.size) w6 w7:=nQQ ZB rfl;refine Qt Q2 rfl ?_;exact⟨PA,pn,pc,D1,D2,rfl,Xf.ext (QX.trans bt) (λi hi=>by omega),SB.mod (qm.ext QO) Xf (λi hi e=>by have:=bq i hi;omega),dZ.congr (λe=>by rw[Bool.and_comm]),λi hi=>by have:=bq i hi;omega⟩
abbrev JL (ls:List (List Nat)):List Value:=XB (ls.map (·++ [10]))
theorem AO (ls:List (List Nat)):(JL ls).length=ls.length:=by rw[aU,JF]
theorem cO {ls:List (List Nat)}{j:Nat}{s:List Nat}(h:ls[j]? =some s):(JL ls)[j]? =some (.string (Qd (s++ [10]))):=j8 (by rw[aL,h];rfl)
theorem Sl.from {w:World}{n c l:Nat}{A:Option Addr}{cs:List Value}(h:Sl w 1 A n c cs)(hl:l<=n):Sl w 1 (if c=l then A else A.map (·.add (l*1))) (n-l) (c-l) (cs.drop l):=by
 have h1:=h.len;have h2:=h.le;have h3:=h.cap;refine⟨by rw[Wj];omega,by omega,by omega,λh0=>?_⟩;obtain⟨ad,rfl,hc⟩:=h.at_ (by omega);refine⟨ad.add (l*1),by rw[if_neg (by omega)];rfl,λj u hu=>?_⟩;rw[Addr.add_add,YT];exact hc _ _ (by rw[D5] at hu;exact hu)
def kK (ls:List (List Nat)):Prop:=∀s∈ls,(∀x∈s,x<256)/\s.length<=1000000000
theorem gb {s:List Nat}(h:∀x∈s,x<256):∀x∈s++ [10],x<256:=λx hx=>by
 rcases XM.1 hx with hx | hx
 ·exact h x hx
 ·rw[QN.1 hx];decide
def aZ (back:Bool)(a:List (List Nat)):List (List Nat):=if back then a.reverse else a
theorem F7 (back:Bool)(a:List (List Nat)):(aZ back a).length=a.length:=by cases back<;>simp[aZ]
theorem Sk {back:Bool}{a:List (List Nat)}{k:Nat}{s:List Nat}(h:(aZ back a)[k]? =some s):a[if back then a.length-1-k else k]? =some s:=by
 cases back with
 | false=>exact h
 | true=>
  have hk:k<a.length:=by have:=(ZY.1 h).1;rw[F7] at this;exact this
  rw[show aZ true a=a.reverse from rfl,List.getElem?_reverse hk] at h;exact h
theorem hQv (b:List (List Nat))(k best:Nat)(o:Int):kF [] b k best o=best:=by cases b<;>rfl
theorem hQw (a:List (List Nat))(k best:Nat)(o:Int):kF a [] k best o=best:=by cases a<;>rfl
theorem Sm {α:Type}{l:List α}{k:Nat}{x:α}(h:l[k]? =some x):l.drop k=x::l.drop (k+1):=by
 obtain⟨hk,e⟩:=ZY.1 h;rw[W9 hk,e]
theorem So (a b:List (List Nat))(A B:Option Addr)(n c m d:Nat)(back:Bool)(w:World)(h:Sl w 1 A n c (JL a))(h':Sl w 1 B m d (JL b))(ha:kK a)(hb:kK b)(hn:n<=1000000000):
  Fn Tryz.prog 171 [.slice A n c,.slice B m d,.bool back] w (λu w'=>u= .int .i64 (Yt (aZ back a) (aZ back b))/\Ext w w'):=by
 have KV:a.length=n:=by have:=h.len;rw[AO] at this;omega
 have fu:b.length=m:=by have:=h'.len;rw[AO] at this;omega
 have Md:m<=9223372036854775807:=by have:=h'.le;have:=h'.cap;simp only[maxLen] at this;omega
 have hA:=F7 back a;have hB:=F7 back b;refine QF (c:={cQR with cuts:=[]}) Qa Tryz.func171 rfl rfl rfl ?_;refine norm (m:=((min n m:Nat):Int)) (by rw[Nat.min_def];split<;>split<;>omega) ?_;generalize Dc:min n m=mn;have Zt:mn<=n:=by omega
 have XQ:mn<=m:=by omega
 have XC:mn=n∨mn=m:=by omega
 refine loop Qa [17,7,8] (λs:Nat×Nat×Int=>[.int .i64 s.1,.int .i64 s.2.1,.int .i64 s.2.2]) (λs w'=>Ext w w'/\s.1<=mn/\s.2.1<=s.1/\ -(s.1:Int)<=s.2.2/\s.2.2<=s.1/\kF ((aZ back a).drop s.1) ((aZ back b).drop s.1) s.1 s.2.1 s.2.2=Yt (aZ back a) (aZ back b)) (λs _=>mn-s.1) (0,0,0) rfl ⟨Ext.refl _,Xr _,QB _,by simp,by simp,rfl⟩ ?_;rintro⟨k,best,o⟩ w1 ⟨Qe,hk,gt,dY,gf,QJ⟩;simp only at hk gt dY gf QJ;refine Qz (λc1=>?_) (λc1=>?_)
 ·have Xj:k<mn:=by simp only at c1;omega
  obtain⟨x,hx⟩:∃x,(aZ back a)[k]? =some x:=⟨_,Xp (by omega)⟩
  obtain⟨y,hy⟩:∃y,(aZ back b)[k]? =some y:=⟨_,Xp (by omega)⟩
  rw[Sm hx,Sm hy,kF] at QJ;have VC:=Sk hx;have lG:=Sk hy;have Ji:=ha x (Xm VC);have jF:=hb y (Xm lG);obtain⟨x0,cV⟩:∃x0,a[k]? =some x0:=⟨_,Xp (by omega)⟩
  obtain⟨y0,UZ⟩:∃y0,b[k]? =some y0:=⟨_,Xp (by omega)⟩
  refine XK Qa (Ext w1) 10 [(true,0),(true,1),(true,2),(true,3),(true,4),(true,5),(true,6),(true,7),(true,8),(true,9)] (by kernel_rfl) (Ext.drew w1) ?_;refine KC (h.ext Qe) (by omega) (λad u Dz hu Xq=>?_);rw[cO cV] at hu;cases hu;refine QK (v:=.string (Qd (x0++ [10]))) (λw' Qb=>Qb.cell Xq) ?_;refine KC (h'.ext Qe) (by omega) (λad u Dz hu Xq=>?_);rw[cO UZ] at hu;cases hu;refine QK (v:=.string (Qd (y0++ [10]))) (λw' Qb=>Qb.cell Xq) ?_;cases back with
  | false=>
   refine Q3 rfl ?_;have ex:x=x0:=(Option.some.inj (cV.symm.trans VC)).symm;have ey:y=y0:=(Option.some.inj (UZ.symm.trans lG)).symm;subst ex ey;have cZ:=Qe.trans (Ext.drew w1);have aK:(Qd (x++ [10])=Qd (y++ [10]))↔x=y:=⟨λhh=>by have:=J8 (gb Ji.1) (gb jF.1) hh;exact D6 this,λhh=>by rw[hh]⟩
   by_cases Xu:x=y
   ·rw[Qf Xu] at QJ;refine Q3 (by simp[aK.2 Xu]) ?_;refine call (FG (x++ [10]) ZQ _ (gb Ji.1) (by decide)) ?_;rintro _ _ ⟨rfl,rfl⟩;rw[Rf];cases hp:ZQ.isPrefixOf x with
    | true=>
     have hd:YZ x=1:=by unfold YZ;rw[Qf hp]
     refine Q8 rfl ?_;refine Qi (o+1) rfl (by omega) ?_;have Zp:=QJ;rw[hd] at Zp;by_cases h0:o+1=0
     ·rw[Qf h0] at Zp;refine Jp h0 ?_;refine Qi ((k+1:Nat):Int) (by show((k:Nat):Int)+1=_;omega) (by omega) ?_;refine Qi ((k+1:Nat):Int) (by show((k:Nat):Int)+1=_;omega) (by omega) ?_;exact⟨(k+1,k+1,o+1),rfl,⟨cZ,Xj,QB _,by show -((k+1:Nat):Int)<=o+1;omega,by show o+1<=((k+1:Nat):Int);omega,Zp⟩,by show mn-(k+1)<mn-k;omega⟩
     ·rw[if_neg h0] at Zp;refine Xy h0 ?_;refine Qi ((k+1:Nat):Int) (by show((k:Nat):Int)+1=_;omega) (by omega) ?_;exact⟨(k+1,best,o+1),rfl,⟨cZ,Xj,by show best<=k+1;omega,by show -((k+1:Nat):Int)<=o+1;omega,by show o+1<=((k+1:Nat):Int);omega,Zp⟩,by show mn-(k+1)<mn-k;omega⟩
    | false=>
     refine Q3 rfl ?_;have QU:(Qd (x++ [10])=Qd (ZK++ [10]))↔x=ZK:=⟨λhh=>by have:=J8 (gb Ji.1) (by decide) hh;exact D6 this,λhh=>by rw[hh]⟩
     by_cases he:x=ZK
     ·have hd:YZ x= -1:=by unfold YZ;rw[if_neg (by rw[hp];decide),Qf he]
      refine Zh (QU.2 he) ?_;refine Qi (o-1) rfl (by omega) ?_;have Zp:=QJ;rw[hd,show o+(-1)=o-1 by omega] at Zp;by_cases h0:o-1=0
      ·rw[Qf h0] at Zp;refine Jp h0 ?_;refine Qi ((k+1:Nat):Int) (by show((k:Nat):Int)+1=_;omega) (by omega) ?_;refine Qi ((k+1:Nat):Int) (by show((k:Nat):Int)+1=_;omega) (by omega) ?_;exact⟨(k+1,k+1,o-1),rfl,⟨cZ,Xj,QB _,by show -((k+1:Nat):Int)<=o-1;omega,by show o-1<=((k+1:Nat):Int);omega,Zp⟩,by show mn-(k+1)<mn-k;omega⟩
      ·rw[if_neg h0] at Zp;refine Xy h0 ?_;refine Qi ((k+1:Nat):Int) (by show((k:Nat):Int)+1=_;omega) (by omega) ?_;exact⟨(k+1,best,o-1),rfl,⟨cZ,Xj,by show best<=k+1;omega,by show -((k+1:Nat):Int)<=o-1;omega,by show o-1<=((k+1:Nat):Int);omega,Zp⟩,by show mn-(k+1)<mn-k;omega⟩
     ·have hd:YZ x=0:=by unfold YZ;rw[if_neg (by rw[hp];decide),if_neg he]
      refine XD (λhh=>he (QU.1 hh)) ?_;have Zp:=QJ;rw[hd,show o+0=o by omega] at Zp;by_cases h0:o=0
      ·rw[Qf h0] at Zp;refine Jp h0 ?_;refine Qi ((k+1:Nat):Int) (by show((k:Nat):Int)+1=_;omega) (by omega) ?_;refine Qi ((k+1:Nat):Int) (by show((k:Nat):Int)+1=_;omega) (by omega) ?_;exact⟨(k+1,k+1,o),rfl,⟨cZ,Xj,QB _,by show -((k+1:Nat):Int)<=o;omega,by show o<=((k+1:Nat):Int);omega,Zp⟩,by show mn-(k+1)<mn-k;omega⟩
      ·rw[if_neg h0] at Zp;refine Xy h0 ?_;refine Qi ((k+1:Nat):Int) (by show((k:Nat):Int)+1=_;omega) (by omega) ?_;exact⟨(k+1,best,o),rfl,⟨cZ,Xj,by show best<=k+1;omega,by show -((k+1:Nat):Int)<=o;omega,by show o<=((k+1:Nat):Int);omega,Zp⟩,by show mn-(k+1)<mn-k;omega⟩
   ·rw[if_neg Xu] at QJ;refine Q8 (by rw[Zq (λhh=>Xu (aK.1 hh))];rfl) ?_;exact⟨by rw[<-QJ],cZ⟩
  | true=>
   refine Q8 rfl ?_;refine XK Qa (Ext w1.drew) 18 [(true,0),(true,1),(true,2),(true,3),(true,4),(true,5),(true,6),(true,7),(true,8),(true,9),(true,10),(true,11),(true,12),(true,13),(true,14),(true,15),(true,16),(true,17)] (by kernel_rfl) (Ext.drew w1.drew) ?_;refine Qi ((a.length-1:Nat):Int) (by omega) (by omega) ?_;refine Qi ((a.length-1-k:Nat):Int) (by omega) (by omega) ?_;refine KC ((h.ext Qe).ext (Ext.drew w1)) (by omega) (λad u Dz hu Xq=>?_);rw[cO (show a[a.length-1-k]? =some x from VC)] at hu;cases hu;refine QK (v:=.string (Qd (x++ [10]))) (λw' Qb=>Qb.cell Xq) ?_;refine Qi ((b.length-1:Nat):Int) (by omega) (by omega) ?_;refine Qi ((b.length-1-k:Nat):Int) (by omega) (by omega) ?_;refine KC ((h'.ext Qe).ext (Ext.drew w1)) (by omega) (λad u Dz hu Xq=>?_);rw[cO (show b[b.length-1-k]? =some y from lG)] at hu;cases hu;refine QK (v:=.string (Qd (y++ [10]))) (λw' Qb=>Qb.cell Xq) ?_;have cZ:=(Qe.trans (Ext.drew w1)).trans (Ext.drew _);have aK:(Qd (x++ [10])=Qd (y++ [10]))↔x=y:=⟨λhh=>by have:=J8 (gb Ji.1) (gb jF.1) hh;exact D6 this,λhh=>by rw[hh]⟩
   by_cases Xu:x=y
   ·rw[Qf Xu] at QJ;refine Q3 (by simp[aK.2 Xu]) ?_;refine call (FG (x++ [10]) ZQ _ (gb Ji.1) (by decide)) ?_;rintro _ _ ⟨rfl,rfl⟩;rw[Rf];cases hp:ZQ.isPrefixOf x with
    | true=>
     have hd:YZ x=1:=by unfold YZ;rw[Qf hp]
     refine Q8 rfl ?_;refine Qi (o+1) rfl (by omega) ?_;have Zp:=QJ;rw[hd] at Zp;by_cases h0:o+1=0
     ·rw[Qf h0] at Zp;refine Jp h0 ?_;refine Qi ((k+1:Nat):Int) (by show((k:Nat):Int)+1=_;omega) (by omega) ?_;refine Qi ((k+1:Nat):Int) (by show((k:Nat):Int)+1=_;omega) (by omega) ?_;exact⟨(k+1,k+1,o+1),rfl,⟨cZ,Xj,QB _,by show -((k+1:Nat):Int)<=o+1;omega,by show o+1<=((k+1:Nat):Int);omega,Zp⟩,by show mn-(k+1)<mn-k;omega⟩
     ·rw[if_neg h0] at Zp;refine Xy h0 ?_;refine Qi ((k+1:Nat):Int) (by show((k:Nat):Int)+1=_;omega) (by omega) ?_;exact⟨(k+1,best,o+1),rfl,⟨cZ,Xj,by show best<=k+1;omega,by show -((k+1:Nat):Int)<=o+1;omega,by show o+1<=((k+1:Nat):Int);omega,Zp⟩,by show mn-(k+1)<mn-k;omega⟩
    | false=>
     refine Q3 rfl ?_;have QU:(Qd (x++ [10])=Qd (ZK++ [10]))↔x=ZK:=⟨λhh=>by have:=J8 (gb Ji.1) (by decide) hh;exact D6 this,λhh=>by rw[hh]⟩
     by_cases he:x=ZK
     ·have hd:YZ x= -1:=by unfold YZ;rw[if_neg (by rw[hp];decide),Qf he]
      refine Zh (QU.2 he) ?_;refine Qi (o-1) rfl (by omega) ?_;have Zp:=QJ;rw[hd,show o+(-1)=o-1 by omega] at Zp;by_cases h0:o-1=0
      ·rw[Qf h0] at Zp;refine Jp h0 ?_;refine Qi ((k+1:Nat):Int) (by show((k:Nat):Int)+1=_;omega) (by omega) ?_;refine Qi ((k+1:Nat):Int) (by show((k:Nat):Int)+1=_;omega) (by omega) ?_;exact⟨(k+1,k+1,o-1),rfl,⟨cZ,Xj,QB _,by show -((k+1:Nat):Int)<=o-1;omega,by show o-1<=((k+1:Nat):Int);omega,Zp⟩,by show mn-(k+1)<mn-k;omega⟩
      ·rw[if_neg h0] at Zp;refine Xy h0 ?_;refine Qi ((k+1:Nat):Int) (by show((k:Nat):Int)+1=_;omega) (by omega) ?_;exact⟨(k+1,best,o-1),rfl,⟨cZ,Xj,by show best<=k+1;omega,by show -((k+1:Nat):Int)<=o-1;omega,by show o-1<=((k+1:Nat):Int);omega,Zp⟩,by show mn-(k+1)<mn-k;omega⟩
     ·have hd:YZ x=0:=by unfold YZ;rw[if_neg (by rw[hp];decide),if_neg he]
      refine XD (λhh=>he (QU.1 hh)) ?_;have Zp:=QJ;rw[hd,show o+0=o by omega] at Zp;by_cases h0:o=0
      ·rw[Qf h0] at Zp;refine Jp h0 ?_;refine Qi ((k+1:Nat):Int) (by show((k:Nat):Int)+1=_;omega) (by omega) ?_;refine Qi ((k+1:Nat):Int) (by show((k:Nat):Int)+1=_;omega) (by omega) ?_;exact⟨(k+1,k+1,o),rfl,⟨cZ,Xj,QB _,by show -((k+1:Nat):Int)<=o;omega,by show o<=((k+1:Nat):Int);omega,Zp⟩,by show mn-(k+1)<mn-k;omega⟩
      ·rw[if_neg h0] at Zp;refine Xy h0 ?_;refine Qi ((k+1:Nat):Int) (by show((k:Nat):Int)+1=_;omega) (by omega) ?_;exact⟨(k+1,best,o),rfl,⟨cZ,Xj,by show best<=k+1;omega,by show -((k+1:Nat):Int)<=o;omega,by show o<=((k+1:Nat):Int);omega,Zp⟩,by show mn-(k+1)<mn-k;omega⟩
   ·rw[if_neg Xu] at QJ;refine Q8 (by rw[Zq (λhh=>Xu (aK.1 hh))];rfl) ?_;exact⟨by rw[<-QJ],cZ⟩
 ·have Xj:k=mn:=by simp only at c1;omega
  subst Xj;refine⟨?_,Qe⟩;rcases XC with e | e
  ·rw[o7 (by omega),hQv] at QJ;rw[<-QJ]
  ·rw[o7 (show(aZ back b).length<=k by omega),hQw] at QJ;rw[<-QJ]
theorem a8 (ls:List (List Nat)):∀u∈XB ls,JG u=true:=λu hu=>by
 unfold XB at hu;obtain⟨s,_,rfl⟩:=X7.1 hu;rfl
theorem hQx (ls:List (List Nat))(A:Option Addr)(n c:Nat)(w:World)(h:Sl w 1 A n c (XB ls))(hn:n<=1000000000):
  Fn Tryz.prog 172 [.slice A n c] w (λu w'=>∃A' c',u= .slice A' n c'/\Ext w w'/\Own w' w.heap.size 9 1 A' n c' (XB ls)):=by
 have hl:ls.length=n:=by have:=h.len;rw[aU] at this;omega
 refine QF (c:={cQS with cuts:=[]}) Qa Tryz.func172 rfl rfl rfl ?_;cases A with
 | none=>
  have h0:n=0:=Classical.byContradiction (λhh=>by obtain⟨ad,e,_⟩:=h.at_ (by omega);cases e);subst h0;have Ks:ls=[]:=Wg hl;subst Ks;refine Q8 rfl ?_;exact⟨none,0,rfl,Ext.refl _,Own.nil _ _ _ _⟩
 | some a=>
  refine Q3 rfl ?_;refine Xh Qa [] rfl rfl rfl rfl rfl ⟨⟩ rfl (λcs h=>by cases h) rfl (by decide) (by decide) ?_;intro w1 Qe Q4 Qh;have U0:Own w1 w.heap.size 9 1 (some ⟨w.heap.size,0,none⟩) 0 0 []:=Own.empty Qh (QB _);refine Z4 (n:=0) Qa rfl rfl rfl rfl rfl (by decide) rfl rfl ⟨_,rfl⟩ rfl rfl U0 (h.ext Qe) (a8 ls) (by unfold maxLen;omega) (by show(0+n)*16<=_;omega) (by omega) ?_;intro A' c' w2 XQ dU mW;rw[Wh,bF] at dU;refine⟨A',c',by rw[Wh],XQ.ext Qe (λk hk=>(U0.rows k hk).1),dU⟩
theorem F8 (ls:List (List Nat))(k:Nat):(JL ls).take k=JL (ls.take k):=by simp[JL,XB,List.map_take]
theorem Sp (ls:List (List Nat))(k:Nat):(JL ls).drop k=JL (ls.drop k):=by simp[JL,XB,List.map_drop]
theorem hQy (a b:List (List Nat)):JL (a++b)=JL a++JL b:=by simp[JL,XB]
theorem F9 {c:Cx}(hg:c.g.Ok){o:Oper}{S:Env}{C:World->Prop}{K:Env->Prop}{t e:Nat}{x y:Operand}{A:Option Addr}{n cp:Nat}{h:Nat}{r:TyRow}(ho:o.op= .slice t x none (some y) none)(hr:QT c.g.tys t=some r)(hd:r.d= .slice e){re:TyRow}(X2:QT c.g.tys e=some re)
  (hx:S.ev x=some (.slice A n cp)) (hy:S.ev y=some (.int .i64 h)) (hh:h<=cp)
  (k:Xd c S o.dst (.v (.slice A h cp)) K):cA c o S C K:=by
 have Q0:=(hg.row hr).1;rw[hd] at Q0;unfold cA;refine⟨_,λa w hf _=>?_,k⟩;have e1:=hf.ev hx;have e2:=hf.ev hy;simp[execOp,ho,e1,e2,Instr.sliceAt,Instr.slice,ZU Q0,Instr.sliceBounds,Instr.sliceBound,asIntOf,hh,run_sizeOf hg X2];intro _;cases A<;>simp[Addr.add]
theorem Sq {c:Cx}(hg:c.g.Ok){o:Oper}{S:Env}{C:World->Prop}{K:Env->Prop}{t e:Nat}{x y:Operand}{A:Option Addr}{n cp:Nat}{l:Nat}{r:TyRow}(ho:o.op= .slice t x (some y) none none)(hr:QT c.g.tys t=some r)(hd:r.d= .slice e){re:TyRow}(X2:QT c.g.tys e=some re)
  (hx:S.ev x=some (.slice A n cp)) (hy:S.ev y=some (.int .i64 l)) (hl:l<=n)
  (k:Xd c S o.dst (.v (.slice (if cp=l then A else A.map (·.add (l*re.sz))) (n-l) (cp-l))) K):cA c o S C K:=by
 have Q0:=(hg.row hr).1;rw[hd] at Q0;unfold cA;refine⟨_,λa w hf _=>?_,k⟩;have e1:=hf.ev hx;have e2:=hf.ev hy;simp[execOp,ho,e1,e2,Instr.sliceAt,Instr.slice,ZU Q0,Instr.sliceBounds,Instr.sliceBound,asIntOf,hl,run_sizeOf hg X2]
structure Lo (w0 w:World) (O:Option Addr) (n oc:Nat) (ls:List (List Nat)):Prop where
 e:Ext w0 w
 ow:Own w w0.heap.size 9 1 O n oc (JL ls)
theorem Lo.ext {w0 w w':World}{O:Option Addr}{n oc:Nat}{ls:List (List Nat)}(h:Lo w0 w O n oc ls)(k:Ext w w'):Lo w0 w' O n oc ls:=⟨h.e.trans k,h.ow.ext k⟩
theorem Lo.app {w0 w w':World}{O O':Option Addr}{n m oc oc':Nat}{ls ys:List (List Nat)}(h:Lo w0 w O n oc ls)(hm:Mod (Qk O) w w')(ho:Own w' w0.heap.size 9 1 O' (n+m) oc' (JL ls++JL ys)):Lo w0 w' O' (n+m) oc' (ls++ys):=
 ⟨hm.ext h.e (λk hk=>(h.ow.rows k hk).1),by rw[hQy];exact ho⟩
theorem Lo.len {w0 w:World}{O:Option Addr}{n oc:Nat}{ls:List (List Nat)}(h:Lo w0 w O n oc ls):ls.length=n:=by have:=h.ow.sl.len;rw[AO] at this;omega
theorem ji {w:World}{A:Option Addr}{n c:Nat}{ls:List (List Nat)}(h:Sl w 1 A n c (JL ls)):ls.length=n:=by have:=h.len;rw[AO] at this;omega
theorem Lo.fin {w w0 w1:World}{O:Option Addr}{n oc:Nat}{ls:List (List Nat)}(hE:Ext w w0)(h:Lo w0 w1 O n oc ls):sW w (.slice O n oc) (ls.map (·++ [10])) w1:=⟨O,oc,by rw[JF,h.len],hE.trans h.e,by rw[JF,h.len];exact⟨h.ow.sl,λh0=>by obtain⟨g,sp,hA,_⟩:=h.ow.blk h0;exact⟨g,0,hA⟩⟩⟩
def eG (nm:List (List Nat))(v:Nat):List Nat:=(nm[v]?).getD []
theorem hQz (nm:List (List Nat))(v:Nat)(H L:List (List Nat))(A B:Option Addr)(n c m d:Nat)(w:World)(h:Sl w 1 A n c (JL H))(h':Sl w 1 B m d (JL L))(hH:kK H)(hL:kK L)(hv:(eG nm v).length<=1000000000)(hn:n<=100000000)(hm:m<=100000000):
  Fn Tryz.prog 118 [.string (Qd (eG nm v)),.slice A n c,.slice B m d] w (λu w'=>sW w u ((bO nm v H L).map (·++ [10])) w'):=by
 have hHl:=ji h;have uA:=ji h';refine QF (c:={cQg with cuts:=[]}) Qa Tryz.func118 rfl rfl rfl ?_;have BT:=So H L A B n c m d false w h h' hH hL (by omega);have hp0:Yt (aZ false H) (aZ false L)=Yt H L:=rfl;rw[hp0] at BT;refine call BT ?_;rintro _ w1 ⟨rfl,Qe⟩;obtain⟨p1,p2,_,_,_⟩:=FD H L;have Kk:bO nm v H L=bO nm v H L:=rfl;unfold bO at Kk;simp only at Kk;generalize hp:Yt H L=p at*;have Zz:=h.le;have nQD:=h'.le;refine iX Qa rfl rfl rfl rfl rfl rfl (by omega) ?_;have ht:=(h.ext Qe).take (m:=p) (by omega);rw[YT,F8] at ht;refine call (hQx ((H.take p).map (·++ [10])) A p c w1 ht (by omega)) ?_;rintro _ w2 ⟨O,oc,rfl,Qg,hO2⟩;have lo:Lo w1 w2 O p oc (H.take p):=⟨Qg,hO2⟩
 have q1:=(h.ext Qe).from (l:=p) (by omega)
 have q2:=(h'.ext Qe).from (l:=p) (by omega)
 rw[Sp] at q1 q2;refine XK Qa (Ext w2) 8 [(true,0),(true,1),(true,2),(true,3),(true,4),(true,5),(true,6),(true,7)] (by kernel_rfl) (Ext.drew w2) ?_;refine Sq Qa rfl rfl rfl rfl rfl rfl (by omega) ?_;refine Sq Qa rfl rfl rfl rfl rfl rfl (by omega) ?_;have Iw:=lo.ext (Ext.drew w2);have hDl:(H.drop p).length=n-p:=by rw[Wj];omega
 have hDm:(L.drop p).length=m-p:=by rw[Wj];omega
 have bD:∀{X:List (List Nat)} {k:Nat},kK X->kK (X.drop k):=λhX s hs=>hX s (aM hs)
 have Yx:=So (H.drop p) (L.drop p) _ _ _ _ _ _ true w2.drew (q1.ext Iw.e) (q2.ext Iw.e) (bD hH) (bD hL) (by omega);have Bh:Yt (aZ true (H.drop p)) (aZ true (L.drop p))=fX (H.drop p) (L.drop p):=rfl;rw[Bh] at Yx;refine call Yx ?_;rintro _ w3 ⟨rfl,Qj⟩;have lo3:=Iw.ext Qj;obtain⟨s1,s2,_⟩:=Rb (H.drop p) (L.drop p);generalize hs:fX (H.drop p) (L.drop p)=s at*;have hcA:p<=c:=by omega
 refine Qi ((n-p-s:Nat):Int) (by omega) (by omega) ?_;refine Et Qa rfl rfl rfl rfl rfl rfl (by omega) ?_;refine XK Qa (Ext w3) 14 [(true,0),(true,1),(true,2),(true,3),(true,4),(true,5),(true,6),(true,7),(true,8),(true,9),(true,10),(true,11),(true,12),(true,13)] (by kernel_rfl) (Ext.drew w3) ?_;refine Qi ((n-p-s:Nat):Int) (by omega) (by omega) ?_;refine F9 Qa rfl rfl rfl rfl rfl rfl (by omega) ?_;refine Qi ((m-p-s:Nat):Int) (by omega) (by omega) ?_;refine F9 Qa rfl rfl rfl rfl rfl rfl (by omega) ?_;have U4:=lo3.ext (Ext.drew w3);have r1:=q1.take (m:=n-p-s) (by omega);have r2:=q2.take (m:=m-p-s) (by omega);have rE:=q1.from (l:=n-p-s) (by omega)
 rw[YT (n-p-s),F8] at r1;rw[YT (m-p-s),F8] at r2;rw[Sp] at rE;have hj:bO nm v H L=H.take p++((if(H.drop p).take (n-p-s)=[] then VJ nm v true::(L.drop p).take (m-p-s)else VJ nm v false::((H.drop p).take (n-p-s)++if(L.drop p).take (m-p-s)=[] then [] else V0::(L.drop p).take (m-p-s)))++ZK::(H.drop p).drop (n-p-s)):=by
  unfold bO;simp only[hp,hs,hDl,hDm]
 have lH2:=ji r1;have lL2:=ji r2;have lE:=ji rE;generalize (H.drop p).take (n-p-s)=H2 at*;generalize (L.drop p).take (m-p-s)=L2 at*;generalize (H.drop p).drop (n-p-s)=E at*;have jL:=Xe (eG nm v);have h1s:(Qd [10]).size=1:=rfl;refine X3 (λc7=>?_) (λc7=>?_)
 ·have e2:H2=[]:=Wg (by omega);rw[Qf e2] at hj;have kY:=Xe (ZQ++(33::eG nm v));refine XH (v':=.string (Qd (ZQ++(33::eG nm v)))) (by show(Qd [35,105,102,32,33]).size+_<=_;rw[Xe,jL];show 5+_<=_;unfold maxLen;omega) (by show Value.string (Qd (ZQ++ [33])++Qd (eG nm v))=_;rw[ZV];rfl) ?_;refine XH (v':=.string (Qd (VJ nm v true++ [10]))) (by rw[kY];show _+1<=_;simp[ZQ];unfold maxLen;omega) (by show Value.string (Qd (ZQ++(33::eG nm v))++Qd [10])=_;rw[ZV];rfl) ?_;refine Xh Qa [[Value.string (Qd (VJ nm v true++ [10]))]] rfl rfl rfl rfl rfl ⟨rfl,rfl,⟨⟩⟩ rfl (λcs h=>by simp only[QN] at h;subst h;rfl) rfl (by decide) (by decide) ?_;intro wxa Me lQ2 Mf;have sxa:Sl wxa 1 _ 1 1 (JL [VJ nm v true]):=Sl.own' (n:=1) Mf rfl (by decide);have lya:=U4.ext Me;have lza:=lya.len;refine Z4 Qa rfl rfl rfl rfl rfl (by decide) rfl rfl ⟨_,rfl⟩ rfl rfl lya.ow sxa (a8 _) (by unfold maxLen;omega) (by show(_+1)*16<=_;omega) lya.e.size ?_;intro Oa oca wa Mg Mh _;have loa:=lya.app Mg Mh;refine Z4 Qa rfl rfl rfl rfl rfl (by decide) rfl rfl ⟨_,rfl⟩ rfl rfl loa.ow (r2.ext loa.e) (a8 _) (by unfold maxLen;omega) (by show(_+_)*16<=_;omega) loa.e.size ?_;intro Ob ocb wb Mi Mj _;have lob:=loa.app Mi Mj;refine Xh Qa [[Value.string (Qd (ZK++ [10]))]] rfl rfl rfl rfl rfl ⟨rfl,rfl,⟨⟩⟩ rfl (λcs h=>by simp only[QN] at h;subst h;rfl) rfl (by decide) (by decide) ?_;intro wxc yC aQP yD;have sxc:Sl wxc 1 _ 1 1 (JL [ZK]):=Sl.own' (n:=1) yD rfl (by decide);have lyc:=lob.ext yC;have lzc:=lyc.len;refine Z4 Qa rfl rfl rfl rfl rfl (by decide) rfl rfl ⟨_,rfl⟩ rfl rfl lyc.ow sxc (a8 _) (by unfold maxLen;omega) (by show(_+1)*16<=_;omega) lyc.e.size ?_;intro Oc occ wc uB yE _;have loc:=lyc.app uB yE;refine Z4 Qa rfl rfl rfl rfl rfl (by decide) rfl rfl ⟨_,rfl⟩ rfl rfl loc.ow (rE.ext loc.e) (a8 _) (by unfold maxLen;omega) (by show(_+_)*16<=_;omega) loc.e.size ?_;intro Od ocd wd bE yF _;have lod:=loc.app bE yF;have fin:=lod.fin Qe;have e9:((((H.take p++ [VJ nm v true])++L2)++ [ZK])++E)=bO nm v H L:=by rw[hj];simp
  rw[e9] at fin;exact fin
 ·have e2:H2≠ []:=λe=>c7 (by subst e;simp at lH2;omega)
  rw[if_neg e2] at hj;have kY:=Xe (ZQ++eG nm v);refine XH (v':=.string (Qd (ZQ++eG nm v))) (by show(Qd [35,105,102,32]).size+_<=_;rw[Xe,jL];show 4+_<=_;unfold maxLen;omega) (by show Value.string (Qd ZQ++Qd (eG nm v))=_;rw[ZV]) ?_;refine XH (v':=.string (Qd (VJ nm v false++ [10]))) (by rw[kY];show _+1<=_;simp[ZQ];unfold maxLen;omega) (by show Value.string (Qd (ZQ++eG nm v)++Qd [10])=_;rw[ZV];rfl) ?_;refine Xh Qa [[Value.string (Qd (VJ nm v false++ [10]))]] rfl rfl rfl rfl rfl ⟨rfl,rfl,⟨⟩⟩ rfl (λcs h=>by simp only[QN] at h;subst h;rfl) rfl (by decide) (by decide) ?_;intro wxa Me lQ2 Mf;have sxa:Sl wxa 1 _ 1 1 (JL [VJ nm v false]):=Sl.own' (n:=1) Mf rfl (by decide);have lya:=U4.ext Me;have lza:=lya.len;refine Z4 Qa rfl rfl rfl rfl rfl (by decide) rfl rfl ⟨_,rfl⟩ rfl rfl lya.ow sxa (a8 _) (by unfold maxLen;omega) (by show(_+1)*16<=_;omega) lya.e.size ?_;intro Oa oca wa Mg Mh _;have loa:=lya.app Mg Mh;refine Z4 Qa rfl rfl rfl rfl rfl (by decide) rfl rfl ⟨_,rfl⟩ rfl rfl loa.ow (r1.ext loa.e) (a8 _) (by unfold maxLen;omega) (by show(_+_)*16<=_;omega) loa.e.size ?_;intro Ob ocb wb Mi Mj _;have lob:=loa.app Mi Mj;refine Qz (λc8=>?_) (λc8=>?_)
  ·have e3:L2≠ []:=λe=>by subst e;simp at lL2;omega
   rw[if_neg e3] at hj;refine Xh Qa [[Value.string (Qd (V0++ [10]))]] rfl rfl rfl rfl rfl ⟨rfl,rfl,⟨⟩⟩ rfl (λcs h=>by simp only[QN] at h;subst h;rfl) rfl (by decide) (by decide) ?_;intro wxc yC aQP yD;have sxc:Sl wxc 1 _ 1 1 (JL [V0]):=Sl.own' (n:=1) yD rfl (by decide);have lyc:=lob.ext yC;have lzc:=lyc.len;refine Z4 Qa rfl rfl rfl rfl rfl (by decide) rfl rfl ⟨_,rfl⟩ rfl rfl lyc.ow sxc (a8 _) (by unfold maxLen;omega) (by show(_+1)*16<=_;omega) lyc.e.size ?_;intro Oc occ wc uB yE _;have loc:=lyc.app uB yE;refine Z4 Qa rfl rfl rfl rfl rfl (by decide) rfl rfl ⟨_,rfl⟩ rfl rfl loc.ow (r2.ext loc.e) (a8 _) (by unfold maxLen;omega) (by show(_+_)*16<=_;omega) loc.e.size ?_;intro Od ocd wd bE yF _;have lod:=loc.app bE yF;refine Xh Qa [[Value.string (Qd (ZK++ [10]))]] rfl rfl rfl rfl rfl ⟨rfl,rfl,⟨⟩⟩ rfl (λcs h=>by simp only[QN] at h;subst h;rfl) rfl (by decide) (by decide) ?_;intro wxe lQ3 nQE lQ4;have sxe:Sl wxe 1 _ 1 1 (JL [ZK]):=Sl.own' (n:=1) lQ4 rfl (by decide);have lye:=lod.ext lQ3;have lze:=lye.len;refine Z4 Qa rfl rfl rfl rfl rfl (by decide) rfl rfl ⟨_,rfl⟩ rfl rfl lye.ow sxe (a8 _) (by unfold maxLen;omega) (by show(_+1)*16<=_;omega) lye.e.size ?_;intro Oe oce we oJ lQ5 _;have loe:=lye.app oJ lQ5;refine Z4 Qa rfl rfl rfl rfl rfl (by decide) rfl rfl ⟨_,rfl⟩ rfl rfl loe.ow (rE.ext loe.e) (a8 _) (by unfold maxLen;omega) (by show(_+_)*16<=_;omega) loe.e.size ?_;intro Of ocf wf hmf lQ6 _;have lof:=loe.app hmf lQ6;have fin:=lof.fin Qe;have e9:((((((H.take p++ [VJ nm v false])++H2)++ [V0])++L2)++ [ZK])++E)=bO nm v H L:=by rw[hj];simp
   rw[e9] at fin;exact fin
  ·have e3:L2=[]:=Wg (by omega);rw[Qf e3] at hj;refine Xh Qa [[Value.string (Qd (ZK++ [10]))]] rfl rfl rfl rfl rfl ⟨rfl,rfl,⟨⟩⟩ rfl (λcs h=>by simp only[QN] at h;subst h;rfl) rfl (by decide) (by decide) ?_;intro wxc yC aQP yD;have sxc:Sl wxc 1 _ 1 1 (JL [ZK]):=Sl.own' (n:=1) yD rfl (by decide);have lyc:=lob.ext yC;have lzc:=lyc.len;refine Z4 Qa rfl rfl rfl rfl rfl (by decide) rfl rfl ⟨_,rfl⟩ rfl rfl lyc.ow sxc (a8 _) (by unfold maxLen;omega) (by show(_+1)*16<=_;omega) lyc.e.size ?_;intro Oc occ wc uB yE _;have loc:=lyc.app uB yE;refine Z4 Qa rfl rfl rfl rfl rfl (by decide) rfl rfl ⟨_,rfl⟩ rfl rfl loc.ow (rE.ext loc.e) (a8 _) (by unfold maxLen;omega) (by show(_+_)*16<=_;omega) loc.e.size ?_;intro Od ocd wd bE yF _;have lod:=loc.app bE yF;have fin:=lod.fin Qe;have e9:((((H.take p++ [VJ nm v false])++H2)++ [ZK])++E)=bO nm v H L:=by rw[hj];simp
   rw[e9] at fin;exact fin
theorem hQA {a b:List Nat}(h:Qd (a++ [10])=Qd (b++ [10]))(ha:∀x∈a,x<256)(hb:∀x∈b,x<256):a=b:=D6 (J8 (gb ha) (gb hb) h)
theorem hQB {α:Type}{l l':List α}{n:Nat}(h1:l.length=n)(h2:l'.length=n)(h:∀j,j<n->l[j]? =l'[j]?):l=l':=by
 refine yR (λj=>?_);by_cases hj:j<n
 ·exact h j hj
 ·rw[oX (by omega),oX (by omega)]
theorem hQC (A B:Option Addr)(n c m e:Nat)(l l':List (List Nat))(w:World)(h:Sl w 1 A n c (JL l))(h':Sl w 1 B m e (JL l'))(hb:kK l)(hb':kK l'):
  Fn Tryz.prog 117 [.slice A n c,.slice B m e] w (λv w'=>v= .bool (decide (l=l'))/\Ext w w'):=by
 have hl:=ji h;have di:=ji h';have bz:n<=9223372036854775807:=by have:=h.le;have:=h.cap;simp only[maxLen] at this;omega
 refine QF (c:={cQf with cuts:=[]}) Qa Tryz.func117 rfl rfl rfl ?_;refine bI (λh1=>?_) (λh1=>?_)
 ·exact⟨by rw[Zq (λe=>by subst e;omega)],Ext.refl w⟩
 refine loop Qa [13] (λs:Nat=>[.int .i64 s]) (λs w'=>Ext w w'/\s<=n/\∀j,j<s->l[j]? =l'[j]?) (λs _=>n-s) 0 rfl ⟨Ext.refl w,Xr _,λj hj=>Xn hj (by omega)⟩ ?_;rintro s w1 ⟨Qe,hs,hall⟩;refine Qz (λh2=>?_) (λh2=>?_)
 ·have aI:s<n:=by omega
  obtain⟨x,hx⟩:∃x,l[s]? =some x:=⟨_,Xp (by omega)⟩
  obtain⟨y,hy⟩:∃y,l'[s]? =some y:=⟨_,Xp (by omega)⟩
  refine XK Qa (Ext w1) 9 [(true,0),(true,1),(true,2),(true,3),(true,4),(true,5),(true,6),(true,7),(true,8)] (by kernel_rfl) (Ext.drew w1) ?_;refine KC (h.ext Qe) aI (λad u hA hu Xq=>?_);rw[cO hx] at hu;cases hu;refine QK (v:=.string (Qd (x++ [10]))) (λw' Qb=>Qb.cell Xq) ?_;refine KC (h'.ext Qe) (by omega) (λad u hA hu Xq=>?_);rw[cO hy] at hu;cases hu;refine QK (v:=.string (Qd (y++ [10]))) (λw' Qb=>Qb.cell Xq) ?_;have dq:=Qe.trans (Ext.drew w1);have Ji:=hb x (Xm hx);have jF:=hb' y (Xm hy);by_cases Xu:x=y
  ·refine Q3 (by rw[Xu];simp) ?_;refine Qi ((s+1:Nat):Int) (by show((s:Nat):Int)+1=_;omega) (by omega) ?_;refine⟨s+1,rfl,⟨dq,by omega,λj hj=>?_⟩,by show n-(s+1)<n-s;omega⟩;by_cases YP:j<s
   ·exact hall j YP
   ·have:j=s:=by omega
    subst this;rw[hx,hy,Xu]
  ·refine Q8 (by rw[Zq (λhh=>Xu (hQA hh Ji.1 jF.1))];rfl) ?_;refine⟨?_,dq⟩;rw[Zq (λe=>Xu (by subst e;rw[hx] at hy;exact Option.some.inj hy))]
 ·refine⟨?_,Qe⟩;rw[Zy (hQB hl (by omega) (λj hj=>hall j (by omega)))]
theorem hQD {nm:List (List Nat)}{v:Nat}{H L:List (List Nat)}{P:List Nat->Prop}(hH:∀s∈H,P s)(hL:∀s∈L,P s)(h1:∀ng,P (VJ nm v ng))(h2:P V0)(h3:P ZK):∀s∈bO nm v H L,P s:=by
 intro s hs;unfold bO at hs;simp only at hs;have t:∀{X:List (List Nat)} {a b:Nat},(∀s∈X,P s)->∀s∈(X.drop a).take b,P s:=λh s hs=>h s (aM (aN hs))
 generalize fX (H.drop (Yt H L)) (L.drop (Yt H L))=q at*;generalize Yt H L=p at*;rcases XM.1 hs with hs | hs
 ·exact hH s (aN hs)
 rcases XM.1 hs with hs | hs
 ·split at hs
  ·rcases Q1.1 hs with rfl | hs
   ·exact h1 true
   ·exact t hL s hs
  ·rcases Q1.1 hs with rfl | hs
   ·exact h1 false
   rcases XM.1 hs with hs | hs
   ·exact t hH s hs
   split at hs
   ·cases hs
   ·rcases Q1.1 hs with rfl | hs
    ·exact h2
    ·exact t hL s hs
 ·rcases Q1.1 hs with rfl | hs
  ·exact h3
  ·exact hH s (aM (aM hs))
theorem hQE (nm:List (List Nat))(v:Nat)(H L:List (List Nat)):(bO nm v H L).length<=H.length+L.length+3:=by
 obtain⟨p1,p2,_⟩:=FD H L;obtain⟨q1,q2,_⟩:=Rb (H.drop (Yt H L)) (L.drop (Yt H L));unfold bO;simp only;generalize fX (H.drop (Yt H L)) (L.drop (Yt H L))=q at*;generalize Yt H L=p at*;rw[Wj] at q1 q2;split
 ·simp only[Qq,Q6,K8,Wj];omega
 ·split
  ·simp only[Qq,Q6,K8,Wj,Jn];omega
  ·simp only[Qq,Q6,K8,Wj];omega
theorem tf {nm:List (List Nat)}{f:Nat->List Nat}{P:List Nat->Prop}{M:Nat}(h1:∀v ng,P (VJ nm v ng))(h2:P V0)(h3:P ZK):∀(k v:Nat)(l:List Nat),l≠ []->(∀c∈l,(∀s∈QR (f c),P s)/\(QR (f c)).length<=M)->
  (∀s∈Zi nm f k v l,P s)/\(Zi nm f k v l).length+3<=l.length*(M+3)
 | 0,v,l,hl,hp=>by
  have h0:=hp _ (AG hl);rw[Zi];have:1<=l.length:=uP.2 hl;have:=bG (M+3) this;exact⟨h0.1,by have:=h0.2;omega⟩
 | k+1,v,l,hl,hp=>by
  rw[s6 hl];split
  ·exact tf h1 h2 h3 k (v+1) l hl hp
  ·rename_i h;have n1:l.filter (λc=> !c.testBit v)≠ []:=λe=>h (.inl e)
   have n2:l.filter (λc=>c.testBit v)≠ []:=λe=>h (.inr e)
   have QY:(l.filter (λc=>c.testBit v)).length+(l.filter (λc=> !c.testBit v)).length=l.length:=by
    clear h hl hp n1 n2;induction l with
    | nil=>rfl
    | cons a l ih=>by_cases e:a.testBit v=true<;>simp[D7,e]<;>omega
   obtain⟨a1,a2⟩:=tf h1 h2 h3 (P:=P) (M:=M) k (v+1) _ n1 (λc hc=>hp c (VU.1 hc).1);obtain⟨b1,b2⟩:=tf h1 h2 h3 (P:=P) (M:=M) k (v+1) _ n2 (λc hc=>hp c (VU.1 hc).1);have Dq:l.length*(M+3)=(l.filter (λc=>c.testBit v)).length*(M+3)+(l.filter (λc=> !c.testBit v)).length*(M+3):=by rw[<-oW,QY]
   split
   ·exact⟨b1,by omega⟩
   ·refine⟨hQD b1 a1 (h1 v) h2 h3,?_⟩;have:=hQE nm v (Zi nm f k (v+1) (l.filter (λc=>c.testBit v))) (Zi nm f k (v+1) (l.filter (λc=> !c.testBit v)));omega
end
section
inductive PT where
 | done
 | skip
 | quiet (k:Nat) (t:PT)
 | fork (k:Nat) (t o:PT)
def PT.alts:PT->List Nat
 | .fork k _ o=>k::o.alts
 | _=>[]
def JW (md:Region.Mode)(ops:Array Oper)(n:Nat):PT->Bool->Nat->Array Bool->Bool
 | .done,inch,m,listed=> !inch&&Nat.beq m 0&&Region.seqB md ops (ops.size-n) n listed
 | .skip,inch,_,_=>inch
 | .quiet _ _,_,0,_=>false
 | .quiet k t,inch,m+1,listed=> !inch&&(Nat.blt k n&&(Region.ready md ops listed).contains k&&Region.free md ops listed k&&JW md ops n t false m (listed.setIfInBounds k true))
 | .fork _ _ _,_,0,_=>false
 | .fork k t o,inch,m+1,listed=>(inch||decide (Region.ready md ops listed=k::o.alts))&&(Nat.blt k n&&JW md ops n t false m (listed.setIfInBounds k true))&&JW md ops n o true (m+1) listed
def kL (c:Cx)(all:List Oper)(C:World->Prop):PT->Env->World->(Env->World->Prop)->Prop
 | .done,S,w,K=>K S w
 | .skip,_,_,_=>True
 | .quiet k t,S,w,K=>match KM all k with
  | some o=>fQ all o S (λS=>pz c o S C (λS=>kL c all C t S w K)) (λS=>Xd c S o.dst (.v undef) (λS=>kL c all C t S w K))
  | none=>False
 | .fork k t o,S,w,K=>(match KM all k with
  | some op=>fQ all op S (λS=>dz c op S w (λS w=>C w/\kL c all C t S w K) (λ_ _ _=>False)) (λS=>Xd c S op.dst (.v undef) (λS=>kL c all C t S w K))
  | none=>False)/\kL c all C o S w K
section
variable {c:Cx} {S:Env} {a:Act}
theorem wk (hg:c.g.Ok){md:Region.Mode}{ops:List Oper}{C:World->Prop}{Q:Exit->Act->World->Prop}{n:Nat}(hs:Region.noSelect ops.toArray=true)(hk:iY md ops.toArray n){K:Env->World->Prop}:
  ∀(t:PT) (m:Nat) (listed:Array Bool) (S:Env) (a:Act) (w:World),HeadInv md ops.toArray n listed->kL c ops C t S w K->Fits c.N S a->C w->
  (JW md ops.toArray n t false m listed=true->VV c.g.P md ops.toArray (NoPan Q) C n (λJf a' w'=>Region.seqB md ops.toArray (ops.toArray.size-n) n Jf=true/\∃S',Fits c.N S' a'/\K S' w') m listed a w)/\
  (∀m',m=m'+1->JW md ops.toArray n t true m listed=true->(∀i∈t.alts,i∈Region.ready md ops.toArray listed)->∀i∈t.alts,i<n/\wpOp c.g.P ops.toArray (NoPan Q) i (λa' w'=>C w'/\VV c.g.P md ops.toArray (NoPan Q) C n (λJf a' w'=>Region.seqB md ops.toArray (ops.toArray.size-n) n Jf=true/\∃S',Fits c.N S' a'/\K S' w') m' (listed.setIfInBounds i true) a' w') a w)
 | .done,m,listed,S,a,w,inv,h,hf,hC=>by
  refine⟨λhB=>?_,λm' hm hB=>?_⟩
  ·simp only[JW,Bool.not_false,cw,Jl] at hB;have:=Vk hB.1;subst this;exact⟨hB.2,S,hf,h⟩
  ·simp[JW] at hB
 | .skip,m,listed,S,a,w,inv,h,hf,hC=>by
  refine⟨λhB=>?_,λm' hm hB _ i hi=>?_⟩
  ·simp[JW] at hB
  ·simp[PT.alts] at hi
 | .quiet k t,0,listed,S,a,w,inv,h,hf,hC=>by
  refine⟨λhB=>?_,λm' hm hB=>?_⟩
  ·simp[JW] at hB
  ·simp[JW] at hB
 | .quiet k t,m+1,listed,S,a,w,inv,h,hf,hC=>by
  refine⟨λhB=>?_,λm' hm hB=>?_⟩
  ·simp only[JW,Bool.not_false,cw,Jl] at hB;obtain⟨⟨⟨Xj,hr⟩,gn⟩,KK⟩:=hB;have Xj:k<n:=by rw[gC] at Xj;exact Xj
   have Q0:k∈Region.ready md ops.toArray listed:=by simpa using hr
   obtain⟨_,o,ho,_⟩:=mem_ready.1 Q0;have hn:KM ops k=some o:=by rw[fM];simpa using ho
   simp only[kL,hn] at h;have key:∃v,YieldsIf c.g.P ops.toArray C o v a/\∃S',Fits c.N S' (a.put o.dst v)/\kL c ops C t S' w K:=by
    rcases iZ h hf with⟨hw,S1,Zf,h1⟩ | ⟨hw,S1,Zf,h1⟩
    ·obtain⟨v,h2,h3⟩:=vh hg h1 Zf;exact⟨v,.inl ⟨hw,h2⟩,h3⟩
    ·exact⟨undef,.inr ⟨hw,rfl⟩,Zu (e:=.v undef) h1 Zf⟩
   obtain⟨v,hy,S',QW,h'⟩:=key;exact Ev ho (Region.noSelect_spec hs) hk Xj (λJf a' w' hL=>seqB_ready hL.1) m listed a w inv (Region.free_spec ho gn) Q0 hy hC
    ((wk hg hs hk t m _ S' _ w (inv.set Q0 Xj) h' QW hC).1 KK)
  ·simp[JW] at hB
 | .fork k t o,0,listed,S,a,w,inv,h,hf,hC=>by
  refine⟨λhB=>?_,λm' hm hB=>?_⟩
  ·simp[JW] at hB
  ·simp[JW] at hB
 | .fork k t o,m+1,listed,S,a,w,inv,h,hf,hC=>by
  have key:(Nat.blt k n&&JW md ops.toArray n t false m (listed.setIfInBounds k true))=true->JW md ops.toArray n o true (m+1) listed=true->(∀i∈(PT.fork k t o).alts,i∈Region.ready md ops.toArray listed)->
    ∀i∈(PT.fork k t o).alts,i<n/\wpOp c.g.P ops.toArray (NoPan Q) i (λa' w'=>C w'/\VV c.g.P md ops.toArray (NoPan Q) C n (λJf a' w'=>Region.seqB md ops.toArray (ops.toArray.size-n) n Jf=true/\∃S',Fits c.N S' a'/\K S' w') m (listed.setIfInBounds i true) a' w') a w:=by
   intro hB iN hall i hi;simp only[Jl] at hB;obtain⟨Xj,KK⟩:=hB;have Xj:k<n:=by rw[gC] at Xj;exact Xj
   simp only[PT.alts,Q1] at hi;have Q0:k∈Region.ready md ops.toArray listed:=hall k (by simp[PT.alts]);obtain⟨h1,h2⟩:=h;rcases hi with rfl | hi
   ·refine⟨Xj,?_⟩;obtain⟨_,op,ho,_⟩:=mem_ready.1 Q0;have hn:KM ops i=some op:=by rw[fM];simpa using ho
    simp only[hn] at h1;have d9:=inv.set Q0 Xj;unfold wpOp;simp only[ho];rcases iZ h1 hf with⟨hw,S1,Zf,h3⟩ | ⟨hw,S1,Zf,h3⟩
    ·rw[Qf hw];refine .inl ?_;have h4:=pq hg h3 Zf;have h5:=Oper.wp_mono (K':=λa' w'=>C w'/\VV c.g.P md ops.toArray (NoPan Q) C n (λJf a' w'=>Region.seqB md ops.toArray (ops.toArray.size-n) n Jf=true/\∃S',Fits c.N S' a'/\K S' w') m (listed.setIfInBounds i true) a' w')
      (λa' w' ⟨S',QW,Jv,YB⟩=>⟨Jv,(wk hg hs hk t m _ S' a' w' d9 YB QW Jv).1 KK⟩) h4
     unfold Oper.wp at h5 ⊢;generalize (execOp a.eval op).run c.g.P w=r at*;cases r with
     | ok nx w'=>
      cases nx<;>simp only[Oper.upon] at h5 ⊢ <;> try exact h5
      exact h5.mono λe KT he=>by
       cases e with
       | returned v=>exact he
       | panicked ch=>obtain⟨_,_,he⟩:=he;exact he.elim
       | outgrown=>obtain⟨_,_,_,_,he⟩:=he;exact he.elim
     | halt x w'=>cases x<;>simp only[Oper.upon] at h5 ⊢ <;> first | exact h5 | (obtain⟨_,_,h5⟩:=h5;exact h5.elim)
    ·rw[if_neg (by rw[hw];decide)];obtain⟨S',QW,h'⟩:=Zu (e:=.v undef) h3 Zf;exact⟨hC,(wk hg hs hk t m _ S' _ w d9 h' QW hC).1 KK⟩
   ·exact(wk hg hs hk o (m+1) listed S a w inv h2 hf hC).2 m rfl iN (λj hj=>hall j (by simp[PT.alts,hj])) i hi
  refine⟨λhB=>?_,λm' hm hB hall=>?_⟩
  ·simp only[JW,Bool.false_or,Jl,Vm] at hB;obtain⟨⟨hr,Qh⟩,Qx⟩:=hB;have Y3:Region.ready md ops.toArray listed=(PT.fork k t o).alts:=hr;refine⟨λh0=>(by rw[hr] at h0;cases h0),λi hi=>?_⟩;exact key (by simpa using Qh) Qx (λj hj=>by rw[Y3];exact hj) i (by rw[Y3] at hi;exact hi)
  ·simp only[JW,Bool.true_or,cw] at hB;rw[Jl] at hB;have ZI:m'=m:=by omega
   subst ZI;exact key hB.1 hB.2 hall
theorem Ga (hg:c.g.Ok){id:Nat}{ops:List Oper}{w:World}{Q:Zg}(C:World->Prop)(n:Nat)(t:PT)
  (hB:(Region.noSelect ops.toArray&&py .any ops.toArray n&&JW .any ops.toArray n t false n (Array.replicate ops.toArray.size false))=true) (hC:C w.drew)
  (h:kL {c with named:=1000000} ops C t S w.drew (λS w=>Yn c ops (ops.drop n) S w (λS w=>Q .normal S w) (λ_ _ _=>False))):Wm c id ops S w Q:=by
 unfold Wm;intro a hf;simp only[Jl] at hB;obtain⟨⟨hs,aH⟩,JE⟩:=hB;have hk:=vg aH;have De:n<=ops.length:=by
  rcases hk with hk | hk
  ·rw[hk];simp
  ·have:=hk.1;simp at this;omega
 refine Code.wp_mono NoPan.imp (wp_region_any hg.mixed ?_);have kT:HeadInv .any ops.toArray n (Array.replicate ops.toArray.size false):=
  ⟨by simp,λj oj _ hl=>(by rw[getD_replicate_false] at hl;cases hl),λt _ ht=>getD_in (by simpa using ht) (getD_replicate_false _ _)⟩
 have H:=(wk (c:={c with named:=1000000}) hg (Q:=Up c Q) hs hk t n _ S a _ kT h hf hC).1 JE;have Vy:(ops.drop n).length=ops.toArray.size-n:=by simp
 have H2:=rZ (Q:=NoPan (Up c Q)) (g:=ops.toArray.size-n) (λJf a' w' hL=>by
  obtain⟨hq,S',QW,YB⟩:=hL;have h2:=iT (c:=c) hg ops _ _ _ _ YB QW;have:=wpAny_of_seq (P:=c.g.P) (md:=.any) (ops:=ops.toArray) (Q':=NoPan (Up c Q)) (ops.drop n) n Jf a' w' (λj=>by simp) (by rw[Vy];exact hq) (j5 (λe a w hq=>by
   cases e with
   | normal=>exact hq
   | _=>exact Xn hq (by rintro⟨_,_,h⟩;exact h)) h2)
  rwa [Vy] at this) _ _ _ _ H
 rw[show n+(ops.toArray.size-n)=ops.toArray.size by simp;omega] at H2;exact H2
theorem Gb {α:Type}{id:Nat}{ops:List Oper}{w:World}{Q:Zg}(sl:List Nat)(val:α->List Value)(R:α->World->Prop)
  (hx:WG (ew (.region id ops.toArray true)) S [] (λS0=>Wm c id ops S w (λe S2 w2=>match e with
   | .normal=>∃s,dC sl (val s) S0 (λT=>Has T S2)/\R s w2
   | e=>Q e S2 w2)))
  (hy:WG (ew (.region id ops.toArray true)) S [] (λS0=>∀s w',R s w'->dC sl (val s) S0 (λS1=>Q .normal S1 w'))):Wm c id ops S w Q:=by
 rw[zq] at hx hy;unfold Wm at*;intro a hf;generalize lY (ew (.region id ops.toArray true)) S []=S0 at*;have lA:∀s (K:Env->Prop),dC sl (val s) S0 K->K ((sl.zip ((val s).map Ent.v)).reverse++S0):=λs K h=>by
  obtain⟨T,rfl,hk⟩:=Eo h;exact hk
 refine Code.wp_mono (λe a2 w2 hq=>?_) (hx a hf);obtain⟨S2,ZR,hq⟩:=hq;cases e with
 | normal=>
  obtain⟨s,hz,hR⟩:=hq;exact⟨_,(lA s _ hz).fits ZR,lA s _ (hy s w2 hR)⟩
 | exit i=>exact⟨S2,ZR,hq⟩
 | goto l=>exact⟨S2,ZR,hq⟩
 | ret=>exact⟨S2,ZR,hq⟩
 | panic ch=>exact⟨S2,ZR,hq⟩
 | outgrown=>exact⟨S2,ZR,hq⟩
end
end
section
def JX (p:DV×List Nat):List Value:=[.slice p.1.A p.1.n p.1.c,.int .i64 p.1.r,.string (Qd p.2)]
theorem Gc (p:DV×List Nat):(JX p).length=3:=rfl
structure WP where
 pb:Nat
 wb:Nat
 nb:Nat
 PA:Option Addr
 pn:Nat
 pc:Nat
 NA:Option Addr
 nn:Nat
 nc:Nat
 nm:List (List Nat)
 ps:List (DV×List Nat)
def WP.caps (p:WP):List Value:=[.pointer (some ⟨p.pb,0,none⟩),.pointer (some ⟨p.wb,0,none⟩),.pointer (some ⟨p.nb,0,none⟩)]
def WP.clo (p:WP):Value:=.func (.func 116) #[] #[.pointer (some ⟨p.pb,0,none⟩),.pointer (some ⟨p.wb,0,none⟩),.pointer (some ⟨p.nb,0,none⟩)]
structure WK (w:World) (p:WP):Prop where
 pbb:Blk w p.pb 54 [.slice p.PA p.pn p.pc]
 wbb:Blk w p.wb 192 [p.clo]
 nbb:Blk w p.nb 37 [.slice p.NA p.nn p.nc]
 pss:SlS JX 3 w p.PA p.pn p.pc p.ps
 sbs:∀q∈p.ps,SB w q.1.A q.1.n q.1.c q.1.nd
 nms:Sl w 1 p.NA p.nn p.nc (XB p.nm)
theorem WK.ext {w w':World}{p:WP}(h:WK w p)(k:Ext w w'):WK w' p:=⟨h.pbb.ext k,h.wbb.ext k,h.nbb.ext k,h.pss.ext k,λq hq=>(h.sbs q hq).ext k,h.nms.ext k⟩
def hQF (k:Nat)(wR:World)(oh ol:BF)(t:DV×DV×Nat×Nat)(w':World):Prop:=Ext wR w'/\Blk w' t.2.2.1 32 t.1.cells/\Blk w' t.2.2.2 32 t.2.1.cells/\SB w' t.1.A t.1.n t.1.c t.1.nd/\Set1 k t.1.nd t.1.r oh/\SB w' t.2.1.A t.2.1.n t.2.1.c t.2.1.nd/\Set1 k t.2.1.nd t.2.1.r ol
theorem Gd {k:Nat}(hk:k<=12){x y:DV}{o o':BF}(s:Set1 k x.nd x.r o)(s':Set1 k y.nd y.r o'):gS x.nd x.r y.nd y.r=true↔∀e,o e=true->o' e=true:=by
 rw[jZk];constructor
 ·rintro⟨_,_,hn⟩ e he;cases h:o' e with
  | true=>rfl
  | false=>exact Xn ⟨e,by rw[s.mean];exact he,by rw[s'.mean];exact h⟩ hn
 ·intro h;refine⟨s.chk hk,s'.chk hk,λ⟨e,h1,h2⟩=>?_⟩;rw[s.mean] at h1;rw[s'.mean,h e h1] at h2;cases h2
theorem hQG (p:WP)(n:Nat)(lv:n<=4)(xP:p.nm.length=n)(VR:Ku p.nm)(Kl:∀s∈p.nm,s.length<=1000000)(VE:∀q∈p.ps,Ka n q.1.nd q.1.r=true/\V6 q.2=true/\(∀b∈q.2,b<256)/\q.2.length<=1000000):
  ∀(k v:Nat) (x:DV) (o:BF) (w:World),v+k=n->WK w p->SB w x.A x.n x.c x.nd->Set1 n x.nd x.r o->QL n o≠ []->PaOk (QL n o) (Zs p.ps)->Apt (QL n o) v k->
  Fn Tryz.prog 116 (Xk x.A x.n x.c x.r:: .int .i64 v::p.caps) w (λu w'=>sW w u ((Zi p.nm (fP (Zs p.ps)) k v (QL n o)).map (·++ [10])) w'):=by
 have hk:n<=12:=by omega
 intro k;induction k using Nat.strongRecOn with
 | ind k ih=>
 intro v x o w Dm hK hx sx QU Jb dv;have JE:=hK.pss.2;refine QF (c:={cQe with cuts:=[]}) Qa Tryz.func116 rfl rfl rfl ?_;refine new (λw1 Qe Q4 Qh=>?_);have Kd:=hK.ext Qe;refine QD Kd.pbb rfl ?_;refine loop Qa [17] (λi:Nat=>[.int .i64 i]) (λi w'=>Ext w1 w'/\i<=p.pn/\∀q∈p.ps.take i,¬∀e,o e=true->oD q.1 e=true) (λi _=>p.pn-i) 0 rfl ⟨Ext.refl _,Xr _,λq hq=>by simp at hq⟩ ?_;rintro i w2 ⟨Qg,hi,Xi⟩;have Q5:=Qe.trans Qg;have nQF:p.pn<=9223372036854775807:=by have:=hK.pss.1.le;have:=hK.pss.1.cap;simp only[maxLen] at this;omega
 refine Qz (λc1=>?_) (λc1=>?_)
 ·have QZ:i<p.pn:=by omega
  refine Zv Gc (hK.ext Q5).pss rfl QZ (λad q hq hc=>?_);have iM:=Xm hq;obtain⟨o1,o2,o3,o4⟩:=VE q iM;refine Kn (vs:=JX q) rfl hc ?_;refine new (λw3 Qj JC Qu=>?_);refine Qv Qu rfl (sc rfl) (λw4 cT _ Q7=>?_);have J1:Ext w2 w4:=X9 Qj Qu cT;have XG:=Q5.trans J1;refine Qt (Qh.ext (Qg.trans J1)) rfl ?_;refine fR (vs:=[.slice q.1.A q.1.n q.1.c,.int .i64 q.1.r]) Q7 rfl (λj u hj=>by match j,hj with | 0,hj=>exact hj | 1,hj=>exact hj) ?_;refine call (RI x.A x.n x.c x.nd x.r q.1.A q.1.n q.1.c q.1.nd q.1.r w4 (hx.ext XG) ((hK.sbs q iM).ext XG)) ?_;rintro _ w5 ⟨rfl,Qw⟩;have J3:=XG.trans Qw;refine WI (λd1=>?_) (λd1=>?_)
  ·have d1:gS x.nd x.r q.1.nd q.1.r=true:=d1;have hw:=(Gd hk sx (gU o1)).1 d1;refine Qo (Q7.ext Qw) rfl ?_;refine call (Am q.2 w5 o3 (by omega)) ?_;rintro _ w6 ⟨A,c,rfl,QO,aC⟩;have hwv:Zi p.nm (fP (Zs p.ps)) k v (QL n o)=QR q.2:=hQj Jb QU (p:=⟨oD q.1,q.2⟩) (X7.2 ⟨q,iM,rfl⟩) (λc hc=>hw _ (Js.1 hc).2) k v;have ht:aX q.2=true:=by unfold V6 at o2;rw[Jl] at o2;exact o2.1
   have gw:ap q.2=(Zi p.nm (fP (Zs p.ps)) k v (QL n o)).map (·++ [10]):=by rw[hwv,vU (mH ht)]
   rw[gw] at aC ⊢;exact⟨A,c,rfl,J3.trans QO,aC⟩
  ·have d1:gS x.nd x.r q.1.nd q.1.r=false:=d1;refine Qi ((i+1:Nat):Int) (by show((i:Nat):Int)+1=_;omega) (by omega) ?_;refine⟨i+1,rfl,⟨(Qg.trans J1).trans Qw,QZ,λq' hq' hall=>?_⟩,by show p.pn-(i+1)<p.pn-i;omega⟩;rw[K9,hq] at hq';rcases XM.1 hq' with hq' | hq'
   ·exact Xi q' hq' hall
   ·have:q'=q:=by simpa using hq'
    subst this;rw[(Gd hk sx (gU o1)).2 hall] at d1;cases d1
 have QZ:i=p.pn:=by omega
 rw[QZ,Jc (by omega)] at Xi;cases k with
 | zero=>
  obtain⟨q0,Yg,hall⟩:=hQk Jb QU dv;obtain⟨q,hq,rfl⟩:=X7.1 Yg;exact Xn ((Sc sx.dep (gU (VE q hq).1).dep).2 hall) (Xi q hq)
 | succ k=>
 have L1:v<n:=by omega
 refine call (Fp (v:Int) w2 (by omega) (by omega)) ?_;rintro _ w3 ⟨YA,yn,yc,rfl,Qj,hY3,_⟩;refine call (AN ⟨YA,yn,yc,[⟨(v:Int),0,1⟩],2⟩ w3) ?_;rintro _ w4 ⟨rfl,Qs⟩;refine new (λw5 Qw KP QG=>?_);refine Qv QG rfl (sc rfl) (λwR hgR _ hBR=>?_);have aQQ:Ext w4 wR:=X9 Qw QG hgR;have lQ7:=(Qj.trans Qs).trans aQQ;have aQR:=Qg.trans lQ7;have Mk:=Qe.trans aQR;obtain⟨y,hy⟩:∃y:DV,y=⟨YA,yn,yc,[⟨(v:Int),0,1⟩],2⟩:=⟨_,rfl⟩
 have sy:Set1 n y.nd y.r (λe=>e v):=by rw[hy];exact FP L1 (by omega)
 have jF:SB wR y.A y.n y.c y.nd:=by rw[hy];exact hY3.ext (Qs.trans aQQ)
 have hBY:Blk wR w4.heap.size 32 y.cells:=by rw[hy];exact hBR
 have hBX:=Qh.ext aQR;have hxR:=hx.ext Mk;have hKR:=hK.ext Mk;clear hBR QG;refine Gb [11,12] (λt:DV×DV×Nat×Nat=>[.pointer (some ⟨t.2.2.1,0,none⟩),.pointer (some ⟨t.2.2.2,0,none⟩)]) (λt w'=>hQF n wR (λe=>o e&&e v) (λe=>o e && !e v) t w') ?_ ?_
 ·have eR:=Ext.drew wR;have hx:=hxR;have hy:=jF;refine Ga Qa (Ext wR) 10 (.quiet 0 (.quiet 1 (.quiet 3 (.quiet 4 (.fork 2 (.fork 5 (.fork 6 (.fork 7 (.fork 8 (.fork 9 .done .skip) .skip) .skip) (.fork 7 (.fork 6 (.fork 8 (.fork 9 .done .skip) .skip) .skip) .skip)) (.fork 6 (.fork 5 (.fork 7 (.fork 8 (.fork 9 .done .skip) .skip) .skip) (.fork 7 (.fork 5 (.fork 8 (.fork 9 .done .skip) .skip) .skip) .skip)) (.fork 7 (.fork 5 (.fork 6 (.fork 8 (.fork 9 .done .skip) .skip) .skip) (.fork 6 (.fork 5 (.fork 8 (.fork 9 .done .skip) .skip) .skip) .skip)) .skip))) (.fork 6 (.fork 2 (.fork 5 (.fork 7 (.fork 8 (.fork 9 .done .skip) .skip) .skip) (.fork 7 (.fork 5 (.fork 8 (.fork 9 .done .skip) .skip) .skip) .skip)) (.fork 7 (.fork 2 (.fork 5 (.fork 8 (.fork 9 .done .skip) .skip) .skip) .skip) .skip)) (.fork 7 (.fork 2 (.fork 5 (.fork 6 (.fork 8 (.fork 9 .done .skip) .skip) .skip) (.fork 6 (.fork 5 (.fork 8 (.fork 9 .done .skip) .skip) .skip) .skip)) (.fork 6 (.fork 2 (.fork 5 (.fork 8 (.fork 9 .done .skip) .skip) .skip) .skip) .skip)) .skip))))))) (by kernel_rfl) (Ext.drew wR) ?_;refine Xs (vs:=x.cells) rfl (λw' Qb j u hj=>by rw[(hBX.ext Qb).cell];exact hj) ?_;refine Xs (vs:=y.cells) rfl (λw' Qb j u hj=>by rw[(hBY.ext Qb).cell];exact hj) ?_;refine Xs (vs:=x.cells) rfl (λw' Qb j u hj=>by rw[(hBX.ext Qb).cell];exact hj) ?_;refine Xs (vs:=y.cells) rfl (λw' Qb j u hj=>by rw[(hBY.ext Qb).cell];exact hj) ?_;refine⟨?_,?_⟩
  ·refine call (mK hk x y wR.drew (hx.ext eR) (hy.ext eR) sx sy) ?_;rintro _ v1 ⟨HA,Hn,Hc,Hnd,Hr,rfl,g1,Hb,Hs,HR⟩;have e1:=eR.trans g1;refine⟨e1,?_⟩;have z1:=g1.size;have y1:=λad ea h0=>SB.lt Hb ad ea h0
   have r1:=λ(ad:Addr) (ea:HA=some ad)=>HR ad.block ⟨ad,ea,rfl⟩
   refine⟨?_,?_⟩
   ·refine call (eF hk x y v1 (hx.ext e1) (hy.ext e1) sx sy) ?_;rintro _ v2 ⟨LA,Ln,Lc,Lnd,Lr,rfl,g2,Lb,Ls,LR⟩;have e2:=e1.trans g2;refine⟨e2,?_⟩;have z2:=g2.size;have y2:=λad ea h0=>SB.lt Lb ad ea h0
    have r2:=λ(ad:Addr) (ea:LA=some ad)=>LR ad.block ⟨ad,ea,rfl⟩
    refine⟨?_,?_⟩
    ·refine new (λv3 g3 z3 B3=>?_);have e3:=e2.trans g3;refine⟨e3,?_⟩;have l3:=e2.size;refine⟨?_,trivial⟩;refine new (λv4 g4 z4 B4=>?_);have e4:=e3.trans g4;refine⟨e4,?_⟩;have l4:=e3.size;refine⟨?_,trivial⟩;refine Qv (B3.ext g4) rfl (sc rfl) (λv5 h5 _ B5=>?_);have m5:Mod (·=v2.heap.size) v4 v5:=nQQ h5 rfl;have e5:Ext wR v5:=m5.ext e4 (λi hi=>by omega);refine⟨e5,?_⟩;refine⟨?_,trivial⟩;refine Qv (B4.mod m5 (by show¬v3.heap.size=v2.heap.size;omega)) rfl (sc rfl) (λv6 h6 _ B6=>?_);have m6:Mod (·=v3.heap.size) v5 v6:=nQQ h6 rfl;have e6:Ext wR v6:=m6.ext e5 (λi hi=>by omega);refine⟨e6,?_⟩;exact⟨(⟨HA,Hn,Hc,Hnd,Hr⟩,⟨LA,Ln,Lc,Lnd,Lr⟩,v2.heap.size,v3.heap.size),rfl,⟨e6,(B5.mod m6 (by show¬v2.heap.size=v3.heap.size;omega)),B6,(SB.modo (SB.modo (((Hb.ext g2).ext g3).ext g4) m5 (λad ea h0 hh=>by have q1:=y1 ad ea h0;have q2:=r1 ad ea;omega)) m6 (λad ea h0 hh=>by have q1:=y1 ad ea h0;have q2:=r1 ad ea;omega)),Hs,(SB.modo (SB.modo ((Lb.ext g3).ext g4) m5 (λad ea h0 hh=>by have q1:=y2 ad ea h0;have q2:=r2 ad ea;omega)) m6 (λad ea h0 hh=>by have q1:=y2 ad ea h0;have q2:=r2 ad ea;omega)),Ls⟩⟩
    ·refine⟨?_,trivial⟩;refine new (λv7 g7 z7 B7=>?_);have e7:=e2.trans g7;refine⟨e7,?_⟩;have l7:=e2.size;refine⟨?_,trivial⟩;refine new (λv8 g8 z8 B8=>?_);have e8:=e7.trans g8;refine⟨e8,?_⟩;have l8:=e7.size;refine⟨?_,trivial⟩;refine Qv B8 rfl (sc rfl) (λv9 h9 _ B9=>?_);have m9:Mod (·=v7.heap.size) v8 v9:=nQQ h9 rfl;have e9:Ext wR v9:=m9.ext e8 (λi hi=>by omega);refine⟨e9,?_⟩;refine⟨?_,trivial⟩;refine Qv ((B7.ext g8).mod m9 (by show¬v2.heap.size=v7.heap.size;omega)) rfl (sc rfl) (λU5 XN _ B10=>?_);have BU:Mod (·=v2.heap.size) v9 U5:=nQQ XN rfl;have U6:Ext wR U5:=BU.ext e9 (λi hi=>by omega);refine⟨U6,?_⟩;exact⟨(⟨HA,Hn,Hc,Hnd,Hr⟩,⟨LA,Ln,Lc,Lnd,Lr⟩,v7.heap.size,v2.heap.size),rfl,⟨U6,(B9.mod BU (by show¬v7.heap.size=v2.heap.size;omega)),B10,(SB.modo (SB.modo (((Hb.ext g2).ext g7).ext g8) m9 (λad ea h0 hh=>by have q1:=y1 ad ea h0;have q2:=r1 ad ea;omega)) BU (λad ea h0 hh=>by have q1:=y1 ad ea h0;have q2:=r1 ad ea;omega)),Hs,(SB.modo (SB.modo ((Lb.ext g7).ext g8) m9 (λad ea h0 hh=>by have q1:=y2 ad ea h0;have q2:=r2 ad ea;omega)) BU (λad ea h0 hh=>by have q1:=y2 ad ea h0;have q2:=r2 ad ea;omega)),Ls⟩⟩
   ·refine⟨?_,?_⟩
    ·refine new (λxu wV Bo B11=>?_);have tV:=e1.trans wV;refine⟨tV,?_⟩;have l11:=e1.size;refine⟨?_,?_⟩
     ·refine call (eF hk x y xu (hx.ext tV) (hy.ext tV) sx sy) ?_;rintro _ BV ⟨LA,Ln,Lc,Lnd,Lr,rfl,BW,Lb,Ls,LR⟩;have Ix:=tV.trans BW;refine⟨Ix,?_⟩;have Us:=BW.size;have U7:=λad ea h0=>SB.lt Lb ad ea h0
      have U8:=λ(ad:Addr) (ea:LA=some ad)=>LR ad.block ⟨ad,ea,rfl⟩
      refine⟨?_,trivial⟩;refine new (λv13 BX z13 B13=>?_);have U9:=Ix.trans BX;refine⟨U9,?_⟩;have l13:=Ix.size;refine⟨?_,trivial⟩;refine Qv ((B11.ext BW).ext BX) rfl (sc rfl) (λIy Vx _ B14=>?_);have BY:Mod (·=v1.heap.size) v13 Iy:=nQQ Vx rfl;have xv:Ext wR Iy:=BY.ext U9 (λi hi=>by omega);refine⟨xv,?_⟩;refine⟨?_,trivial⟩;refine Qv (B13.mod BY (by show¬BV.heap.size=v1.heap.size;omega)) rfl (sc rfl) (λv15 Wx _ B15=>?_);have BZ:Mod (·=BV.heap.size) Iy v15:=nQQ Wx rfl;have e15:Ext wR v15:=BZ.ext xv (λi hi=>by omega);refine⟨e15,?_⟩;exact⟨(⟨HA,Hn,Hc,Hnd,Hr⟩,⟨LA,Ln,Lc,Lnd,Lr⟩,v1.heap.size,BV.heap.size),rfl,⟨e15,(B14.mod BZ (by show¬v1.heap.size=BV.heap.size;omega)),B15,(SB.modo (SB.modo (((Hb.ext wV).ext BW).ext BX) BY (λad ea h0 hh=>by have q1:=y1 ad ea h0;have q2:=r1 ad ea;omega)) BZ (λad ea h0 hh=>by have q1:=y1 ad ea h0;have q2:=r1 ad ea;omega)),Hs,(SB.modo (SB.modo (Lb.ext BX) BY (λad ea h0 hh=>by have q1:=U7 ad ea h0;have q2:=U8 ad ea;omega)) BZ (λad ea h0 hh=>by have q1:=U7 ad ea h0;have q2:=U8 ad ea;omega)),Ls⟩⟩
     ·refine⟨?_,trivial⟩;refine new (λv16 Iz z16 B16=>?_);have B0:=tV.trans Iz;refine⟨B0,?_⟩;have l16:=tV.size;refine⟨?_,trivial⟩;refine call (eF hk x y v16 (hx.ext B0) (hy.ext B0) sx sy) ?_;rintro _ v17 ⟨LA,Ln,Lc,Lnd,Lr,rfl,xw,Lb,Ls,LR⟩;have e17:=B0.trans xw;refine⟨e17,?_⟩;have z17:=xw.size;have y17:=λad ea h0=>SB.lt Lb ad ea h0
      have r17:=λ(ad:Addr) (ea:LA=some ad)=>LR ad.block ⟨ad,ea,rfl⟩
      refine⟨?_,trivial⟩;refine Qv ((B11.ext Iz).ext xw) rfl (sc rfl) (λIA aE _ B18=>?_);have Ca:Mod (·=v1.heap.size) v17 IA:=nQQ aE rfl;have e18:Ext wR IA:=Ca.ext e17 (λi hi=>by omega);refine⟨e18,?_⟩;refine⟨?_,trivial⟩;refine Qv ((B16.ext xw).mod Ca (by show¬xu.heap.size=v1.heap.size;omega)) rfl (sc rfl) (λv19 fg _ B19=>?_);have Cb:Mod (·=xu.heap.size) IA v19:=nQQ fg rfl;have e19:Ext wR v19:=Cb.ext e18 (λi hi=>by omega);refine⟨e19,?_⟩;exact⟨(⟨HA,Hn,Hc,Hnd,Hr⟩,⟨LA,Ln,Lc,Lnd,Lr⟩,v1.heap.size,xu.heap.size),rfl,⟨e19,(B18.mod Cb (by show¬v1.heap.size=xu.heap.size;omega)),B19,(SB.modo (SB.modo (((Hb.ext wV).ext Iz).ext xw) Ca (λad ea h0 hh=>by have q1:=y1 ad ea h0;have q2:=r1 ad ea;omega)) Cb (λad ea h0 hh=>by have q1:=y1 ad ea h0;have q2:=r1 ad ea;omega)),Hs,(SB.modo (SB.modo Lb Ca (λad ea h0 hh=>by have q1:=y17 ad ea h0;have q2:=r17 ad ea;omega)) Cb (λad ea h0 hh=>by have q1:=y17 ad ea h0;have q2:=r17 ad ea;omega)),Ls⟩⟩
    ·refine⟨?_,trivial⟩;refine new (λv20 IB z20 B20=>?_);have tW:=e1.trans IB;refine⟨tW,?_⟩;have l20:=e1.size;refine⟨?_,?_⟩
     ·refine call (eF hk x y v20 (hx.ext tW) (hy.ext tW) sx sy) ?_;rintro _ v21 ⟨LA,Ln,Lc,Lnd,Lr,rfl,Cc,Lb,Ls,LR⟩;have IC:=tW.trans Cc;refine⟨IC,?_⟩;have z21:=Cc.size;have y21:=λad ea h0=>SB.lt Lb ad ea h0
      have r21:=λ(ad:Addr) (ea:LA=some ad)=>LR ad.block ⟨ad,ea,rfl⟩
      refine⟨?_,trivial⟩;refine new (λv22 Cd z22 B22=>?_);have e22:=IC.trans Cd;refine⟨e22,?_⟩;have l22:=IC.size;refine⟨?_,trivial⟩;refine Qv B22 rfl (sc rfl) (λID nJ _ B23=>?_);have Ce:Mod (·=v21.heap.size) v22 ID:=nQQ nJ rfl;have e23:Ext wR ID:=Ce.ext e22 (λi hi=>by omega);refine⟨e23,?_⟩;refine⟨?_,trivial⟩;refine Qv (((B20.ext Cc).ext Cd).mod Ce (by show¬v1.heap.size=v21.heap.size;omega)) rfl (sc rfl) (λv24 gY _ B24=>?_);have Cf:Mod (·=v1.heap.size) ID v24:=nQQ gY rfl;have e24:Ext wR v24:=Cf.ext e23 (λi hi=>by omega);refine⟨e24,?_⟩;exact⟨(⟨HA,Hn,Hc,Hnd,Hr⟩,⟨LA,Ln,Lc,Lnd,Lr⟩,v21.heap.size,v1.heap.size),rfl,⟨e24,(B23.mod Cf (by show¬v21.heap.size=v1.heap.size;omega)),B24,(SB.modo (SB.modo (((Hb.ext IB).ext Cc).ext Cd) Ce (λad ea h0 hh=>by have q1:=y1 ad ea h0;have q2:=r1 ad ea;omega)) Cf (λad ea h0 hh=>by have q1:=y1 ad ea h0;have q2:=r1 ad ea;omega)),Hs,(SB.modo (SB.modo (Lb.ext Cd) Ce (λad ea h0 hh=>by have q1:=y21 ad ea h0;have q2:=r21 ad ea;omega)) Cf (λad ea h0 hh=>by have q1:=y21 ad ea h0;have q2:=r21 ad ea;omega)),Ls⟩⟩
     ·refine⟨?_,trivial⟩;refine new (λv25 IE z25 B25=>?_);have Cg:=tW.trans IE;refine⟨Cg,?_⟩;have l25:=tW.size;refine⟨?_,trivial⟩;refine call (eF hk x y v25 (hx.ext Cg) (hy.ext Cg) sx sy) ?_;rintro _ v26 ⟨LA,Ln,Lc,Lnd,Lr,rfl,xx,Lb,Ls,LR⟩;have e26:=Cg.trans xx;refine⟨e26,?_⟩;have z26:=xx.size;have y26:=λad ea h0=>SB.lt Lb ad ea h0
      have r26:=λ(ad:Addr) (ea:LA=some ad)=>LR ad.block ⟨ad,ea,rfl⟩
      refine⟨?_,trivial⟩;refine Qv (B25.ext xx) rfl (sc rfl) (λIF h27 _ B27=>?_);have Ch:Mod (·=v20.heap.size) v26 IF:=nQQ h27 rfl;have e27:Ext wR IF:=Ch.ext e26 (λi hi=>by omega);refine⟨e27,?_⟩;refine⟨?_,trivial⟩;refine Qv (((B20.ext IE).ext xx).mod Ch (by show¬v1.heap.size=v20.heap.size;omega)) rfl (sc rfl) (λv28 h28 _ B28=>?_);have Ci:Mod (·=v1.heap.size) IF v28:=nQQ h28 rfl;have e28:Ext wR v28:=Ci.ext e27 (λi hi=>by omega);refine⟨e28,?_⟩;exact⟨(⟨HA,Hn,Hc,Hnd,Hr⟩,⟨LA,Ln,Lc,Lnd,Lr⟩,v20.heap.size,v1.heap.size),rfl,⟨e28,(B27.mod Ci (by show¬v20.heap.size=v1.heap.size;omega)),B28,(SB.modo (SB.modo (((Hb.ext IB).ext IE).ext xx) Ch (λad ea h0 hh=>by have q1:=y1 ad ea h0;have q2:=r1 ad ea;omega)) Ci (λad ea h0 hh=>by have q1:=y1 ad ea h0;have q2:=r1 ad ea;omega)),Hs,(SB.modo (SB.modo Lb Ch (λad ea h0 hh=>by have q1:=y26 ad ea h0;have q2:=r26 ad ea;omega)) Ci (λad ea h0 hh=>by have q1:=y26 ad ea h0;have q2:=r26 ad ea;omega)),Ls⟩⟩
  ·refine⟨?_,?_⟩
   ·refine new (λxy g29 z29 B29=>?_);have tY:=eR.trans g29;refine⟨tY,?_⟩;have l29:=eR.size;refine⟨?_,?_⟩
    ·refine call (mK hk x y xy (hx.ext tY) (hy.ext tY) sx sy) ?_;rintro _ xz ⟨HA,Hn,Hc,Hnd,Hr,rfl,Cj,Hb,Hs,HR⟩;have tZ:=tY.trans Cj;refine⟨tZ,?_⟩;have z30:=Cj.size;have Ck:=λad ea h0=>SB.lt Hb ad ea h0
     have Cl:=λ(ad:Addr) (ea:HA=some ad)=>HR ad.block ⟨ad,ea,rfl⟩
     refine⟨?_,?_⟩
     ·refine call (eF hk x y xz (hx.ext tZ) (hy.ext tZ) sx sy) ?_;rintro _ v31 ⟨LA,Ln,Lc,Lnd,Lr,rfl,Cm,Lb,Ls,LR⟩;have IG:=tZ.trans Cm;refine⟨IG,?_⟩;have z31:=Cm.size;have y31:=λad ea h0=>SB.lt Lb ad ea h0
      have r31:=λ(ad:Addr) (ea:LA=some ad)=>LR ad.block ⟨ad,ea,rfl⟩
      refine⟨?_,trivial⟩;refine new (λv32 Co z32 B32=>?_);have e32:=IG.trans Co;refine⟨e32,?_⟩;have l32:=IG.size;refine⟨?_,trivial⟩;refine Qv (((B29.ext Cj).ext Cm).ext Co) rfl (sc rfl) (λIH h33 _ B33=>?_);have Cp:Mod (·=wR.drew.heap.size) v32 IH:=nQQ h33 rfl;have e33:Ext wR IH:=Cp.ext e32 (λi hi=>by omega);refine⟨e33,?_⟩;refine⟨?_,trivial⟩;refine Qv (B32.mod Cp (by show¬v31.heap.size=wR.drew.heap.size;omega)) rfl (sc rfl) (λv34 h34 _ B34=>?_);have Cq:Mod (·=v31.heap.size) IH v34:=nQQ h34 rfl;have e34:Ext wR v34:=Cq.ext e33 (λi hi=>by omega);refine⟨e34,?_⟩;exact⟨(⟨HA,Hn,Hc,Hnd,Hr⟩,⟨LA,Ln,Lc,Lnd,Lr⟩,wR.drew.heap.size,v31.heap.size),rfl,⟨e34,(B33.mod Cq (by show¬wR.drew.heap.size=v31.heap.size;omega)),B34,(SB.modo (SB.modo ((Hb.ext Cm).ext Co) Cp (λad ea h0 hh=>by have q1:=Ck ad ea h0;have q2:=Cl ad ea;omega)) Cq (λad ea h0 hh=>by have q1:=Ck ad ea h0;have q2:=Cl ad ea;omega)),Hs,(SB.modo (SB.modo (Lb.ext Co) Cp (λad ea h0 hh=>by have q1:=y31 ad ea h0;have q2:=r31 ad ea;omega)) Cq (λad ea h0 hh=>by have q1:=y31 ad ea h0;have q2:=r31 ad ea;omega)),Ls⟩⟩
     ·refine⟨?_,trivial⟩;refine new (λv35 II z35 B35=>?_);have Cr:=tZ.trans II;refine⟨Cr,?_⟩;have l35:=tZ.size;refine⟨?_,trivial⟩;refine call (eF hk x y v35 (hx.ext Cr) (hy.ext Cr) sx sy) ?_;rintro _ v36 ⟨LA,Ln,Lc,Lnd,Lr,rfl,xA,Lb,Ls,LR⟩;have e36:=Cr.trans xA;refine⟨e36,?_⟩;have z36:=xA.size;have y36:=λad ea h0=>SB.lt Lb ad ea h0
      have r36:=λ(ad:Addr) (ea:LA=some ad)=>LR ad.block ⟨ad,ea,rfl⟩
      refine⟨?_,trivial⟩;refine Qv (((B29.ext Cj).ext II).ext xA) rfl (sc rfl) (λv37 h37 _ B37=>?_);have Cs:Mod (·=wR.drew.heap.size) v36 v37:=nQQ h37 rfl;have e37:Ext wR v37:=Cs.ext e36 (λi hi=>by omega);refine⟨e37,?_⟩;refine⟨?_,trivial⟩;refine Qv ((B35.ext xA).mod Cs (by show¬xz.heap.size=wR.drew.heap.size;omega)) rfl (sc rfl) (λv38 h38 _ B38=>?_);have Ct:Mod (·=xz.heap.size) v37 v38:=nQQ h38 rfl;have e38:Ext wR v38:=Ct.ext e37 (λi hi=>by omega);refine⟨e38,?_⟩;exact⟨(⟨HA,Hn,Hc,Hnd,Hr⟩,⟨LA,Ln,Lc,Lnd,Lr⟩,wR.drew.heap.size,xz.heap.size),rfl,⟨e38,(B37.mod Ct (by show¬wR.drew.heap.size=xz.heap.size;omega)),B38,(SB.modo (SB.modo ((Hb.ext II).ext xA) Cs (λad ea h0 hh=>by have q1:=Ck ad ea h0;have q2:=Cl ad ea;omega)) Ct (λad ea h0 hh=>by have q1:=Ck ad ea h0;have q2:=Cl ad ea;omega)),Hs,(SB.modo (SB.modo Lb Cs (λad ea h0 hh=>by have q1:=y36 ad ea h0;have q2:=r36 ad ea;omega)) Ct (λad ea h0 hh=>by have q1:=y36 ad ea h0;have q2:=r36 ad ea;omega)),Ls⟩⟩
    ·refine⟨?_,trivial⟩;refine new (λv39 g39 z39 B39=>?_);have Cu:=tY.trans g39;refine⟨Cu,?_⟩;have l39:=tY.size;refine⟨?_,trivial⟩;refine call (mK hk x y v39 (hx.ext Cu) (hy.ext Cu) sx sy) ?_;rintro _ v40 ⟨HA,Hn,Hc,Hnd,Hr,rfl,Cv,Hb,Hs,HR⟩;have Cw:=Cu.trans Cv;refine⟨Cw,?_⟩;have z40:=Cv.size;have y40:=λad ea h0=>SB.lt Hb ad ea h0
     have r40:=λ(ad:Addr) (ea:HA=some ad)=>HR ad.block ⟨ad,ea,rfl⟩
     refine⟨?_,trivial⟩;refine call (eF hk x y v40 (hx.ext Cw) (hy.ext Cw) sx sy) ?_;rintro _ v41 ⟨LA,Ln,Lc,Lnd,Lr,rfl,xB,Lb,Ls,LR⟩;have e41:=Cw.trans xB;refine⟨e41,?_⟩;have z41:=xB.size;have y41:=λad ea h0=>SB.lt Lb ad ea h0
     have r41:=λ(ad:Addr) (ea:LA=some ad)=>LR ad.block ⟨ad,ea,rfl⟩
     refine⟨?_,trivial⟩;refine Qv (((B29.ext g39).ext Cv).ext xB) rfl (sc rfl) (λIJ h42 _ B42=>?_);have Cy:Mod (·=wR.drew.heap.size) v41 IJ:=nQQ h42 rfl;have e42:Ext wR IJ:=Cy.ext e41 (λi hi=>by omega);refine⟨e42,?_⟩;refine⟨?_,trivial⟩;refine Qv (((B39.ext Cv).ext xB).mod Cy (by show¬xy.heap.size=wR.drew.heap.size;omega)) rfl (sc rfl) (λv43 h43 _ B43=>?_);have Cz:Mod (·=xy.heap.size) IJ v43:=nQQ h43 rfl;have e43:Ext wR v43:=Cz.ext e42 (λi hi=>by omega);refine⟨e43,?_⟩;exact⟨(⟨HA,Hn,Hc,Hnd,Hr⟩,⟨LA,Ln,Lc,Lnd,Lr⟩,wR.drew.heap.size,xy.heap.size),rfl,⟨e43,(B42.mod Cz (by show¬wR.drew.heap.size=xy.heap.size;omega)),B43,(SB.modo (SB.modo (Hb.ext xB) Cy (λad ea h0 hh=>by have q1:=y40 ad ea h0;have q2:=r40 ad ea;omega)) Cz (λad ea h0 hh=>by have q1:=y40 ad ea h0;have q2:=r40 ad ea;omega)),Hs,(SB.modo (SB.modo Lb Cy (λad ea h0 hh=>by have q1:=y41 ad ea h0;have q2:=r41 ad ea;omega)) Cz (λad ea h0 hh=>by have q1:=y41 ad ea h0;have q2:=r41 ad ea;omega)),Ls⟩⟩
   ·refine⟨?_,trivial⟩;refine new (λxC g44 z44 B44=>?_);have t6:=eR.trans g44;refine⟨t6,?_⟩;have l44:=eR.size;refine⟨?_,?_⟩
    ·refine call (mK hk x y xC (hx.ext t6) (hy.ext t6) sx sy) ?_;rintro _ xD ⟨HA,Hn,Hc,Hnd,Hr,rfl,CC,Hb,Hs,HR⟩;have t7:=t6.trans CC;refine⟨t7,?_⟩;have z45:=CC.size;have CD:=λad ea h0=>SB.lt Hb ad ea h0
     have CE:=λ(ad:Addr) (ea:HA=some ad)=>HR ad.block ⟨ad,ea,rfl⟩
     refine⟨?_,?_⟩
     ·refine call (eF hk x y xD (hx.ext t7) (hy.ext t7) sx sy) ?_;rintro _ v46 ⟨LA,Ln,Lc,Lnd,Lr,rfl,CF,Lb,Ls,LR⟩;have IK:=t7.trans CF;refine⟨IK,?_⟩;have z46:=CF.size;have y46:=λad ea h0=>SB.lt Lb ad ea h0
      have r46:=λ(ad:Addr) (ea:LA=some ad)=>LR ad.block ⟨ad,ea,rfl⟩
      refine⟨?_,trivial⟩;refine new (λv47 CG z47 B47=>?_);have e47:=IK.trans CG;refine⟨e47,?_⟩;have l47:=IK.size;refine⟨?_,trivial⟩;refine Qv B47 rfl (sc rfl) (λIL h48 _ B48=>?_);have CH:Mod (·=v46.heap.size) v47 IL:=nQQ h48 rfl;have e48:Ext wR IL:=CH.ext e47 (λi hi=>by omega);refine⟨e48,?_⟩;refine⟨?_,trivial⟩;refine Qv ((((B44.ext CC).ext CF).ext CG).mod CH (by show¬wR.drew.heap.size=v46.heap.size;omega)) rfl (sc rfl) (λv49 h49 _ B49=>?_);have CI:Mod (·=wR.drew.heap.size) IL v49:=nQQ h49 rfl;have e49:Ext wR v49:=CI.ext e48 (λi hi=>by omega);refine⟨e49,?_⟩;exact⟨(⟨HA,Hn,Hc,Hnd,Hr⟩,⟨LA,Ln,Lc,Lnd,Lr⟩,v46.heap.size,wR.drew.heap.size),rfl,⟨e49,(B48.mod CI (by show¬v46.heap.size=wR.drew.heap.size;omega)),B49,(SB.modo (SB.modo ((Hb.ext CF).ext CG) CH (λad ea h0 hh=>by have q1:=CD ad ea h0;have q2:=CE ad ea;omega)) CI (λad ea h0 hh=>by have q1:=CD ad ea h0;have q2:=CE ad ea;omega)),Hs,(SB.modo (SB.modo (Lb.ext CG) CH (λad ea h0 hh=>by have q1:=y46 ad ea h0;have q2:=r46 ad ea;omega)) CI (λad ea h0 hh=>by have q1:=y46 ad ea h0;have q2:=r46 ad ea;omega)),Ls⟩⟩
     ·refine⟨?_,trivial⟩;refine new (λv50 IM z50 B50=>?_);have CJ:=t7.trans IM;refine⟨CJ,?_⟩;have l50:=t7.size;refine⟨?_,trivial⟩;refine call (eF hk x y v50 (hx.ext CJ) (hy.ext CJ) sx sy) ?_;rintro _ v51 ⟨LA,Ln,Lc,Lnd,Lr,rfl,xE,Lb,Ls,LR⟩;have e51:=CJ.trans xE;refine⟨e51,?_⟩;have z51:=xE.size;have y51:=λad ea h0=>SB.lt Lb ad ea h0
      have r51:=λ(ad:Addr) (ea:LA=some ad)=>LR ad.block ⟨ad,ea,rfl⟩
      refine⟨?_,trivial⟩;refine Qv (B50.ext xE) rfl (sc rfl) (λIN h52 _ B52=>?_);have CL:Mod (·=xD.heap.size) v51 IN:=nQQ h52 rfl;have e52:Ext wR IN:=CL.ext e51 (λi hi=>by omega);refine⟨e52,?_⟩;refine⟨?_,trivial⟩;refine Qv ((((B44.ext CC).ext IM).ext xE).mod CL (by show¬wR.drew.heap.size=xD.heap.size;omega)) rfl (sc rfl) (λv53 h53 _ B53=>?_);have CM:Mod (·=wR.drew.heap.size) IN v53:=nQQ h53 rfl;have e53:Ext wR v53:=CM.ext e52 (λi hi=>by omega);refine⟨e53,?_⟩;exact⟨(⟨HA,Hn,Hc,Hnd,Hr⟩,⟨LA,Ln,Lc,Lnd,Lr⟩,xD.heap.size,wR.drew.heap.size),rfl,⟨e53,(B52.mod CM (by show¬xD.heap.size=wR.drew.heap.size;omega)),B53,(SB.modo (SB.modo ((Hb.ext IM).ext xE) CL (λad ea h0 hh=>by have q1:=CD ad ea h0;have q2:=CE ad ea;omega)) CM (λad ea h0 hh=>by have q1:=CD ad ea h0;have q2:=CE ad ea;omega)),Hs,(SB.modo (SB.modo Lb CL (λad ea h0 hh=>by have q1:=y51 ad ea h0;have q2:=r51 ad ea;omega)) CM (λad ea h0 hh=>by have q1:=y51 ad ea h0;have q2:=r51 ad ea;omega)),Ls⟩⟩
    ·refine⟨?_,trivial⟩;refine new (λv54 g54 z54 B54=>?_);have CN:=t6.trans g54;refine⟨CN,?_⟩;have l54:=t6.size;refine⟨?_,trivial⟩;refine call (mK hk x y v54 (hx.ext CN) (hy.ext CN) sx sy) ?_;rintro _ v55 ⟨HA,Hn,Hc,Hnd,Hr,rfl,CO,Hb,Hs,HR⟩;have CQ:=CN.trans CO;refine⟨CQ,?_⟩;have z55:=CO.size;have y55:=λad ea h0=>SB.lt Hb ad ea h0
     have r55:=λ(ad:Addr) (ea:HA=some ad)=>HR ad.block ⟨ad,ea,rfl⟩
     refine⟨?_,trivial⟩;refine call (eF hk x y v55 (hx.ext CQ) (hy.ext CQ) sx sy) ?_;rintro _ v56 ⟨LA,Ln,Lc,Lnd,Lr,rfl,xF,Lb,Ls,LR⟩;have e56:=CQ.trans xF;refine⟨e56,?_⟩;have z56:=xF.size;have y56:=λad ea h0=>SB.lt Lb ad ea h0
     have r56:=λ(ad:Addr) (ea:LA=some ad)=>LR ad.block ⟨ad,ea,rfl⟩
     refine⟨?_,trivial⟩;refine Qv ((B54.ext CO).ext xF) rfl (sc rfl) (λjZq h57 _ B57=>?_);have CR:Mod (·=xC.heap.size) v56 jZq:=nQQ h57 rfl;have e57:Ext wR jZq:=CR.ext e56 (λi hi=>by omega);refine⟨e57,?_⟩;refine⟨?_,trivial⟩;refine Qv ((((B44.ext g54).ext CO).ext xF).mod CR (by show¬wR.drew.heap.size=xC.heap.size;omega)) rfl (sc rfl) (λv58 h58 _ B58=>?_);have CT:Mod (·=wR.drew.heap.size) jZq v58:=nQQ h58 rfl;have e58:Ext wR v58:=CT.ext e57 (λi hi=>by omega);refine⟨e58,?_⟩;exact⟨(⟨HA,Hn,Hc,Hnd,Hr⟩,⟨LA,Ln,Lc,Lnd,Lr⟩,xC.heap.size,wR.drew.heap.size),rfl,⟨e58,(B57.mod CT (by show¬xC.heap.size=wR.drew.heap.size;omega)),B58,(SB.modo (SB.modo (Hb.ext xF) CR (λad ea h0 hh=>by have q1:=y55 ad ea h0;have q2:=r55 ad ea;omega)) CT (λad ea h0 hh=>by have q1:=y55 ad ea h0;have q2:=r55 ad ea;omega)),Hs,(SB.modo (SB.modo Lb CR (λad ea h0 hh=>by have q1:=y56 ad ea h0;have q2:=r56 ad ea;omega)) CT (λad ea h0 hh=>by have q1:=y56 ad ea h0;have q2:=r56 ad ea;omega)),Ls⟩⟩
 rintro⟨xh,xl,b1,b2⟩ w6 ⟨QO,Qh,Qx,hHb,Ml,jM,iO⟩;simp only at Qh Qx hHb Ml jM iO;have XR:=Mk.trans QO;have bY:=hKR.ext QO;have mh:QL n (λe=>o e&&e v)=dR (QL n o) v:=by
  rw[Sd (o:=o) (v:=v) true (λe=>by cases e v<;>rfl)];congr 1;funext c;cases c.testBit v<;>rfl
 have ml:QL n (λe=>o e && !e v)=ga (QL n o) v:=by
  rw[Sd (o:=o) (v:=v) false (λe=>by cases e v<;>rfl)];congr 1;funext c;cases c.testBit v<;>rfl
 have h0:=Ml.root0;have l0:=iO.root0;rw[mh] at h0;rw[ml] at l0;have ihh:=λ(hq:dR (QL n o) v≠ []) (w7:World) (Xb:Ext w6 w7)=>ih k (er k) (v+1) xh (λe=>o e&&e v) w7 (by omega) (bY.ext Xb) (hHb.ext Xb) Ml (by rw[mh];exact hq) (by rw[mh];exact Jb.sub (λc hc=>(VU.1 hc).1)) (by rw[mh];exact hQp dv)
 rw[mh] at ihh;have ihl:=λ(hq:ga (QL n o) v≠ []) (w7:World) (Xb:Ext w6 w7)=>ih k (er k) (v+1) xl (λe=>o e && !e v) w7 (by omega) (bY.ext Xb) (jM.ext Xb) iO (by rw[ml];exact hq) (by rw[ml];exact Jb.sub (λc hc=>(VU.1 hc).1)) (by rw[ml];exact hQq dv)
 rw[ml] at ihl;have kU:((v+1:Nat):Int)=(v:Int)+1:=by omega
 refine Qo Qx rfl ?_;refine X3 (λc9=>?_) (λc9=>?_)
 ·have iK:=l0.1 c9;have lI:dR (QL n o) v≠ []:=by rw[Sf iK];exact QU
  rw[hQm QU iK];refine QD bY.wbb rfl ?_;refine Qt Qh rfl ?_;refine Qi ((v+1:Nat):Int) (by omega) (by omega) ?_;refine call (ihh lI w6 (Ext.refl _)) ?_;rintro _ w7 ⟨A,c,rfl,Xb,Vu⟩;exact⟨A,c,rfl,XR.trans Xb,Vu⟩
 have iK:ga (QL n o) v≠ []:=λe=>c9 (l0.2 e)
 refine Qo Qh rfl ?_;refine X3 (λvk=>?_) (λvk=>?_)
 ·have lI:=h0.1 vk;rw[hQn QU lI];refine QD bY.wbb rfl ?_;refine Qt Qx rfl ?_;refine Qi ((v+1:Nat):Int) (by omega) (by omega) ?_;refine call (ihl iK w6 (Ext.refl _)) ?_;rintro _ w7 ⟨A,c,rfl,Xb,Vu⟩;exact⟨A,c,rfl,XR.trans Xb,Vu⟩
 have lI:dR (QL n o) v≠ []:=λe=>vk (h0.2 e)
 rw[hQo QU iK lI];have hb:∀s,s∈QL n o->(∀r∈QR (fP (Zs p.ps) s),(∀x∈r,x<256)/\r.length<=1000000000)/\(QR (fP (Zs p.ps) s)).length<=1000000:=λs hs=>by
  obtain⟨q0,Yg,nI⟩:=Jb.cov s hs;obtain⟨q,hq,rfl⟩:=X7.1 Yg;rw[Jb.get hs Yg nI];obtain⟨_,o2,o3,o4⟩:=VE q hq;have ht:aX q.2=true:=by unfold V6 at o2;rw[Jl] at o2;exact o2.1
  have hu:=V4 (mH ht);have hul:=sS (QR q.2);rw[hu] at hul;refine⟨λr hr=>⟨λx hx=>o3 x (by rw[<-hu];exact WE.2 ⟨r,hr,by simp[hx]⟩),?_⟩,by show(QR q.2).length<=_;omega⟩;have:r.length<=(Qp (QR q.2)).length:=by
   have h5:∀(ls:List (List Nat)),r∈ls->r.length<=(Qp ls).length:=λls=>by
    induction ls with
    | nil=>intro h;cases h
    | cons a ls T9=>
     intro h;rw[V3,Qq,Q6];rcases Q1.1 h with rfl | h
     ·omega
     ·have:=T9 h;omega
   exact h5 _ hr
  rw[hu] at this;omega
 have hif:∀v ng,(∀x∈VJ p.nm v ng,x<256)/\(VJ p.nm v ng).length<=1000000000:=λv ng=>by
  unfold VJ;cases hg:p.nm[v]? with
  | none=>cases ng<;>exact⟨by simp[ZQ],by simp[ZQ]⟩
  | some s=>
   have gu:=Xm hg;have xG:=(VR s gu).1;have LT:=Kl s gu;refine⟨λx hx=>?_,?_⟩
   ·rcases XM.1 hx with hx | hx
    ·exact(show∀y∈ZQ,y<256 by decide) x hx
    ·rcases XM.1 hx with hx | hx
     ·cases ng
      ·cases hx
      ·rw[QN.1 hx];decide
     ·exact xG x hx
   ·simp only[Qq,fG];cases ng<;>simp[ZQ]<;>omega
 have ux:(QL n o).length<=16:=by
  have h1:(QL n o).length<=2^n:=Zc (yZ _ _) (by simp);have h2:2^n<=2^4:=aO (by decide) lv;omega
 have bnd:∀S,S≠ []->(∀c∈S,c∈QL n o)->S.length<=16->kK (Zi p.nm (fP (Zs p.ps)) k (v+1) S)/\(Zi p.nm (fP (Zs p.ps)) k (v+1) S).length<=100000000:=λS hS hSm oK=>by
  obtain⟨a1,a2⟩:=tf (nm:=p.nm) (f:=fP (Zs p.ps)) (P:=λr=>(∀x∈r,x<256)/\r.length<=1000000000) (M:=1000000) hif (by decide) (by decide) k (v+1) S hS (λc hc=>hb c (hSm c hc));have:=bG (1000000+3) oK;exact⟨a1,by omega⟩
 obtain⟨bh1,bh2⟩:=bnd _ lI (λc hc=>(VU.1 hc).1) (Zc (yZ _ _) ux);obtain⟨bl1,bl2⟩:=bnd _ iK (λc hc=>(VU.1 hc).1) (Zc (yZ _ _) ux);generalize hWH:Zi p.nm (fP (Zs p.ps)) k (v+1) (dR (QL n o) v)=WH at*;generalize hWL:Zi p.nm (fP (Zs p.ps)) k (v+1) (ga (QL n o) v)=WL at*;refine XK Qa (Ext w6) 12 [(true,0),(true,1),(true,2),(true,3),(true,5),(true,6),(true,7),(true,8),(false,4),(false,9),(true,10),(true,11)] (by kernel_rfl) (Ext.drew w6) ?_;refine QK (v:=p.clo) (λw' Qb=>by rw[(bY.wbb.ext Qb).cell0];rfl) ?_;refine Xs (vs:=xh.cells) rfl (λw' Qb j u hj=>by rw[(Qh.ext Qb).cell];exact hj) ?_;refine Qi ((v+1:Nat):Int) (by omega) (by omega) ?_;refine QK (v:=p.clo) (λw' Qb=>by rw[(bY.wbb.ext Qb).cell0];rfl) ?_;refine Xs (vs:=xl.cells) rfl (λw' Qb j u hj=>by rw[(Qx.ext Qb).cell];exact hj) ?_;refine Qi ((v+1:Nat):Int) (by omega) (by omega) ?_;have hd:=Ext.drew w6;refine call (ihh lI w6.drew hd) ?_;rintro _ w7 ⟨HA,hc,rfl,Xb,Vu⟩;refine⟨hd.trans Xb,?_⟩;refine call (ihl iK w7 (hd.trans Xb)) ?_;rintro _ w8 ⟨LA,lc,rfl,Xl,la⟩;refine⟨(hd.trans Xb).trans Xl,?_⟩;have gj:=(hd.trans Xb).trans Xl;refine call (hQC HA LA _ hc _ lc WH WL w8 (Vu.ext Xl).1 la.1 bh1 bl1) ?_;rintro _ w9 ⟨rfl,Xt⟩;have nG:=gj.trans Xt;by_cases heq:WH=WL
 ·rw[Qf heq];refine Zh heq ?_;exact⟨HA,hc,rfl,XR.trans nG,(Vu.ext Xl).ext Xt⟩
 ·rw[if_neg heq];refine XD heq ?_;have kQX:v<p.nn:=by have:=hK.nms.len;rw[aU] at this;omega
  refine QD (bY.ext nG).nbb rfl ?_;obtain⟨s,hs⟩:∃s,p.nm[v]? =some s:=⟨_,Xp (by omega)⟩
  refine KC (bY.ext nG).nms kQX (λad u hA hu Xq=>?_);rw[j8 hs] at hu;cases hu;refine load Xq ?_;have es:eG p.nm v=s:=by unfold eG;rw[hs]<;>rfl
  rw[<-es];refine call (hQz p.nm v WH WL HA LA _ hc _ lc w9 ((Vu.ext Xl).ext Xt).1 (la.ext Xt).1 bh1 bl1 (by rw[es];have:=Kl s (Xm hs);omega) (by rw[JF];exact bh2) (by rw[JF];exact bl2)) ?_;rintro _ Qy ⟨JA,jc,rfl,XT,im⟩;exact⟨JA,jc,rfl,(XR.trans nG).trans XT,im⟩
theorem Sr (NA:Option Addr)(nn nc:Nat)(nm:List (List Nat))(x:DV)(o:BF)(PA:Option Addr)(pn pc:Nat)(ps:List (DV×List Nat))(n:Nat)(lv:n<=4)(xP:nm.length=n)(VR:Ku nm)(Kl:∀s∈nm,s.length<=1000000)(VE:∀q∈ps,Ka n q.1.nd q.1.r=true/\V6 q.2=true/\(∀b∈q.2,b<256)/\q.2.length<=1000000)(w:World)
  (hN:Sl w 1 NA nn nc (XB nm)) (hx:SB w x.A x.n x.c x.nd) (sx:Set1 n x.nd x.r o) (hP:SlS JX 3 w PA pn pc ps) (yG:∀q∈ps,SB w q.1.A q.1.n q.1.c q.1.nd) (QU:QL n o≠ []) (Jb:PaOk (QL n o) (Zs ps)):
  Fn Tryz.prog 65 [.slice NA nn nc,Xk x.A x.n x.c x.r,.slice PA pn pc] w (λu w'=>sW w u ((Zi nm (fP (Zs ps)) n 0 (QL n o)).map (·++ [10])) w'):=by
 refine QF (c:={c65 with cuts:=[]}) Qa Tryz.func65 rfl rfl rfl ?_;refine new (λw1 Qe Q4 Qh=>?_);refine new (λw2 Qg Zb Qx=>?_);refine new (λw3 Qj JC Qu=>?_);refine new (λw4 Qs KO Q7=>?_);have KR:=Qj.trans Qs;have J1:=Qg.trans KR;have XG:=Qe.trans J1;refine KD Q7 (by decide) (λw5 Je QG=>?_);have aB:Ext w3 w5:=Je.ext Qs (λi hi=>by omega)
 let p:WP:=⟨w2.heap.size,w3.heap.size,w.heap.size,PA,pn,pc,NA,nn,nc,nm,ps⟩
 have J3:Ext w w5:=((Qe.trans Qg).trans Qj).trans aB;have hK:WK w5 p:=⟨Qu.ext aB,QG,Qh.ext ((Qg.trans Qj).trans aB),hP.ext J3,λq hq=>(yG q hq).ext J3,hN.ext J3⟩
 refine QD hK.wbb rfl ?_;refine Qt (Qx.ext (Qj.trans aB)) rfl ?_;refine call (hQG p n lv xP VR Kl VE n 0 x o w5 (by omega) hK (hx.ext J3) sx QU Jb hQi) ?_;rintro _ w6 ⟨A,c,rfl,QO,aC⟩;exact⟨A,c,rfl,J3.trans QO,aC⟩
theorem Ss:∀(xs:List (List UInt8)),([]:List UInt8).intercalate xs=xs.flatten
 | []=>rfl
 | [x]=>by simp[List.intercalate]
 | x::y::l=>by
  have ih:=Ss (y::l);simp only[List.intercalate,List.intersperse_cons₂,MU,bF] at ih ⊢;rw[ih]
theorem hQH (ls:List (List Nat)):Lib.join ((ls.map (λs=>Qd (s++ [10]))).map (·.data.toList)) []=(Qp ls).map UInt8.ofNat:=by
 unfold Lib.join;rw[Ss];induction ls with
 | nil=>rfl
 | cons s ls ih=>
  rw[Vl,Vl,MU,ih,V3,vS];simp
theorem hQI (A:Option Addr)(n c:Nat)(ls:List (List Nat))(w:World)(h:Sn w A n c (JL ls))(Xc:∀ad,A=some ad->0<n->ad.block<w.heap.size)(hn:n<=1000000000)(QY:(Qp ls).length<=1000000000):
  Fn Tryz.prog 102 [.slice A n c,.string ⟨#[]⟩] w (λu w'=>u= .string (Qd (Qp ls))/\Ext w w'):=by
 have hl:=ji h.1;by_cases h0:n=0
 ·subst h0;have:ls=[]:=Wg hl;subst this;refine QF (c:={bQ2 with cuts:=[]}) Qa Tryz.func102 rfl rfl rfl ?_;refine Jp rfl ?_;exact⟨rfl,Ext.refl _⟩
 ·obtain⟨g,o,rfl⟩:=h.2 (by omega);obtain⟨ad,e,hc⟩:=h.1.at_ (by omega);cases e;have hx:(ls.map (λs=>Qd (s++ [10]))).length=n:=by rw[JF,hl]
  have hj:=hQH ls;have ym:=Tryz.strings_Join g o c (ls.map (λs=>Qd (s++ [10]))) ⟨#[]⟩ w (λj x hj=>by
   rw[aL] at hj;cases hs:ls[j]? with
   | none=>rw[hs] at hj;cases hj
   | some s=>
    rw[hs] at hj;cases hj;have:=hc j _ (cO hs);have e3:(⟨g,o,none⟩:Addr).add j=⟨g,o+j,none⟩:=by
     unfold Addr.add;by_cases mV:j=0
     ·subst mV;simp
     ·simp[mV]
    rw[e3] at this;exact this) (Xc _ rfl (by omega)) (by omega) (by rw[hx];exact h.1.le) (by
   have:(⟨#[]⟩:ByteArray).data.toList=[]:=rfl;rw[this,hj,JF];omega)
  have e0:(⟨#[]⟩:ByteArray).data.toList=[]:=rfl;rw[e0,hj,hx] at ym;unfold Fn;refine ym.mono λe w' he=>?_
  obtain⟨rfl,hb⟩:=he;exact⟨rfl,nQW hb⟩
theorem St (ls:List (List Nat))(s:List Nat):(Qp (ls++ [s])).length=(Qp ls).length+(s.length+1):=by simp[Qp]
theorem hQJ (A:Option Addr)(n c:Nat)(ls:List (List Nat))(w:World)(h:Sn w A n c (JL ls))(QY:(Qp ls).length<=1048576):
  Fn Tryz.prog 50 [.slice A n c] w (λu w'=>u= .string (Qd (Qp ls))/\Ext w w'):=by
 have hl:=ji h.1;have co:=sS ls;refine QF (c:={NS with cuts:=[]}) Qa Tryz.func50 rfl rfl rfl ?_;refine loop Qa [8,3] (λi:Nat=>[.int .i64 i,.int .i64 (Qp (ls.take i)).length]) (λi w'=>w=w'/\i<=n) (λi _=>n-i) 0 rfl ⟨rfl,Xr _⟩ ?_;rintro i _ ⟨rfl,hi⟩;refine Qz (λc1=>?_) (λc1=>?_)
 ·have QZ:i<n:=by omega
  obtain⟨s,hs⟩:∃s,ls[i]? =some s:=⟨_,Xp (by omega)⟩
  have Wd:ls.take (i+1)=ls.take i++ [s]:=by rw[K9,hs]<;>rfl
  have hu:=St (ls.take i) s;rw[<-Wd] at hu;have Zz:(Qp (ls.take (i+1))).length<=(Qp ls).length:=by
   have e5:Qp ls=Qp (ls.take (i+1))++Qp (ls.drop (i+1)):=by
    have e6:∀a b:List (List Nat),Qp (a++b)=Qp a++Qp b:=λa b=>by simp[Qp]
    rw[<-e6,lQ]
   rw[e5,Qq];omega
  refine KC h.1 QZ (λad u hA gv Xq=>?_);rw[cO hs] at gv;cases gv;refine load Xq ?_;have XJ:=Xe (s++ [10]);rw[Qq,o6] at XJ;refine Qi (((Qp (ls.take (i+1))).length:Nat):Int) (by rw[hu];omega) (by omega) ?_;refine XD (by omega) ?_;refine Qi ((i+1:Nat):Int) (by show((i:Nat):Int)+1=_;omega) (by omega) ?_;exact⟨i+1,rfl,⟨rfl,QZ⟩,by show n-(i+1)<n-i;omega⟩
 ·refine call (hQI A n c ls w h (λad e h0=>?_) (by omega) (by omega)) ?_
  ·obtain⟨ad',e',hc⟩:=h.1.at_ h0;rw[e] at e';cases e';obtain⟨s,hs⟩:∃s,ls[0]? =some s:=⟨_,Xp (by omega)⟩
   have:=hc 0 _ (cO hs);have h6:=World.block_lt_of_cell? w _ this;rw[pw] at h6;exact h6
  rintro _ w1 ⟨rfl,Qe⟩;exact⟨rfl,Qe⟩
theorem hQK {r:List Nat}{k:Nat}(h1:10∉r.take k)(h2:r[k]? =some 10):(WO r).length=k/\10∈r:=by
 refine⟨?_,Xm h2⟩;unfold WO;induction r generalizing k with
 | nil=>simp at h2
 | cons b r ih=>
  cases k with
  | zero=>
   have:b=10:=by simpa using h2
   subst this;simp
  | succ k=>
   simp only[uI,Q1,not_or] at h1;have hb:(b !=10)=true:=by simpa using λe:b=10=>h1.1 e.symm
   rw[WD,Qf hb,Q6,ih h1.2 (by simpa using h2)]
theorem hQL (l:List Nat)(w:World)(hl:∀x∈l,x<256)(QY:l.length<=1000000000):
  Fn Tryz.prog 19 [.string (Qd l)] w (λu w'=>∃A c,u= .slice A (ap l).length c/\Ext w w'/\Own w' w.heap.size 9 1 A (ap l).length c (XB (ap l))):=by
 have XJ:=Xe l;refine QF (c:={NQ with cuts:=[]}) Qa Tryz.func19 rfl rfl rfl ?_;refine Xh Qa [] rfl rfl rfl rfl rfl ⟨⟩ rfl (λcs h=>by cases h) rfl (by decide) (by decide) ?_;intro w1 Qe Q4 Qh;refine loop Qa [5,4,3] (λs:Nat×Nat×List (List Nat)×Option Addr×Nat=>[.int .i64 s.1,.int .i64 s.2.1,.slice s.2.2.2.1 s.2.2.1.length s.2.2.2.2]) (λs w'=>Ext w w'/\s.1<=l.length/\s.2.1<=s.1/\s.2.2.1.length<=s.1/\Z0 l=s.2.2.1++Z0 (l.drop s.2.1)/\10∉(l.drop s.2.1).take (s.1-s.2.1)/\Own w' w.heap.size 9 1 s.2.2.2.1 s.2.2.1.length s.2.2.2.2 (XB s.2.2.1)) (λs _=>l.length-s.1) (0,0,[],some ⟨w.heap.size,0,none⟩,0) rfl ⟨Qe,Xr _,QB _,QB _,rfl,by simp,Own.empty Qh (QB _)⟩ ?_;rintro⟨i,f,ds,O,oc⟩ w2 ⟨Qg,hi,hf,Vy,Kt,Xi,hO⟩;simp only at hi hf Vy Kt Xi hO;have Zb:=Qg.size;have ap1:∀(s:List Nat) (wb:World) (Mm:Ext w2 wb) (hBb:Blk wb w2.heap.size 9 [.string (Qd s)]),Sl wb 1 (some ⟨w2.heap.size,0,none⟩) 1 1 (XB [s]):=λs wb Mm hBb=>Sl.own' (n:=1) hBb rfl (by decide)
 refine Qz (λc1=>?_) (λc1=>?_)
 ·have Wf:i<l.length:=by rw[XJ] at c1;simp only at c1;omega
  obtain⟨y,hy⟩:∃y,l[i]? =some y:=⟨_,Xp Wf⟩
  refine dE (by rw[XJ];exact Wf) (λz hz _=>?_);rw[WJ hl,hy] at hz;cases hz;refine X3 (λc2=>?_) (λc2=>?_)
  ·have kQY:y=10:=by omega
   subst kQY;have hk:(l.drop f)[i-f]? =some 10:=by rw[D5,show f+(i-f)=i by omega];exact hy
   obtain⟨h1,h2⟩:=hQK Xi hk;refine Qi ((i+1:Nat):Int) (by show((i:Nat):Int)+1=_;omega) (by omega) ?_;refine XH (v':=.string (Qd ((l.drop f).take (i-f+1)))) ⟨by show(0:Int)<=(f:Int);omega,by show(f:Int)<=((i+1:Nat):Int);omega,by rw[XJ];omega⟩ (by
    rw[KY];show Value.string (Qd ((l.take (i+1)).drop f))=_;rw[fE,show i+1-f=i-f+1 by omega]) ?_
   refine Xh Qa [[Value.string (Qd ((l.drop f).take (i-f+1)))]] rfl rfl rfl rfl rfl ⟨rfl,rfl,⟨⟩⟩ rfl (λcs hh=>by simp only[QN] at hh;subst hh;rfl) rfl (by decide) (by decide) ?_;intro w3 Qj JC Qu;refine Z4 (n:=ds.length) Qa rfl rfl rfl rfl rfl (by decide) rfl rfl ⟨_,rfl⟩ rfl rfl (hO.ext Qj) (ap1 _ w3 Qj Qu) (a8 _) (by unfold maxLen;omega) (by show(ds.length+1)*16<=_;omega) (by have:=Qj.size;omega) ?_;intro A' c' w4 X5 qg Bx;refine Qi ((i+1:Nat):Int) (by show((i:Nat):Int)+1=_;omega) (by omega) ?_;refine Qi ((i+1:Nat):Int) (by show((i:Nat):Int)+1=_;omega) (by omega) ?_;refine⟨(i+1,i+1,ds++ [(l.drop f).take (i-f+1)],A',c'),by simp only[Qq];rfl,⟨X5.ext (Qg.trans Qj) (λk hk=>(hO.rows k hk).1),Wf,QB _,by simp;omega,?_,by simp,?_⟩,by show l.length-(i+1)<l.length-i;omega⟩
   ·simp only;rw[Kt,FF h2,h1,lP,show f+(i-f+1)=i+1 by omega];simp
   ·simp only;rw[Qq];simpa [XB] using qg
  ·refine Qi ((i+1:Nat):Int) (by show((i:Nat):Int)+1=_;omega) (by omega) ?_;refine⟨(i+1,f,ds,O,oc),rfl,⟨Qg,Wf,by show f<=i+1;omega,by show ds.length<=i+1;omega,Kt,?_,hO⟩,by show l.length-(i+1)<l.length-i;omega⟩;simp only;rw[show i+1-f=(i-f)+1 by omega,K9,D5,show f+(i-f)=i by omega,hy];simp only[DW,XM,QN,not_or];exact⟨Xi,λe=>c2 (by omega)⟩
 ·have Wf:i=l.length:=by rw[XJ] at c1;simp only at c1;omega
  subst Wf;rw[Jc (by simp)] at Xi;rw[Aj Xi] at Kt;refine Qz (λc2=>?_) (λc2=>?_)
  ·have ZT:f<l.length:=by rw[XJ] at c2;simp only at c2;omega
   refine XH (v':=.string (Qd (l.drop f))) ⟨by show(0:Int)<=(f:Int);omega,by show(f:Int)<=_;rw[XJ];omega,by rw[XJ];omega⟩ (by
    rw[KY,XJ];show Value.string (Qd ((l.take l.length).drop f))=_;rw[Jc (QB _)]) ?_
   refine Xh Qa [[Value.string (Qd (l.drop f))]] rfl rfl rfl rfl rfl ⟨rfl,rfl,⟨⟩⟩ rfl (λcs hh=>by simp only[QN] at hh;subst hh;rfl) rfl (by decide) (by decide) ?_;intro w3 Qj JC Qu;refine Z4 (n:=ds.length) Qa rfl rfl rfl rfl rfl (by decide) rfl rfl ⟨_,rfl⟩ rfl rfl (hO.ext Qj) (ap1 _ w3 Qj Qu) (a8 _) (by unfold maxLen;omega) (by show(ds.length+1)*16<=_;omega) (by have:=Qj.size;omega) ?_;intro A' c' w4 X5 qg Bx;have e:ap l=ds++ [l.drop f]:=by
    unfold ap;rw[Kt,if_neg];rw[List.getLast?_concat];intro hh;have:=QC List.length (Option.some.inj hh);simp at this;omega
   refine⟨A',c',by rw[e,Qq];rfl,X5.ext (Qg.trans Qj) (λk hk=>(hO.rows k hk).1),?_⟩;rw[e,Qq];simpa [XB] using qg
  ·have ZT:l.drop f=[]:=o7 (by rw[XJ] at c2;simp only at c2;omega);have e:ap l=ds:=by unfold ap;rw[Kt,ZT,Qf (by simp)];simp
   exact⟨O,oc,by rw[e],Qg,by rw[e];exact hO⟩
namespace Nt
def val:List Nat->Nat
 | []=>0
 | x::l=>x+4294967296*val l
def Limbs (l:List Nat):Prop:=∀x∈l,x<4294967296
def mL:Nat->Nat->List Nat
 | 0,_=>[]
 | f+1,n=>if n=0 then [] else(n % 4294967296)::mL f (n/4294967296)
def JY (n:Nat):List Nat:=mL n n
theorem hQM:∀(f g n:Nat),n<=f->n<=g->mL f n=mL g n:=by
 intro f;induction f with
 | zero=>
      intro g n h1 _;have:n=0:=by omega
      subst this;cases g<;>simp[mL]
 | succ f ih=>
  intro g n h1 h2;by_cases h0:n=0
  ·subst h0;cases g<;>simp[mL]
  ·cases g with
   | zero=>omega
   | succ g=>
    simp only[mL,if_neg h0];rw[ih g (n/4294967296) (by omega) (by omega)]
theorem wl:JY 0=[]:=rfl
theorem wm {n:Nat}(h:0<n):JY n=(n % 4294967296)::JY (n/4294967296):=by
 unfold JY;cases n with
 | zero=>omega
 | succ n=>
  rw[mL,if_neg (by omega)];rw[hQM n ((n+1)/4294967296) _ (by omega) (QB _)]
theorem AP:Limbs []:=λx h=>by cases h
theorem pR {x:Nat}{l:List Nat}:Limbs (x::l)↔x<4294967296/\Limbs l:=by
 unfold Limbs;simp
theorem hQN {l m:List Nat}:Limbs (l++m)↔Limbs l/\Limbs m:=by
 unfold Limbs;constructor
 ·exactλh=>⟨λx hx=>h x (by simp[hx]),λx hx=>h x (by simp[hx])⟩
 ·intro h x hx;rcases XM.1 hx with h1 | h1
  ·exact h.1 x h1
  ·exact h.2 x h1
theorem Limbs.get {l:List Nat}(h:Limbs l){j x:Nat}(hx:l[j]? =some x):x<4294967296:=h x (Xm hx)
theorem Limbs.take {l:List Nat}(h:Limbs l)(n:Nat):Limbs (l.take n):=λx hx=>h x (aN hx)
theorem Su (l m:List Nat):val (l++m)=val l+4294967296^l.length*val m:=by
 induction l with
 | nil=>simp[val]
 | cons x l ih=>simp only[YF,val,ih,Q6,lT];grind
theorem Ge (l:List Nat)(x:Nat):val (l++ [x])=val l+4294967296^l.length*x:=by
 rw[Su];simp[val]
theorem Sv {l:List Nat}(h:Limbs l):val l<4294967296^l.length:=by
 induction l with
 | nil=>simp[val]
 | cons x l ih=>
  have h1:=(pR.1 h).1;have h2:=ih (pR.1 h).2;simp only[val,Q6,lT];omega
theorem Sw {l:List Nat}{i x:Nat}(h:l[i]? =some x):val (l.take (i+1))=val (l.take i)+4294967296^i*x:=by
 have hi:i<l.length:=(ZY.1 h).1;rw[K9,h,DW,Ge,K8,jQ (Nat.le_of_lt hi)]
theorem pS (n:Nat):val (JY n)=n:=by
 induction n using Nat.strongRecOn with
 | _ n ih=>
  by_cases h:n=0
  ·subst h;rfl
  ·rw[wm (by omega),val,ih _ (by omega)];omega
theorem AQ (n:Nat):Limbs (JY n):=by
 induction n using Nat.strongRecOn with
 | _ n ih=>
  by_cases h:n=0
  ·subst h;exact AP
  ·rw[wm (by omega),pR];exact⟨aP _ (by omega),ih _ (by omega)⟩
theorem hQO (n:Nat):(JY n).getLast? ≠some 0:=by
 induction n using Nat.strongRecOn with
 | _ n ih=>
  by_cases h:n=0
  ·subst h;simp[wl]
  ·rw[wm (by omega)];by_cases h1:n/4294967296=0
   ·rw[h1,wl];simp;omega
   ·have:=ih (n/4294967296) (by omega);cases hl:JY (n/4294967296)with
    | nil=>have:=pS (n/4294967296);rw[hl] at this;simp[val] at this;omega
    | cons y m=>rw[hl] at this;rw[List.getLast?_cons_cons];exact this
theorem hQP {l:List Nat}(h:Limbs l)(hz:l.getLast? ≠some 0):JY (val l)=l:=by
 induction l with
 | nil=>rfl
 | cons x l ih=>
  obtain⟨hx,hl⟩:=pR.1 h;have W0:l.getLast? ≠some 0:=by
   cases l with
   | nil=>simp
   | cons y m=>rwa [List.getLast?_cons_cons] at hz
  have ih':=ih hl W0;have W6:0<x+4294967296*val l:=by
   rcases Nat.eq_zero_or_pos x with h0 | h0
   ·subst h0;cases l with
    | nil=>simp at hz
    | cons y m=>
     rcases Nat.eq_zero_or_pos (val (y::m))with h1 | h1
     ·rw[h1,wl] at ih';cases ih'
     ·omega
   ·omega
  rw[val,wm W6];have e1:(x+4294967296*val l) % 4294967296=x:=by omega
  have e2:(x+4294967296*val l)/4294967296=val l:=by omega
  rw[e1,e2,ih']
theorem Gf (n k:Nat):(JY n).length<=k↔n<4294967296^k:=by
 constructor
 ·intro h;have:=Sv (AQ n);rw[pS] at this;exact VT this (aO (by omega) h)
 ·intro h;induction k generalizing n with
  | zero=>simp at h;subst h;simp[wl]
  | succ k ih=>
   by_cases h0:n=0
   ·subst h0;simp[wl]
   ·rw[wm (by omega),Q6];have:n/4294967296<4294967296^k:=by
     rw[lT] at h;exact Nat.div_lt_of_lt_mul (by omega)
    have:=ih _ this;omega
def Vd (l:List Nat):Prop:=l.length<=1024/\l.getLast? ≠some 0
instance (l:List Nat):Decidable (Vd l):=by unfold Vd;infer_instance
theorem tg {n:Nat}(h:n<4294967296^1024):Vd (JY n):=⟨(Gf n 1024).2 h,hQO n⟩
def dS (n:Nat):List Nat:=if(JY n).length<=1024 then JY n else []
def pT (n:Nat):Int:=if(JY n).length<=1024 then 0 else 2
theorem hQQ {l:List Nat}{n:Nat}(h:∀x∈l.drop n,x=0):val (l.take n)=val l:=by
 have h1:val l=val (l.take n++l.drop n):=by rw[lQ]
 rw[h1,Su];have:∀m:List Nat,(∀x∈m,x=0)->val m=0:=by
  intro m;induction m with
  | nil=>intro _;rfl
  | cons x m ih=>intro h;rw[val,h x (by simp),ih (λy hy=>h y (by simp[hy]))]
 rw[this _ h];simp
theorem hQS {l:List Nat}(hl:Limbs l){n:Nat}(h:∀x∈l.drop n,x=0)(hn:n=0∨∃x,l[n-1]? =some x/\x≠0):l.take n=JY (val l):=by
 rw[<-hQQ h,hQP (hl.take n)];rcases hn with rfl | ⟨x,hx,h0⟩
 ·simp
 ·have Xc:n-1<l.length:=(ZY.1 hx).1;rcases Nat.eq_zero_or_pos n with rfl | hp
  ·simp
  ·rw[rL,K8,jQ (by omega),DO,Qf (by omega),hx];simpa using h0
theorem hQT {l:List Nat}(h:Limbs l)(i:Nat):val (l.take i)<4294967296^i:=
 VT (Sv (h.take i)) (aO (by omega) (by rw[K8];omega))
theorem mQv (l:List Nat)(i:Nat):val (l.drop i)=l[i]?.getD 0+4294967296*val (l.drop (i+1)):=by
 rcases Nat.lt_or_ge i l.length with h | h
 ·rw[W9 h,val];simp[h]
 ·rw[rJ h,rJ (by omega)];simp[val,h]
theorem Sy (l:List Nat)(i:Nat):val (l.take (i+1))=val (l.take i)+4294967296^i*l[i]?.getD 0:=by
 rcases Nat.lt_or_ge i l.length with h | h
 ·rw[Sw (Xp h)];simp[h]
 ·rw[Jc h,Jc (by omega)];simp[h]
theorem hQU {l:List Nat}(h:Limbs l)(i:Nat):l[i]?.getD 0<4294967296:=by
 cases hi:l[i]? with
 | none=>simp
 | some x=>simpa using h.get hi
theorem hQV {p:List Nat}{i c:Nat}{a b:List Nat}(hp:p.length=i)(h:val p+c*4294967296^i=val (a.take i)+val (b.take i)){s:Nat}(hs:s=c+a[i]?.getD 0+b[i]?.getD 0):
  val (p++ [s % 4294967296])+s/4294967296*4294967296^(i+1)=val (a.take (i+1))+val (b.take (i+1)):=by
 rw[Ge,hp,Sy,Sy,lT];have hd:s % 4294967296+4294967296*(s/4294967296)=s:=Nat.mod_add_div s 4294967296;generalize 4294967296^i=P at*;generalize s % 4294967296=r at*;generalize s/4294967296=q at*
 grind
theorem Sz {p:List Nat}(hp:Limbs p)(s:Nat):Limbs (p++ [s % 4294967296]):=hQN.2 ⟨hp,pR.2 ⟨aP _ (by omega),AP⟩⟩
theorem hQW {α:Type}(p:List α)(x y:α)(r:List α):(p++x::r).set p.length y=p++y::r:=by
 induction p with
 | nil=>rfl
 | cons z p ih=>simp[ih]
theorem SC {α:Type}(p:List α)(x y:α)(r:List α){i:Nat}(hi:p.length=i):(p++x::r).set i y=(p++ [y])++r:=by
 subst hi;rw[hQW];simp
theorem hQX {α:Type}(p:List α)(x:α)(r:List α){i:Nat}(hi:p.length=i):(p++x::r)[i]? =some x:=by
 subst hi;simp
end Nt
namespace Nt
def cells (l:List Nat):List Value:=l.map λ(x:Nat)=>.int .u32 x
theorem AR {l:List Nat}{j:Nat}{u:Value}(h:(cells l)[j]? =some u):∃x,l[j]? =some x/\u= .int .u32 (x:Int):=by
 simp only[cells,aL,DR] at h;obtain⟨x,hx,rfl⟩:=h;exact⟨x,hx,rfl⟩
theorem hQY {l:List Nat}{j x:Nat}(h:l[j]? =some x):(cells l)[j]? =some (.int .u32 (x:Int)):=by
 simp[cells,h]
theorem hQZ (l m:List Nat):cells (l++m)=cells l++cells m:=by simp[cells]
theorem hQ1 (l:List Nat)(n:Nat):cells (l.take n)=(cells l).take n:=by simp[cells]
theorem SD (l:List Nat)(i x:Nat):cells (l.set i x)=(cells l).set i (.int .u32 (x:Int)):=by simp[cells,List.map_set]
theorem hQ2 (l:List Nat):∀u∈cells l,JG u=true:=by
 intro u hu;simp only[cells,X7] at hu;obtain⟨x,_,rfl⟩:=hu;rfl
abbrev SN (w:World)(A:Option Addr)(n c:Nat)(l:List Nat):Prop:=Sl w 1 A n c (cells l)
theorem SN.length {w:World}{A:Option Addr}{n c:Nat}{l:List Nat}(h:SN w A n c l):l.length=n:=by have:=h.len;simpa [cells] using this
theorem SN.bd {w:World}{A:Option Addr}{n c:Nat}{l:List Nat}(h:SN w A n c l):n<=c/\(c:Int)<=9223372036854775807:=by
 have h1:=h.le;have h2:=h.cap;unfold maxLen at h2;omega
theorem hQ3 (l:List Nat):decide (Vd l)=(decide (l.length<=1024)&&(decide (l.length=0)||(l.getLast? !=some 0))):=by
 unfold Vd;cases l with
 | nil=>simp
 | cons x l=>rw[oT];simp
theorem Gg (A:Option Addr)(n c:Nat)(l:List Nat)(w:World)(h:SN w A n c l):
  Fn Tryz.prog 139 [.slice A n c] w (λv w'=>v= .bool (decide (Vd l))/\w'=w):=by
 have hl:=h.length;have hb:=h.bd;refine QF (c:=cQr) Qa Tryz.func139 rfl rfl rfl ?_;rw[hQ3];refine Qz (λh1=>?_) (λh1=>?_)
 ·refine X3 (λh2=>?_) (λh2=>?_)
  ·refine And.intro ?_ rfl;have:l=[]:=Wg (by omega);subst this;simp
  ·refine Qi ((n-1:Nat):Int) (by omega) (by omega) ?_;refine KC h (by omega) (λad u hA hu Xq=>?_);obtain⟨x,hx,rfl⟩:=AR hu;refine load Xq ?_;refine And.intro ?_ rfl;have oC:l.getLast? =some x:=by rw[rL];rw[hl];exact hx
   congr 1;rw[oC,Zy (by omega:l.length<=1024),Zq (by omega:¬l.length=0)];show((x:Int) !=0)=_;rw[oT];simp
 ·refine And.intro ?_ rfl;rw[Zq (by omega:¬l.length<=1024)]<;>rfl
theorem hQ5 {l:List Nat}{k:Nat}(hk:0<k)(h:∀x∈l.drop k,x=0)(h0:l[k-1]? =some 0):∀x∈l.drop (k-1),x=0:=by
 have Xc:k-1<l.length:=(ZY.1 h0).1;rw[W9 Xc];intro x hx;rcases Q1.1 hx with rfl | hx
 ·simpa [Xp Xc] using h0
 ·rw[show k-1+1=k by omega] at hx;exact h x hx
theorem hQ6 (A:Option Addr)(n c:Nat)(l:List Nat)(w:World)(h:SN w A n c l)(hL:Limbs l):
  Fn Tryz.prog 195 [.slice A n c] w (λv w'=>∃A' c',v= .tuple #[.slice A' (dS (val l)).length c',.int .i64 (pT (val l))]/\SN w A' (dS (val l)).length c' (dS (val l))/\(A'=A∨A'=none)/\w'=w):=by
 have hl:=h.length;have hb:=h.bd;refine QF (c:=cQ0) Qa Tryz.func195 rfl rfl rfl ?_;refine loop Qa [4] (λk:Nat=>[.int .i64 k]) (λk w'=>w'=w/\k<=n/\∀x∈l.drop k,x=0) (λk _=>k) n rfl ⟨rfl,QB n,by rw[<-hl];simp⟩ ?_;intro k w' hI;obtain⟨rfl,Xj,hz⟩:=hI;have done:(k=0∨∃x,l[k-1]? =some x/\x≠0)->∃A' c',(if k<=1024 then Value.tuple #[.slice A k c,.int .i64 0] else .tuple #[.slice none 0 0,.int .i64 2])= .tuple #[.slice A' (dS (val l)).length c',.int .i64 (pT (val l))]/\SN w' A' (dS (val l)).length c' (dS (val l))/\(A'=A∨A'=none)/\w'=w':=by
  intro oC;have hs:=hQS hL hz oC;have QY:(JY (val l)).length=k:=by rw[<-hs,K8];omega
  unfold dS pT;rw[QY];split
  ·refine⟨A,c,by rw[QY],?_,.inl rfl,rfl⟩;rw[QY];have:=h.take Xj
   rwa [YT,<-hQ1,hs] at this
  ·exact⟨none,0,rfl,Sl.nil w' 1,.inr rfl,rfl⟩
 refine Qz (λh1=>?_) (λh1=>?_)
 ·refine Qi ((k-1:Nat):Int) (by omega) (by omega) ?_;refine KC h (by omega) (λad u hA hu Xq=>?_);obtain⟨x,hx,rfl⟩:=AR hu;refine load Xq ?_;refine X3 (λh2=>?_) (λh2=>?_)
  ·refine Qi ((k-1:Nat):Int) (by omega) (by omega) ?_;refine⟨k-1,rfl,⟨rfl,by omega,?_⟩,by show k-1<k;omega⟩;have:x=0:=by omega
   subst this;exact hQ5 (by omega) hz hx
  ·have hd:=done (.inr ⟨x,hx,by omega⟩);refine Qz (λh3=>?_) (λh3=>?_)
   ·rw[if_neg (by omega)] at hd;exact hd
   ·refine iX Qa rfl rfl rfl rfl rfl rfl (by omega) ?_;rw[Qf (by omega)] at hd;exact hd
 ·have hd:=done (.inl (by omega));refine Qz (λh3=>?_) (λh3=>?_)
  ·omega
  ·refine iX Qa rfl rfl rfl rfl rfl rfl (by omega) ?_;rw[Qf (by omega)] at hd;exact hd
theorem SE (A:Option Addr)(n c:Nat)(l:List Nat)(w:World)(h:SN w A n c l)(hL:Limbs l):
  Fn Tryz.prog 195 [.slice A n c] w (λv w'=>∃A' c',v= .tuple #[.slice A' (dS (val l)).length c',.int .i64 (pT (val l))]/\SN w A' (dS (val l)).length c' (dS (val l))/\w'=w):=
 (hQ6 A n c l w h hL).mono λ_ _ ⟨A',c',h1,h2,_,h4⟩=>⟨A',c',h1,h2,h4⟩
end Nt
namespace Nt
theorem Gh {n:Nat}(h:(JY n).length<=1024):dS n=JY n:=Qf h
theorem hQ7 {n:Nat}(h:(JY n).length<=1024):pT n=0:=Qf h
theorem iQa (N:Nat)(h:N<18446744073709551616):val [N % 4294967296,N/4294967296 % 4294967296]=N:=by
 simp[val];omega
theorem of_fn (N:Nat)(w:World)(hN:N<18446744073709551616):
  Fn Tryz.prog 135 [.int .u64 N] w (λv w'=>∃A c,v= .slice A (JY N).length c/\SN w' A (JY N).length c (JY N)/\Ext w w'):=by
 refine QF (c:=cQn) Qa Tryz.func135 rfl rfl rfl ?_;refine zu ?_;refine Es 32 4294967296 (by decide) rfl rfl ?_;refine zu ?_;refine rX Qa rfl rfl rfl rfl rfl rfl rfl rfl rfl rfl ?_;intro w1 hE XJ hB;have hs:SN w1 (some ⟨w.heap.size,0,none⟩) 2 2 [N % 4294967296,N/4294967296 % 4294967296]:=Sl.own' hB rfl (by simp[maxLen]);have hL:Limbs [N % 4294967296,N/4294967296 % 4294967296]:=pR.2 ⟨aP _ (by omega),pR.2 ⟨aP _ (by omega),AP⟩⟩;refine call (SE _ _ _ _ _ hs hL) ?_;rintro v w' ⟨A',c',rfl,uC,rfl⟩;rw[iQa N hN] at uC ⊢;have hr:dS N=JY N:=Gh (by have:=(Gf N 2).2 (by omega);omega);rw[hr] at uC ⊢;exact⟨A',c',rfl,uC,hE⟩
end Nt
namespace Nt
def Gi (a b:List Nat)(n:Nat):List Nat:=if Vd a/\Vd b then dS n else []
def Gj (a b:List Nat)(n:Nat):Int:=if Vd a/\Vd b then pT n else 1
theorem SG {a b:List Nat}{n:Nat}(h:¬(Vd a/\Vd b)):Gi a b n=[]:=if_neg h
theorem SH {a b:List Nat}{n:Nat}(h:¬(Vd a/\Vd b)):Gj a b n=1:=if_neg h
theorem Gk {a b:List Nat}{n:Nat}(ha:Vd a)(hb:Vd b):Gi a b n=dS n:=Qf ⟨ha,hb⟩
theorem SI {a b:List Nat}{n:Nat}(ha:Vd a)(hb:Vd b):Gj a b n=pT n:=Qf ⟨ha,hb⟩
def SJ (w:World)(l:List Nat)(e:Int)(v:Value)(w':World):Prop:=
 ∃A c,v= .tuple #[.slice A l.length c,.int .i64 e]/\SN w' A l.length c l/\Ext w w'
theorem SK (w w':World)(e:Int)(h:Ext w w'):SJ w [] e (.tuple #[.slice none 0 0,.int .i64 e]) w':=⟨none,0,rfl,Sl.nil _ 1,h⟩
theorem add_fn (A B:Option Addr)(n c m d:Nat)(a b:List Nat)(w:World)(ha:SN w A n c a)(hb:SN w B m d b)(Mo:Limbs a)(jM:Limbs b):
  Fn Tryz.prog 138 [.slice A n c,.slice B m d] w (SJ w (Gi a b (val a+val b)) (Gj a b (val a+val b))):=by
 refine QF (c:={cQq with cuts:=[3,12]}) Qa Tryz.func138 rfl rfl rfl ?_;refine call (Gg _ _ _ _ _ ha) ?_;rintro v w' ⟨rfl,rfl⟩;refine l6 (Qz (λjN=>?_) (λjN=>?_))
 case refine_2=>rw[SG (λh=>jN h.1),SH (λh=>jN h.1)];exact SK _ _ _ (Ext.refl _)
 refine call (Gg _ _ _ _ _ hb) ?_;rintro v w' ⟨rfl,rfl⟩;refine l6 (Qz (λgz=>?_) (λgz=>?_))
 case refine_2=>rw[SG (λh=>gz h.2),SH (λh=>gz h.2)];exact SK _ _ _ (Ext.refl _)
 rw[Gk jN gz,SI jN gz];refine Nz Qa [0,1] (λs:(Option Addr×Nat×Nat×List Nat)×(Option Addr×Nat×Nat×List Nat)=>[.slice s.1.1 s.1.2.1 s.1.2.2.1,.slice s.2.1 s.2.2.1 s.2.2.2.1])
  (λs w2=>w2=w'/\SN w' s.1.1 s.1.2.1 s.1.2.2.1 s.1.2.2.2/\SN w' s.2.1 s.2.2.1 s.2.2.2.1 s.2.2.2.2/\Limbs s.1.2.2.2/\Limbs s.2.2.2.2/\s.2.2.1<=s.1.2.1/\s.1.2.1<=1024/\val a+val b=val s.1.2.2.2+val s.2.2.2.2) ?_ ?_
 ·have hla:=ha.length;have uy:=hb.length;have h1:=jN.1;have h2:=gz.1;refine Qz (λh=>?_) (λh=>?_)
  ·exact⟨((B,m,d,b),(A,n,c,a)),rfl,rfl,hb,ha,jM,Mo,by show n<=m;omega,by show m<=1024;omega,yP _ _⟩
  ·exact⟨((A,n,c,a),(B,m,d,b)),rfl,rfl,ha,hb,Mo,jM,by show m<=n;omega,by show n<=1024;omega,rfl⟩
 rintro⟨⟨A,n,c,x⟩,⟨B,m,d,y⟩⟩ w2 ⟨rfl,hx,hy,oL,Mp,Dc,hn,hval⟩
 dsimp only at hx hy oL Mp Dc hn hval ⊢
 rw[hval];clear hval jN gz ha hb Mo jM;have hlx:=hx.length;have hly:=hy.length;refine Qi ((n+1:Nat):Int) (by omega) (by omega) ?_;refine zv Qa rfl rfl rfl rfl rfl rfl rfl rfl (by show 4*_<=_;omega) (by unfold maxLen;omega) ?_;intro w3 Qj mQ0 Qu;refine bQL Qa rfl rfl rfl rfl rfl rfl rfl Qu (hx.ext Qj) (by omega) (by simp) (hQ2 x) ?_;intro w4 kQZ mQ1 Q7;have Qs:Ext w2 w4:=Qj.own kQZ (QB _);have Ht:Blk w4 w2.heap.size 219 (cells (x++ [0])):=by
  have e:cells x++(List.replicate (n+1) (Value.int .u32 0)).drop n=cells (x++ [0]):=by
   rw[hQZ,List.drop_replicate,show n+1-n=1 by omega]<;>rfl
  rw[<-e];exact Q7
 refine loop Qa [33,7] (λs:Nat×Nat=>[.int .i64 s.1,.int .u64 s.2]) (λs w5=>Ext w2 w5/\s.1<=n/\s.2<2/\∃p,p.length=s.1/\Limbs p/\Blk w5 w2.heap.size 219 (cells (p++(x.drop s.1++ [0])))/\val p+s.2*4294967296^s.1=val (x.take s.1)+val (y.take s.1))
  (λs _=>n-s.1) (0,0) rfl ⟨Qs,Xr _,by decide,[],rfl,AP,by simpa using Ht,by simp[val]⟩ ?_
 rintro⟨i,k⟩ w5 ⟨Qw,hi,hk,p,hp,hLp,QG,hv⟩
 dsimp only at hi hk hp QG hv ⊢
 refine Qz (λh2=>?_) (λh2=>?_)
 ·have WB:x[i]? =some x[i]:=Xp (by omega);have hcx:x.drop i=x[i]::x.drop (i+1):=W9 (by omega);have gr:=oL.get WB;rw[hcx,YF] at QG;refine index (by omega) ?_;refine Qo QG (hQY (hQX p _ _ hp)) ?_;refine zt (by omega) ?_;refine NE ((k+x[i]:Nat):Int) (by omega) (by omega) ?_;refine Nz Qa [7] (λs:Nat=>[.int .u64 s]) (λs w6=>w6=w5/\s=k+x[i]?.getD 0+y[i]?.getD 0) ?_ ?_
  ·refine Qz (λh3=>?_) (λh3=>?_)
   ·refine KC (hy.ext Qw) (by omega) (λad u hA hu Xq=>?_);obtain⟨z,hz,rfl⟩:=AR hu;have rv:=Mp.get hz;refine load Xq ?_;refine zt (by omega) ?_;refine NE ((k+x[i]+z:Nat):Int) (by omega) (by omega) ?_;exact⟨k+x[i]+z,rfl,rfl,by rw[hz,WB];rfl⟩
   ·exact⟨k+x[i],rfl,rfl,by rw[WB,oX (by omega)];rfl⟩
  rintro s w6 ⟨rfl,hs⟩;have hyl:=hQU Mp i;have hsb:s<2*4294967296:=by rw[WB,fG] at hs;omega
  refine zu ?_;refine index (by omega) ?_;refine u9 QG (by simp[cells];omega) ?_;intro w7 IP Q2;refine Es 32 4294967296 (by decide) rfl rfl ?_;refine Qi ((i+1:Nat):Int) (by omega) (by omega) ?_;refine⟨(i+1,s/4294967296),rfl,⟨Qw.own IP (QB _),by show i+1<=n;omega,by show s/4294967296<2;omega,p++ [s % 4294967296],by simp[hp],Sz hLp s,?_,hQV hp hv hs⟩,by show n-(i+1)<n-i;omega⟩;rw[<-SD,SC _ _ _ _ hp] at Q2;exact Q2
 ·have:i=n:=by omega
  subst this;rw[rJ (by omega),bF] at QG;rw[Jc (by omega),Jc (by omega)] at hv;refine zu ?_;refine index (by omega) ?_;refine u9 QG (by simp[cells];omega) ?_;intro w7 IP Q2;rw[<-SD,SC _ _ _ _ hp,KW] at Q2;have hs:SN w7 (some ⟨w2.heap.size,0,none⟩) (i+1) (i+1) (p++ [k % 4294967296]):=Sl.own' Q2 (by simp[cells,hp]) (by unfold maxLen;omega);refine call (SE _ _ _ _ _ hs (Sz hLp k)) ?_;rintro v w8 ⟨A',c',rfl,uC,rfl⟩;have e:val (p++ [k % 4294967296])=val x+val y:=by
   rw[Ge,hp,jR (by omega),uM];exact hv
  rw[e] at uC ⊢;exact⟨A',c',rfl,uC,Qw.own IP (QB _)⟩
end Nt
namespace Nt
def kM (l:List Nat):Bool:=decide (Vd l)&&decide (l.length<=2)
def th (l:List Nat):Nat:=if kM l=true then val l else 0
theorem SM {l:List Nat}(h:¬(Vd l/\l.length<=2)):th l=0/\kM l=false:=by
 have hb:kM l=false:=by unfold kM;rw[fI];simpa using h
 exact⟨by unfold th;rw[hb];rfl,hb⟩
theorem SO {l:List Nat}(h1:Vd l)(h2:l.length<=2):th l=val l/\kM l=true:=by
 have hb:kM l=true:=by unfold kM;simp[h1,h2]
 exact⟨by unfold th;rw[hb];rfl,hb⟩
theorem SP {x n d:Nat}{y:Int}{K:Int->Prop}(hy:0<=y)(hn:min y.toNat 64=n)(hd:2^n=d)(hx:x*d<=18446744073709551615)(k:K ((x*d:Nat):Int)):fK (0<=y) (IntKind.u64.wrap ((x:Int)*2^(min y.toNat IntKind.u64.bits))) K:=by
 refine normIf hy ?_ k;rw[show min y.toNat IntKind.u64.bits=n from hn];have e:(x:Int)*2^n=((x*d:Nat):Int):=by rw[<-hd];norm_cast
 rw[e];exact IntWalk.u64_in _ (by omega)
theorem iQb {a x:Nat}(ha:a<4294967296):a ||| (x*4294967296)=a+4294967296*x:=by
 have:=Nat.shiftLeft_add_eq_or_of_lt (b:=a) (i:=32) (by omega) x;rw[Nat.shiftLeft_eq,show(2:Nat)^32=4294967296 from rfl] at this;rw[Nat.or_comm];omega
theorem iQc (A:Option Addr)(n c:Nat)(l:List Nat)(w:World)(h:SN w A n c l)(hL:Limbs l):
  Fn Tryz.prog 88 [.slice A n c] w (λv w'=>v= .tuple #[.int .u64 (th l),.bool (kM l)]/\w'=w):=by
 have hl:=h.length;refine QF (c:=c88) Qa Tryz.func88 rfl rfl rfl ?_;refine call (Gg _ _ _ _ _ h) ?_;rintro v w' ⟨rfl,rfl⟩;refine l6 (Qz (λhv=>?_) (λhv=>?_))
 ·refine Qz (λh2=>?_) (λh2=>?_)
  ·obtain⟨e1,e2⟩:=SM (l:=l) (λk=>by omega);rw[e1,e2];exact And.intro rfl rfl
  ·obtain⟨e1,e2⟩:=SO hv (by omega);rw[e1,e2];refine loop Qa [16,4] (λs:Nat=>[.int .i64 s,.int .u64 (val (l.take s):Nat)]) (λs w2=>w2=w'/\s<=n) (λs _=>n-s) 0 rfl ⟨rfl,Xr _⟩ ?_;rintro k w2 ⟨rfl,hk⟩
   dsimp only
   refine Qz (λh3=>?_) (λh3=>?_)
   ·refine KC h (by omega) (λad u hA hu Xq=>?_);obtain⟨x,hx,rfl⟩:=AR hu;have gr:=hL.get hx;refine load Xq ?_;refine zt (by omega) ?_;have aQS:=Sw hx;have Xc:=hQT hL k;rcases(by omega:k=0∨k=1)with rfl | rfl
    ·refine Qi 0 (by omega) (by omega) ?_;refine SP (n:=0) (d:=1) (by decide) (by decide) (by decide) (by omega) ?_;rw[YT];have e0:val (l.take 0)=0:=by simp[val]
     rw[e0];refine NF (s:=x) (Nat.zero_or x) (by omega) (by omega) ?_;refine Qi ((1:Nat):Int) (by omega) (by omega) ?_;have bZ:val (l.take 1)=x:=by have h9:=aQS;rw[e0] at h9;simpa using h9
     refine⟨1,?_,⟨rfl,by omega⟩,by show n-1<n-0;omega⟩
     dsimp only
     rw[bZ]<;>rfl
    ·refine Qi 32 (by omega) (by omega) ?_;refine SP (n:=32) (d:=4294967296) (by decide) (by decide) (by decide) (by omega) ?_;refine NF (iQb (by omega)) (by omega) (by omega) ?_;refine Qi ((2:Nat):Int) (by omega) (by omega) ?_;have kS:val (l.take 2)=val (l.take 1)+4294967296*x:=by have h9:=aQS;simpa using h9
     refine⟨2,?_,⟨rfl,by omega⟩,by show n-2<n-1;omega⟩
     dsimp only
     rw[kS]<;>rfl
   ·rw[Jc (by omega)];exact And.intro rfl rfl
 ·obtain⟨e1,e2⟩:=SM (l:=l) (λk=>hv k.1);rw[e1,e2];exact And.intro rfl rfl
theorem u8_of {a:Int}(h:(Lit.int .u8 a).wf=true):∃N:Nat,a=(N:Int)/\N<256:=by
 simp[Lit.wf,IntKind.min,IntKind.max,IntKind.signed,IntKind.bits] at h;exact⟨a.toNat,by omega,by omega⟩
end Nt
def NumIn (w:World)(b:Nat)(v:Value):Prop:=∃A m c N,v= .slice A m c/\Nt.SN w A m c (Nt.JY N)/\N<=b
theorem NumIn.ext {w w':World}{b:Nat}{v:Value}(h:NumIn w b v)(k:Ext w w'):NumIn w' b v:=by
 obtain⟨A,m,c,N,h1,h2,h3⟩:=h;exact⟨A,m,c,N,h1,h2.ext k,h3⟩
theorem NumIn.mod {w w':World}{b g t:Nat}{v:Value}{cs:List Value}(h:NumIn w b v)(hB:Blk w g t cs)(XY:∀u∈cs,∃A m c,u= .slice A m c)(hm:Mod (·=g) w w'):NumIn w' b v:=by
 obtain⟨A,m,c,N,h1,h2,h3⟩:=h;refine⟨A,m,c,N,h1,h2.modS hm (λh0 i hi e=>?_),h3⟩;subst e;obtain⟨ad,rfl,hc⟩:=h2.at_ h0;obtain⟨ad',ea',hb⟩:=hi;cases ea';have QY:=h2.length;obtain⟨x,hx⟩:∃x,(Nt.JY N)[0]? =some x:=⟨_,Xp (by omega)⟩
 have Xq:=hc 0 _ (show(Nt.cells (Nt.JY N))[0]? =some (.int .u32 x) by unfold Nt.cells;rw[aL,hx];rfl);unfold World.cell? at Xq;rw[pw,hb,show w.heap[i]? =_ from hB] at Xq;simp only at Xq;split at Xq
 ·cases Xq
 ·rw[MY] at Xq;obtain⟨_,_,_,hs⟩:=XY _ (Xm Xq);cases hs
def dT (n:Nat)(nd:List Br)(x:Nat):Nat:=min n (Ql nd x).toNat
theorem iQd (x:DV)(n nb ab m:Nat)(w:World)(hN:Blk w nb 3 [.int .i64 n])(hA:Blk w ab 32 x.cells)(hx:SB w x.A x.n x.c x.nd)(hm:m<x.n+2)(h0:0<=Ql x.nd m):
  Fn Tryz.prog 136 [.int .i64 m,.pointer (some ⟨nb,0,none⟩),.pointer (some ⟨ab,0,none⟩)] w (λu w'=>u= .int .i64 (dT n x.nd m)/\Ext w w'):=by
 refine QF (c:={cQo with cuts:=[]}) Qa Tryz.func136 rfl rfl rfl ?_;have hd:=Ext.drew w;refine XK Qa (Ext w) 6 [(true,0),(true,1),(true,2),(false,3),(true,4),(true,5)] (by kernel_rfl) hd ?_;refine QK (v:=.int .i64 n) (λw' Qb=>by rw[(hN.ext Qb).cell0];rfl) ?_;refine Xs (vs:=x.cells) rfl (λw' Qb j u hj=>by rw[(hA.ext Qb).cell];exact hj) ?_;refine call (dJ x.A x.n x.c x.r m x.nd w.drew (hx.ext hd) (by omega)) ?_;rintro _ w2 ⟨rfl,Qg⟩;refine⟨hd.trans Qg,?_⟩;refine norm (m:=(dT n x.nd m:Int)) (by unfold dT;split<;>omega) ?_;exact⟨rfl,hd.trans Qg⟩
abbrev iQe (nb ab:Nat):Value:=.func (.func 136) #[] #[.pointer (some ⟨nb,0,none⟩),.pointer (some ⟨ab,0,none⟩)]
structure CtK (w:World) (x:DV) (n nb ab cb pb sb:Nat) (cs:List Value):Prop where
 hN:Blk w nb 3 [.int .i64 n]
 hA:Blk w ab 32 x.cells
 hx:SB w x.A x.n x.c x.nd
 hC:Blk w cb 213 [.slice (some ⟨sb,0,none⟩) (x.n+2) (x.n+2)]
 hP:Blk w pb 215 [iQe nb ab]
 hS:Blk w sb 143 cs
 len:cs.length=x.n+2
 sl:∀u∈cs,∃A m c,u= .slice A m c
 nums:∀(j:Nat) (v:Value),cs[j]? =some v->NumIn w (2^(n-dT n x.nd j)) v
theorem CtK.ext {w w':World}{x:DV}{n nb ab cb pb sb:Nat}{cs:List Value}(h:CtK w x n nb ab cb pb sb cs)(k:Ext w w'):CtK w' x n nb ab cb pb sb cs:=
 ⟨h.hN.ext k,h.hA.ext k,h.hx.ext k,h.hC.ext k,h.hP.ext k,h.hS.ext k,h.len,h.sl,λj v hv=>(h.nums j v hv).ext k⟩
theorem SQ {A B:Option Addr}{m c k d N M b:Nat}(hb:N+M<=b)(hb2:b<=4096)(w:World)(hA:Nt.SN w A m c (Nt.JY N))(hB:Nt.SN w B k d (Nt.JY M)):
  Fn Tryz.prog 138 [.slice A m c,.slice B k d] w (λu w'=>∃v,u= .tuple #[v,.int .i64 0]/\NumIn w' b v/\Ext w w'):=by
 have lim:∀x,x<=4096->x<4294967296^1024:=λx hx=>(show ∀k,0<k->x<4294967296^k from λk p=>VT (show x<4294967296^1 by omega) (aO (by decide) p)) 1024 (by decide)
 have vA:=Nt.tg (lim N (by omega));have vB:=Nt.tg (lim M (by omega));refine(Nt.add_fn A B m c k d _ _ w hA hB (Nt.AQ N) (Nt.AQ M)).mono ?_;rintro u w' ⟨A',c',hu,hS,hE⟩;rw[Nt.SI vA vB,Nt.Gk vA vB,Nt.pS,Nt.pS,Nt.hQ7 (Nt.tg (lim (N+M) (by omega))).1,Nt.Gh (Nt.tg (lim (N+M) (by omega))).1] at hu;rw[Nt.Gk vA vB,Nt.pS,Nt.pS,Nt.Gh (Nt.tg (lim (N+M) (by omega))).1] at hS;subst hu;exact⟨_,rfl,⟨A',_,c',N+M,rfl,hS,hb⟩,hE⟩
theorem Gl {w:World}{x:DV}{n nb ab cb pb sb:Nat}{cs:List Value}(hn:n<=12)(K:CtK w x n nb ab cb pb sb cs)(m f:Nat)(hm:m<x.n+2)(h0:0<=Ql x.nd m)(hf:f<=dT n x.nd m):
  Fn Tryz.prog 137 [.int .i64 m,.int .i64 f,.pointer (some ⟨cb,0,none⟩),.pointer (some ⟨pb,0,none⟩)] w (λu w'=>∃v,u= .tuple #[v,.int .i64 0]/\NumIn w' (2^(n-f)) v/\Ext w w'):=by
 have uu:dT n x.nd m<=n:=Nat.min_le_left _ _;have hmx:=K.hx.1.cap;have nQG:=K.hx.1.le;refine QF (c:={cQp with cuts:=[]}) Qa Tryz.func137 rfl rfl rfl ?_;refine QD K.hC rfl ?_;obtain⟨v,hv⟩:∃v,cs[m]? =some v:=⟨_,Xp (by rw[K.len];omega)⟩
 refine index (j:=m) (by omega) ?_;refine Qo K.hS hv ?_;refine QD K.hP rfl ?_;refine call (iQd x n nb ab m w K.hN K.hA K.hx hm h0) ?_;rintro _ w1 ⟨rfl,Qe⟩;generalize hp:dT n x.nd m=p at*;refine Qi ((p-f:Nat):Int) (by omega) (by omega) ?_;have hN0:=(K.nums m v hv).ext Qe;rw[hp] at hN0;refine loop Qa [8,20] (λs:Value×Nat=>[s.1,.int .i64 s.2]) (λs w'=>Ext w w'/\s.2<=p-f/\NumIn w' (2^(n-p)*2^s.2) s.1) (λs _=>p-f-s.2) (v,0) rfl ⟨Qe,Xr _,by simpa using hN0⟩ ?_;rintro⟨u,i⟩ w2 ⟨Qg,hi,A,mm,c,N,rfl,hS,yH⟩;simp only at hi yH;refine Qz (λc1=>?_) (λc1=>?_)
 ·have Mq:i<p-f:=by simp only at c1;omega
  have e2:2^(n-p)*2^(i+1)<=4096:=by
   rw[<-Nat.pow_add];exact Zc (aO (by decide) (show n-p+(i+1)<=12 by omega)) (by decide)
  refine call (SQ (b:=2^(n-p)*2^(i+1)) (by rw[lT,<-Nat.mul_assoc];omega) e2 w2 hS hS) ?_;rintro _ w3 ⟨u,rfl,Mr,Qj⟩;refine ac rfl ?_;refine Qi ((i+1:Nat):Int) (by show((i:Nat):Int)+1=_;omega) (by omega) ?_;exact⟨(u,i+1),rfl,⟨Qg.trans Qj,Mq,Mr⟩,by show p-f-(i+1)<p-f-i;omega⟩
 ·have Mq:i=p-f:=by simp only at c1;omega
  refine⟨_,rfl,⟨A,mm,c,N,rfl,hS,?_⟩,Qg⟩;rw[Mq,<-Nat.pow_add,show n-p+(p-f)=n-f by omega] at yH;exact yH
theorem iQf {c:Cx}{o:Oper}{S:Env}{w:World}{K:Env->World->Prop}{Q:Zg}{x y z:Operand}{ts:Array TypeId}{k1 k2 k3:IntKind}(ho:o.op= .call ⟨.builtin .max, #[x,y,z],ts⟩)(hx:S.ev x=some (.int k1 0))(hy:S.ev y=some (.int k2 0))(hz:S.ev z=some (.int k3 0))
  (kk:Xd c S o.dst (.v (.int k1 0)) (λS=>K S w)):X8 c o S w K Q:=by
 refine Jx (w':=w) (v:=.int k1 0) (λa hf=>?_) kk;have e1:=hf.ev hx;have e2:=hf.ev hy;have e3:=hf.ev hz;simp[execOp,ho,resolve,invoke,builtin,e1,e2,e3,Builtin.max_,Builtin.max2]
theorem iQg {n:Nat}{nd:List Br}{x:Nat}(h:(x:Int)<2)(hn:n<=12):dT n nd x=n:=by
 unfold dT Ql;rw[Qf h];show min n 64=n;omega
theorem iQh {n i:Nat}{nd:List Br}{b:Br}(hb:nd[i]? =some b)(h0:0<=b.v)(hv:b.v<n):dT n nd (i+2)=b.v.toNat:=by
 unfold dT Ql;rw[if_neg (by omega),show(((i+2:Nat):Int)-2).toNat=i by omega,hb];simp only[uK,fG];omega
theorem Gm {nd:List Br}{r:Int}(h:VD nd r){x:Int}:0<=Ql nd x:=by
 unfold Ql;split
 ·decide
 ·cases hb:nd[(x-2).toNat]? with
  | none=>simp
  | some b=>simpa using (h.1 _ b hb).1
theorem iQi (x:DV)(n:Nat)(hn:n<=12)(w:World)(hx:SB w x.A x.n x.c x.nd)(VE:Ka n x.nd x.r=true):
  Fn Tryz.prog 87 [Xk x.A x.n x.c x.r,.int .i64 n] w (λu w'=>∃v,u= .tuple #[v,.int .i64 0]/\NumIn w' (2^n) v/\Ext w w'):=by
 obtain⟨uD,aQT⟩:=td.1 VE;have uE:=(gK.1 uD).2;have hl:=hx.2;have bz:=hx.1.cap;have Zz:=hx.1.le;have mQ2:=(gK.1 uD).1;simp only[maxLen] at bz;refine QF (c:={c87 with cuts:=[]}) Qa Tryz.func87 rfl rfl rfl ?_;refine new (λw1 Qe Q4 Qh=>?_);refine new (λw2 Qg Zb Qx=>?_);have Q5:=Qe.trans Qg;have CU:=Qh.ext Qg;refine Qt CU rfl ?_;refine call (zM x.A x.n x.c x.nd x.r w2 (hx.ext Q5)) ?_;rintro _ w3 ⟨rfl,Qj⟩;have QX:=Q5.trans Qj;refine ac uD ?_;have hA3:=CU.ext Qj;have gk:=Qx.ext Qj;refine QD gk rfl ?_;refine XD (by omega) ?_;refine QD gk rfl ?_;refine XD (by omega) ?_;refine Qo hA3 rfl ?_;refine loop Qa [35] (λi:Nat=>[.int .i64 i]) (λi w'=>Ext w3 w'/\i<=x.n) (λi _=>x.n-i) 0 rfl ⟨Ext.refl _,Xr _⟩ ?_;rintro i w4 ⟨Qs,hi⟩;refine Qz (λc1=>?_) (λc1=>?_)
 ·have QZ:i<x.n:=by omega
  refine Zv ah ((hx.ext QX).ext Qs) rfl QZ (λp b hb hc=>?_);refine Kn (vs:=b.cells) rfl hc ?_;refine new (λw5 Qw KP QG=>?_);refine Qv QG rfl (sc rfl) (λw6 Y4 _ Q9=>?_);have XF:Ext w4 w6:=X9 Qw QG Y4;have Vj:=aQT b (Xm hb);refine QD Q9 rfl ?_;refine QD ((gk.ext Qs).ext XF) rfl ?_;refine XD (by omega) ?_;refine Qi ((i+1:Nat):Int) (by show((i:Nat):Int)+1=_;omega) (by omega) ?_;exact⟨i+1,rfl,⟨Qs.trans XF,QZ⟩,by show x.n-(i+1)<x.n-i;omega⟩
 have XG:=QX.trans Qs;have hA4:=hA3.ext Qs;have IQ:=gk.ext Qs;refine Qo hA4 rfl ?_;refine Qi ((x.n+2:Nat):Int) (by omega) (by omega) ?_;refine zv Qa rfl rfl rfl rfl rfl rfl rfl rfl (by show 24*(x.n+2)<=_;omega) (by unfold maxLen;omega) (λw5 Qw KP QG=>?_);refine new (λw6 QO dX Q9=>?_);refine KD Q9 (by decide) (λw7 Xf Q2=>?_);have JI:Ext w5 w7:=Xf.ext QO (λi hi=>by omega);have Wu:=Xf.size;have kQ0:=QG.ext JI;have mQ3:=JI.size;refine XK Qa (λw'=>Mod (·=w4.heap.size) w7 w') 4 [(true,0),(false,1),(true,2),(false,3)] (by kernel_rfl) (Mod.of_ext _ (Ext.drew w7)) ?_;have ns:¬w5.heap.size=w4.heap.size:=by omega
 refine QK (v:=.slice (some ⟨w4.heap.size,0,none⟩) (x.n+2) (x.n+2)) (λw' Qb=>by rw[(Q2.mod Qb ns).cell0];rfl) ?_;refine call (Nt.of_fn 1 w7.drew (by decide)) ?_;rintro _ w8 ⟨A8,c8,rfl,la,Xl⟩;have JO:Ext w7 w8:=(Ext.drew w7).trans Xl;refine⟨Mod.of_ext _ JO,?_⟩;refine index (j:=1) (by omega) ?_;have Xw:=kQ0.ext JO;refine XP Xw (by simp) (λw9 Zj JD=>?_);have K6:Mod (·=w4.heap.size) w7 w9:=(Mod.of_ext _ JO).trans Zj (λi hi=>.inl hi);refine⟨K6,?_⟩;have tU:Ext w4 w9:=K6.ext (Qw.trans JI) (λi hi=>by omega);have eT:=K6.size;refine new (λQy XT wJ JM=>?_);refine KD JM (by decide) (λQH Z2 Z8=>?_);have gh:Ext w9 QH:=Z2.ext XT (λi hi=>by omega);have cY:=tU.trans gh;have tL:=Z2.size;have Y7:=XG.trans cY;have kQ1:∀u∈(List.replicate (x.n+2) (Value.slice none 0 0)).set 1 (.slice A8 (Nt.JY 1).length c8),∃A m c,u= .slice A m c:=λu hu=>by
  rcases M7 hu with hu | rfl
  ·exact⟨none,0,0,yU hu⟩
  ·exact⟨_,_,_,rfl⟩
 have K0:CtK QH x n w1.heap.size w.heap.size w5.heap.size w9.heap.size w4.heap.size ((List.replicate (x.n+2) (Value.slice none 0 0)).set 1 (.slice A8 (Nt.JY 1).length c8)):=by
  refine⟨IQ.ext cY,hA4.ext cY,hx.ext Y7,(Q2.mod K6 ns).ext gh,Z8,JD.ext gh,by simp,kQ1,λj v hv=>?_⟩;by_cases hj:1=j
  ·subst hj;rw[iQ (by simp)] at hv;cases hv;rw[iQg (by decide) hn,yQ];have h1:NumIn w8 (2^0) (.slice A8 (Nt.JY 1).length c8):=⟨A8,_,c8,1,rfl,la,QB _⟩
   exact(h1.mod Xw (λu hu=>⟨none,0,0,yU hu⟩) Zj).ext gh
  ·rw[fH hj] at hv;have:=yU (Xm hv);subst this;exact⟨none,0,0,0,rfl,Sl.nil _ _,Xr _⟩
 generalize (List.replicate (x.n+2) (Value.slice none 0 0)).set 1 (.slice A8 (Nt.JY 1).length c8)=cs0 at*;refine Qo K0.hA rfl ?_;refine loop Qa [57] (λi:Nat=>[.int .i64 i]) (λi w'=>Mod (·=w4.heap.size) QH w'/\i<=x.n/\∃cs,CtK w' x n w1.heap.size w.heap.size w5.heap.size w9.heap.size w4.heap.size cs) (λi _=>x.n-i) 0 rfl ⟨Mod.refl _ _,Xr _,cs0,K0⟩ ?_;rintro i Xa ⟨Vs,hi,cs,K⟩;have tN:Ext w Xa:=Vs.ext Y7 (λj hj=>by have:=XG.size;omega);refine Qz (λc1=>?_) (λc1=>?_)
 ·have QZ:i<x.n:=by omega
  refine Zv ah K.hx rfl QZ (λp b hb hc=>?_);obtain⟨k1,k2,k3,k4,k5,k6,k7,k8,k9,k10⟩:=uE.1 i b hb;have Vj:=aQT b (Xm hb);obtain⟨bv,hbe⟩:=D8 k1;obtain⟨bl,aQU⟩:=D8 k3;obtain⟨bh,aQV⟩:=D8 k5;refine Kn (vs:=b.cells) rfl hc ?_;refine new (λX6 XI H9 K5=>?_);refine Qv K5 rfl (sc rfl) (λZk eQ _ J2=>?_);have qE:Ext Xa Zk:=X9 XI K5 eQ;have K14:=K.ext qE;refine Qo J2 rfl ?_;refine QD J2 rfl ?_;refine Qi ((bv+1:Nat):Int) (by show b.v+1=_;omega) (by omega) ?_;have JE:∀y:Int,b.v<Ql x.nd y->∀m:Nat,y=m->bv+1<=dT n x.nd m:=λy hy m hm=>by
   subst hm;unfold dT;omega
  show gG _ _ [.int .i64 b.l,_,_,_] _ _ _;rw[aQU];refine call (Gl hn K14 bl (bv+1) (by omega) (Gm uE) (JE b.l k9 bl aQU)) ?_;rintro _ Ky ⟨ul,rfl,hUl,Jm⟩;refine Qo (J2.ext Jm) rfl ?_;refine QD (J2.ext Jm) rfl ?_;refine Qi ((bv+1:Nat):Int) (by show b.v+1=_;omega) (by omega) ?_;show gG _ _ [.int .i64 b.h,_,_,_] _ _ _;rw[aQV];refine call (Gl hn (K14.ext Jm) bh (bv+1) (by omega) (Gm uE) (JE b.h k10 bh aQV)) ?_;rintro _ aD ⟨uh,rfl,⟨Ah,mh,ch,Nh,rfl,hSh,hNh⟩,Yf⟩;obtain⟨Al,ml,cl,Nl,rfl,oK,hNl⟩:=hUl.ext Yf;have hpw:2^(n-(bv+1))+2^(n-(bv+1))=2^(n-bv):=by
   rw[show n-bv=(n-(bv+1))+1 by omega,lT];omega
  refine call (SQ (b:=2^(n-bv)) (by omega) (Zc (aO (by decide) (show n-bv<=12 by omega)) (by decide)) aD oK hSh) ?_;rintro _ Vv ⟨_,rfl,⟨Au,mu,cu,Nu,rfl,hSu,Mr⟩,tK⟩;have hUs:NumIn Vv (2^(n-bv)) (.slice Au mu cu):=⟨Au,mu,cu,Nu,rfl,hSu,Mr⟩
  have nA:=(Jm.trans Yf).trans tK;have K17:=K14.ext nA;refine iQf rfl rfl rfl rfl ?_;refine ac rfl ?_;refine QD K17.hC rfl ?_;refine Qi ((i+2:Nat):Int) (by show((i:Nat):Int)+2=_;omega) (by omega) ?_;refine index (j:=i+2) (by omega) ?_;refine XP (j:=i+2) K17.hS (by rw[K17.len];omega) (λVi xf qq=>?_);refine Qi ((i+1:Nat):Int) (by show((i:Nat):Int)+1=_;omega) (by omega) ?_;have aQa:=qE.trans nA;refine⟨i+1,rfl,⟨(Vs.trans (Mod.of_ext (·=w4.heap.size) aQa) (λj hj=>.inl hj)).trans xf (λj hj=>.inl hj),QZ,cs.set (i+2) (.slice Au mu cu),?_⟩,by show x.n-(i+1)<x.n-i;omega⟩;have Yc:b.v=bv:=hbe;have Jb:dT n x.nd (i+2)=bv:=by rw[iQh hb k1 Vj];omega
  have K18:Ext Xa Vv:=aQa;have rB:Mod (·=w4.heap.size) Vv Vi:=xf;have n1:¬w1.heap.size=w4.heap.size:=by have:=Qj.size;have:=Qs.size;omega
  have n0:¬w.heap.size=w4.heap.size:=by have:=Qj.size;have:=Qs.size;omega
  have n9:¬w9.heap.size=w4.heap.size:=by have:=tU.size;omega
  have kQ2:=K17.hx;refine⟨K17.hN.mod rB n1,K17.hA.mod rB n0,kQ2.modo rB (λad ea h0=>by have:=SB.lt hx ad ea h0;have:=XG.size;omega),K17.hC.mod rB ns,K17.hP.mod rB n9,qq,by rw[fB];exact K17.len,λu hu=>?_,λj v hv=>?_⟩
  ·rcases M7 hu with hu | rfl
   ·exact K17.sl u hu
   ·exact⟨_,_,_,rfl⟩
  ·by_cases hj:i+2=j
   ·subst hj;rw[iQ (by rw[K17.len];omega)] at hv;cases hv;rw[Jb];exact hUs.mod K17.hS K17.sl rB
   ·rw[fH hj] at hv;exact(K17.nums j v hv).mod K17.hS K17.sl rB
 ·obtain⟨rt,hrt⟩:=D8 uE.2.1;have Y3:=uE.2.2.1;refine Qo K.hA rfl ?_;show gG _ _ [.int .i64 x.r,_,_,_] _ _ _;rw[hrt];refine call (Gl hn K rt 0 (by omega) (Gm uE) (Xr _)) ?_;rintro _ X6 ⟨u,rfl,hU,XI⟩;exact⟨u,rfl,hU,tN.trans XI⟩
def Z6:Nat->List (List Nat)->List (Nat×List Nat)
 | _,[]=>[]
 | a,s::ls=>(a,s)::Z6 (a+s.length+1) ls
theorem SR:∀(a:Nat)(l m:List (List Nat)),Z6 a (l++m)=Z6 a l++Z6 (a+(Qp l).length) m
 | a,[],m=>by simp[Z6,Qp]
 | a,s::l,m=>by
  rw[YF,Z6,Z6,SR (a+s.length+1) l m,YF,V3];congr 3;simp only[Qq,Q6];omega
theorem SS {l:List Nat}(h:Wt l)(s:List Nat)(hs:10∉s):QR (l++(s++ [10]))=QR l++ [s]:=by
 have h1:=V4 h;have h2:l++(s++ [10])=Qp (QR l++ [s]):=by rw[RR,h1]
 rw[h2,Fl (λt ht=>by
  rcases XM.1 ht with ht | ht
  ·exact kC l t ht
  ·rw[QN.1 ht];exact hs)]
def gc (nm:List (List Nat)):List (List Nat)->Nat->BF->List (BF×BF)->List (Nat×List Nat×BF)
 | [],_,_,_=>[]
 | s::ls,a,k,op=>match Zn s with
  | .txt=>(a,s,k)::gc nm ls (a+s.length+1) k op
  | .ifd r=>match VH nm r with
   | .ok d=>gc nm ls (a+s.length+1) (ZW k d) ((k,KG k d)::op)
   | .error _=>[]
  | .elif r=>match op with
   | []=>[]
   | x::Xx=>match VH nm r with
    | .ok d=>gc nm ls (a+s.length+1) (ZW x.2 d) ((x.1,KG x.2 d)::Xx)
    | .error _=>[]
  | .els=>match op with
   | []=>[]
   | x::Xx=>gc nm ls (a+s.length+1) x.2 (x::Xx)
  | .en=>match op with
   | []=>[]
   | x::Xx=>gc nm ls (a+s.length+1) x.1 Xx
  | .inc _=>[]
abbrev AT (tx:List Nat)(s:Sg):List (Nat×List Nat×BF):=(Z6 s.at_ (QR (Vf tx s))).map (λq=>(q.1,q.2,s.o))
def kN (g:Gs):List (Nat×List Nat×BF):=g.sg.flatMap (AT g.tx)
theorem ST {fs:List (List Nat×List Nat)}{tx:List Nat}{s:Sg}(h:SgOk fs tx s):Wt (Vf tx s)/\(Vf tx s).length=s.t-s.f:=by
 have h1:=h.ft;have h2:=h.tl;have hl:(Vf tx s).length=s.t-s.f:=by unfold Vf;simp;omega
 refine⟨.inr ?_,hl⟩;rw[rL,hl];unfold Vf;rw[D5,oZ (by omega),show s.f+(s.t-s.f-1)=s.t-1 by omega];exact h.nl
theorem Gn {tx s:List Nat}:∀{l:List Sg},(∀x∈l,x.t<=tx.length)->l.flatMap (AT (tx++s))=l.flatMap (AT tx)
 | [],_=>rfl
 | x::l,h=>by rw[Yl,Yl,Gn (λy hy=>h y (by simp[hy])),AT,RU (h x (by simp))]
theorem iQj {fs:List (List Nat×List Nat)}{n p:Nat}{k:BF}{g g':Gs}{s:List Nat}(h:GInv fs g)(hc:gT n p k g)(hs:10∉s)(ha:KZ (s++ [10]) n p k g=some g'):kN g'=kN g++ [(p,s,k)]:=by
 unfold KZ at ha;split at ha
 ·cases ha
 cases ha;cases hf:g.fr with
 | true=>
  rw[Qf rfl,gO];unfold kN;simp only;rw[WF,Gn (λx hx=>(h.ok x hx).tl)];congr 1;simp only[Yl,rM,KW];have e:Vf (g.tx++(s++ [10])) ⟨g.tx.length,g.tx.length+(s++ [10]).length,n,p,k⟩=[]++(s++ [10]):=by
   unfold Vf;simp only;rw[Jc (by simp),o0]<;>rfl
  show(Z6 p (QR (Vf _ _))).map _=_;rw[e,SS (.inl rfl) s hs]<;>rfl
 | false=>
  rw[if_neg (by decide)];obtain⟨l,y,e,e1,e2,e3⟩:=hc hf;have Jj:=h.ch;have X0:=h.ok;rw[e] at Jj X0;rw[ChG.snoc] at Jj;have hy:=X0 y (by simp);rw[e,gO];unfold kN;simp only;rw[e,WF,WF,Gn (λx hx=>(X0 x (by simp[hx])).tl),J7];congr 1;have h1:=hy.ft;have h2:=Jj.2;have hp:=ST hy;have e4:Vf (g.tx++(s++ [10])) {y with t:=g.tx.length+(s++ [10]).length}=Vf g.tx y++(s++ [10]):=by
   unfold Vf;simp only;rw[Jc (by simp),M4 (by omega),h2,lR]
  simp only[Yl,rM,KW];show(Z6 y.at_ (QR (Vf _ {y with t:=g.tx.length+(s++ [10]).length}))).map _=_;rw[e4,SS hp.1 s hs,SR,V4 hp.1,hp.2,e2,ep];show _=(Z6 y.at_ (QR (Vf g.tx y))).map (λq=>(q.1,q.2,y.o))++_;rw[e3]<;>rfl
def ChA:List Sg->Nat->Prop
 | [],_=>True
 | s::l,p=>(∀x∈l,s.at_+(s.t-s.f)<=x.at_)/\s.at_+(s.t-s.f)<=p/\ChA l p
theorem ChA.mono {p q:Nat}(h:p<=q):∀{l:List Sg},ChA l p->ChA l q
 | [],_=>trivial
 | _::_,⟨h1,h2,h3⟩=>⟨h1,by omega,h3.mono h⟩
theorem ChA.snoc {x:Sg}{p q:Nat}(hx:p<=x.at_)(hq:x.at_+(x.t-x.f)<=q):∀{l:List Sg},ChA l p->ChA (l++ [x]) q
 | [],_=>⟨(λ_ h=>by cases h),hq,trivial⟩
 | s::l,⟨h1,h2,h3⟩=>⟨λy hy=>by
   rcases XM.1 hy with hy | hy
   ·exact h1 y hy
   ·rw[QN.1 hy];omega,by omega,ChA.snoc hx hq h3⟩
theorem nQ6 {x y:Sg}{p q:Nat}(hx:y.at_=x.at_)(hq:y.at_+(y.t-y.f)<=q)(iF:p<=q):∀{l:List Sg},ChA (l++ [x]) p->ChA (l++ [y]) q
 | [],_=>⟨(λ_ h=>by cases h),hq,trivial⟩
 | s::l,⟨h1,h2,h3⟩=>⟨λz hz=>by
   rcases XM.1 hz with hz | hz
   ·exact h1 z (by simp[hz])
   ·rw[QN.1 hz,hx];exact h1 x (by simp),by omega,nQ6 hx hq iF h3⟩
theorem iQk {fs:List (List Nat×List Nat)}{n p:Nat}{k:BF}{g g':Gs}{s:List Nat}(h:GInv fs g)(hc:gT n p k g)(hp:ChA g.sg p)(ha:KZ (s++ [10]) n p k g=some g'):ChA g'.sg (p+s.length+1):=by
 unfold KZ at ha;split at ha
 ·cases ha
 cases ha;cases hf:g.fr with
 | true=>
  rw[Qf rfl,gO];exact hp.snoc (QB p) (by simp;omega)
 | false=>
  rw[if_neg (by decide)];obtain⟨l,y,e,e1,e2,e3⟩:=hc hf;have Jj:=h.ch;rw[e] at Jj hp;rw[ChG.snoc] at Jj;have hy:=(h.ok y (by rw[e];simp)).ft;rw[e,gO];exact nQ6 (p:=p) (q:=p+s.length+1) (x:=y) (y:={y with t:=g.tx.length+(s++ [10]).length}) rfl (by simp only[Qq,o6];omega) (by omega) hp
theorem SU {nm:List (List Nat)}{fs:List (List Nat×List Nat)}{n d0:Nat}{inc:mE}{x:List Nat×List Nat}(hx:fs[n]? =some x)
  (hi:∀r ln d k g g',inc r ln d k g≠ .ok g'):∀(ls:List (List Nat)) (ln at_:Nat) (k:BF) (op:List Se) (g g':Gs),kB ls->
  x.2.drop at_=Qp ls->at_<=x.2.length->GInv fs g->gT n at_ k g->ChA g.sg at_->ZX nm n d0 inc ls ln at_ k op g= .ok g'->kN g'=kN g++gc nm ls at_ k (jf op)/\ChA g'.sg (at_+(Qp ls).length)
 | [],ln,at_,k,op,g,g',_,_,_,hg,_,Jj,hr=>by
  cases op with
  | nil=>simp only[ZX,Except.ok.injEq] at hr;subst hr;exact⟨by rw[gc,KW];rfl,Jj⟩
  | cons _ _=>simp[ZX] at hr
 | s::ls,ln,at_,k,op,g,g',hL0,hd,bA,hg,hc,Jj,hr=>by
  have XE:x.2.drop at_=(s++ [10])++Qp ls:=by rw[hd,V3];simp
  have hL:(s++ [10]).length=s.length+1:=by simp
  have QY:x.2.length-at_=s.length+1+(Qp ls).length:=by
   have:=QC List.length XE;simp only[Wj,Qq,Q6,Jn] at this;omega
  have hu:at_+(Qp (s::ls)).length=at_+s.length+1+(Qp ls).length:=by rw[V3];simp;omega
  have az:x.2.drop (at_+s.length+1)=Qp ls:=by
   rw[show at_+s.length+1=at_+(s++ [10]).length by simp;omega,<-lP,XE,o0]
  have kQ3:10∉s:=hL0 s (by simp);have ih:=λk op g g' h1 h2 h3=>SU (nm:=nm) (d0:=d0) hx hi ls (ln+1) (at_+s.length+1) k op g g' (λt ht=>hL0 t (by simp[ht])) az (by omega) h1 h2 h3
  have cf:∀k' (g:Gs),gT n (at_+s.length+1) k' {g with fr:=true}:=λk' g h=>by cases h
  have DD:ChA g.sg (at_+s.length+1):=Jj.mono (by omega);rw[ZX.eq_def] at hr;simp only at hr;rw[hu,gc.eq_def];simp only;cases XX:Zn s with
  | txt=>
   rw[XX] at hr;simp only at hr ⊢;cases ha:KZ (s++ [10]) n at_ k g with
   | none=>rw[ha] at hr;cases hr
   | some g1=>
    rw[ha] at hr;simp only at hr;obtain⟨i1,i2⟩:=FT hg hc hx (by rw[hL,<-jP,az];exact XE) (by rw[hL];omega) (by simp) ha;obtain⟨j1,j2⟩:=ih k op g1 g' i1 (by rw[hL,<-jP] at i2;exact i2) (iQk hg hc Jj ha) hr;exact⟨by rw[j1,iQj hg hc kQ3 ha,J7];rfl,j2⟩
  | ifd r=>
   rw[XX] at hr;simp only at hr ⊢;cases hs:VH nm r with
   | error e=>rw[hs] at hr;cases hr
   | ok d=>
    rw[hs] at hr;simp only at hr ⊢;split at hr
    ·cases hr
    ·exact ih _ _ _ _ (hg.fr true) (cf _ _) DD hr
  | inc r=>
   rw[XX] at hr;simp only at hr;cases hs:inc r (ln+1) (d0+op.length) k g with
   | error e=>rw[hs] at hr;cases hr
   | ok g1=>exact Xn hs (hi _ _ _ _ _ _)
  | elif r=>
   rw[XX] at hr;cases op with
   | nil=>cases hr
   | cons y op=>
    simp only at hr ⊢;split at hr
    ·cases hr
    ·cases hs:VH nm r with
     | error e=>rw[hs] at hr;cases hr
     | ok d=>rw[hs] at hr;exact ih _ _ _ _ (hg.fr true) (cf _ _) DD hr
  | els=>
   rw[XX] at hr;cases op with
   | nil=>cases hr
   | cons y op=>
    simp only at hr ⊢;split at hr
    ·cases hr
    ·exact ih y.re ({y with ot:=true}::op) {g with fr:=true} g' (hg.fr true) (cf _ _) DD hr
  | en=>
   rw[XX] at hr;cases op with
   | nil=>cases hr
   | cons y op=>exact ih y.ou op {g with fr:=true} g' (hg.fr true) (cf _ _) DD hr
def fF (t:List Nat):List (List Nat×List Nat):=[([102],t)]
theorem Gp {rd s:List Nat}{e:Int}(t:List Nat)(h:0∈rd):∀m,cI (Jd ((fF t).map (·.1))) rd s≠ .ok m:=λm hm=>by
 obtain⟨h1,tn,yv⟩:=FM hm;have:=kA yv;have h0:m=0:=by simpa [fF] using this
 rw[h0] at h1;exact h1 h
theorem SV {nm:List (List Nat)}{t:List Nat}{g:Gs}(hr:V5 nm (fF t) [102]= .ok g):Wt t/\kN g=gc nm (QR t) 0 (λ_=>true) []/\ChA g.sg t.length/\GInv (fF t) g:=by
 have lQ8:=(gQE hr).1;unfold V5 at hr;split at hr
 ·cases hr
 cases KL:YJ (fF t)with
 | some p=>rw[KL] at hr;cases hr
 | none=>
  rw[KL] at hr;simp only at hr;have hall:∀x∈fF t,mA x.1=true/\aX x.2=true/\x.2.length<=1048576:=by
   unfold YJ at KL;rw[if_neg (by simp[fF])] at KL;exact Ay _ [] 0 KL
  have ht:Wt t:=mH (hall _ (QN.2 rfl)).2.1;cases Kr:Jd ((fF t).map (·.1)) [102] with
  | none=>rw[Kr] at hr;cases hr
  | some n=>
   rw[Kr] at hr;simp only at hr;have hn:n<(fF t).length:=by have:=kA Kr;simpa using this
   have h0:n=0:=by simpa [fF] using hn
   subst h0;have hx:(fF t)[0]? =some ([102],t):=rfl;rw[WN,hx] at hr;simp only[uK,fG] at hr;obtain⟨a,b⟩:=SU hx (λr ln d' k' g1 g2 hi=>by
    split at hi
    ·cases hi
    ·rename_i m he;exact Gp t (by simp) (e:=0) _ he) (QR t) 0 0 (λ_=>true) [] ⟨[],[],true⟩ g (kC t) (by rw[rK,V4 ht]) (Xr _) (⟨rfl,λs hs=>by cases hs⟩:GInv (fF t) ⟨[],[],true⟩) (λh=>by cases h) trivial hr
   rw[V4 ht,Wh] at b;exact⟨ht,a,b,lQ8⟩
structure Ed where
 fr:Int
 to_:Int
 tx:List Nat
 o:BF
structure EdV where
 fr:Int
 to_:Int
 tx:List Nat
 x:DV
def EdV.ed (e:EdV):Ed:=⟨e.fr,e.to_,e.tx,oD e.x⟩
def ZG (f:List Nat)(a b:Nat):List Nat:=(f.drop a).take (b-a)
def VL (f:List Nat)(c:Nat)(st:List Nat×Nat)(e:Ed):List Nat×Nat:=
 if e.o (bits c)=true then(st.1++ZG f st.2 e.fr.toNat++e.tx,e.to_.toNat)else st
def WR (f:List Nat)(stop:Nat)(a:Nat)(es:List Ed)(c:Nat):List Nat:=
 (es.foldl (VL f c) ([],a)).1++ZG f (es.foldl (VL f c) ([],a)).2 stop
def pU (a:Nat)(s:List Nat)(e:Ed):Bool:=decide ((a:Int)<=e.fr/\e.to_<=a+s.length)
def WT (S:List Nat)(o:BF):Bool:=S.any (λc=>o (bits c))
def bR (es:List Ed)(S:List Nat)(a:Nat)(s:List Nat):List Ed:=es.filter (λe=>pU a s e&&WT S e.o)
def jj (S:List Nat)(e b:Ed):Bool:= !(decide (b.fr<e.to_)&&WT S (λv=>e.o v&&b.o v))
def bS (S:List Nat):List Ed->Bool
 | []=>true
 | e::es=>es.all (jj S e)&&bS S es
def WU (nm:List (List Nat))(f:List Nat)(es:List Ed)(S:List Nat)(a:Nat)(s:List Nat):Option (List (List Nat)):=
 if bR es S a s=[] then some [s]
 else if bS S (bR es S a s)=false then none
 else if S.all (λc=>V6 (WR f (a+s.length+1) a (bR es S a s) c))=false then none
 else some (Zi nm (WR f (a+s.length+1) a (bR es S a s)) nm.length 0 S)
def jk (g:Gs)(a:Nat):BF:=((g.sg.find? (λs=>decide (a<s.at_+(s.t-s.f)))).map (·.o)).getD (λ_=>false)
def ay (nm:List (List Nat))(d:BF)(g:Gs)(f:List Nat)(es:List Ed):List (List Nat)->Nat->Option (List (List Nat))
 | [],_=>some []
 | s::ls,a=>match (if Zn s= .txt then WU nm f es (QL nm.length (ZW d (jk g a))) a s else some [s])with
  | none=>none
  | some l=>match ay nm d g f es ls (a+s.length+1)with
   | none=>none
   | some m=>some (l++m)
def jl (e:Ed)(q:Nat×List Nat):Bool:=decide ((q.1:Int)<=e.fr/\e.to_<=q.1+q.2.length/\e.fr<=e.to_/\Zn q.2= .txt)
def Gq (n:Nat)(f:List Nat)(e:Ed):Bool:=decide (QL n e.o≠ [])&&(Z6 0 (QR f)).any (jl e)
def jm (n:Nat)(f:List Nat):Int->List Ed->Bool
 | _,[]=>true
 | p,e::es=>Gq n f e&&decide (p<=e.fr)&&jm n f e.fr es
def wn (
      nm:List (List Nat)) (o:BF) (f:List Nat) (es:List Ed):Except Int (List Nat):=
 match V5 nm (fF f) [102] with
  | .error p=>.error p.e
  | .ok g=>if jm nm.length f 0 es=false then .error 291
   else match ay nm o g f es (QR f) 0 with
    | none=>.error 291
    | some l=>if 1048576<(Qp l).length then .error 2
     else match V5 nm (fF (Qp l)) [102] with
      | .error p=>if p.e=2 then .error 2 else .ok (Qp l)
      | .ok _=>.ok (Qp l)
noncomputable def gV (nm:List (List Nat))(x:DV)(f:List Nat)(es:List EdV):Except Int (List Nat):=
 if ZF nm=false∨Ka nm.length x.nd x.r=false then .error 1
 else if es.all (λe=>Ka nm.length e.x.nd e.x.r)=true then wn nm (oD x) f (es.map EdV.ed)
 else match V5 nm (fF f) [102] with
  | .error p=>.error p.e
  | .ok _=>.error 291
theorem iQl {g:Gs}{a:Nat}{s:List Nat}{k:BF}(h:(a,s,k)∈kN g):∃x∈g.sg,x.o=k/\(a,s)∈Z6 x.at_ (QR (Vf g.tx x)):=by
 obtain⟨x,hx,hm⟩:=WE.1 h;obtain⟨q,hq,e⟩:=X7.1 hm;simp only[Prod.mk.injEq] at e;obtain⟨e1,e2,e3⟩:=e;refine⟨x,hx,e3,?_⟩;rw[<-e1,<-e2];exact hq
theorem mM:∀{ls:List (List Nat)}{p a:Nat}{s:List Nat},(a,s)∈Z6 p ls->p<=a/\a+s.length+1<=p+(Qp ls).length
 | [],p,a,s,h=>by cases h
 | t::ls,p,a,s,h=>by
  rw[V3];simp only[Qq,Q6];rcases Q1.1 h with h | h
  ·cases h;omega
  ·have:=mM h;omega
theorem ChA.later {x y:Sg}{p:Nat}:∀{l:List Sg}{i j:Nat},ChA l p->l[i]? =some x->l[j]? =some y->i<j->x.at_+(x.t-x.f)<=y.at_
 | [],i,j,_,h,_,_=>by simp at h
 | z::l,i,j+1,⟨h1,h2,h3⟩,hi,hj,Xc=>by
  have oq:l[j]? =some y:=by simpa using hj
  cases i with
  | zero=>
   have:z=x:=by simpa using hi
   subst this;exact h1 y (Xm oq)
  | succ i=>exact ChA.later h3 (by simpa using hi) oq (by omega)
 | z::l,i,0,_,_,_,Xc=>by omega
structure SegAt (g:Gs) (a:Nat) (k:BF) (i:Nat) (x:Sg):Prop where
 get:g.sg[i]? =some x
 lo:x.at_<=a
 hi:a<x.at_+(x.t-x.f)
 o:x.o=k
 first:∀j y,g.sg[j]? =some y->j<i->y.at_+(y.t-y.f)<=a
 last:∀j y,g.sg[j]? =some y->i<j->a<y.at_
theorem iQm {fs:List (List Nat×List Nat)}{g:Gs}{p a:Nat}{s:List Nat}{k:BF}(hi:GInv fs g)(hc:ChA g.sg p)(h:(a,s,k)∈kN g):∃i x,SegAt g a k i x/\a+s.length+1<=x.at_+(x.t-x.f):=by
 obtain⟨x,hx,hk,hm⟩:=iQl h;obtain⟨i,rj⟩:=uQ.1 hx;have hp:=ST (hi.ok x hx);have ho:=mM hm;rw[V4 hp.1,hp.2] at ho;refine⟨i,x,⟨rj,ho.1,by omega,hk,λj y hj Xc=>?_,λj y hj Xc=>?_⟩,ho.2⟩
 ·have:=hc.later hj rj Xc;omega
 ·have:=hc.later rj hj Xc;omega
theorem SW {α:Type}{p:α->Bool}:∀{l:List α}{i:Nat}{x:α},l[i]? =some x->p x=true->(∀j y,l[j]? =some y->j<i->p y=false)->l.find? p=some x
 | [],i,x,h,_,_=>by simp at h
 | y::l,0,x,h,hp,_=>by
  have:y=x:=by simpa using h
  subst this;rw[List.find?_cons_of_pos hp]
 | y::l,i+1,x,h,hp,hj=>by
  rw[MZ (by rw[hj 0 y rfl (by omega)];decide)];exact SW (by simpa using h) hp (λj z hz Xc=>hj (j+1) z (by simpa using hz) (by omega))
theorem SegAt.cnd {g:Gs}{a:Nat}{k:BF}{i:Nat}{x:Sg}(h:SegAt g a k i x):jk g a=k:=by
 unfold jk;rw[SW (p:=λs:Sg=>decide (a<s.at_+(s.t-s.f))) h.get (Zy h.hi) (λj y hj Xc=>Zq (by have:=h.first j y hj Xc;omega))];exact h.o
theorem SY:∀{ls:List (List Nat)}{p a:Nat}{s:List Nat},(a,s)∈Z6 p ls->∃i,ls[i]? =some s/\a=p+(Qp (ls.take i)).length
 | [],p,a,s,h=>by cases h
 | t::ls,p,a,s,h=>by
  rcases Q1.1 h with h | h
  ·cases h;exact⟨0,rfl,by simp[Qp]⟩
  ·obtain⟨i,h1,h2⟩:=SY h;refine⟨i+1,by simpa using h1,?_⟩;rw[uI,V3];simp only[Qq,Q6];omega
theorem SZ:∀{ls:List (List Nat)}{p a b:Nat}{s t:List Nat}{x:Nat},(a,s)∈Z6 p ls->(b,t)∈Z6 p ls->a<=x->x<=a+s.length->b<=x->x<=b+t.length->a=b/\s=t
 | [],p,a,b,s,t,x,h,_,_,_,_,_=>by cases h
 | u::ls,p,a,b,s,t,x,h,h',h1,h2,h3,h4=>by
  rcases Q1.1 h with h | h
  ·cases h;rcases Q1.1 h' with h' | h'
   ·cases h';exact⟨rfl,rfl⟩
   ·have:=mM h';omega
  ·rcases Q1.1 h' with h' | h'
   ·cases h';have:=mM h;omega
   ·exact SZ h h' h1 h2 h3 h4
theorem Gr:∀{ls:List (List Nat)}{p x:Nat},p<=x->x<p+(Qp ls).length->∃a s,(a,s)∈Z6 p ls/\a<=x/\x<=a+s.length
 | [],p,x,h1,h2=>by simp[Qp] at h2;omega
 | t::ls,p,x,h1,h2=>by
  rw[V3] at h2;simp only[Qq,Q6] at h2;by_cases h:x<=p+t.length
  ·exact⟨p,t,M6,h1,h⟩
  ·obtain⟨a,s,hm,h3,h4⟩:=Gr (ls:=ls) (p:=p+t.length+1) (x:=x) (by omega) (by omega);exact⟨a,s,rN _ hm,h3,h4⟩
theorem S3 {ls:List (List Nat)}{a:Nat}{s:List Nat}{e:Ed}(hm:(a,s)∈Z6 0 ls)(h1:(a:Int)<=e.fr)(h2:e.fr<=a+s.length)(h3:e.fr<=e.to_):
  (Z6 0 ls).any (jl e)=decide (e.to_<=a+s.length/\Zn s= .txt):=by
 by_cases h:e.to_<=a+s.length/\Zn s= .txt
 ·rw[Zy h];exact uR.2 ⟨(a,s),hm,Zy ⟨h1,h.1,h3,h.2⟩⟩
 ·rw[Zq h];refine fI.2 (λha=>?_);obtain⟨⟨b,t⟩,hb,hp⟩:=uR.1 ha;have hp:=aQ hp;obtain⟨p1,p2,p3,p4⟩:=hp;simp only at p1 p2 p3 p4;obtain⟨x,hx⟩:=D8 (a:=e.fr) (by omega);obtain⟨q1,q2⟩:=SZ (x:=x) hm hb (by omega) (by omega) (by omega) (by omega);subst q1;subst q2;exact h ⟨p2,p4⟩
theorem AU {nm:List (List Nat)}{f g:Nat->List Nat}:∀(k v:Nat)(l:List Nat),l≠ []->(∀c∈l,f c=g c)->Zi nm f k v l=Zi nm g k v l
 | 0,v,l,hl,h=>by rw[Zi,Zi,h _ (AG hl)]
 | k+1,v,l,hl,h=>by
  rw[s6 hl,s6 hl];split
  ·exact AU k (v+1) l hl h
  ·rename_i h0;have n1:l.filter (λc=> !c.testBit v)≠ []:=λe=>h0 (.inl e)
   have n2:l.filter (λc=>c.testBit v)≠ []:=λe=>h0 (.inr e)
   rw[AU k (v+1) _ n1 (λc hc=>h c (VU.1 hc).1),AU k (v+1) _ n2 (λc hc=>h c (VU.1 hc).1)]
structure AV where
 o:BF
 d:List Nat
 a:Nat
def V9 (n:Nat)(f:List Nat)(e:Ed)(v:AV):List AV:=
 if QL n (ZW v.o e.o)=[] then(if QL n v.o=[] then [] else [v])
 else⟨ZW v.o e.o,v.d++ZG f v.a e.fr.toNat++e.tx,e.to_.toNat⟩::(if QL n (KG v.o (ZW v.o e.o))=[] then [] else [⟨KG v.o (ZW v.o e.o),v.d,v.a⟩])
structure VI (n:Nat) (f:List Nat) (S:List Nat) (a:Nat) (es:List Ed) (vs:List AV):Prop where
 cov:∀c∈S,∃v∈vs,v.o (bits c)=true
 ne:∀v∈vs,QL n v.o≠ []
 st:∀v∈vs,∀c∈QL n v.o,c∈S/\es.foldl (VL f c) ([],a)=(v.d,v.a)
theorem VI.start {n:Nat}{f:List Nat}{o:BF}{a:Nat}(h:QL n o≠ []):VI n f (QL n o) a [] [⟨o,[],a⟩]:=
 ⟨λc hc=>⟨_,QN.2 rfl,(Js.1 hc).2⟩,λv hv=>by rw[QN.1 hv];exact h,λv hv c hc=>by rw[QN.1 hv] at hc ⊢;exact⟨hc,rfl⟩⟩
theorem VI.step {n:Nat}{f:List Nat}{S:List Nat}{a:Nat}{es:List Ed}{vs:List AV}(h:VI n f S a es vs)(hS:∀c∈S,c<2^n)(e:Ed):VI n f S a (es++ [e]) (vs.flatMap (V9 n f e)):=by
 have lQ9:∀c,(es++ [e]).foldl (VL f c) ([],a)=VL f c (es.foldl (VL f c) ([],a)) e:=λc=>by rw[D9]<;>rfl
 refine⟨λc hc=>?_,λv hv=>?_,λv hv c hc=>?_⟩
 ·obtain⟨v,hv,oM⟩:=h.cov c hc;have L7:=hS c hc;have hm:c∈QL n v.o:=Js.2 ⟨L7,oM⟩;by_cases hb:QL n (ZW v.o e.o)=[]
  ·refine⟨v,WE.2 ⟨v,hv,?_⟩,oM⟩;unfold V9;rw[Qf hb,if_neg (λe0=>by rw[e0] at hm;cases hm)];exact QN.2 rfl
  ·cases uF:e.o (bits c)with
   | true=>
    refine⟨⟨ZW v.o e.o,v.d++ZG f v.a e.fr.toNat++e.tx,e.to_.toNat⟩,WE.2 ⟨v,hv,?_⟩,?_⟩
    ·unfold V9;rw[if_neg hb];exact M6
    ·show(v.o (bits c)&&e.o (bits c))=true;rw[oM,uF]<;>rfl
   | false=>
    have jH:(KG v.o (ZW v.o e.o)) (bits c)=true:=by
     show(v.o (bits c) && !(v.o (bits c)&&e.o (bits c)))=true;rw[oM,uF]<;>rfl
    refine⟨⟨KG v.o (ZW v.o e.o),v.d,v.a⟩,WE.2 ⟨v,hv,?_⟩,jH⟩;unfold V9;rw[if_neg hb,if_neg (λe0=>by
     have:c∈QL n (KG v.o (ZW v.o e.o)):=Js.2 ⟨L7,jH⟩;rw[e0] at this;cases this)]
    simp
 ·obtain⟨v0,eU,hv⟩:=WE.1 hv;unfold V9 at hv;split at hv
  ·split at hv
   ·cases hv
   ·rename_i h1;rw[QN.1 hv];exact h1
  ·rename_i h1;rcases Q1.1 hv with rfl | hv
   ·exact h1
   ·split at hv
    ·cases hv
    ·rename_i h2;rw[QN.1 hv];exact h2
 ·obtain⟨v0,eU,hv⟩:=WE.1 hv;rw[lQ9];unfold V9 at hv;split at hv
  ·rename_i h1;split at hv
   ·cases hv
   ·rw[QN.1 hv] at hc ⊢;obtain⟨q1,q2⟩:=h.st v0 eU c hc;refine⟨q1,?_⟩;rw[q2];unfold VL;rw[if_neg];intro uF;have:c∈QL n (ZW v0.o e.o):=Js.2 ⟨(Js.1 hc).1,by show(v0.o (bits c)&&e.o (bits c))=true;rw[show v0.o (bits c)=true from (Js.1 hc).2,uF];rfl⟩;rw[h1] at this;cases this
  ·rcases Q1.1 hv with rfl | hv
   ·obtain⟨c1,c2⟩:=Js.1 hc;have c2:(v0.o (bits c)&&e.o (bits c))=true:=c2;rw[Jl] at c2;obtain⟨q1,q2⟩:=h.st v0 eU c (Js.2 ⟨c1,c2.1⟩);refine⟨q1,?_⟩;rw[q2];unfold VL;rw[Qf c2.2]
   ·split at hv
    ·cases hv
    ·rw[QN.1 hv] at hc ⊢;obtain⟨c1,c2⟩:=Js.1 hc;have c2:(v0.o (bits c) && !(v0.o (bits c)&&e.o (bits c)))=true:=c2;have c3:v0.o (bits c)=true/\e.o (bits c)=false:=by
      cases h1:v0.o (bits c)<;>cases h2:e.o (bits c)<;>rw[h1,h2] at c2<;>simp_all
     obtain⟨q1,q2⟩:=h.st v0 eU c (Js.2 ⟨c1,c3.1⟩);refine⟨q1,?_⟩;rw[q2];unfold VL;rw[if_neg (by rw[c3.2];decide)]
theorem Gt (f:List Nat)(c:Nat):∀(es:List Ed)(st:List Nat×Nat),(es.foldl (VL f c) st).2=st.2∨∃e∈es,e.o (bits c)=true/\(es.foldl (VL f c) st).2=e.to_.toNat
 | [],st=>.inl rfl
 | e::es,st=>by
  rw[oU];rcases Gt f c es (VL f c st e)with h | ⟨b,hb,h1,h2⟩
  ·by_cases he:e.o (bits c)=true
   ·refine .inr ⟨e,by simp,he,?_⟩;rw[h];unfold VL;rw[Qf he]
   ·refine .inl ?_;rw[h];unfold VL;rw[if_neg he]
  ·exact .inr ⟨b,by simp[hb],h1,h2⟩
theorem S4 {S:List Nat}:∀{es:List Ed}{i j:Nat}{e b:Ed},bS S es=true->es[i]? =some e->es[j]? =some b->i<j->jj S e b=true
 | [],i,j,e,b,_,h,_,_=>by simp at h
 | x::es,i,j+1,e,b,ha,hi,hj,Xc=>by
  rw[bS,Jl,Ym] at ha;have oq:es[j]? =some b:=by simpa using hj
  cases i with
  | zero=>
   have:x=e:=by simpa using hi
   subst this;exact ha.1 b (Xm oq)
  | succ i=>exact S4 ha.2 (by simpa using hi) oq (by omega)
 | x::es,i,0,e,b,_,_,_,Xc=>by omega
theorem S5 {f:List Nat}{S:List Nat}{es:List Ed}(ha:bS S es=true){a i c:Nat}{e:Ed}(hi:es[i]? =some e)(hc:c∈S)(uF:e.o (bits c)=true)(h0:(a:Int)<=e.fr)(hp:∀b∈es,0<=b.to_):
  (((es.take i).foldl (VL f c) ([],a)).2:Int)<=e.fr:=by
 rcases Gt f c (es.take i) ([],a)with h | ⟨b,hb,h1,h2⟩
 ·rw[h];exact h0
 ·rw[h2];obtain⟨j,hj⟩:=uQ.1 hb;have KU:j<i:=by
   apply Classical.byContradiction;intro hh;rw[DO] at hj;rw[if_neg hh] at hj;cases hj
  rw[oZ KU] at hj;have:=S4 ha hj hi KU;unfold jj at this;have hm:WT S (λv=>b.o v&&e.o v)=true:=uR.2 ⟨c,hc,by show(b.o (bits c)&&e.o (bits c))=true;rw[h1,uF];rfl⟩;rw[hm,Bool.and_true,Bool.not_eq_true',decide_eq_false_iff_not] at this;have:=hp b (Xm hj);omega
def Y0 (ps:List Pr)(t:List Nat):Nat:=(ps.takeWhile (λp=>decide (p.t≠t))).length
def cP (ps:List Pr)(o:BF)(t:List Nat):List Pr:=match ps[Y0 ps t]? with
 | some p=>ps.set (Y0 ps t) ⟨λe=>p.o e||o e,p.t⟩
 | none=>ps++ [⟨o,t⟩]
theorem iQn (ps:List Pr)(t:List Nat):Y0 ps t<=ps.length:=(uJ _).length_le
theorem AW (t:List Nat):∀ps:List Pr,(∀p,ps[Y0 ps t]? =some p->p.t=t)/\∀j p,ps[j]? =some p->j<Y0 ps t->p.t≠t
 | []=>⟨λp h=>by simp at h,λj p h=>by simp at h⟩
 | q::ps=>by
  obtain⟨h1,h2⟩:=AW t ps;by_cases hq:q.t=t
  ·have e:Y0 (q::ps) t=0:=by unfold Y0;rw[List.takeWhile_cons_of_neg (by simpa using hq)]<;>rfl
   rw[e];exact⟨λp h=>by
              have:q=p:=by simpa using h
              rw[<-this];exact hq,λj p _ hj=>by omega⟩
  ·have e:Y0 (q::ps) t=Y0 ps t+1:=by unfold Y0;rw[List.takeWhile_cons_of_pos (by simpa using hq)]<;>rfl
   rw[e];refine⟨λp h=>h1 p (by simpa using h),λj p h hj=>?_⟩;cases j with
   | zero=>
        have:q=p:=by simpa using h
        rw[<-this];exact hq
   | succ j=>exact h2 j p (by simpa using h) (by omega)
structure QI (n:Nat) (S:List Nat) (ver:Nat->List Nat) (vs:List AV) (ps:List Pr):Prop where
 cov:∀v∈vs,∀c∈QL n v.o,∃p∈ps,p.o (bits c)=true
 tx:∀(i j:Nat) (p q:Pr),ps[i]? =some p->ps[j]? =some q->p.t=q.t->i=j
 val:∀p∈ps,∀c∈QL n p.o,c∈S/\p.t=ver c
theorem QI.nil {n:Nat}{S:List Nat}{ver:Nat->List Nat}:QI n S ver [] []:=⟨(λv hv=>by cases hv),(λi j p q h=>by simp at h),(λp hp=>by cases hp)⟩
theorem QI.ins {n:Nat}{S:List Nat}{ver:Nat->List Nat}{vs:List AV}{ps:List Pr}(h:QI n S ver vs ps){v:AV}{t:List Nat}(hv:∀c∈QL n v.o,c∈S/\ver c=t):QI n S ver (vs++ [v]) (cP ps v.o t):=by
 obtain⟨s1,s2⟩:=AW t ps;unfold cP;cases hg:ps[Y0 ps t]? with
 | none=>
  have Zz:=List.getElem?_eq_none_iff.1 hg;simp only;refine⟨λu hu c hc=>?_,λi j p q hi hj he=>?_,λp hp c hc=>?_⟩
  ·rcases XM.1 hu with hu | hu
   ·obtain⟨p,hp,Kt⟩:=h.cov u hu c hc;exact⟨p,by simp[hp],Kt⟩
   ·rw[QN.1 hu] at hc;exact⟨⟨v.o,t⟩,by simp,(Js.1 hc).2⟩
  ·have key:∀i (p:Pr),(ps++ [⟨v.o,t⟩])[i]? =some p->(ps[i]? =some p/\i<ps.length)∨(i=ps.length/\p.t=t):=λi p hi=>by
    by_cases Xc:i<ps.length
    ·rw[fD Xc] at hi;exact .inl ⟨hi,Xc⟩
    ·rw[WC (by omega)] at hi;have:=(ZY.1 hi).1;simp at this;have e:i=ps.length:=by omega
     subst e;simp at hi;exact .inr ⟨rfl,by rw[<-hi]⟩
   rcases key i p hi with⟨h1,l1⟩ | ⟨h1,t1⟩<;>rcases key j q hj with⟨h2,l2⟩ | ⟨h2,t2⟩
   ·exact h.tx i j p q h1 h2 he
   ·exact Xn (he.trans t2) (s2 i p h1 (by omega))
   ·exact Xn (he.symm.trans t1) (s2 j q h2 (by omega))
   ·omega
  ·rcases XM.1 hp with hp | hp
   ·exact h.val p hp c hc
   ·rw[QN.1 hp] at hc ⊢;obtain⟨a,b⟩:=hv c hc;exact⟨a,b.symm⟩
 | some p0=>
  have ht:=s1 p0 hg;have Xc:=(ZY.1 hg).1;simp only;generalize Y0 ps t=i0 at*;have key:∀i (p:Pr),(ps.set i0 ⟨λe=>p0.o e||v.o e,p0.t⟩)[i]? =some p->(i≠i0/\ps[i]? =some p)∨(i=i0/\p=⟨λe=>p0.o e||v.o e,p0.t⟩):=λi p hi=>by
   by_cases uG:i0=i
   ·subst uG;rw[iQ Xc] at hi;exact .inr ⟨rfl,(Option.some.inj hi).symm⟩
   ·rw[fH uG] at hi;exact .inl ⟨λe=>uG e.symm,hi⟩
  refine⟨λu hu c hc=>?_,λi j p q hi hj he=>?_,λp hp c hc=>?_⟩
  ·rcases XM.1 hu with hu | hu
   ·obtain⟨p,hp,Kt⟩:=h.cov u hu c hc;obtain⟨i,hi⟩:=uQ.1 hp;by_cases uG:i0=i
    ·subst uG;rw[hg] at hi;cases hi;exact⟨_,Xm (iQ Xc),by simp only;rw[Kt];rfl⟩
    ·exact⟨p,Xm (i:=i) (by rw[fH uG];exact hi),Kt⟩
   ·rw[QN.1 hu] at hc;refine⟨_,Xm (iQ Xc),?_⟩;simp only;rw[show v.o (bits c)=true from (Js.1 hc).2,Bool.or_true]
  ·rcases key i p hi with⟨n1,h1⟩ | ⟨h1,e1⟩<;>rcases key j q hj with⟨n2,h2⟩ | ⟨h2,e2⟩
   ·exact h.tx i j p q h1 h2 he
   ·rw[h2];exact h.tx i i0 p p0 h1 hg (by rw[he,e2])
   ·rw[h1];exact h.tx i0 j p0 q hg h2 (by rw[<-he,e1])
   ·omega
  ·obtain⟨i,hi⟩:=uQ.1 hp;rcases key i p hi with⟨_,h1⟩ | ⟨_,e1⟩
   ·exact h.val p (Xm h1) c hc
   ·subst e1;obtain⟨c1,c2⟩:=Js.1 hc;have c2:(p0.o (bits c)||v.o (bits c))=true:=c2;rw[Bool.or_eq_true] at c2;rcases c2 with c2 | c2
    ·exact h.val p0 (Xm hg) c (Js.2 ⟨c1,c2⟩)
    ·obtain⟨a,b⟩:=hv c (Js.2 ⟨c1,c2⟩);exact⟨a,by rw[b];exact ht⟩
theorem QI.pa {n:Nat}{f:List Nat}{S:List Nat}{a:Nat}{es:List Ed}{ver:Nat->List Nat}{vs:List AV}{ps:List Pr}(h:QI n S ver vs ps)(hv:VI n f S a es vs)(hS:∀c∈S,c<2^n):PaOk S ps/\∀c∈S,fP ps c=ver c:=by
 have hp:PaOk S ps:=by
  refine⟨λc hc=>?_,λc hc i j p q hi hj h1 h2=>?_⟩
  ·obtain⟨v,lL,oM⟩:=hv.cov c hc;exact h.cov v lL c (Js.2 ⟨hS c hc,oM⟩)
  ·refine h.tx i j p q hi hj ?_;rw[(h.val p (Xm hi) c (Js.2 ⟨hS c hc,h1⟩)).2,(h.val q (Xm hj) c (Js.2 ⟨hS c hc,h2⟩)).2]
 refine⟨hp,λc hc=>?_⟩;obtain⟨p,nU,Kt⟩:=hp.cov c hc;rw[hp.get hc nU Kt,(h.val p nU c (Js.2 ⟨hS c hc,Kt⟩)).2]
def Gu (n:Nat):List Nat->List Pr->Bool
 | R,[]=>decide (R=[])
 | R,p::ps=>(decide (QL n p.o≠ [])&&(QL n p.o).all (λc=>decide (c∈R))&&V6 p.t)&&Gu n (jh n R p.o) ps
def gW (nm:List (List Nat))(o:BF)(ps:List Pr):Except Int (List Nat):=
 if Gu nm.length (QL nm.length o) ps=false then .error 290
 else if ps=[] then .ok []
 else if 1048576<(Qp (Zi nm (fP ps) nm.length 0 (QL nm.length o))).length then .error 2
 else .ok (Qp (Zi nm (fP ps) nm.length 0 (QL nm.length o)))
theorem S8 {n:Nat}:∀(ps:List (DV×List Nat))(R:List Nat),(∀p∈ps,Ka n p.1.nd p.1.r=true)->aw n R ps=Gu n R (Zs ps)
 | [],R,_=>rfl
 | p::ps,R,h=>by
  have ih:=S8 ps (jh n R (oD p.1)) (λq hq=>h q (by simp[hq]));show(_&&aw n (jh n R (oD p.1)) ps)=_;rw[ih,h p (by simp),cw]<;>rfl
theorem S9 {nm:List (List Nat)}{x:DV}{ps:List (DV×List Nat)}(hn:ZF nm=true)(hx:Ka nm.length x.nd x.r=true)(h:∀p∈ps,Ka nm.length p.1.nd p.1.r=true):kJ nm x ps=gW nm (oD x) (Zs ps):=by
 unfold kJ gW;rw[if_neg (by rw[hn,hx];simp),S8 ps _ h];by_cases h0:ps=[]
 ·subst h0;rfl
 ·have h1:Zs ps≠ []:=λe=>h0 (by simpa [Zs] using e)
  rw[if_neg h0,if_neg h1]
def jn (k:Int):List PanicEntry:=[{v:=.iface 34 (.int .i64 k),recovered:=false}]
theorem YM (k:Int)(hk:k≠0)(w:World):FnP Tryz.prog 44 [.int .i64 k] w (λ_ _=>False) (λch w'=>ch=jn k/\w=w'):=by
 refine aR (c:={NR with cuts:=[]}) Qa Tryz.func44 rfl rfl rfl ?_;refine rV hk ?_;exact pD rfl rfl ⟨rfl,rfl⟩
theorem Ta (A:Option Addr)(n c:Nat)(ls:List (List Nat))(w:World)(h:Sn w A n c (JL ls))(QY:(Qp ls).length<=1000000000000000000):
  FnP Tryz.prog 50 [.slice A n c] w (λu w'=>(Qp ls).length<=1048576/\u= .string (Qd (Qp ls))/\Ext w w') (λch w'=>1048576<(Qp ls).length/\ch=jn 2/\w=w'):=by
 by_cases Zz:(Qp ls).length<=1048576
 ·exact(hQJ A n c ls w h Zz).toP.mono (λv w' hh=>⟨Zz,hh.1,hh.2⟩) (λ_ _ hh=>hh)
 have hl:=ji h.1;have co:=sS ls;refine aR (c:={NS with cuts:=[]}) Qa Tryz.func50 rfl rfl rfl ?_;refine loop Qa [8,3] (λi:Nat=>[.int .i64 i,.int .i64 (Qp (ls.take i)).length]) (λi w'=>w=w'/\i<=n/\(Qp (ls.take i)).length<=1048576) (λi _=>n-i) 0 rfl ⟨rfl,Xr _,by simp[Qp]⟩ ?_;rintro i _ ⟨rfl,hi,rC⟩;refine Qz (λc1=>?_) (λc1=>?_)
 ·have QZ:i<n:=by omega
  obtain⟨s,hs⟩:∃s,ls[i]? =some s:=⟨_,Xp (by omega)⟩
  have Wd:ls.take (i+1)=ls.take i++ [s]:=by rw[K9,hs]<;>rfl
  have hu:=St (ls.take i) s;rw[<-Wd] at hu;have Uo:(Qp (ls.take (i+1))).length<=(Qp ls).length:=by
   have e5:Qp ls=Qp (ls.take (i+1))++Qp (ls.drop (i+1)):=by
    have e6:∀a b:List (List Nat),Qp (a++b)=Qp a++Qp b:=λa b=>by simp[Qp]
    rw[<-e6,lQ]
   rw[e5,Qq];omega
  refine KC h.1 QZ (λad u hA gv Xq=>?_);rw[cO hs] at gv;cases gv;refine load Xq ?_;have XJ:=Xe (s++ [10]);rw[Qq,o6] at XJ;refine Qi (((Qp (ls.take (i+1))).length:Nat):Int) (by rw[hu];omega) (by omega) ?_;refine Qz (λd1=>?_) (λd1=>?_)
  ·refine XO (YM 2 (by decide) w) (λ_ _ hf=>hf.elim) ?_;rintro ch _ ⟨rfl,rfl⟩;exact⟨by omega,rfl,rfl⟩
  ·refine Qi ((i+1:Nat):Int) (by show((i:Nat):Int)+1=_;omega) (by omega) ?_;exact⟨i+1,rfl,⟨rfl,QZ,by omega⟩,by show n-(i+1)<n-i;omega⟩
 ·have:i=n:=by omega
  subst this;rw[Jc (by omega)] at rC;exact Xn rC Zz
theorem iQo (nm:List (List Nat)):sN nm [] 1=if ZF nm=true then(Wn,0)else([],1):=by
 have h1:XL [] 1=0:=(aW 0 true).chk (by decide);have h2:an [] 1=(X4 (.c true) 0,0):=by
  rw[PI h1];have e:cf [] 1= .c true:=rfl;rw[e,if_neg (by decide)]
 unfold sN;rw[h2];by_cases h:ZF nm=true
 ·rw[Qf h,Qf h,Qf rfl,OO h (PB (show VarsIn 64 (.c true) from trivial) (by decide)) (λx hx ho=>by
   rw[QN.1 hx] at ho;exact Xn ho (by decide)),Fe]
  rfl
 ·rw[if_neg h,if_neg h]
abbrev Gv (nm:List (List Nat))(x:DV):Prop:=ZF nm=true/\Ka nm.length x.nd x.r=true
theorem iQp {l:List Nat}{N:Nat}(hl:l=Nt.JY N)(hN:N<=4096):Nt.th l=N/\Nt.kM l=true:=by
 have eo:N<4294967296^1024:=(show ∀k,0<k->N<4294967296^k from λk p=>VT (show N<4294967296^1 by omega) (aO (by decide) p)) 1024 (by decide);have QY:(Nt.JY N).length<=2:=(Nt.Gf N 2).2 (by omega);obtain⟨e1,e2⟩:=Nt.SO (l:=l) (by rw[hl];exact Nt.tg eo) (by rw[hl];exact QY);exact⟨by rw[e1,hl,Nt.pS],e2⟩
theorem Tb (NA:Option Addr)(nn nc:Nat)(nm:List (List Nat))(x:DV)(aQb:nm.length<=12)(VR:Ku nm)(w:World)(hN:Sl w 1 NA nn nc (XB nm))(hx:SB w x.A x.n x.c x.nd):
  FnP Tryz.prog 42 [.slice NA nn nc,Xk x.A x.n x.c x.r] w (λ_ w'=>Gv nm x/\Ext w w') (λch w'=>¬Gv nm x/\ch=jn 1/\Ext w w'):=by
 have QY:nm.length=nn:=by have:=hN.len;rw[aU] at this;omega
 refine aR (c:={c42 with cuts:=[]}) Qa Tryz.func42 rfl rfl rfl ?_;refine new (λw1 Qe Q4 Qh=>?_);refine call (cK true w1) ?_;rintro _ w2 ⟨rfl,Qg⟩;have Q5:=Qe.trans Qg;refine call (eQ4 nm NA none nn nc 0 0 [] 1 w2 (hN.ext Q5) VR (SlS.nil _) (by
  have h1:XL [] 1=0:=(aW 0 true).chk (by decide);have h2:an [] 1=(X4 (.c true) 0,0):=by
   rw[PI h1];have e:cf [] 1= .c true:=rfl;rw[e,if_neg (by decide)]
  rw[h2];show(ZP nm 0 (fV (X4 (.c true) 0))).length<=_;rw[Fe];show Wn.length<=_;decide)) ?_
 rintro _ w3 ⟨rfl,Qj⟩;have QX:=Q5.trans Qj;rw[iQo nm];by_cases X0:ZF nm=true
 ·rw[Qf X0];refine ac rfl ?_;refine Qt ((Qh.ext Qg).ext Qj) rfl ?_;rw[<-QY];refine call (F5 x.A x.n x.c nm.length x.nd x.r w3 (hx.ext QX)) ?_;rintro _ w4 ⟨rfl,Qs⟩;have XG:=QX.trans Qs;cases VE:Ka nm.length x.nd x.r with
  | false=>
   refine Q8 rfl ?_;refine XO (YM 1 (by decide) w4) (λ_ _ hf=>hf.elim) ?_;rintro ch _ ⟨rfl,rfl⟩;exact⟨λhh=>(by have h2:=hh.2;rw[VE] at h2;cases h2),rfl,XG⟩
  | true=>
   refine Q3 rfl ?_;refine Qt (((Qh.ext Qg).ext Qj).ext Qs) rfl ?_;refine call (iQi x nm.length aQb w4 (hx.ext XG) VE) ?_;rintro _ w5 ⟨_,rfl,⟨A,m,c,N,rfl,hS,yH⟩,Qw⟩;have IQ:N<=4096:=Zc yH (Zc (aO (by decide) aQb) (by decide));obtain⟨e1,e2⟩:=iQp rfl IQ;refine call (F6 w5) ?_;rintro _ _ rfl;refine call (Nt.iQc A m c (Nt.JY N) w5 hS (Nt.AQ N)) ?_;rintro _ _ ⟨rfl,rfl⟩;rw[e1,e2];refine Q3 rfl ?_;refine XD (by omega) ?_;exact⟨⟨X0,VE⟩,XG.trans Qw⟩
 ·rw[if_neg X0];refine rV (by decide) ?_;refine XO (YM 1 (by decide) w3) (λ_ _ hf=>hf.elim) ?_;rintro ch _ ⟨rfl,rfl⟩;exact⟨λhh=>X0 hh.1,rfl,QX⟩
theorem Tc {c:Cx}{o:Oper}{S:Env}{w:World}{K:Env->World->Prop}{Q:Zg}{x:Operand}{tx t:Nat}{k:IntKind}{r:TyRow}(hg:c.g.Ok)(ho:o.op= .typeAssert x tx t true)(hr:QT c.g.tys t=some r)(hd:r.d= .int k)(hx:S.ev x=some .nilIface)
  (kk:Xd c S o.dst (.v (.tuple #[r.z,.bool false])) (λS=>K S w)):X8 c o S w K Q:=by
 obtain⟨Q0,i,hi,_,_,hz⟩:=hg.row hr;rw[hd] at Q0;refine Jx (w':=w) (v:=.tuple #[r.z,.bool false]) (λa hf=>?_) kk;have e1:=hf.ev hx;simp only[execOp,ho,e1];simp[Instr.typeAssert,ZU Q0,zeroValue,typeInfo,hi,hz]
def AX (f e:Nat)(k:Int)(w w':World):Prop:=Blk w' f 9 [.string ⟨#[]⟩]/\Blk w' e 34 [.int .i64 k]/\Mod (λi=>i=f∨i=e) w w'
theorem pV (f e:Nat)(k:Int)(w:World)(v1 v2:Value)(QU:f≠e)(hf:Blk w f 9 [v1])(he:Blk w e 34 [v2]):
  CallsD Tryz.prog 60 #[.pointer (some ⟨f,0,none⟩),.pointer (some ⟨e,0,none⟩)] (.panicking (jn k)) w
   (λen u' w'=>∃v,en= .returned v/\settle u'= .returning/\AX f e k w w'):=by
 refine callsD_of_wpS Tryz.func60 rfl λc₀ cs hu=>?_
 have J5:=fN (N:=Tryz.f60.ntmps) [.pointer (some ⟨f,0,none⟩),.pointer (some ⟨e,0,none⟩)] (gD rfl) [(0,.v (.pointer (some ⟨f,0,none⟩))),(1,.v (.pointer (some ⟨e,0,none⟩)))] (by
  intro k x hk
  match k,hk with
  | 0,hk=>cases hk;rfl
  | 1,hk=>cases hk;rfl
  | k+2,hk=>exact nomatch (show(none:Option Ent)=some x from hk))
 have J0:=J5.put (d:=5) (by decide) (.v (.iface 34 (.int .i64 k)));refine wpS_seq (wpS_region ?_);show wpOpsS _ _ _ [0,1,2,3,4,5,6] _ _ _;refine sY (o:=_) (cs':={c₀ with mode:=.panicking [{v:=.iface 34 (.int .i64 k),recovered:=true}]}::cs) (v:=.iface 34 (.int .i64 k)) (d:=5) rfl rfl rfl rfl (.inl (by simp[recoverD,hu,jn])) ?_;generalize bC:Act.put _ (some 5) _=act;have iu:Fits bK.N [(5,.v (.iface 34 (.int .i64 k))),(0,.v (.pointer (some ⟨f,0,none⟩))),(1,.v (.pointer (some ⟨e,0,none⟩)))] act:=by rw[<-bC];exact J0
 clear bC J0 J5;generalize Zx: #[_,_,_,_,_,_,_]=xo;have h1:=(QC (λ(x:Array Oper)=>x[1]?) Zx).symm;have h2:=(QC (λ(x:Array Oper)=>x[2]?) Zx).symm;have h3:=(QC (λ(x:Array Oper)=>x[3]?) Zx).symm;have h4:=(QC (λ(x:Array Oper)=>x[4]?) Zx).symm;have h5:=(QC (λ(x:Array Oper)=>x[5]?) Zx).symm;have h6:=(QC (λ(x:Array Oper)=>x[6]?) Zx).symm;clear Zx;refine Jy (c:=bK) Qa rfl h1 rfl iu (K:=λS' w'=>S'=[(6,Ent.v (.tuple #[.int .i64 k,.bool true])),(5,.v (.iface 34 (.int .i64 k))),(0,.v (.pointer (some ⟨f,0,none⟩))),(1,.v (.pointer (some ⟨e,0,none⟩)))]/\w=w') (ES Qa rfl rfl rfl rfl ⟨rfl,rfl⟩) ?_;rintro _ a1 _ Zf ⟨rfl,rfl⟩;refine Jy (c:=bK) Qa rfl h2 rfl Zf (K:=λS' w'=>S'=_/\w=w') ⟨rfl,rfl⟩ ?_;rintro _ a2 _ ZR ⟨rfl,rfl⟩;refine Jy (c:=bK) Qa rfl h3 rfl ZR (K:=λS' w'=>S'=_/\w=w') ⟨rfl,rfl⟩ ?_;rintro _ a3 _ iv ⟨rfl,rfl⟩;refine Jy (c:=bK) Qa rfl h4 rfl iv (K:=λS' w'=>S'=_/\w=w') ⟨rfl,rfl⟩ ?_;rintro _ a4 _ iw ⟨rfl,rfl⟩;refine Jy (c:=bK) Qa rfl h5 rfl iw (K:=λS' w'=>S'=_/\w=w') ⟨rfl,rfl⟩ ?_;rintro _ a5 _ J0 ⟨rfl,rfl⟩;refine Jy (c:=bK) Qa rfl h6 rfl J0 (K:=λS' w'=>S'=_/\w=w') ⟨rfl,rfl⟩ ?_;rintro _ a6 _ bV ⟨rfl,rfl⟩;unfold wpOpsS;refine mf (c:=bK) Qa rfl bV ?_;refine Q8 rfl ?_;refine KD hf (by simp) (λw1 Zt Qh=>?_);refine KD (he.mod Zt (λh=>QU h.symm)) (by simp) (λw2 XQ Qx=>?_);exact⟨_,rfl,rfl,Qh.mod XQ QU,Qx,(Zt.mono (λi hi=>.inl (.inl hi))).trans XQ (λi hi=>.inl (.inr hi))⟩
theorem Td (f e:Nat)(w:World):
  CallsD Tryz.prog 60 #[.pointer (some ⟨f,0,none⟩),.pointer (some ⟨e,0,none⟩)] .returning w
   (λen u' w'=>∃v,en= .returned v/\settle u'= .returning/\w=w'):=by
 refine callsD_of_wpS Tryz.func60 rfl λc₀ cs hu=>?_
 have J5:=fN (N:=Tryz.f60.ntmps) [.pointer (some ⟨f,0,none⟩),.pointer (some ⟨e,0,none⟩)] (gD rfl) [(0,.v (.pointer (some ⟨f,0,none⟩))),(1,.v (.pointer (some ⟨e,0,none⟩)))] (by
  intro k x hk
  match k,hk with
  | 0,hk=>cases hk;rfl
  | 1,hk=>cases hk;rfl
  | k+2,hk=>exact nomatch (show(none:Option Ent)=some x from hk))
 have J0:=J5.put (d:=5) (by decide) (.v .nilIface);refine wpS_seq (wpS_region ?_);show wpOpsS _ _ _ [0,1,2,3,4,5,6] _ _ _;refine sY (o:=_) (cs':={c₀ with mode:=.returning}::cs) (v:=.nilIface) (d:=5) rfl rfl rfl rfl (.inr ⟨by simp[recoverD,hu],rfl,by rw[<-hu]⟩) ?_;generalize bC:Act.put _ (some 5) _=act;have iu:Fits bK.N [(5,.v .nilIface),(0,.v (.pointer (some ⟨f,0,none⟩))),(1,.v (.pointer (some ⟨e,0,none⟩)))] act:=by rw[<-bC];exact J0
 clear bC J0 J5;generalize Zx: #[_,_,_,_,_,_,_]=xo;have h1:=(QC (λ(x:Array Oper)=>x[1]?) Zx).symm;have h2:=(QC (λ(x:Array Oper)=>x[2]?) Zx).symm;have h3:=(QC (λ(x:Array Oper)=>x[3]?) Zx).symm;have h4:=(QC (λ(x:Array Oper)=>x[4]?) Zx).symm;have h5:=(QC (λ(x:Array Oper)=>x[5]?) Zx).symm;have h6:=(QC (λ(x:Array Oper)=>x[6]?) Zx).symm;clear Zx;refine Jy (c:=bK) Qa rfl h1 rfl iu (K:=λS' w'=>S'=_/\w=w') (Tc Qa rfl rfl rfl rfl ⟨rfl,rfl⟩) ?_;rintro _ a1 _ Zf ⟨rfl,rfl⟩;refine Jy (c:=bK) Qa rfl h2 rfl Zf (K:=λS' w'=>S'=_/\w=w') ⟨rfl,rfl⟩ ?_;rintro _ a2 _ ZR ⟨rfl,rfl⟩;refine Jy (c:=bK) Qa rfl h3 rfl ZR (K:=λS' w'=>S'=_/\w=w') ⟨rfl,rfl⟩ ?_;rintro _ a3 _ iv ⟨rfl,rfl⟩;refine Jy (c:=bK) Qa rfl h4 rfl iv (K:=λS' w'=>S'=_/\w=w') ⟨rfl,rfl⟩ ?_;rintro _ a4 _ iw ⟨rfl,rfl⟩;refine Jy (c:=bK) Qa rfl h5 rfl iw (K:=λS' w'=>S'=_/\w=w') ⟨rfl,rfl⟩ ?_;rintro _ a5 _ J0 ⟨rfl,rfl⟩;refine Jy (c:=bK) Qa rfl h6 rfl J0 (K:=λS' w'=>S'=_/\w=w') ⟨rfl,rfl⟩ ?_;rintro _ a6 _ bV ⟨rfl,rfl⟩;unfold wpOpsS;refine mf (c:=bK) Qa rfl bV ?_;refine Q3 rfl ?_;exact⟨_,rfl,rfl,rfl⟩
theorem ti (f e:Nat)(k:Int)(w:World)(v1 v2:Value)(QU:f≠e)(hf:Blk w f 9 [v1])(he:Blk w e 34 [v2]):
  CallsD Tryz.prog 41 #[.pointer (some ⟨f,0,none⟩),.pointer (some ⟨e,0,none⟩)] (.panicking (jn k)) w
   (λen u' w'=>∃v,en= .returned v/\settle u'= .returning/\AX f e k w w'):=by
 refine callsD_of_wpS Tryz.func41 rfl λc₀ cs hu=>?_
 have J5:=fN (N:=Tryz.f41.ntmps) [.pointer (some ⟨f,0,none⟩),.pointer (some ⟨e,0,none⟩)] (gD rfl) [(0,.v (.pointer (some ⟨f,0,none⟩))),(1,.v (.pointer (some ⟨e,0,none⟩)))] (by
  intro k x hk
  match k,hk with
  | 0,hk=>cases hk;rfl
  | 1,hk=>cases hk;rfl
  | k+2,hk=>exact nomatch (show(none:Option Ent)=some x from hk))
 have J0:=J5.put (d:=5) (by decide) (.v (.iface 34 (.int .i64 k)));refine wpS_seq (wpS_region ?_);show wpOpsS _ _ _ [0,1,2,3,4,5,6] _ _ _;refine sY (o:=_) (cs':={c₀ with mode:=.panicking [{v:=.iface 34 (.int .i64 k),recovered:=true}]}::cs) (v:=.iface 34 (.int .i64 k)) (d:=5) rfl rfl rfl rfl (.inl (by simp[recoverD,hu,jn])) ?_;generalize bC:Act.put _ (some 5) _=act;have iu:Fits bJ.N [(5,.v (.iface 34 (.int .i64 k))),(0,.v (.pointer (some ⟨f,0,none⟩))),(1,.v (.pointer (some ⟨e,0,none⟩)))] act:=by rw[<-bC];exact J0
 clear bC J0 J5;generalize Zx: #[_,_,_,_,_,_,_]=xo;have h1:=(QC (λ(x:Array Oper)=>x[1]?) Zx).symm;have h2:=(QC (λ(x:Array Oper)=>x[2]?) Zx).symm;have h3:=(QC (λ(x:Array Oper)=>x[3]?) Zx).symm;have h4:=(QC (λ(x:Array Oper)=>x[4]?) Zx).symm;have h5:=(QC (λ(x:Array Oper)=>x[5]?) Zx).symm;have h6:=(QC (λ(x:Array Oper)=>x[6]?) Zx).symm;clear Zx;refine Jy (c:=bJ) Qa rfl h1 rfl iu (K:=λS' w'=>S'=[(6,Ent.v (.tuple #[.int .i64 k,.bool true])),(5,.v (.iface 34 (.int .i64 k))),(0,.v (.pointer (some ⟨f,0,none⟩))),(1,.v (.pointer (some ⟨e,0,none⟩)))]/\w=w') (ES Qa rfl rfl rfl rfl ⟨rfl,rfl⟩) ?_;rintro _ a1 _ Zf ⟨rfl,rfl⟩;refine Jy (c:=bJ) Qa rfl h2 rfl Zf (K:=λS' w'=>S'=_/\w=w') ⟨rfl,rfl⟩ ?_;rintro _ a2 _ ZR ⟨rfl,rfl⟩;refine Jy (c:=bJ) Qa rfl h3 rfl ZR (K:=λS' w'=>S'=_/\w=w') ⟨rfl,rfl⟩ ?_;rintro _ a3 _ iv ⟨rfl,rfl⟩;refine Jy (c:=bJ) Qa rfl h4 rfl iv (K:=λS' w'=>S'=_/\w=w') ⟨rfl,rfl⟩ ?_;rintro _ a4 _ iw ⟨rfl,rfl⟩;refine Jy (c:=bJ) Qa rfl h5 rfl iw (K:=λS' w'=>S'=_/\w=w') ⟨rfl,rfl⟩ ?_;rintro _ a5 _ J0 ⟨rfl,rfl⟩;refine Jy (c:=bJ) Qa rfl h6 rfl J0 (K:=λS' w'=>S'=_/\w=w') ⟨rfl,rfl⟩ ?_;rintro _ a6 _ bV ⟨rfl,rfl⟩;unfold wpOpsS;refine mf (c:=bJ) Qa rfl bV ?_;refine Q8 rfl ?_;refine KD hf (by simp) (λw1 Zt Qh=>?_);refine KD (he.mod Zt (λh=>QU h.symm)) (by simp) (λw2 XQ Qx=>?_);exact⟨_,rfl,rfl,Qh.mod XQ QU,Qx,(Zt.mono (λi hi=>.inl (.inl hi))).trans XQ (λi hi=>.inl (.inr hi))⟩
theorem Te (f e:Nat)(w:World):
  CallsD Tryz.prog 41 #[.pointer (some ⟨f,0,none⟩),.pointer (some ⟨e,0,none⟩)] .returning w
   (λen u' w'=>∃v,en= .returned v/\settle u'= .returning/\w=w'):=by
 refine callsD_of_wpS Tryz.func41 rfl λc₀ cs hu=>?_
 have J5:=fN (N:=Tryz.f41.ntmps) [.pointer (some ⟨f,0,none⟩),.pointer (some ⟨e,0,none⟩)] (gD rfl) [(0,.v (.pointer (some ⟨f,0,none⟩))),(1,.v (.pointer (some ⟨e,0,none⟩)))] (by
  intro k x hk
  match k,hk with
  | 0,hk=>cases hk;rfl
  | 1,hk=>cases hk;rfl
  | k+2,hk=>exact nomatch (show(none:Option Ent)=some x from hk))
 have J0:=J5.put (d:=5) (by decide) (.v .nilIface);refine wpS_seq (wpS_region ?_);show wpOpsS _ _ _ [0,1,2,3,4,5,6] _ _ _;refine sY (o:=_) (cs':={c₀ with mode:=.returning}::cs) (v:=.nilIface) (d:=5) rfl rfl rfl rfl (.inr ⟨by simp[recoverD,hu],rfl,by rw[<-hu]⟩) ?_;generalize bC:Act.put _ (some 5) _=act;have iu:Fits bJ.N [(5,.v .nilIface),(0,.v (.pointer (some ⟨f,0,none⟩))),(1,.v (.pointer (some ⟨e,0,none⟩)))] act:=by rw[<-bC];exact J0
 clear bC J0 J5;generalize Zx: #[_,_,_,_,_,_,_]=xo;have h1:=(QC (λ(x:Array Oper)=>x[1]?) Zx).symm;have h2:=(QC (λ(x:Array Oper)=>x[2]?) Zx).symm;have h3:=(QC (λ(x:Array Oper)=>x[3]?) Zx).symm;have h4:=(QC (λ(x:Array Oper)=>x[4]?) Zx).symm;have h5:=(QC (λ(x:Array Oper)=>x[5]?) Zx).symm;have h6:=(QC (λ(x:Array Oper)=>x[6]?) Zx).symm;clear Zx;refine Jy (c:=bJ) Qa rfl h1 rfl iu (K:=λS' w'=>S'=_/\w=w') (Tc Qa rfl rfl rfl rfl ⟨rfl,rfl⟩) ?_;rintro _ a1 _ Zf ⟨rfl,rfl⟩;refine Jy (c:=bJ) Qa rfl h2 rfl Zf (K:=λS' w'=>S'=_/\w=w') ⟨rfl,rfl⟩ ?_;rintro _ a2 _ ZR ⟨rfl,rfl⟩;refine Jy (c:=bJ) Qa rfl h3 rfl ZR (K:=λS' w'=>S'=_/\w=w') ⟨rfl,rfl⟩ ?_;rintro _ a3 _ iv ⟨rfl,rfl⟩;refine Jy (c:=bJ) Qa rfl h4 rfl iv (K:=λS' w'=>S'=_/\w=w') ⟨rfl,rfl⟩ ?_;rintro _ a4 _ iw ⟨rfl,rfl⟩;refine Jy (c:=bJ) Qa rfl h5 rfl iw (K:=λS' w'=>S'=_/\w=w') ⟨rfl,rfl⟩ ?_;rintro _ a5 _ J0 ⟨rfl,rfl⟩;refine Jy (c:=bJ) Qa rfl h6 rfl J0 (K:=λS' w'=>S'=_/\w=w') ⟨rfl,rfl⟩ ?_;rintro _ a6 _ bV ⟨rfl,rfl⟩;unfold wpOpsS;refine mf (c:=bJ) Qa rfl bV ?_;refine Q3 rfl ?_;exact⟨_,rfl,rfl,rfl⟩
def iQq:List (List Nat):=[[120],[43],[121],[42],[40],[41],[105,102],[101,108,115,101],[59],[94],[122],[37,99]]
theorem Tf (k:Nat)(w:World)(hk:k<=255):Fn Tryz.prog 190 [.int .u8 k] w (λv w'=>v= .string (Qd (YK k))/\Ext w w'):=by
 refine QF (c:={cQV with cuts:=[]}) Qa Tryz.func190 rfl rfl rfl ?_;have XU:k % 12<12:=aP _ (by decide);refine Xh Qa (iQq.map (λs=>[Value.string (Qd s)])) rfl rfl rfl rfl rfl ⟨rfl,rfl,rfl,rfl,rfl,rfl,rfl,rfl,rfl,rfl,rfl,rfl,rfl,rfl,rfl,rfl,rfl,rfl,rfl,rfl,rfl,rfl,rfl,rfl,⟨⟩⟩ rfl (λcs h=>by simp only[X7] at h;obtain⟨s,_,rfl⟩:=h;rfl) rfl (by decide) (by decide) ?_;intro w1 Qe Q4 Qh;refine Qi ((k:Nat):Int) rfl (by omega) ?_;refine normIf (m:=((k % 12:Nat):Int)) (by decide) (dD k 12) ?_;refine index (j:=k % 12) XU ?_;refine Qo Qh (v:=.string (Qd (YK k))) (by
  unfold YK;generalize k % 12=r at XU;rcases(show r=0∨r=1∨r=2∨r=3∨r=4∨r=5∨r=6∨r=7∨r=8∨r=9∨r=10∨r=11 by omega)with rfl | rfl | rfl | rfl | rfl | rfl | rfl | rfl | rfl | rfl | rfl | rfl<;>rfl) ?_
 exact⟨rfl,Qe⟩
theorem tj (x:Lx)(w:World)(hx:LxOk w x):Fn Tryz.prog 131 [.agg x.cells.toArray] w (λv w'=>v= .string (Qd (Kp x.k x.ws++ [10]))/\Ext w w'):=by
 have hn:x.ws.length=x.n:=by have:=hx.sl.len;rw[rY] at this;omega
 have bz:x.n<=9223372036854775807:=by have:=hx.sl.le;have:=hx.sl.cap;simp only[maxLen] at this;omega
 have hk:=hx.k8;refine QF (c:={cQj with cuts:=[]}) Qa Tryz.func131 rfl rfl rfl ?_;refine new (λw1 Qe Q4 Qh=>?_);refine QD Qh rfl ?_;refine normIf (m:=((x.k/8:Nat):Int)) (by decide) (by
  show IntKind.u8.wrap ((x.k/8:Nat):Int)=_;rw[rW];omega) ?_
 refine Qi ((x.k/8:Nat):Int) rfl (by omega) ?_;refine normIf (m:=((x.k/8 % 4:Nat):Int)) (by decide) (dD _ 4) ?_;have h4:x.k/8 % 4<4:=aP _ (by decide);refine XH (v':=.string (Qd (List.replicate (x.k/8 % 4) 32))) (by
  generalize x.k/8 % 4=r at h4;rcases(show r=0∨r=1∨r=2∨r=3 by omega)with rfl | rfl | rfl | rfl<;>decide) (by
  generalize x.k/8 % 4=r at h4;rcases(show r=0∨r=1∨r=2∨r=3 by omega)with rfl | rfl | rfl | rfl<;>rfl) ?_
 refine loop Qa [4,3] (λs:Nat×List Nat=>[.int .i64 s.1,.string (Qd s.2)]) (λs w'=>Ext w1 w'/\s.1<=x.n/\s.1<=6/\s.2.length<=3+s.1*5/\s.2++av (decide (0<s.1)) ((x.ws.take 6).drop s.1)=Kp x.k x.ws) (λs _=>6-s.1) (0,List.replicate (x.k/8 % 4) 32) rfl ⟨Ext.refl _,Xr _,Xr _,by simp;omega,rfl⟩ ?_;rintro⟨i,out⟩ w2 ⟨Qg,hi,hi6,DE,QJ⟩;simp only at hi hi6 DE QJ;have Qx:=Qh.ext Qg;have so:=Xe out;have oK:=hx.sl.ext (Qe.trans Qg);have fine:out=Kp x.k x.ws->out.length<=40->(Qd out).size+(Qd [10]).size<=maxLen:=λ_ h=>by rw[Xe,Xe];show _+1<=maxLen;unfold maxLen;omega
 have stop:(x.ws.take 6).drop i=[]->out=Kp x.k x.ws:=λh=>by rw[h,av,KW] at QJ;exact QJ
 refine Qo Qx rfl ?_;refine Qz (λc1=>?_) (λc1=>?_)
 ·refine Qz (λc2=>?_) (λc2=>?_)
  ·have QZ:i<x.n:=by omega
   have hg:x.ws[i]? =some (x.ws[i]'(by omega)):=Xp _;have hb:=hx.w8 _ (Xm hg);generalize x.ws[i]'(by omega)=b at*;have fx:(x.ws.take 6).drop i=b::(x.ws.take 6).drop (i+1):=FQ (by rw[oZ (by omega)];exact hg);rw[fx,av] at QJ;obtain⟨_,_,_,hwl⟩:=R2 b;refine Qz (λc3=>?_) (λc3=>?_)
   ·rw[Qf (by simp;omega),<-J7] at QJ;have JZ:(out++ [32]).length<=4+i*5:=by simp;omega
    refine XH (v':=.string (Qd (out++ [32]))) (by rw[so];show _+1<=maxLen;unfold maxLen;omega) (QC Value.string (ZV out [32])) ?_;generalize out++ [32]=o2 at*;refine Qo Qx rfl ?_;refine KC oK QZ (λad u hA hu Xq=>?_);rw[px hg] at hu;cases hu;refine load Xq ?_;refine call (Tf b w2 hb) ?_;rintro _ w3 ⟨rfl,Qj⟩;have IR:=Xe (o2);have IS:=Xe (YK b);refine XH (v':=.string (Qd (o2++YK b))) (by rw[IR,IS];unfold maxLen;omega) (QC Value.string (ZV _ _)) ?_;have Qu:=Qx.ext Qj;have IT:=oK.ext Qj;refine Qo Qu rfl ?_;refine KC IT QZ (λad u hA hu Xq=>?_);rw[px hg] at hu;cases hu;refine load Xq ?_;refine normIf (m:=((b % 12:Nat):Int)) (by decide) (dD b 12) ?_;refine X3 (λc4=>?_) (λc4=>?_)
    ·rw[Qf (by omega),KW] at QJ;have IU:=Xe (o2++YK b);refine XH (v':=.string (Qd (o2++YK b++ [10]))) (by rw[IU,Qq];show _+1<=maxLen;unfold maxLen;omega) (QC Value.string (ZV _ [10])) ?_;exact⟨by rw[<-QJ],Qe.trans (Qg.trans Qj)⟩
    ·rw[if_neg (by omega),<-J7] at QJ;refine Qi ((i+1:Nat):Int) (by show((i:Nat):Int)+1=_;omega) (by omega) ?_;exact⟨(i+1,o2++YK b),rfl,⟨Qg.trans Qj,by show i+1<=x.n;omega,by show i+1<=6;omega,by show(o2++YK b).length<=3+(i+1)*5;rw[Qq];omega,by show _++av (decide (0<i+1)) _=_;rw[show decide (0<i+1)=true by simp];exact QJ⟩,by show 6-(i+1)<6-i;omega⟩
   ·rw[if_neg (by simp;omega),bF] at QJ;refine Qo Qx rfl ?_;refine KC oK QZ (λad u hA hu Xq=>?_);rw[px hg] at hu;cases hu;refine load Xq ?_;refine call (Tf b w2 hb) ?_;rintro _ w3 ⟨rfl,Qj⟩;have IR:=Xe (out);have IS:=Xe (YK b);refine XH (v':=.string (Qd (out++YK b))) (by rw[IR,IS];unfold maxLen;omega) (QC Value.string (ZV _ _)) ?_;have Qu:=Qx.ext Qj;have IT:=oK.ext Qj;refine Qo Qu rfl ?_;refine KC IT QZ (λad u hA hu Xq=>?_);rw[px hg] at hu;cases hu;refine load Xq ?_;refine normIf (m:=((b % 12:Nat):Int)) (by decide) (dD b 12) ?_;refine X3 (λc4=>?_) (λc4=>?_)
    ·rw[Qf (by omega),KW] at QJ;have IU:=Xe (out++YK b);refine XH (v':=.string (Qd (out++YK b++ [10]))) (by rw[IU,Qq];show _+1<=maxLen;unfold maxLen;omega) (QC Value.string (ZV _ [10])) ?_;exact⟨by rw[<-QJ],Qe.trans (Qg.trans Qj)⟩
    ·rw[if_neg (by omega),<-J7] at QJ;refine Qi ((i+1:Nat):Int) (by show((i:Nat):Int)+1=_;omega) (by omega) ?_;exact⟨(i+1,out++YK b),rfl,⟨Qg.trans Qj,by show i+1<=x.n;omega,by show i+1<=6;omega,by show(out++YK b).length<=3+(i+1)*5;rw[Qq];omega,by show _++av (decide (0<i+1)) _=_;rw[show decide (0<i+1)=true by simp];exact QJ⟩,by show 6-(i+1)<6-i;omega⟩
  ·have e:=stop (o7 (by rw[K8];omega));refine XH (v':=.string (Qd (out++ [10]))) (fine e (by omega)) (QC Value.string (ZV out [10])) ?_;exact⟨by rw[e],Qe.trans Qg⟩
 ·have e:=stop (o7 (by rw[K8];omega));refine XH (v':=.string (Qd (out++ [10]))) (fine e (by omega)) (QC Value.string (ZV out [10])) ?_;exact⟨by rw[e],Qe.trans Qg⟩
end
section
theorem Gw (x:Lx):x.cells.length=3:=rfl
section
variable {k0:Nat} {ic:Bool} {x:Lx} {op:List Bool}
theorem tk (h4:x.k % 8=4->3<=op.length)(h5:x.k % 8=5->op.head? ≠some false)(h6:x.k % 8=6->op=[])(h7:x.k % 8=7->ic=false):V8 k0 ic x op=(.tx (Kp x.k x.ws),op):=by
 unfold V8;rw[if_neg (λh=>by have:=h4 h.1;omega),if_neg (λh=>h5 h.1 h.2.1),if_neg (λh=>h5 h.1 h.2),if_neg (λh=>h.2 (h6 h.1)),if_neg (λh=>by rw[h7 h.1] at h;exact Xn h.2 (by decide))]
theorem iQr (h4:x.k % 8=4)(h:op.length<3):V8 k0 ic x op=(.ifd (Yu (ZJ.take k0) x.i) (s7 k0 x.i),false::op):=by
 unfold V8;rw[Qf ⟨h4,h⟩]
theorem iQs {Xx:List Bool}(h5:x.k % 8=5)(h:x.i % 2=0):V8 k0 ic x (false::Xx)=(.elif (Yu (ZJ.take k0) (x.i/2)) (s7 k0 (x.i/2)),false::Xx):=by
 unfold V8;rw[if_neg (by omega),Qf ⟨h5,rfl,h⟩]
theorem iQt {Xx:List Bool}(h5:x.k % 8=5)(h:x.i % 2≠0):V8 k0 ic x (false::Xx)=(.els,true::Xx):=by
 unfold V8;rw[if_neg (by omega),if_neg (λhh=>h hh.2.2),Qf ⟨h5,rfl⟩]<;>rfl
theorem iQu {b:Bool}{Xx:List Bool}(h6:x.k % 8=6):V8 k0 ic x (b::Xx)=(.en,Xx):=by
 unfold V8;rw[if_neg (by omega),if_neg (by omega),if_neg (by omega),Qf ⟨h6,by simp⟩]<;>rfl
theorem iQv (h7:x.k % 8=7)(h:ic=true):V8 k0 ic x op=(.inc,op):=by
 unfold V8;rw[if_neg (by omega),if_neg (by omega),if_neg (by omega),if_neg (by omega),Qf ⟨h7,h⟩]
end
theorem iQw {w:World}{base e n c:Nat}{A:Option Addr}{cs:List Value}(h:Own w base e 1 A n c cs)(hn:0<n):∃a,A=some a:=by
 obtain⟨g,sp,hA,_⟩:=h.blk hn;exact⟨_,hA⟩
theorem Gy {w:World}{base e n c j:Nat}{a:Addr}{cs:List Value}{u:Value}(h:Own w base e 1 (some a) n c cs)(hj:cs[j]? =some u):w.cell? (a.add j)=some u:=by
 have hl:=h.sl.len;have Xc:=(ZY.1 hj).1;obtain⟨ad,e,hc⟩:=h.sl.at_ (by omega);cases e;exact hc j u hj
theorem Gz (b:Bool){op:List Bool}{Xx:List Bool}(h:op=b::Xx):op.reverse[op.length-1]? =some b:=by
 subst h;rw[rI,WC (by simp)];simp
structure LnS where
 i:Nat
 out:List Nat
 op:List Bool
 A:Option Addr
 c:Nat
structure LnI (w0:World) (base:Nat) (k0:Nat) (ic:Bool) (T:List Lx) (tot:List Nat) (s:LnS) (w:World):Prop where
 e:Ext w0 w
 ow:Own w base 4 1 s.A s.op.length s.c (YY s.op.reverse)
 ol:s.op.length<=3
 il:s.i<=T.length
 rs:s.out++Qp ((YL k0 ic (T.drop s.i) s.op).map Jz)=tot
 ll:s.out.length<=s.i*40
theorem LnI.step {w0 w w':World}{base k0:Nat}{ic:Bool}{T:List Lx}{tot:List Nat}{s:LnS}(h:LnI w0 base k0 ic T tot s w)(hk:k0<=4){y:Lx}(hx:y.i<=255)(hy:T[s.i]? =some y){M:Mn}{Xx:List Bool}(e:V8 k0 ic y s.op=(M,Xx)){A':Option Addr}{c':Nat}(hE:Ext w w')(ho:Own w' base 4 1 A' Xx.length c' (YY Xx.reverse)):
  LnI w0 base k0 ic T tot ⟨s.i+1,s.out++(Jz M++ [10]),Xx,A',c'⟩ w':=by
 have hb:=FY (ic:=ic) (op:=s.op) hk hx;have hl:=FX (k0:=k0) (ic:=ic) (x:=y) h.ol;rw[e] at hb hl;simp only at hb hl;have QJ:=h.rs;rw[FQ hy,YL,e,Vl,V3] at QJ;refine⟨h.e.trans hE,ho,hl,(ZY.1 hy).1,?_,?_⟩
 ·rw[<-QJ];simp
 ·have:=h.ll;simp only[Qq,o6];omega
theorem LnI.step2 {w0 w w':World}{base k0:Nat}{ic:Bool}{T:List Lx}{tot:List Nat}{s:LnS}(h:LnI w0 base k0 ic T tot s w)(hk:k0<=4){y:Lx}(hx:y.i<=255)(hy:T[s.i]? =some y){M:Mn}{Xx:List Bool}(e:V8 k0 ic y s.op=(M,Xx)){A':Option Addr}{c':Nat}{o':List Nat}(Ke:o'=s.out++(Jz M++ [10]))(hE:Ext w0 w')(ho:Own w' base 4 1 A' Xx.length c' (YY Xx.reverse)):
  LnI w0 base k0 ic T tot ⟨s.i+1,o',Xx,A',c'⟩ w':=by
 have hb:=FY (ic:=ic) (op:=s.op) hk hx;have hl:=FX (k0:=k0) (ic:=ic) (x:=y) h.ol;rw[e] at hb hl;simp only at hb hl;have QJ:=h.rs;rw[FQ hy,YL,e,Vl,V3] at QJ;subst Ke;refine⟨hE,ho,hl,(ZY.1 hy).1,?_,?_⟩
 ·rw[<-QJ];simp
 ·have:=h.ll;simp only[Qq,o6];omega
theorem Tg {op:List Bool}{j:Nat}(h:j<op.length):Qp ((op.drop j).map (λ_=>ZK))=ZK++10::Qp ((op.drop (j+1)).map (λ_=>ZK)):=by
 rw[W9 h,Vl,V3]
theorem Th (k0:Nat)(hk:k0<=4)(NA:Option Addr)(nc:Nat)(A:Option Addr)(n c:Nat)(L:List Lx)(most:Nat)(name:List Nat)(w:World)(hN:Sl w 1 NA k0 nc (XB (ZJ.take k0)))(hL:SlS Lx.cells 3 w A n c L)(X0:∀x∈L,LxOk w x)(hm:most<=100)(mQa:name=[]∨name=[110]):
  Fn Tryz.prog 85 [.slice NA k0 nc,.slice A n c,.int .i64 most,.string (Qd name)] w (λv w'=>v= .string (Qd (Qp ((YL k0 (decide (name≠ [])) (L.take most) []).map Jz)))/\Ext w w'):=by
 have QY:=hL.2;have bz:n<=9223372036854775807:=by have:=hL.1.le;have:=hL.1.cap;simp only[maxLen] at this;omega
 have aQc:∀s∈ZJ.take k0,s.length<=100:=λs hs=>by
  have XU:ZJ.all (λs=>decide (s.length<=100))=true:=by decide
  exact aQ (Ym.1 XU s (aN hs))
 refine QF (c:={c85 with cuts:=[]}) Qa Tryz.func85 rfl rfl rfl ?_;refine bQK Qa rfl rfl rfl rfl rfl rfl ?_;intro w1 Qe Q4 Qh;generalize hic:decide (name≠ [])=ic;generalize mQb:Qp ((YL k0 ic (L.take most) []).map Jz)=tot;have hTl:(L.take most).length=min most L.length:=K8;have mQ4:(L.take most).length<=100:=by omega
 generalize hT:L.take most=T at*;refine loop Qa [11,10,9] (λs:LnS=>[.int .i64 s.i,.slice s.A s.op.length s.c,.string (Qd s.out)]) (λs w'=>LnI w w.heap.size k0 ic T tot s w') (λs _=>T.length-s.i) ⟨0,[],[],some ⟨w.heap.size,0,none⟩,0⟩ rfl ⟨Qe,Own.empty Qh (QB _),Xr _,Xr _,mQb,QB _⟩ ?_;rintro⟨i,out,op,A',c'⟩ w2 hI;have DE:=hI.ol;have Wf:=hI.il;have co:=hI.ll;simp only at DE Wf co;have Q5:=hI.e;have so:=Xe out;refine Qz (λc1=>?_) (λc1=>?_)
 ·simp only at c1;refine Qz (λc2=>?_) (λc2=>?_)
  ·simp only at c2;have QZ:i<n:=by omega
   have hiT:i<T.length:=by omega
   refine Zv Gw (hL.ext Q5) rfl QZ (λp y DF fq=>?_);have DF:L[i]? =some y:=DF;have hy:T[i]? =some y:=by rw[<-hT,oZ (by omega)];exact DF
   have oN:=(X0 y (Xm DF)).ext Q5;have WB:=oN.i8;have hk8:=oN.k8;refine Kn (vs:=y.cells) rfl fq ?_;refine new (λw4 Qs KO Q7=>?_);refine Qv Q7 rfl (sc rfl) (λw5 JH _ QG=>?_);have Wa:Ext w2 w5:=X9 Qs Q7 JH;have Jm:=hI.e.trans Wa;have J6:=hI.ow.ext Wa;simp only at J6;refine QD QG rfl ?_;refine normIf (m:=((y.k % 8:Nat):Int)) (by decide) (dD y.k 8) ?_;have h8:y.k % 8<8:=aP _ (by decide);refine X3 (λk4=>?_) (λk4=>?_)
   ·refine Qz (λn3=>?_) (λn3=>?_)
    ·simp only at n3;have e5:=RN (ZJ.take k0) NA k0 nc y.i;refine XH (v':=.string (Qd (out++ [35,105,102,32]))) (by rw[so];show _+4<=maxLen;unfold maxLen;omega) (QC Value.string (ZV out [35,105,102,32])) ?_;refine Qo QG rfl ?_;refine call (e5 w5 (hN.ext Jm) aQc WB) ?_;rintro _ w6 ⟨rfl,QO⟩;have ZT:=(s9 hk WB).2.2;refine XH (v':=.string (Qd (out++ [35,105,102,32]++Yu (ZJ.take k0) y.i))) (by rw[Xe,Xe,Qq];show _+4+_<=maxLen;unfold maxLen;omega) (QC Value.string (ZV _ _)) ?_;refine XH (v':=.string (Qd (out++ [35,105,102,32]++Yu (ZJ.take k0) y.i++ [10]))) (by rw[Xe,Qq,Qq];show _+4+_+1<=maxLen;unfold maxLen;omega) (QC Value.string (ZV _ [10])) ?_;refine Xh Qa [[Value.bool false]] rfl rfl rfl rfl rfl ⟨rfl,rfl,⟨⟩⟩ rfl (λcs hh=>by simp only[QN] at hh;subst hh;rfl) rfl (by decide) (by decide) ?_;intro w7 Xb Wu Q2;have g9:Sl w7 1 (some ⟨w6.heap.size,0,none⟩) 1 1 [Value.bool false]:=Sl.own (sz:=1) (n:=1) Q2 (QB _) (by decide) (by simp);have JI:=QO.trans Xb;refine Z4 (n:=op.length) Qa rfl rfl rfl rfl rfl (by decide) rfl rfl ⟨_,rfl⟩ rfl rfl (J6.ext JI) g9 (by simp[JG]) (by unfold maxLen;omega) (by show(op.length+1)*1<=_;omega) (by have:=Jm.size;have:=JI.size;omega) ?_;intro A2 c2 w8 JB kQ4 mQ5;refine Qi ((i+1:Nat):Int) (by show((i:Nat):Int)+1=_;omega) (by(try simp only);omega) ?_;exact⟨⟨i+1,out++ [35,105,102,32]++Yu (ZJ.take k0) y.i++ [10],false::op,A2,c2⟩,by simp only[Q6];rfl,hI.step2 hk WB hy (iQr (by first | omega | (simp only;omega)) (by first | omega | (simp only;omega))) (by simp[Jz,ZQ]) (JB.ext (Jm.trans JI) (λi hi=>by have:=(J6.ext JI).rows i hi;omega)) (by rw[rI];simpa [YY] using kQ4),by show T.length-(i+1)<T.length-i;omega⟩
    ·simp only at n3;refine Xy (by first | omega | (simp only;omega)) ?_;refine Xy (by first | omega | (simp only;omega)) ?_;refine Xy (by first | omega | (simp only;omega)) ?_;refine Xy (by first | omega | (simp only;omega)) ?_;refine Qt QG rfl ?_;refine call (tj y w5 (oN.ext Wa)) ?_;rintro _ w6 ⟨rfl,QO⟩;have s2:=Xe (Kp y.k y.ws++ [10]);have s3:=(mJ y.k y.ws).2.2.2;refine XH (v':=.string (Qd (out++(Kp y.k y.ws++ [10])))) (by rw[so,s2,Qq];show _+(_+1)<=maxLen;unfold maxLen;omega) (QC Value.string (ZV _ _)) ?_;refine Qi ((i+1:Nat):Int) (by show((i:Nat):Int)+1=_;omega) (by(try simp only);omega) ?_;exact⟨⟨i+1,out++(Kp y.k y.ws++ [10]),op,A',c'⟩,rfl,hI.step hk WB hy (tk (λ_=>by first | omega | (simp only;omega)) (λh=>by first | omega | (simp only;omega)) (λh=>by first | omega | (simp only;omega)) (λh=>by first | omega | (simp only;omega))) (Wa.trans QO) (J6.ext QO),by show T.length-(i+1)<T.length-i;omega⟩
   refine X3 (λk5=>?_) (λk5=>?_)
   ·have k5':y.k % 8=5:=by omega
    refine Qz (λn0=>?_) (λn0=>?_)
    ·simp only at n0;have n0:0<op.length:=by omega
     obtain⟨f,Xx,rfl⟩:∃f Xx,op=f::Xx:=by
      cases op with
      | nil=>exact Xn n0 (by decide)
      | cons f Xx=>exact⟨f,Xx,rfl⟩
     refine Qi (((f::Xx).length-1:Nat):Int) (by(try simp only);omega) (by(try simp only);omega) ?_;obtain⟨oa,Kf⟩:=iQw J6 (show 0<(f::Xx).length by omega);rw[Kf];refine index (j:=(f::Xx).length-1) (by(try simp only);omega) ?_;refine load (Gy (by rw[<-Kf];exact J6) (vr (Gz f rfl))) ?_;cases f with
     | false=>
      refine Q8 rfl ?_;refine Qo QG rfl ?_;refine normIf (m:=((y.i % 2:Nat):Int)) (by decide) (dD y.i 2) ?_;refine X3 (λi2=>?_) (λi2=>?_)
      ·refine XH (v':=.string (Qd (out++ [35,101,108,105,102,32]))) (by rw[so];show _+6<=maxLen;unfold maxLen;omega) (QC Value.string (ZV out [35,101,108,105,102,32])) ?_;refine Qo QG rfl ?_;refine normIf (m:=((y.i/2:Nat):Int)) (by decide) (by
        show IntKind.u8.wrap ((y.i/2:Nat):Int)=_;rw[rW];omega) ?_
       have aQd:y.i/2<=255:=by omega
       refine call (RN (ZJ.take k0) NA k0 nc (y.i/2) w5 (hN.ext Jm) aQc aQd) ?_;rintro _ w6 ⟨rfl,QO⟩;have ZT:=(s9 hk aQd).2.2;refine XH (v':=.string (Qd (out++ [35,101,108,105,102,32]++Yu (ZJ.take k0) (y.i/2)))) (by rw[Xe,Xe,Qq];show _+6+_<=maxLen;unfold maxLen;omega) (QC Value.string (ZV _ _)) ?_;refine XH (v':=.string (Qd (out++ [35,101,108,105,102,32]++Yu (ZJ.take k0) (y.i/2)++ [10]))) (by rw[Xe,Qq,Qq];show _+6+_+1<=maxLen;unfold maxLen;omega) (QC Value.string (ZV _ [10])) ?_;rw[<-Kf];refine Qi ((i+1:Nat):Int) (by show((i:Nat):Int)+1=_;omega) (by(try simp only);omega) ?_;exact⟨⟨i+1,out++ [35,101,108,105,102,32]++Yu (ZJ.take k0) (y.i/2)++ [10],false::Xx,A',c'⟩,rfl,hI.step2 hk WB hy (iQs k5' (by first | omega | (simp only;omega))) (by simp[Jz,pElif]) (Jm.trans QO) (J6.ext QO),by show T.length-(i+1)<T.length-i;omega⟩
      ·refine Jp (by first | omega | (simp only;omega)) ?_;refine Zh (by(try simp only);omega) ?_;refine Qi (((false::Xx).length-1:Nat):Int) (by(try simp only);omega) (by(try simp only);omega) ?_;refine index (j:=(false::Xx).length-1) (by(try simp only);omega) ?_;refine load (Gy (by rw[<-Kf];exact J6) (vr (Gz false rfl))) ?_;refine Q8 rfl ?_;refine XH (v':=.string (Qd (out++ [35,101,108,115,101,10]))) (by rw[so];show _+6<=maxLen;unfold maxLen;omega) (QC Value.string (ZV out [35,101,108,115,101,10])) ?_;refine Qi (((false::Xx).length-1:Nat):Int) (by(try simp only);omega) (by(try simp only);omega) ?_;refine index (j:=(false::Xx).length-1) (by(try simp only);omega) ?_;rw[Kf] at J6;refine bQH J6 (by(try simp only);omega) (λw6 Y4 aQe=>?_);have K2:=nQV Y4;have kQ5:Own w6 w.heap.size 4 1 (some oa) (true::Xx).length c' (YY (true::Xx).reverse):=by
        have e:(YY (false::Xx).reverse).set ((false::Xx).length-1) (Value.bool true)=YY (true::Xx).reverse:=by
         rw[<-OK];congr 1;rw[rI,rI,uN _ _ (by simp)];simp
        rw[e] at aQe;exact aQe
       refine Qi ((i+1:Nat):Int) (by show((i:Nat):Int)+1=_;omega) (by(try simp only);omega) ?_;exact⟨⟨i+1,out++ [35,101,108,115,101,10],true::Xx,some oa,c'⟩,rfl,hI.step2 hk WB hy (iQt k5' (by first | omega | (simp only;omega))) (by simp[Jz,V0]) (K2.ext Jm (λi hi=>by have:=J6.rows i hi;omega)) (kQ5),by show T.length-(i+1)<T.length-i;omega⟩
     | true=>
      refine Q3 rfl ?_;refine Jp (by first | omega | (simp only;omega)) ?_;refine Zh (by(try simp only);omega) ?_;refine Qi (((true::Xx).length-1:Nat):Int) (by(try simp only);omega) (by(try simp only);omega) ?_;refine index (j:=(true::Xx).length-1) (by(try simp only);omega) ?_;refine load (Gy (by rw[<-Kf];exact J6) (vr (Gz true rfl))) ?_;refine Q3 rfl ?_;refine Xy (by first | omega | (simp only;omega)) ?_;refine Xy (by first | omega | (simp only;omega)) ?_;rw[<-Kf];refine Qt QG rfl ?_;refine call (tj y w5 (oN.ext Wa)) ?_;rintro _ w6 ⟨rfl,QO⟩;have s2:=Xe (Kp y.k y.ws++ [10]);have s3:=(mJ y.k y.ws).2.2.2;refine XH (v':=.string (Qd (out++(Kp y.k y.ws++ [10])))) (by rw[so,s2,Qq];show _+(_+1)<=maxLen;unfold maxLen;omega) (QC Value.string (ZV _ _)) ?_;refine Qi ((i+1:Nat):Int) (by show((i:Nat):Int)+1=_;omega) (by(try simp only);omega) ?_;exact⟨⟨i+1,out++(Kp y.k y.ws++ [10]),true::Xx,A',c'⟩,rfl,hI.step hk WB hy (tk (λh=>by first | omega | (simp only;omega)) (λ_ h=>by cases h) (λh=>by first | omega | (simp only;omega)) (λh=>by first | omega | (simp only;omega))) (Wa.trans QO) (J6.ext QO),by show T.length-(i+1)<T.length-i;omega⟩
    ·simp only at n0;have Zm:op=[]:=Wg (by first | omega | (simp only;omega));subst Zm;refine Jp (by first | omega | (simp only;omega)) ?_;refine XD (by simp) ?_;refine Xy (by first | omega | (simp only;omega)) ?_;refine Xy (by first | omega | (simp only;omega)) ?_;refine Qt QG rfl ?_;refine call (tj y w5 (oN.ext Wa)) ?_;rintro _ w6 ⟨rfl,QO⟩;have s2:=Xe (Kp y.k y.ws++ [10]);have s3:=(mJ y.k y.ws).2.2.2;refine XH (v':=.string (Qd (out++(Kp y.k y.ws++ [10])))) (by rw[so,s2,Qq];show _+(_+1)<=maxLen;unfold maxLen;omega) (QC Value.string (ZV _ _)) ?_;refine Qi ((i+1:Nat):Int) (by show((i:Nat):Int)+1=_;omega) (by(try simp only);omega) ?_;exact⟨⟨i+1,out++(Kp y.k y.ws++ [10]),[],A',c'⟩,rfl,hI.step hk WB hy (tk (λh=>by first | omega | (simp only;omega)) (λ_ h=>by cases h) (λh=>by first | omega | (simp only;omega)) (λh=>by first | omega | (simp only;omega))) (Wa.trans QO) (J6.ext QO),by show T.length-(i+1)<T.length-i;omega⟩
   refine Xy (by first | omega | (simp only;omega)) ?_;refine X3 (λk6=>?_) (λk6=>?_)
   ·refine Qz (λn0=>?_) (λn0=>?_)
    ·simp only at n0;obtain⟨f,Xx,rfl⟩:∃f Xx,op=f::Xx:=by
      cases op with
      | nil=>exact Xn n0 (by decide)
      | cons f Xx=>exact⟨f,Xx,rfl⟩
     refine XH (v':=.string (Qd (out++ [35,101,110,100,10]))) (by rw[so];show _+5<=maxLen;unfold maxLen;omega) (QC Value.string (ZV out [35,101,110,100,10])) ?_;refine Qi ((Xx.length:Nat):Int) (by simp only[Q6];omega) (by simp only[Q6] at DE;omega) ?_;have Zz:=J6.sl.le;simp only[Q6] at Zz;refine iX (h:=Xx.length) Qa rfl rfl rfl rfl rfl rfl (by first | omega | (simp only;omega)) ?_;have aQf:=J6.take (k:=Xx.length) (by simp);have e2:(YY (f::Xx).reverse).take (Xx.length*1)=YY Xx.reverse:=by
      rw[YT,rI];unfold YY;rw[ep,DX (by simp),Jc (by simp)]
     rw[e2] at aQf;refine Qi ((i+1:Nat):Int) (by show((i:Nat):Int)+1=_;omega) (by(try simp only);omega) ?_;exact⟨⟨i+1,out++ [35,101,110,100,10],Xx,A',c'⟩,rfl,hI.step2 hk WB hy (iQu (by first | omega | (simp only;omega))) (by simp[Jz,ZK]) (Jm) (aQf),by show T.length-(i+1)<T.length-i;omega⟩
    ·simp only at n0;have Zm:op=[]:=Wg (by first | omega | (simp only;omega));subst Zm;refine Xy (by first | omega | (simp only;omega)) ?_;refine Qt QG rfl ?_;refine call (tj y w5 (oN.ext Wa)) ?_;rintro _ w6 ⟨rfl,QO⟩;have s2:=Xe (Kp y.k y.ws++ [10]);have s3:=(mJ y.k y.ws).2.2.2;refine XH (v':=.string (Qd (out++(Kp y.k y.ws++ [10])))) (by rw[so,s2,Qq];show _+(_+1)<=maxLen;unfold maxLen;omega) (QC Value.string (ZV _ _)) ?_;refine Qi ((i+1:Nat):Int) (by show((i:Nat):Int)+1=_;omega) (by(try simp only);omega) ?_;exact⟨⟨i+1,out++(Kp y.k y.ws++ [10]),[],A',c'⟩,rfl,hI.step hk WB hy (tk (λh=>by first | omega | (simp only;omega)) (λh=>by first | omega | (simp only;omega)) (λ_=>rfl) (λh=>by first | omega | (simp only;omega))) (Wa.trans QO) (J6.ext QO),by show T.length-(i+1)<T.length-i;omega⟩
   refine X3 (λk7=>?_) (λk7=>?_)
   ·rcases mQa with rfl | rfl
    ·have mQc:ic=false:=by rw[<-hic]<;>rfl
     refine Q3 (by decide) ?_;refine Qt QG rfl ?_;refine call (tj y w5 (oN.ext Wa)) ?_;rintro _ w6 ⟨rfl,QO⟩;have s2:=Xe (Kp y.k y.ws++ [10]);have s3:=(mJ y.k y.ws).2.2.2;refine XH (v':=.string (Qd (out++(Kp y.k y.ws++ [10])))) (by rw[so,s2,Qq];show _+(_+1)<=maxLen;unfold maxLen;omega) (QC Value.string (ZV _ _)) ?_;refine Qi ((i+1:Nat):Int) (by show((i:Nat):Int)+1=_;omega) (by(try simp only);omega) ?_;exact⟨⟨i+1,out++(Kp y.k y.ws++ [10]),op,A',c'⟩,rfl,hI.step hk WB hy (tk (λh=>by first | omega | (simp only;omega)) (λh=>by first | omega | (simp only;omega)) (λh=>by first | omega | (simp only;omega)) (λ_=>mQc)) (Wa.trans QO) (J6.ext QO),by show T.length-(i+1)<T.length-i;omega⟩
    ·have mQd:ic=true:=by rw[<-hic]<;>rfl
     refine Q8 (by decide) ?_;refine XH (v':=.string (Qd (out++ [35,105,110,99,108,117,100,101,32,34]))) (by rw[so];show _+10<=maxLen;unfold maxLen;omega) (QC Value.string (ZV out [35,105,110,99,108,117,100,101,32,34])) ?_;refine XH (v':=.string (Qd (out++ [35,105,110,99,108,117,100,101,32,34]++ [110]))) (by rw[Xe,Qq];show _+10+1<=maxLen;unfold maxLen;omega) (QC Value.string (ZV _ [110])) ?_;refine XH (v':=.string (Qd (out++ [35,105,110,99,108,117,100,101,32,34]++ [110]++ [34,10]))) (by rw[Xe,Qq,Qq];show _+10+1+2<=maxLen;unfold maxLen;omega) (QC Value.string (ZV _ [34,10])) ?_;refine Qi ((i+1:Nat):Int) (by show((i:Nat):Int)+1=_;omega) (by(try simp only);omega) ?_;exact⟨⟨i+1,out++ [35,105,110,99,108,117,100,101,32,34]++ [110]++ [34,10],op,A',c'⟩,rfl,hI.step2 hk WB hy (iQv (by first | omega | (simp only;omega)) mQd) (by simp[Jz,pInc,wh]) (Jm) (J6),by show T.length-(i+1)<T.length-i;omega⟩
   ·refine Qt QG rfl ?_;refine call (tj y w5 (oN.ext Wa)) ?_;rintro _ w6 ⟨rfl,QO⟩;have s2:=Xe (Kp y.k y.ws++ [10]);have s3:=(mJ y.k y.ws).2.2.2;refine XH (v':=.string (Qd (out++(Kp y.k y.ws++ [10])))) (by rw[so,s2,Qq];show _+(_+1)<=maxLen;unfold maxLen;omega) (QC Value.string (ZV _ _)) ?_;refine Qi ((i+1:Nat):Int) (by show((i:Nat):Int)+1=_;omega) (by(try simp only);omega) ?_;exact⟨⟨i+1,out++(Kp y.k y.ws++ [10]),op,A',c'⟩,rfl,hI.step hk WB hy (tk (λh=>by first | omega | (simp only;omega)) (λh=>by first | omega | (simp only;omega)) (λh=>by first | omega | (simp only;omega)) (λh=>by first | omega | (simp only;omega))) (Wa.trans QO) (J6.ext QO),by show T.length-(i+1)<T.length-i;omega⟩
  ·try simp only at c1
   try simp only at c2
   have hiT:i=T.length:=by omega
   have QJ:=hI.rs;simp only at QJ;rw[hiT,D3,YL,oV] at QJ;have QJ:out++Qp ((op.drop 0).map (λ_=>ZK))=tot:=QJ;refine loop Qa [15,9] (λs:Nat×List Nat=>[.int .i64 s.1,.string (Qd s.2)]) (λs w'=>w2=w'/\s.1<=op.length/\s.2.length<=4000+s.1*5/\s.2++Qp ((op.drop s.1).map (λ_=>ZK))=tot) (λs _=>op.length-s.1) (0,out) rfl ⟨rfl,Xr _,by show out.length<=_;omega,QJ⟩ ?_;rintro⟨j,o2⟩ _ ⟨rfl,hj,IV,Zp⟩;simp only at hj IV Zp;refine Qz (λd1=>?_) (λd1=>?_)
   ·simp only at d1;have W4:j<op.length:=by omega
    rw[Tg W4] at Zp;refine XH (v':=.string (Qd (o2++ [35,101,110,100,10]))) (by rw[Xe];show o2.length+5<=maxLen;unfold maxLen;omega) (QC Value.string (ZV o2 [35,101,110,100,10])) ?_;refine Qi ((j+1:Nat):Int) (by show((j:Nat):Int)+1=_;omega) (by(try simp only);omega) ?_;exact⟨(j+1,o2++ [35,101,110,100,10]),rfl,⟨rfl,W4,by show(o2++ [35,101,110,100,10]).length<=_;rw[Qq];show _+5<=4000+(j+1)*5;omega,by show(o2++ [35,101,110,100,10])++_=_;rw[<-Zp];simp[ZK]⟩,by show op.length-(j+1)<op.length-j;omega⟩
   ·simp only at d1;have W4:j=op.length:=by omega
    rw[W4,D3] at Zp;have Zp:o2++ []=tot:=Zp;rw[KW] at Zp;exact⟨by rw[Zp],Q5⟩
 ·try simp only at c1
  try simp only at c2
  have hiT:i=T.length:=by omega
  have QJ:=hI.rs;simp only at QJ;rw[hiT,D3,YL,oV] at QJ;have QJ:out++Qp ((op.drop 0).map (λ_=>ZK))=tot:=QJ;refine loop Qa [15,9] (λs:Nat×List Nat=>[.int .i64 s.1,.string (Qd s.2)]) (λs w'=>w2=w'/\s.1<=op.length/\s.2.length<=4000+s.1*5/\s.2++Qp ((op.drop s.1).map (λ_=>ZK))=tot) (λs _=>op.length-s.1) (0,out) rfl ⟨rfl,Xr _,by show out.length<=_;omega,QJ⟩ ?_;rintro⟨j,o2⟩ _ ⟨rfl,hj,IV,Zp⟩;simp only at hj IV Zp;refine Qz (λd1=>?_) (λd1=>?_)
  ·simp only at d1;have W4:j<op.length:=by omega
   rw[Tg W4] at Zp;refine XH (v':=.string (Qd (o2++ [35,101,110,100,10]))) (by rw[Xe];show o2.length+5<=maxLen;unfold maxLen;omega) (QC Value.string (ZV o2 [35,101,110,100,10])) ?_;refine Qi ((j+1:Nat):Int) (by show((j:Nat):Int)+1=_;omega) (by(try simp only);omega) ?_;exact⟨(j+1,o2++ [35,101,110,100,10]),rfl,⟨rfl,W4,by show(o2++ [35,101,110,100,10]).length<=_;rw[Qq];show _+5<=4000+(j+1)*5;omega,by show(o2++ [35,101,110,100,10])++_=_;rw[<-Zp];simp[ZK]⟩,by show op.length-(j+1)<op.length-j;omega⟩
  ·simp only at d1;have W4:j=op.length:=by omega
   rw[W4,D3] at Zp;have Zp:o2++ []=tot:=Zp;rw[KW] at Zp;exact⟨by rw[Zp],Q5⟩
theorem iQx (k0:Nat)(hk:k0<=4)(NA:Option Addr)(nc:Nat)(A B:Option Addr)(n c m d:Nat)(main bB:List Lx)(w:World)(hN:Sl w 1 NA k0 nc (XB (ZJ.take k0)))(hL:SlS Lx.cells 3 w A n c main)(X0:∀x∈main,LxOk w x)(hL':SlS Lx.cells 3 w B m d bB)(mQe:∀x∈bB,LxOk w x):
  Fn Tryz.prog 40 [.slice NA k0 nc,.slice A n c,.slice B m d] w (λv w'=>∃F,v= .slice F 2 2/\Ext w w'/\SlS cL 2 w' F 2 2 (F0 k0 main bB)):=by
 refine QF (c:={c40 with cuts:=[]}) Qa Tryz.func40 rfl rfl rfl ?_;refine call (Th k0 hk NA nc A n c main 12 [110] w hN hL X0 (by decide) (.inr rfl)) ?_;rintro _ w1 ⟨rfl,Qe⟩;refine call (Th k0 hk NA nc B m d bB 5 [] w1 (hN.ext Qe) (hL'.ext Qe) (λx hx=>(mQe x hx).ext Qe) (by decide) (.inl rfl)) ?_;rintro _ w2 ⟨rfl,Qg⟩;refine Xh Qa ((F0 k0 main bB).map cL) rfl rfl rfl rfl rfl ⟨rfl,rfl,rfl,rfl,⟨⟩⟩ rfl (λcs h=>by simp only[X7] at h;obtain⟨s,_,rfl⟩:=h;rfl) rfl (by decide) (by decide) ?_;intro w3 Qj JC Qu;exact⟨_,rfl,(Qe.trans Qg).trans Qj,Sl.own (sz:=2) (n:=2) Qu (QB _) (by decide) (by simp[F0,cL]),rfl⟩
end
section
structure QP where
 r:Nat
 NA:Option Addr
 nn:Nat
 nc:Nat
 nm:List (List Nat)
 FA:Option Addr
 nf:Nat
 cf:Nat
 fs:List (List Nat×List Nat)
structure QM where
 OA:Option Addr
 oc:Nat
 DA:Option Addr
 dc:Nat
 L:List DV
 T:Nat->Prop
structure QV where
 d:Nat
 rd:List Nat
 g:Gs
 b:Pl
abbrev qdC (p:QP)(m:QM)(v:QV):List Value:=[.slice p.NA p.nn p.nc,.slice p.FA p.nf p.cf,.int .i64 v.d,.slice m.DA v.rd.length m.dc,.string (Qd v.g.tx),.slice m.OA v.g.sg.length m.oc,.bool v.g.fr,.int .i64 v.b.e,.int .i64 v.b.f,.int .i64 v.b.l]
def QS (p:QP)(m:QM):Nat->Prop:=λk=>k=p.r∨Qk m.OA k∨Qk m.DA k
def TQ (p:QP)(m:QM):Nat->Prop:=λk=>QS p m k∨m.T k
structure Qr (w0 w:World) (base:Nat) (p:QP) (m:QM) (v:QV):Prop where
 e0:Ext w0 w
 lor:w0.heap.size<=p.r
 rb:p.r<base
 top:base<=w.heap.size
 blk:Blk w p.r 201 (qdC p m v)
 rdo:Own w base 3 1 m.DA v.rd.length m.dc (ixV v.rd.reverse)
 out:Own w base 48 6 m.OA v.g.sg.length m.oc (cM v.g.sg m.L)
 len:m.L.length=v.g.sg.length
 dgs:∀(j:Nat) (s:Sg) (x:DV),v.g.sg[j]? =some s->m.L[j]? =some x->DgO w (TQ p m) p.nm.length x s.o
 tl:v.g.tx.length<=1048576
 sl:v.g.sg.length<=65536
 b8:∀x∈v.g.tx,x<256
 nf:v.g.fr=false->v.g.sg≠ []∨v.rd=[]
 tt:∀i,m.T i->i<w.heap.size
 dl:v.d<=65
 rl:v.rd.length<=65+65
section
variable {w0 w w':World} {base:Nat} {p:QP} {m:QM} {v:QV}
theorem Qr.ext (h:Qr w0 w base p m v)(k:Ext w w'):Qr w0 w' base p m v:=
 ⟨h.e0.trans k,h.lor,h.rb,Zc h.top k.size,h.blk.ext k,h.rdo.ext k,h.out.ext k,h.len,λj s x h1 h2=>(h.dgs j s x h1 h2).ext k,h.tl,h.sl,h.b8,h.nf,λi hi=>VT (h.tt i hi) k.size,h.dl,h.rl⟩
end
theorem GA {w:World}{g t:Nat}{cs:List Value}{j i:Nat}{v:Value}{K:Value->Prop}(h:Blk w g t cs)(hv:cs[j+i]? =some v)(k:K v):gF w (((⟨g,0,none⟩:Addr).add j).add i) K:=by
 rw[add_add];exact Qo h hv k
section
variable {w0:World} {base:Nat} {p:QP} {m:QM} {v:QV}
end
end
end Go.Proofs.YtjabbbcdgmlojaaGreatDoor
