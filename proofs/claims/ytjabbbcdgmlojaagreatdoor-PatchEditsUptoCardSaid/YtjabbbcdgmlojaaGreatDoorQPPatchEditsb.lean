/-
  What PPatchEdits rests on, part 2 (wip/shake.py).
  Conditions: none.
-/
import Derived.Test.YtjabbbcdgmlojaaGreatDoorQPPatchEditsa
set_option linter.all false
set_option linter.deprecated false
set_option maxHeartbeats 12800000
namespace Go.Proofs.YtjabbbcdgmlojaaGreatDoor
open Go Go.RowKit
section
section
theorem Xv {C:World->Prop}{p:Addr}{n:Nat}{vs:List Value}{K:List Value->Prop}(hl:vs.length=n)(h:∀w,C w->∀j v,vs[j]? =some v->w.cell? (p.add j)=some v)(k:K vs):ui C p n K:=by unfold ui;exact⟨vs,hl,h,k⟩
def om (f:List Fz):List Value:=f.flatMap Fz.cells
theorem Sc (f:List Fz)(x:Fz):om (f++ [x])=om f++x.cells:=by simp[om]
structure Rd (w:World) (base r:Nat) (A:Option Addr) (c:Nat) (mp:Value) (p:Ps):Prop where
 blk:Blk w r 222 [mp,.string (Qd p.r),.slice A p.f.length c,.bool p.u]
 own:Own w base 280 4 A p.f.length c (om p.f)
 lt:r<base
 top:base<=w.heap.size
 b8:∀x∈p.r,x<256
 lim:p.f.length+p.r.length<=1000000000000
theorem Rd.ext {w w':World}{base r:Nat}{A:Option Addr}{c:Nat}{mp:Value}{p:Ps}(h:Rd w base r A c mp p)(k:Ext w w'):Rd w' base r A c mp p:=
 ⟨h.blk.ext k,h.own.ext k,h.lt,X3 h.top k.size,h.b8,h.lim⟩
def RdS (r:Nat)(A:Option Addr):Nat->Prop:=λk=>k=r∨Qk A k
def RdTo (w:World)(base r:Nat)(A:Option Addr)(mp:Value)(p:Ps)(w':World):Prop:=∃A' c',Rd w' base r A' c' mp p/\Mod (RdS r A) w w'/\Moved w A A'
theorem RdTo.step {w w1 w2:World}{base r:Nat}{A A1:Option Addr}{mp:Value}{p:Ps}(h:RdTo w1 base r A1 mp p w2)(hm:Mod (RdS r A) w w1)(hv:Moved w A A1):RdTo w base r A mp p w2:=by
 obtain⟨A2,c2,h2,XW,Kr⟩:=h;refine⟨A2,c2,h2,hm.trans XW (λi hi=>?_),hv.trans Kr hm.size⟩;rcases hi with rfl | hi
 ·exact .inl (.inl rfl)
 ·rcases hv.rows i hi with h | h
  ·exact .inl (.inr h)
  ·exact .inr h
theorem Rd.nrow {w:World}{base r:Nat}{A:Option Addr}{c:Nat}{mp:Value}{p:Ps}(h:Rd w base r A c mp p):¬Qk A r:=λhr=>by
 have:=(h.own.rows r hr).1;have:=h.lt;omega
theorem ux (l:List Nat):(ZT l).length<=l.length:=(List.dropWhile_suffix _).sublist.length_le
theorem gQe {l:List Nat}(h:∀x∈l,x<256):∀x∈ZT l,x<256:=λx hx=>h x ((List.dropWhile_suffix _).subset hx)
theorem xG (sym:List Nat)(p:Ps):Ky sym p=(sym.isPrefixOf (ZT p.r),{p with r:=if sym.isPrefixOf (ZT p.r)then(ZT p.r).drop sym.length else ZT p.r}):=by
 unfold Ky;cases sym.isPrefixOf (ZT p.r)<;>rfl
theorem uy (base r:Nat)(A:Option Addr)(c:Nat)(mp:Value)(p:Ps)(sym:List Nat)(w:World)(h:Rd w base r A c mp p)(hs:∀x∈sym,x<256):
  Fn Tryz.prog 142 [.pointer (some ⟨r,0,none⟩),.string (Qd sym)] w (λv w'=>v= .bool (Ky sym p).1/\Rd w' base r A c mp (Ky sym p).2/\Mod (·=r) w w'):=by
 have hl:=h.lim;have Wd:=ux p.r;have fe:=gQe h.b8;refine QJ (c:=eQ4) Qa Tryz.func142 rfl rfl rfl ?_;refine Qo h.blk rfl ?_;refine call (fQ5 p.r w h.b8 (by omega)) ?_;rintro v w1 ⟨rfl,Qe⟩;refine XV (h.blk.ext Qe) (by simp) (λw2 XW Qy=>?_);refine Qo Qy rfl ?_;refine call (fQ0 (ZT p.r) sym w2 fe hs) ?_;rintro v w3 ⟨rfl,rfl⟩;have hM:∀w3,Mod (·=r) w2 w3->Mod (·=r) w w3:=λw3 XI=>((Mod.of_ext (·=r) Qe).trans XW (λi hi=>.inl hi)).trans XI (λi hi=>.inl hi)
 rw[xG];unfold xF;cases hp:sym.isPrefixOf (ZT p.r)with
 | true=>
  refine XV Qy (by simp) (λw3 XI Qu=>?_);have ZW:=hM w3 XI;have QZ:((ZT p.r).drop sym.length).length<=p.r.length:=by rw[Y1];omega
  exact⟨rfl,⟨Qu,h.own.mod ZW (λi hi e=>by subst e;exact h.nrow hi),h.lt,X3 h.top ZW.size,λx hx=>fe x (WT hx),by show p.f.length+((ZT p.r).drop sym.length).length<=_;omega⟩,ZW⟩
 | false=>
  refine XV Qy (by simp) (λw3 XI Qu=>?_);have ZW:=hM w3 XI;exact⟨rfl,⟨Qu,h.own.mod ZW (λi hi e=>by subst e;exact h.nrow hi),h.lt,X3 h.top ZW.size,fe,by show p.f.length+(ZT p.r).length<=_;omega⟩,ZW⟩
theorem ru (base r:Nat)(A:Option Addr)(c:Nat)(mp:Value)(p:Ps)(x:Fz)(w:World)(h:Rd w base r A c mp p)(hl:p.f.length+p.r.length+1<=1000000000000):
  Fn Tryz.prog 226 [.pointer (some ⟨r,0,none⟩),.agg x.cells.toArray] w (λv w'=>v= .int .i64 (p.f.length:Nat)/\RdTo w base r A mp (Ys x p).2 w'):=by
 refine QJ (c:=fQT) Qa Tryz.func226 rfl rfl rfl ?_;refine new (λw1 Qe Q6 Qh=>?_);have h1:=h.ext Qe;have Yo:=h.own.rows;have hC0:Mod (Qk A) w1 w1.drew:=Mod.of_ext _ (Ext.drew w1);refine XR Qa (Mod (Qk A) w1) 8 [(true,0),(true,1),(true,2),(true,3),(true,4),(true,5),(false,6),(false,7)] (by kernel_rfl) hC0 ?_;refine QN (v:=.slice A p.f.length c) (λw' Qb=>by rw[(h1.blk.mod Qb h.nrow).cell];rfl) ?_;have LD:¬Qk A w.heap.size:=λhr=>by have:=(Yo _ hr).2;omega
 refine Xv (vs:=x.cells) rfl (λw' Qb j v hj=>by rw[(Qh.mod Qb LD).cell];exact hj) ?_;refine Xg Qa [x.cells] rfl rfl rfl rfl rfl ⟨rfl,rfl,⟨⟩⟩ rfl (λcs h=>by simp only[QO] at h;subst h;rfl) rfl (by decide) (by decide) ?_;intro w2 Qg Ze Qy;have XB:=(Ext.drew w1).trans Qg;have h2:=h1.ext XB;refine⟨Mod.of_ext _ XB,?_⟩;have mI:Sl w2 4 (some ⟨w1.drew.heap.size,0,none⟩) 1 1 x.cells:=Sl.own (sz:=4) (n:=1) Qy (QB _) (by decide) (by simp[Fz.cells]);refine Je Qa rfl rfl rfl rfl rfl (by decide) rfl rfl ⟨_,rfl⟩ rfl rfl h2.own mI (by intro u hu;simp[Fz.cells] at hu;rcases hu with rfl | rfl | rfl | rfl<;>rfl) (by unfold maxLen;omega) (by show _*32<=_;omega) h2.top ?_;intro A' c' w3 XI ph DB;have KA:Mod (Qk A) w1 w3:=(Mod.of_ext (Qk A) XB).trans XI (λi hi=>.inl hi);refine⟨KA,?_⟩;have Qu:=h1.blk.mod KA h.nrow;refine XV Qu (by simp) (λw4 Zf QR=>?_);refine Qo QR rfl ?_;have hz:=XB.size;have LE:∀k,Qk A' k->base<=k:=λk hk=>(ph.rows k hk).1
 have K6:Mod (RdS r A) w w4:=((Mod.of_ext (RdS r A) Qe).trans KA (λi hi=>.inl (.inr hi))).trans Zf (λi hi=>.inl (.inl hi));refine Qj ((p.f.length:Nat):Int) (by omega) (by omega) ?_;refine⟨rfl,A',c',⟨?_,?_,h.lt,X3 h.top K6.size,h.b8,?_⟩,K6,DB.back (X3 Qe.size hz)⟩
 ·have e:(Ys x p).2.f.length=p.f.length+1:=by simp[Ys]
  rw[e];exact QR
 ·have e:(Ys x p).2.f.length=p.f.length+1:=by simp[Ys]
  rw[e,show om (Ys x p).2.f=om p.f++x.cells from Sc _ _];exact ph.mod Zf (λk hk e=>by have:=LE k hk;have:=h.lt;omega)
 ·have e:(Ys x p).2.f.length=p.f.length+1:=by simp[Ys]
  rw[e];show p.f.length+1+p.r.length<=_;omega
end
section
theorem rv {c:Cx}{o:Oper}{S:Env}{w:World}{K:Env->World->Prop}{Q:Zs}{t:Nat}{v:Value}{x:Operand}(ho:o.op= .panic x)(hx:S.ev x=some (.iface t v))
  (k:Q (.panic [{v:=.iface t v,recovered:=false}]) S w):Zh c o S w K Q:=by
 unfold Zh;intro a hf;have e1:=hf.ev hx;unfold Oper.wp;have:(execOp a.eval o).run c.g.P w= .halt (.panic (.iface t v)) w:=by
  simp only[execOp,ho,e1];simp[Instr.panic,goPanic]
 rw[this];exact⟨S,hf,k⟩
def gQf:List PanicEntry:=[{v:=.iface 34 (.int .i64 31),recovered:=false}]
def PanTo (w:World)(r:Nat)(A:Option Addr)(ch:List PanicEntry)(w':World):Prop:=ch=gQf/\Mod (RdS r A) w w'
theorem RdS.trans {w w1 w2:World}{r:Nat}{A A1:Option Addr}(hm:Mod (RdS r A) w w1)(hv:Moved w A A1)(h:Mod (RdS r A1) w1 w2):Mod (RdS r A) w w2:=
 hm.trans h (λi hi=>by
  rcases hi with rfl | hi
  ·exact .inl (.inl rfl)
  ·rcases hv.rows i hi with h | h
   ·exact .inl (.inr h)
   ·exact .inr h)
theorem PanTo.step {w w1 w2:World}{r:Nat}{A A1:Option Addr}{ch:List PanicEntry}(h:PanTo w1 r A1 ch w2)(hm:Mod (RdS r A) w w1)(hv:Moved w A A1):PanTo w r A ch w2:=⟨h.1,RdS.trans hm hv h.2⟩
def uz (opd:Ps->Option (Nat×Ps)):Prop:=∀p a p',opd p=some (a,p')->p'.f.length+p'.r.length<=p.f.length+p.r.length/\p'.r.length<p.r.length
theorem oq (sym:List Nat)(p p1:Ps)(b:Bool)(h:Ky sym p=(b,p1)):p1.f=p.f/\p1.u=p.u/\p1.r.length<=p.r.length/\(b=true->p1.r.length+sym.length<=p.r.length):=by
 rw[xG] at h;have ht:=ux p.r;cases h;refine⟨rfl,rfl,?_,λhb=>?_⟩
 ·show List.length (if _ then _ else _)<=_;split
  ·rw[Y1];omega
  ·exact ht
 ·show List.length (if _ then _ else _)+_<=_;rw[Qf hb,Y1];have:=(dQH.1 hb).length_le;omega
theorem Sd {sym:List Nat}{op:Int}{opd:Ps->Option (Nat×Ps)}(hs:0<sym.length)(hl:uz opd):∀(m a:Nat)(p:Ps)(b:Nat)(p':Ps),gT sym op opd m a p=some (b,p')->p'.f.length+p'.r.length<=p.f.length+p.r.length/\p'.r.length<=p.r.length
 | 0,a,p,b,p',h=>by cases h
 | m+1,a,p,b,p',h=>by
  unfold gT at h;cases hk:Ky sym p with
  | mk t p1=>
   obtain⟨h1,h2,h3,h4⟩:=oq sym p p1 t hk;rw[hk] at h;cases t with
   | false=>cases h;rw[h1];omega
   | true=>
    simp only at h;cases ho:opd p1 with
    | none=>rw[ho] at h;cases h
    | some q=>
     obtain⟨d,p2⟩:=q;rw[ho] at h;simp only at h;obtain⟨h5,h6⟩:=hl p1 d p2 ho;have:=Sd hs hl m _ _ b p' h;simp only[Qq,Q2,Jp] at this;have:=h4 rfl;rw[h1] at h5;omega
theorem GY {sym:List Nat}{op:Int}{opd:Ps->Option (Nat×Ps)}(hs:0<sym.length)(hl:uz opd):uz (VZ sym op opd):=by
 intro p b p' h;unfold VZ at h;cases ho:opd p with
 | none=>rw[ho] at h;cases h
 | some q=>
  obtain⟨a,p1⟩:=q;rw[ho] at h;simp only at h;have h1:=hl p a p1 ho;have h2:=Sd hs hl _ _ _ b p' h;omega
structure OpdC (L base r:Nat) (mp:Value) (fid:Nat) (args:List Value) (G:World->Option Addr->Prop) (opd:Ps->Option (Nat×Ps)):Prop where
 run:∀w A c p,Rd w base r A c mp p->G w A->p.r.length<L->FnP Tryz.prog fid args w (λv w'=>∃(a:Nat) (p':Ps),opd p=some (a,p')/\v= .int .i64 (a:Nat)/\RdTo w base r A mp p' w') (λch w'=>opd p=none/\PanTo w r A ch w')
 stay:∀w w' A A',G w A->Mod (RdS r A) w w'->Moved w A A'->G w' A'
 lim:uz opd
structure Est where
 a:Nat
 p:Ps
 A:Option Addr
 c:Nat
theorem gQg (L base r:Nat)(A:Option Addr)(c:Nat)(mp:Value)(p:Ps)(sym:List Nat)(op:Int)(G:World->Option Addr->Prop)(opd:Ps->Option (Nat×Ps))(w:World)
  (h:Rd w base r A c mp p) (hG:G w A) (hs:∀x∈sym,x<256) (DC:0<sym.length) (hL:p.r.length<L) (H:OpdC L base r mp 198 [.pointer (some ⟨r,0,none⟩)] G opd):
  FnP Tryz.prog 196 [.pointer (some ⟨r,0,none⟩),.string (Qd sym),.int .i64 op,.func (.func 198) #[.pointer (some ⟨r,0,none⟩)] #[]] w
   (λv w'=>∃(a:Nat) (p':Ps),VZ sym op opd p=some (a,p')/\v= .int .i64 (a:Nat)/\RdTo w base r A mp p' w') (λch w'=>VZ sym op opd p=none/\PanTo w r A ch w'):=by
 refine bQ (c:={RR with cuts:=[]}) Qa Tryz.func196 rfl rfl rfl ?_;refine XU (H.run w A c p h hG hL) ?_ ?_
 rotate_left
 ·rintro ch w1 ⟨ho,hp⟩;refine⟨?_,hp⟩;unfold VZ;rw[ho]
 rintro v w1 ⟨a,p1,ho,rfl,A1,c1,h1,ZE,mK⟩;obtain⟨XL,Ki⟩:=H.lim p a p1 ho;have JH:VZ sym op opd p=gT sym op opd (p1.r.length+1) a p1:=by unfold VZ;rw[ho]
 refine loop Qa [9] (λs:Est=>[.int .i64 s.a]) (λs w'=>Rd w' base r s.A s.c mp s.p/\G w' s.A/\s.p.r.length<L/\Mod (RdS r A) w w'/\Moved w A s.A/\∃m,s.p.r.length<m/\gT sym op opd m s.a s.p=VZ sym op opd p) (λs _=>s.p.r.length) ⟨a,p1,A1,c1⟩ rfl ⟨h1,H.stay w w1 A A1 hG ZE mK,by show p1.r.length<L;omega,ZE,mK,_,fB _,JH.symm⟩ ?_;rintro⟨d,q,A2,c2⟩ w2 ⟨h2,pi,LF,XW,Kr,m,OC,ZW⟩;simp only at h2 pi LF XW Kr OC ZW;refine call (uy base r A2 c2 mp q sym w2 h2 hs) ?_;rintro v w3 ⟨rfl,h3,XI⟩;cases m with
 | zero=>omega
 | succ m=>
 unfold gT at ZW;have yQ:Mod (RdS r A2) w2 w3:=XI.mono (λi hi=>.inl (.inl hi));have ff:=RdS.trans XW Kr yQ;cases hk:Ky sym q with
 | mk t q1=>
  obtain⟨k1,k2,k3,k4⟩:=oq sym q q1 t hk;rw[hk] at h3 ZW;simp only at h3;cases t with
  | false=>
   refine Q9 rfl ?_;exact⟨d,q1,ZW.symm,rfl,A2,c2,h3,ff,Kr⟩
  | true=>
   refine Xd rfl ?_;simp only at ZW;have k5:=k4 rfl;have r7:=H.stay w2 w3 A2 A2 pi yQ (Moved.refl _ _);refine XU (H.run w3 A2 c2 q1 h3 r7 (by omega)) ?_ ?_
   rotate_left
   ·rintro ch w4 ⟨im,hp⟩;rw[im] at ZW;exact⟨ZW.symm,hp.step ff Kr⟩
   rintro v w4 ⟨b,q2,im,rfl,A4,c4,h4,Zf,pj⟩;obtain⟨l1,l2⟩:=H.lim q1 b q2 im;rw[im] at ZW;simp only at ZW;have hlq:=h2.lim;rw[k1] at l1;have yR:=H.stay w3 w4 A2 A4 r7 Zf pj;have cm:=RdS.trans ff Kr Zf;have yS:=Kr.trans pj ff.size;refine call (ru base r A4 c4 mp q2 ⟨op,0,d,b⟩ w4 h4 (by omega)) ?_;rintro v w5 ⟨rfl,A5,c5,h5,XZ,YD⟩;refine⟨⟨q2.f.length,(Ys ⟨op,0,d,b⟩ q2).2,A5,c5⟩,rfl,⟨h5,H.stay w4 w5 A4 A5 yR XZ YD,?_,RdS.trans cm yS XZ,yS.trans YD cm.size,m,?_,ZW⟩,?_⟩
   ·show q2.r.length<L;omega
   ·show q2.r.length<m;omega
   ·show q2.r.length<q.r.length;omega
theorem gQh (L base r:Nat)(A:Option Addr)(c:Nat)(mp:Value)(p:Ps)(sym:List Nat)(op:Int)(x:Nat)(G:World->Option Addr->Prop)(opd:Ps->Option (Nat×Ps))(w:World)
  (h:Rd w base r A c mp p) (hG:G w A) (hs:∀x∈sym,x<256) (DC:0<sym.length) (hL:p.r.length<L) (H:OpdC L base r mp 197 [.pointer (some ⟨x,0,none⟩)] G opd):
  FnP Tryz.prog 196 [.pointer (some ⟨r,0,none⟩),.string (Qd sym),.int .i64 op,.func (.func 197) #[] #[.pointer (some ⟨x,0,none⟩)]] w
   (λv w'=>∃(a:Nat) (p':Ps),VZ sym op opd p=some (a,p')/\v= .int .i64 (a:Nat)/\RdTo w base r A mp p' w') (λch w'=>VZ sym op opd p=none/\PanTo w r A ch w'):=by
 refine bQ (c:={RR with cuts:=[]}) Qa Tryz.func196 rfl rfl rfl ?_;refine XU (H.run w A c p h hG hL) ?_ ?_
 rotate_left
 ·rintro ch w1 ⟨ho,hp⟩;refine⟨?_,hp⟩;unfold VZ;rw[ho]
 rintro v w1 ⟨a,p1,ho,rfl,A1,c1,h1,ZE,mK⟩;obtain⟨XL,Ki⟩:=H.lim p a p1 ho;have JH:VZ sym op opd p=gT sym op opd (p1.r.length+1) a p1:=by unfold VZ;rw[ho]
 refine loop Qa [9] (λs:Est=>[.int .i64 s.a]) (λs w'=>Rd w' base r s.A s.c mp s.p/\G w' s.A/\s.p.r.length<L/\Mod (RdS r A) w w'/\Moved w A s.A/\∃m,s.p.r.length<m/\gT sym op opd m s.a s.p=VZ sym op opd p) (λs _=>s.p.r.length) ⟨a,p1,A1,c1⟩ rfl ⟨h1,H.stay w w1 A A1 hG ZE mK,by show p1.r.length<L;omega,ZE,mK,_,fB _,JH.symm⟩ ?_;rintro⟨d,q,A2,c2⟩ w2 ⟨h2,pi,LF,XW,Kr,m,OC,ZW⟩;simp only at h2 pi LF XW Kr OC ZW;refine call (uy base r A2 c2 mp q sym w2 h2 hs) ?_;rintro v w3 ⟨rfl,h3,XI⟩;cases m with
 | zero=>omega
 | succ m=>
 unfold gT at ZW;have yQ:Mod (RdS r A2) w2 w3:=XI.mono (λi hi=>.inl (.inl hi));have ff:=RdS.trans XW Kr yQ;cases hk:Ky sym q with
 | mk t q1=>
  obtain⟨k1,k2,k3,k4⟩:=oq sym q q1 t hk;rw[hk] at h3 ZW;simp only at h3;cases t with
  | false=>
   refine Q9 rfl ?_;exact⟨d,q1,ZW.symm,rfl,A2,c2,h3,ff,Kr⟩
  | true=>
   refine Xd rfl ?_;simp only at ZW;have k5:=k4 rfl;have r7:=H.stay w2 w3 A2 A2 pi yQ (Moved.refl _ _);refine XU (H.run w3 A2 c2 q1 h3 r7 (by omega)) ?_ ?_
   rotate_left
   ·rintro ch w4 ⟨im,hp⟩;rw[im] at ZW;exact⟨ZW.symm,hp.step ff Kr⟩
   rintro v w4 ⟨b,q2,im,rfl,A4,c4,h4,Zf,pj⟩;obtain⟨l1,l2⟩:=H.lim q1 b q2 im;rw[im] at ZW;simp only at ZW;have hlq:=h2.lim;rw[k1] at l1;have yR:=H.stay w3 w4 A2 A4 r7 Zf pj;have cm:=RdS.trans ff Kr Zf;have yS:=Kr.trans pj ff.size;refine call (ru base r A4 c4 mp q2 ⟨op,0,d,b⟩ w4 h4 (by omega)) ?_;rintro v w5 ⟨rfl,A5,c5,h5,XZ,YD⟩;refine⟨⟨q2.f.length,(Ys ⟨op,0,d,b⟩ q2).2,A5,c5⟩,rfl,⟨h5,H.stay w4 w5 A4 A5 yR XZ YD,?_,RdS.trans cm yS XZ,yS.trans YD cm.size,m,?_,ZW⟩,?_⟩
   ·show q2.r.length<L;omega
   ·show q2.r.length<m;omega
   ·show q2.r.length<q.r.length;omega
end
section
theorem Xy {p:Prop}{v v':Value}{K:Value->Prop}(hp:p)(h:v=v')(k:K v'):j6 p v K:=by unfold j6;exact⟨hp,by rw[h];exact k⟩
theorem MapAt.mod {α:Type}{kv:α->Value}{S:Nat->Prop}{w w':World}{r:Nat}{m:List (α×Value)}(h:MapAt kv w r m)(k:Mod S w w')(hn:¬S r):MapAt kv w' r m:=by
 obtain⟨bs,ck,hl,hb⟩:=h.ex;exact⟨bs,ck,hl,(k.block r (gF.1 hb).1 hn).trans hb⟩
theorem xH {α:Type} [DecidableEq α]{kv:α->Value}{c:Cx}{o:Oper}{S:Env}{w:World}{K:Env->World->Prop}{Q:Zs}{t ke e:Nat}{r rk re:TyRow}{x y:Operand}{q:Nat}{m:List (α×Value)}{a:α}{v:Value}{b:Bool}(hg:c.g.Ok)
  (ho:o.op= .lookup t x y true) (hr:Q0 c.g.tys t=some r) (hd:r.d= .map ke e) (cv:Q0 c.g.tys ke=some rk) (Zc:Q0 c.g.tys e=some re) (hk:KeyV rk.d kv)
  (hx:S.ev x=some (.map (some q))) (hy:S.ev y=some (kv a)) (hm:MapAt kv w q m) (hv:(XG a m).getD re.z=v) (hb:(XG a m).isSome=b) (k:Xf c S o.dst (.v (.tuple #[v,.bool b])) (λS=>K S w)):Zh c o S w K Q:=by
 subst hv;subst hb;exact eQw hg ho hr hd cv Zc hk hx hy hm k
section
variable (ix:List Nat->Option Nat) (n:Nat)
theorem GZ {p p1:Ps}(h:Ky [33] p=(true,p1)):dG ix (n+1) p=match dG ix n p1 with
  | none=>none
  | some (a,p2)=>some (Ys ⟨3,0,a,0⟩ p2):=by rw[dG,h]<;>rfl
theorem G0 {p p1 p2:Ps}(h:Ky [33] p=(false,p1))(h2:Ky [40] p1=(true,p2)):dG ix (n+1) p=match iS ix n p2 with
  | none=>none
  | some (a,p3)=>match Ky [41] p3 with
   | (true,p4)=>some (a,p4)
   | (false,_)=>none:=by rw[dG,h];simp only;rw[h2]<;>rfl
theorem G3 {p p1 p2:Ps}(h:Ky [33] p=(false,p1))(h2:Ky [40] p1=(false,p2)):dG ix (n+1) p=if VY p2.r=0 then none else
   if p2.r.take (VY p2.r)=WY then some (Ys ⟨1,0,0,0⟩ {p2 with r:=p2.r.drop (VY p2.r)})else if p2.r.take (VY p2.r)=dH then some (Ys ⟨0,0,0,0⟩ {p2 with r:=p2.r.drop (VY p2.r)})else
    some (Ys ⟨2,((ix (p2.r.take (VY p2.r))).getD 0:Nat),0,0⟩ {p2 with r:=p2.r.drop (VY p2.r),u:=p2.u||(ix (p2.r.take (VY p2.r))).isNone}):=by
 rw[dG,h];simp only;rw[h2]<;>rfl
end
theorem G4 (ix:List Nat->Option Nat):∀n,uz (dG ix n)
 | 0=>λp a p' h=>by cases h
 | n+1=>λp a p' h=>by
  have ih:=G4 ix n;cases hk:Ky [33] p with
  | mk t p1=>
   obtain⟨k1,_,k3,k4⟩:=oq _ p p1 t hk;cases t with
   | true=>
    rw[GZ ix n hk] at h;cases ho:dG ix n p1 with
    | none=>rw[ho] at h;cases h
    | some q=>
     obtain⟨d,p2⟩:=q;rw[ho] at h;cases h;have:=ih p1 d p2 ho;have:=k4 rfl;rw[k1] at*;simp only[Qq,Q2,Jp] at*;omega
   | false=>
    cases Yj:Ky [40] p1 with
    | mk t2 p2=>
     obtain⟨j1,_,j3,j4⟩:=oq _ p1 p2 t2 Yj;cases t2 with
     | true=>
      rw[G0 ix n hk Yj] at h;cases ho:iS ix n p2 with
      | none=>rw[ho] at h;cases h
      | some q=>
       obtain⟨d,p3⟩:=q;rw[ho] at h;simp only at h;have hw:uz (iS ix n):=GY (by decide) (GY (by decide) ih);have:=hw p2 d p3 ho;cases kL:Ky [41] p3 with
       | mk t3 p4=>
        obtain⟨i1,_,i3,i4⟩:=oq _ p3 p4 t3 kL;rw[kL] at h;cases t3 with
        | false=>cases h
        | true=>
         cases h;have:=j4 rfl;have:=i4 rfl;rw[i1];rw[j1,k1] at*;omega
     | false=>
      rw[G3 ix n hk Yj] at h;split at h
      ·cases h
      rename_i hn;have ZF:=R7 p2.r;have key:(p2.r.drop (VY p2.r)).length+1<=p2.r.length:=by rw[Y1];omega
      rw[j1,k1] at*;split at h
      ·cases h;simp only[Qq,Q2,Jp];rw[j1,k1];omega
      split at h
      ·cases h;simp only[Qq,Q2,Jp];rw[j1,k1];omega
      ·cases h;simp only[Qq,Q2,Jp];rw[j1,k1];omega
def GM (r q:Nat)(m:List (ByteArray×Value))(w:World)(A:Option Addr):Prop:=MapAt Yt w q m/\q≠r/\¬Qk A q
theorem GM.stay {r q:Nat}{m:List (ByteArray×Value)}{w w':World}{A A':Option Addr}(h:GM r q m w A)(hm:Mod (RdS r A) w w')(hv:Moved w A A'):GM r q m w' A':=
 ⟨h.1.mod hm (λe=>e.elim h.2.1 h.2.2),h.2.1,λhr=>(hv.rows q hr).elim h.2.2 (λZF=>by have:=h.1.lt;omega)⟩
def GB (r q x:Nat)(m:List (ByteArray×Value))(w:World)(A:Option Addr):Prop:=GM r q m w A/\Blk w x 220 [.pointer (some ⟨r,0,none⟩)]/\x≠r/\¬Qk A x
theorem GB.stay {r q x:Nat}{m:List (ByteArray×Value)}{w w':World}{A A':Option Addr}(h:GB r q x m w A)(hm:Mod (RdS r A) w w')(hv:Moved w A A'):GB r q x m w' A':=
 ⟨h.1.stay hm hv,h.2.1.mod hm (λe=>e.elim h.2.2.1 h.2.2.2),h.2.2.1,λhr=>(hv.rows x hr).elim h.2.2.2 (λZF=>by have:=h.2.1.lt;omega)⟩
theorem gQi {L base r q x:Nat}{m:List (ByteArray×Value)}{mp:Value}{opd:Ps->Option (Nat×Ps)}(H:OpdC L base r mp 198 [.pointer (some ⟨r,0,none⟩)] (GM r q m) opd):
  OpdC L base r mp 197 [.pointer (some ⟨x,0,none⟩)] (GB r q x m) (VZ [38,38] 4 opd):=by
 refine⟨λw A c p h hG hL=>?_,λw w' A A' h hm hv=>h.stay hm hv,GY (by decide) H.lim⟩;refine bQ (c:={fQC with cuts:=[]}) Qa Tryz.func197 rfl rfl rfl ?_;refine Qz hG.2.1 rfl ?_;refine Qz hG.2.1 rfl ?_;refine XU (gQg L base r A c mp p [38,38] 4 (GM r q m) opd w h hG.1 (by decide) (by decide) hL H) ?_ ?_
 ·rintro v w1 ⟨a,p',h1,rfl,h2⟩;exact⟨a,p',h1,rfl,h2⟩
 ·rintro ch w1 h1;exact h1
theorem Sf (L base r:Nat)(A:Option Addr)(c:Nat)(p:Ps)(q:Nat)(m:List (ByteArray×Value))(mp:Value)(opd:Ps->Option (Nat×Ps))(w:World)(h:Rd w base r A c mp p)(hG:GM r q m w A)(hL:p.r.length<L)
  (H:OpdC L base r mp 198 [.pointer (some ⟨r,0,none⟩)] (GM r q m) opd):
  FnP Tryz.prog 141 [.pointer (some ⟨r,0,none⟩)] w (λv w'=>∃(a:Nat) (p':Ps),VZ [124,124] 5 (VZ [38,38] 4 opd) p=some (a,p')/\v= .int .i64 (a:Nat)/\RdTo w base r A mp p' w') (λch w'=>VZ [124,124] 5 (VZ [38,38] 4 opd) p=none/\PanTo w r A ch w'):=by
 refine bQ (c:={eQ3 with cuts:=[]}) Qa Tryz.func141 rfl rfl rfl ?_;refine new (λw1 Qe Q6 Qh=>?_);refine Qz Qh rfl ?_;have Xa:=h.lt;have nz:=h.top;have fW:Mod (RdS r A) w w1:=Mod.of_ext _ Qe;have hn:¬Qk A w.heap.size:=λhr=>by have:=(h.own.rows _ hr).2;omega
 refine XU (gQh L base r A c mp p [124,124] 5 w.heap.size (GB r q w.heap.size m) (VZ [38,38] 4 opd) w1 (h.ext Qe) ⟨hG.stay fW (Moved.refl _ _),Qh,by omega,hn⟩ (by decide) (by decide) hL (gQi H)) ?_ ?_
 ·rintro v w2 ⟨a,p',h1,rfl,h2⟩;exact⟨a,p',h1,rfl,h2.step fW (Moved.refl _ _)⟩
 ·rintro ch w2 ⟨h1,h2⟩;exact⟨h1,h2.step fW (Moved.refl _ _)⟩
end
section
def Sh (ix:List Nat->Option Nat)(m:List (ByteArray×Value)):Prop:=∀l:List Nat,(∀x∈l,x<256)->XG (Qd l) m=(ix l).map (λv:Nat=>Value.int .i64 v)
theorem Si (ix:List Nat->Option Nat)(base r q:Nat)(m:List (ByteArray×Value))(KK:Sh ix m):∀n,OpdC n base r (.map (some q)) 198 [.pointer (some ⟨r,0,none⟩)] (GM r q m) (dG ix n)
 | 0=>⟨λw A c p _ _ h=>Xc h (by omega),λw w' A A' h hm hv=>h.stay hm hv,G4 ix 0⟩
 | n+1=>by
  have ih:=Si ix base r q m KK n;refine⟨λw A c p h hG hL=>?_,λw w' A A' h hm hv=>h.stay hm hv,G4 ix (n+1)⟩;refine bQ (c:={fQD with cuts:=[]}) Qa Tryz.func198 rfl rfl rfl ?_;refine call (uy base r A c _ p [33] w h (by decide)) ?_;rintro v w1 ⟨rfl,h1,ZE⟩;have vK:Mod (RdS r A) w w1:=ZE.mono (λi hi=>.inl (.inl hi));have hG1:=hG.stay vK (Moved.refl _ _);cases hk:Ky [33] p with
  | mk t p1=>
   obtain⟨k1,_,k3,k4⟩:=oq _ p p1 t hk;rw[hk] at h1;simp only at h1;cases t with
   | true=>
    refine Xd rfl ?_;have hl:=k4 rfl;simp only[Q2,Jp] at hl;have YG:=GZ ix n hk;refine XU (ih.run w1 A c p1 h1 hG1 (by omega)) ?_ ?_
    rotate_left
    ·rintro ch w2 ⟨ho,hp⟩;rw[ho] at YG;exact⟨YG,hp.step vK (Moved.refl _ _)⟩
    rintro v w2 ⟨a,p2,ho,rfl,A2,c2,h2,XW,Kr⟩;rw[ho] at YG;have Ki:=(ih.lim p1 a p2 ho).1;have mL:=h.lim;rw[k1] at Ki;refine call (ru base r A2 c2 _ p2 ⟨3,0,a,0⟩ w2 h2 (by omega)) ?_;rintro v w3 ⟨rfl,h3⟩;exact⟨p2.f.length,_,YG,rfl,(h3.step XW Kr).step vK (Moved.refl _ _)⟩
   | false=>
    refine Q9 rfl ?_;refine call (uy base r A c _ p1 [40] w1 h1 (by decide)) ?_;rintro v w2 ⟨rfl,h2,XW⟩;have bQZ:Mod (RdS r A) w1 w2:=XW.mono (λi hi=>.inl (.inl hi));have DD:=RdS.trans vK (Moved.refl _ _) bQZ;have pi:=hG1.stay bQZ (Moved.refl _ _);cases Yj:Ky [40] p1 with
    | mk t2 p2=>
     obtain⟨j1,_,j3,j4⟩:=oq _ p1 p2 t2 Yj;rw[Yj] at h2;simp only at h2;cases t2 with
     | true=>
      refine Xd rfl ?_;have hl:=j4 rfl;simp only[Q2,Jp] at hl;have YG:=G0 ix n hk Yj;refine XU (Sf n base r A c p2 q m _ (dG ix n) w2 h2 pi (by omega) ih) ?_ ?_
      rotate_left
      ·rintro ch w3 ⟨ho,hp⟩;rw[show iS ix n p2=none from ho] at YG;exact⟨YG,hp.step DD (Moved.refl _ _)⟩
      rintro v w3 ⟨a,p3,ho,rfl,A3,c3,h3,XI,bt⟩;rw[show iS ix n p2=some (a,p3) from ho] at YG;have ff:=RdS.trans DD (Moved.refl _ _) XI;have bQ0:=bt.back DD.size;simp only at YG;refine call (uy base r A3 c3 _ p3 [41] w3 h3 (by decide)) ?_;rintro v w4 ⟨rfl,h4,Zf⟩;have DE:Mod (RdS r A3) w3 w4:=Zf.mono (λi hi=>.inl (.inl hi));have cm:=RdS.trans ff bQ0 DE;cases kL:Ky [41] p3 with
      | mk t3 p4=>
       rw[kL] at h4 YG;simp only at h4;cases t3 with
       | true=>
        refine Q9 rfl ?_;exact⟨a,p4,YG,rfl,A3,c3,h4,cm,bQ0⟩
       | false=>
        refine Xd rfl ?_;exact rv rfl rfl ⟨YG,rfl,cm⟩
     | false=>
      refine Q9 rfl ?_;have YG:=G3 ix n hk Yj;have hlp:=h2.lim;have h8:=h2.b8;have hM:∀w',Ext w2 w'->Mod (RdS r A) w w':=λw' hE=>RdS.trans DD (Moved.refl _ _) (Mod.of_ext _ hE)
      refine Qo h2.blk rfl ?_;refine call (R8 p2.r w2 h8 (by omega)) ?_;rintro v w3 ⟨rfl,Qi⟩;have h3:=h2.ext Qi;have r7:=pi.stay (Mod.of_ext _ Qi) (Moved.refl _ _);have ff:=hM w3 Qi;have ZF:=R7 p2.r;by_cases hn:VY p2.r=0
      ·refine J0 (by omega) ?_;rw[Qf hn] at YG;exact rv rfl rfl ⟨YG,rfl,ff⟩
      refine XK (by omega) ?_;rw[if_neg hn] at YG;generalize hd:VY p2.r=d at*;refine Qo h3.blk rfl ?_;refine Xy (v':=.string (Qd (p2.r.take d))) ⟨by omega,by omega,by rw[Q8];omega⟩ ?_ ?_
      ·simp only[iO,Int.toNat_zero,KN,tV]
      refine Qo h3.blk rfl ?_;refine Xy (v':=.string (Qd (p2.r.drop d))) ⟨by omega,by rw[Q8];omega,by omega⟩ ?_ ?_
      ·simp only[iO,KN,Q8,qI]
      refine XV h3.blk (by simp) (λw4 Zf QR=>?_);have DE:Mod (RdS r A) w3 w4:=Zf.mono (λi hi=>.inl (.inl hi));have cm:=RdS.trans ff (Moved.refl _ _) DE;have yR:=r7.stay DE (Moved.refl _ _);have Yb:(p2.r.drop d).length+d=p2.r.length:=by rw[Y1];omega
      have h4:Rd w4 base r A c (.map (some q)) {p2 with r:=p2.r.drop d}:=⟨QR,h3.own.mod Zf (λi hi e=>by subst e;exact h3.nrow hi),h3.lt,X3 h3.top Zf.size,B8.drop h8 d,by show p2.f.length+(p2.r.drop d).length<=_;omega⟩
      have LG:=B8.take h8 d;generalize hwd:p2.r.take d=word at*;have e1:((Qd word=(⟨#[116,114,117,101]⟩:ByteArray))↔word=WY):=⟨λh=>Kn LG (by decide) h,λh=>by rw[h];rfl⟩
      have e2:((Qd word=(⟨#[102,97,108,115,101]⟩:ByteArray))↔word=dH):=⟨λh=>Kn LG (by decide) h,λh=>by rw[h];rfl⟩
      by_cases h6:word=WY
      ·rw[Qf h6] at YG;refine Zy (e1.2 h6) ?_;refine call (ru base r A c _ _ ⟨1,0,0,0⟩ w4 h4 (by show p2.f.length+(p2.r.drop d).length+1<=_;omega)) ?_;rintro v w5 ⟨rfl,h5⟩;exact⟨_,_,YG,rfl,h5.step cm (Moved.refl _ _)⟩
      rw[if_neg h6] at YG;refine XJ (λh=>h6 (e1.1 h)) ?_;by_cases h7:word=dH
      ·rw[Qf h7] at YG;refine Zy (e2.2 h7) ?_;refine call (ru base r A c _ _ ⟨0,0,0,0⟩ w4 h4 (by show p2.f.length+(p2.r.drop d).length+1<=_;omega)) ?_;rintro v w5 ⟨rfl,h5⟩;exact⟨_,_,YG,rfl,h5.step cm (Moved.refl _ _)⟩
      rw[if_neg h7] at YG;refine XJ (λh=>h7 (e2.1 h)) ?_;refine Qz h4.blk rfl ?_;have aK:=KK word LG;refine xH (kv:=Yt) (a:=Qd word) (v:=.int .i64 ((ix word).getD 0:Nat)) (b:=(ix word).isSome) Qa rfl rfl rfl rfl rfl qQM rfl rfl yR.1 (by rw[aK];cases ix word<;>rfl) (by rw[aK];cases ix word<;>rfl) ?_;refine Qo h4.blk rfl ?_;have fin:∀w5 u,Mod (·=r) w4 w5->Blk w5 r 222 [.map (some q),.string (Qd (p2.r.drop d)),.slice A p2.f.length c,.bool u]->u=(p2.u||(ix word).isNone)->Rd w5 base r A c (.map (some q)) {p2 with r:=p2.r.drop d,u:=p2.u||(ix word).isNone}/\Mod (RdS r A) w w5:=λw5 u XZ QD hu=>by
       subst hu;exact⟨⟨QD,h4.own.mod XZ (λi hi e=>by subst e;exact h4.nrow hi),h4.lt,X3 h4.top XZ.size,h4.b8,h4.lim⟩,RdS.trans cm (Moved.refl _ _) (XZ.mono (λi hi=>.inl (.inl hi)))⟩
      refine YK (λhu=>?_) (λhu=>?_)
      ·refine XV h4.blk (by simp) (λw5 XZ QD=>?_);obtain⟨h5,LH⟩:=fin w5 true XZ QD (by rw[show p2.u=true from hu];rfl);refine call (ru base r A c _ _ ⟨2,((ix word).getD 0:Nat),0,0⟩ w5 h5 (by show p2.f.length+(p2.r.drop d).length+1<=_;omega)) ?_;rintro v w6 ⟨rfl,h6⟩;exact⟨_,_,YG,rfl,h6.step LH (Moved.refl _ _)⟩
      ·refine XV h4.blk (by simp) (λw5 XZ QD=>?_);obtain⟨h5,LH⟩:=fin w5 (!(ix word).isSome) XZ QD (by rw[show p2.u=false from hu];cases ix word<;>rfl);refine call (ru base r A c _ _ ⟨2,((ix word).getD 0:Nat),0,0⟩ w5 h5 (by show p2.f.length+(p2.r.drop d).length+1<=_;omega)) ?_;rintro v w6 ⟨rfl,h6⟩;exact⟨_,_,YG,rfl,h6.step LH (Moved.refl _ _)⟩
end
section
abbrev xI:=Exit->Act->World->Prop
def iT (P:Program):List Code->xI->Act->World->Prop
 | [],G,a,w=>G .normal a w
 | y::ys,G,a,w=>y.wp P (λe a w=>match e with
  | .normal=>iT P ys G a w
  | e=>G e a w) a w
@[irreducible] def Wu (c:Cx) (l:List Code) (S:Env) (w:World) (G:xI):Prop:=∀a,Fits c.N S a->iT c.g.P l G a w
@[irreducible] def WZ (c:Cx) (S:Env) (w:World) (e:Exit) (G:xI):Prop:=∀a,Fits c.N S a->G e a w
section
variable {c:Cx} {S:Env} {w:World} {G:xI}
theorem gU (h:WZ c S w .normal G):Wu c [] S w G:=by unfold Wu;unfold WZ at h;exact h
theorem Z2 {x y:Code}{l:List Code}(h:Wu c (x::y::l) S w G):Wu c (.seq x y::l) S w G:=by
 unfold Wu at*;intro a hf;have h1:=h a hf;unfold iT at h1;unfold iT;refine wp_seq (wp_mono h1 (λe a w hq=>?_));cases e<;>first | exact hq | (unfold iT at hq;exact hq)
theorem ZN (hg:c.g.Ok){x:Code}{l:List Code}(h:VG c x S w (λe S w=>match e with
  | .normal=>Wu c l S w G
  | e=>WZ c S w e G)):Wu c (x::l) S w G:=by
 unfold Wu;intro a hf;unfold iT;refine wp_mono (j9 hg x S w _ a h hf) (λe a w ⟨S',Q1,hq⟩=>?_);cases e with
 | normal=>simp only at hq;unfold Wu at hq;exact hq a Q1
 | exit i=>simp only at hq;unfold WZ at hq;exact hq a Q1
 | goto i=>simp only at hq;unfold WZ at hq;exact hq a Q1
 | ret=>simp only at hq;unfold WZ at hq;exact hq a Q1
 | panic i=>simp only at hq;unfold WZ at hq;exact hq a Q1
 | outgrown=>simp only at hq;unfold WZ at hq;exact hq a Q1
theorem gQj {t:Nat}{x y:Code}{l:List Code}{b:Bool}(ht:S.get t=some (.bool b))(hb:b=true)(h:Wu c (x::l) S w G):Wu c (.cond (.tmp t) x y::l) S w G:=by
 subst hb;unfold Wu at*;intro a hf;have h1:=h a hf;unfold iT at*;have:=hf.get ht;exact wp_cond_true (by simp[Act.eval,this]) h1
theorem gQk {t:Nat}{x y:Code}{l:List Code}{b:Bool}(ht:S.get t=some (.bool b))(hb:b=false)(h:Wu c (y::l) S w G):Wu c (.cond (.tmp t) x y::l) S w G:=by
 subst hb;unfold Wu at*;intro a hf;have h1:=h a hf;unfold iT at*;have:=hf.get ht;exact wp_cond_false (by simp[Act.eval,this]) h1
theorem xJ (hg:c.g.Ok){id:Nat}{ops:Array Oper}{l:List Code}{o:Oper}{f:Operand}{xs:Array Operand}{ts:Array TypeId}(ZI:ops.toList=ops.toList.dropLast++ [o])(ho:o.op= .defer ⟨.value f,xs,ts⟩)(KU:o.guard=none)(jL:o.dst=none)
  (h:YJ {c with named:=1000000} ops.toList ops.toList.dropLast S w (λS w=>∃fv cap first asx,S.ev f=some (.func fv first cap)/\qV S xs.toList=some asx/\Wu {c with N:=⟨c.N.n,⟨.fn fv cap,first++asx.toArray⟩::c.N.ds⟩} l S w G) (λe S w=>WZ c S w e G)):Wu c (.region id ops false::l) S w G:=by
 unfold Wu;intro a hf;unfold iT;refine wp_region_list ?_;have h1:=j8 (c:={c with named:=1000000}) hg ops.toList ops.toList.dropLast S w a h hf;have key:∀(Q:xI) (m1 m2:List Oper) (a:Act) (w:World),wpList c.g.P ops (λe a w=>match e with
   | .normal=>wpList c.g.P ops Q m2 a w
   | e=>Q e a w) m1 a w->wpList c.g.P ops Q (m1++m2) a w:=by
  intro Q m1;induction m1 with
  | nil=>intro m2 a w h;exact h
  | cons o1 m1 ih=>
   intro m2 a w h;rw[Jo];unfold wpList at h ⊢;split
   ·rename_i hw;rw[Qf hw] at h;rcases h with h | ⟨h1,a0,w0,h2⟩
    ·refine .inl ?_;have h2:=Oper.wp_mono (K':=wpList c.g.P ops Q (m1++m2)) (λa w=>ih m2 a w) h;unfold Oper.wp at h2 ⊢;generalize (execOp a.eval o1).run c.g.P w=r at*;cases r with
     | ok n w'=>cases n<;>simp only[Oper.upon] at h2 ⊢ <;> exact h2
     | halt x w'=>cases x<;>simp only[Oper.upon] at h2 ⊢ <;> exact h2
    ·exact .inr ⟨h1,a0,w0,h2⟩
   ·rename_i hw;rw[if_neg hw] at h;exact ih m2 _ _ h
 rw[ZI];refine key _ ops.toList.dropLast [o] a w ?_;have e0:ops.toList.toArray=ops:=by simp
 rw[e0] at h1;refine lG (λe a w hq=>?_) h1;cases e with
 | normal=>
  obtain⟨S',Q1,fv,cap,first,asx,hfv,has,hq⟩:=hq;show wpList _ _ _ [o] _ _;unfold wpList;rw[Qf (by simp[Region.wanted,KU])];refine .inl ?_;have bI:=Q1.ev hfv;have hxs:(xs.map a.eval)=asx.toArray:=by
   apply Array.ext';rw[PE];exact BG (ρ:=a.eval) (λx v h=>Q1.ev h) _ _ has
  unfold Oper.wp;have Jm:(execOp a.eval o).run c.g.P w= .ok (.defer ⟨.fn fv cap,first++asx.toArray⟩) w:=by
   simp only[execOp,ho,resolve,bI,hxs];simp[Deferred.ofValue]
  rw[Jm,Oper.upon_defer];unfold wpList;unfold Wu at hq;refine hq _ ⟨?_,?_,?_⟩
  ·rw[jL];exact Q1.size
  ·rw[jL];show _::a.defers=_;rw[Q1.defers]
  ·rw[jL];exact Q1.has
 | exit i=>obtain⟨S',Q1,hq⟩:=hq;unfold WZ at hq;exact hq a Q1
 | goto i=>obtain⟨S',Q1,hq⟩:=hq;unfold WZ at hq;exact hq a Q1
 | ret=>obtain⟨S',Q1,hq⟩:=hq;unfold WZ at hq;exact hq a Q1
 | panic i=>obtain⟨S',Q1,hq⟩:=hq;unfold WZ at hq;exact hq a Q1
 | outgrown=>obtain⟨S',Q1,hq⟩:=hq;unfold WZ at hq;exact hq a Q1
end
def uA (R:Value->World->Prop):Ending->World->Prop
 | .returned v,w=>R v w
 | _,_=>False
theorem xK {c:Cx}(hg:c.g.Ok){f:FuncId}{fn:Func}{x:Code}{args:List Value}{w:World}{R:Value->World->Prop}(hf:c.g.P.funcs[f]? =some fn)(hb:fn.body=some x)(hN:⟨fn.ntmps,[]⟩=c.N)
  (hl:Nat.ble args.length c.N.n=true) (h:lD [0,1,2,3,4,5,6,7,8,9,10,11,12,13,14,15] args [] (λS=>Wu c [x] S w (bodyPostD c.g.P fn (uA R)))):Fn c.g.P f args w R:=by
 unfold Fn;have _:=hg;obtain⟨S,hS,hx⟩:=xr _ args [] 0 args (λj t ht=>by
  match j,ht with
  | 0,ht | 1,ht | 2,ht | 3,ht | 4,ht | 5,ht | 6,ht | 7,ht | 8,ht | 9,ht | 10,ht | 11,ht | 12,ht | 13,ht | 14,ht | 15,ht=>simp at ht;omega
  | j+16,ht=>simp at ht) (by simp) (λk x hk=>by simp[Env.ent] at hk) h
 have hn:fn.ntmps=c.N.n:=QC Slots.n hN;have Kl:=gQ (N:=c.N.n) args (iN hl) S hS;rw[<-hn,hN] at Kl;unfold Wu at hx;have h1:=hx _ Kl;refine(calls_of_wp_defers hf hb (R:=uA R) ?_).mono (λe w' he=>by cases e<;>exact he);unfold iT at h1;refine wp_mono h1 (λe a w hq=>?_);cases e<;>first | exact hq | (unfold iT at hq;exact hq)
section
variable {c:Cx} {S:Env} {w:World}
theorem kt (hg:c.g.Ok){fn:Func}{R:Value->World->Prop}{e:Exit}(hN:c.N.ds=[])(he:e= .ret∨e= .normal)(h:eI c S w R fn.results.toList []):WZ c S w e (bodyPostD c.g.P fn (uA R)):=by
 unfold WZ;intro a hf;obtain⟨v,h1,h2⟩:=kc hg hf h;have hd:a.defers=[]:=by rw[hf.defers,hN]
 rcases he with rfl | rfl <;>
 ·unfold bodyPostD;simp only;rw[hd];exact⟨v,h1,h2⟩
theorem Sj (hg:c.g.Ok){fn:Func}{R:Value->World->Prop}{u:FrameMode}{a:Act}{F:FuncId}{asx cap:Array Value}(hN:c.N.ds=[⟨.fn (.func F) cap,asx⟩])(hF:gL F c.g.fns=true)(hu:u≠ .run)(hf:Fits c.N S a){args:Array Value}(hA:asx++cap=args)
  (h:CallsD c.g.P F args u w (λe u' w'=>∃v,e= .returned v/\settle u'= .returning/\eI c S w' R fn.results.toList [])):Leaves c.g.P fn a.tmps (uA R) a.defers u w:=by
 subst hA;rw[hf.defers,hN];refine leaves_cons (f:=F) (args:=asx++cap) hu ?_ ?_
 ·have hc:=hg.fns F (BC hF);simp only[invoke];rw[BK hc]
 ·refine h.mono (λe u' w' he=>?_);obtain⟨v,rfl,hs,hk⟩:=he;simp only;rw[hs];obtain⟨v,h1,h2⟩:=kc hg hf hk;exact⟨v,h1,h2⟩
theorem gV (hg:c.g.Ok){fn:Func}{R:Value->World->Prop}{e:Exit}{F:FuncId}{asx cap:Array Value}(hN:c.N.ds=[⟨.fn (.func F) cap,asx⟩])(hF:gL F c.g.fns=true)(he:e= .ret∨e= .normal){args:Array Value}(hA:asx++cap=args)
  (h:CallsD c.g.P F args .returning w (λe u' w'=>∃v,e= .returned v/\settle u'= .returning/\eI c S w' R fn.results.toList [])):WZ c S w e (bodyPostD c.g.P fn (uA R)):=by
 unfold WZ;intro a hf;have:=Sj hg hN hF (by simp) hf hA h;rcases he with rfl | rfl<;>exact this
theorem aX (hg:c.g.Ok){fn:Func}{R:Value->World->Prop}{ch:List PanicEntry}{F:FuncId}{asx cap:Array Value}(hN:c.N.ds=[⟨.fn (.func F) cap,asx⟩])(hF:gL F c.g.fns=true){args:Array Value}(hA:asx++cap=args)
  (h:CallsD c.g.P F args (.panicking ch) w (λe u' w'=>∃v,e= .returned v/\settle u'= .returning/\eI c S w' R fn.results.toList [])):WZ c S w (.panic ch) (bodyPostD c.g.P fn (uA R)):=by
 unfold WZ;intro a hf;exact Sj hg hN hF (by simp) hf hA h
end
theorem gQl {c:Cx}(hg:c.g.Ok){f:FuncId}{fn:Func}{x:Code}{args:List Value}{w:World}{R:Value->World->Prop}(u:FrameMode)(hf:c.g.P.funcs[f]? =some fn)(hb:fn.body=some x)(hN:⟨fn.ntmps,[]⟩=c.N)
  (hl:Nat.ble args.length c.N.n=true) (h:lD [0,1,2,3,4,5,6,7,8,9,10,11,12,13,14,15] args [] (λS=>VG c x S w (BL c fn.results.toList R))):CallsD c.g.P f args.toArray u w (λe u' w'=>u'=u/\∃v,e= .returned v/\R v w'):=by
 obtain⟨S,hS,hx⟩:=xr _ args [] 0 args (λj t ht=>by
  match j,ht with
  | 0,ht | 1,ht | 2,ht | 3,ht | 4,ht | 5,ht | 6,ht | 7,ht | 8,ht | 9,ht | 10,ht | 11,ht | 12,ht | 13,ht | 14,ht | 15,ht=>simp at ht;omega
  | j+16,ht=>simp at ht) (by simp) (λk x hk=>by simp[Env.ent] at hk) h
 refine callsD_of_wp hf hb ?_;have hn:fn.ntmps=c.N.n:=QC Slots.n hN;have Kl:=gQ (N:=c.N.n) args (iN hl) S hS;rw[<-hn,hN] at Kl;refine wp_mono (j9 hg x S w _ _ hx Kl) (λe a w' hq=>?_);obtain⟨S',Q1,hq⟩:=hq;have ZQ:a.defers=[]:=by rw[Q1.defers,<-hN]
 cases e with
 | normal=>obtain⟨v,h1,h2⟩:=kc hg Q1 hq;exact⟨ZQ,v,h1,v,rfl,h2⟩
 | ret=>obtain⟨v,h1,h2⟩:=kc hg Q1 hq;exact⟨ZQ,v,h1,v,rfl,h2⟩
 | exit i=>exact hq.elim
 | goto l=>exact hq.elim
 | panic ch=>exact hq.elim
 | outgrown=>exact hq.elim
end
section
theorem G5 {c:Cx}(hg:c.g.Ok){o:Oper}{S:Env}{w:World}{K:Env->World->Prop}{Q:Zs}{x:Operand}{tx t:Nat}{k:IntKind}{v:Value}{r:TyRow}(ho:o.op= .typeAssert x tx t true)(hr:Q0 c.g.tys t=some r)(hd:r.d= .int k)(hx:S.ev x=some (.iface t v))
  (kk:Xf c S o.dst (.v (.tuple #[v,.bool true])) (λS=>K S w)):Zh c o S w K Q:=by
 have Q5:=(hg.row hr).1;rw[hd] at Q5;refine JT (w':=w) (v:=.tuple #[v,.bool true]) (λa hf=>?_) kk;have e1:=hf.ev hx;simp only[execOp,ho,e1];simp[Instr.typeAssert,Ja Q5]
theorem gQm {P:Program}{t:TypeId}{ms:Array (String×TypeId)}{w:World}(hu:P.underlying t=some (.interface ms))(n:Nat):(Op.equalIn (n+1) t .nilIface .nilIface).run P w= .ok true w:=by simp[Op.equalIn,Ja hu]
theorem Sk {P:Program}{o1 o2:Oper}{Q:Exit->Act->List Frame->World->Prop}{a:Act}{cs cs':List Frame}{w:World}{d1 d2:Nat}{v:Value}(h1:o1.op= .call ⟨.builtin .recover, #[], #[]⟩)(h1d:o1.dst=some d1)(h1g:o1.guard=none)(h2:o2.op= .assign (.tmp d1))(h2d:o2.dst=some d2)(h2g:o2.guard=none)
  (XQ:d1<a.tmps.size) (OD:recoverD cs=some (v,cs')∨(recoverD cs=none/\v= .nilIface/\cs'=cs)) (h:Q .normal ((a.put (some d1) v).put (some d2) v) cs' w):wpOpsS P #[o1,o2] Q (List.range 2) a cs w:=by
 have e1:∀ρ,(execOp ρ o1).run P w= .ok .recover w:=λρ=>by
  simp only[execOp,h1,resolve,invoke,builtin];simp
 have e2:(execOp (a.put (some d1) v).eval o2).run P w= .ok (.value v) w:=by
  simp only[execOp,h2];simp[Act.eval,Act.put,XQ]
 show wpOpsS P #[o1,o2] Q [0,1] a cs w;have key:wpOpsS P #[o1,o2] Q [1] (a.put (some d1) v) cs' w:=by
  unfold wpOpsS;simp only[F8,dQI,List.getElem?_cons_zero];rw[Qf (by simp[Region.wanted,h2g]),e2];simp only[Oper.upon,h2d];unfold wpOpsS;exact h
 unfold wpOpsS;simp only[F8,List.getElem?_cons_zero];rw[Qf (by simp[Region.wanted,h1g]),e1];rcases OD with hr | ⟨hr,rfl,rfl⟩
 ·simp only[hr,h1d];exact key
 ·simp only[hr,h1d];exact key
theorem ov {c:Cx}(hg:c.g.Ok){x:Code}{fn:Func}{c₀:Frame}{cs:List Frame}{R:Ending->FrameMode->World->Prop}{S:Env}{a:Act}{w:World}{u':FrameMode}(hN:c.N.ds=[])(hf:Fits c.N S a)
  (h:VG c x S w (BL c fn.results.toList (λv w'=>R (.returned v) u' w'))):x.wpS c.g.P (bodyPostS c.g.P fn c₀ cs R) a ({c₀ with mode:=u'}::cs) w:=by
 refine wpS_of_wp (wp_mono (j9 hg x S w _ a h hf) (λe a' w' hq=>?_));obtain⟨S',Q1,hq⟩:=hq;have ZQ:a'.defers=[]:=by rw[Q1.defers,hN]
 cases e with
 | normal=>obtain⟨v,h1,h2⟩:=kc hg Q1 hq;exact⟨ZQ,u',rfl,v,h1,h2⟩
 | ret=>obtain⟨v,h1,h2⟩:=kc hg Q1 hq;exact⟨ZQ,u',rfl,v,h1,h2⟩
 | exit i=>exact hq.elim
 | goto l=>exact hq.elim
 | panic ch=>exact hq.elim
 | outgrown=>exact hq.elim
def Sm (f e:Nat)(k:Int)(w w':World):Prop:=Blk w' f 149 [.slice none 0 0]/\Blk w' e 34 [.int .i64 k]/\Mod (λi=>i=f∨i=e) w w'
theorem Ca (f e:Nat)(k:Int)(w:World)(v1 v2:Value)(QX:f≠e)(hf:Blk w f 149 [v1])(he:Blk w e 34 [v2]):
  CallsD Tryz.prog 140 #[.pointer (some ⟨f,0,none⟩),.pointer (some ⟨e,0,none⟩)] (.panicking [{v:=.iface 34 (.int .i64 k),recovered:=false}]) w
   (λen u' w'=>∃v,en= .returned v/\settle u'= .returning/\Sm f e k w w'):=by
 refine callsD_of_wpS Tryz.func140 rfl λc₀ cs hu=>?_
 have Kl:=gQ (N:=BZ.N.n) [.pointer (some ⟨f,0,none⟩),.pointer (some ⟨e,0,none⟩)] (iN rfl) [(0,.v (.pointer (some ⟨f,0,none⟩))),(1,.v (.pointer (some ⟨e,0,none⟩)))] (by
  intro k x hk
  match k,hk with
  | 0,hk=>cases hk;rfl
  | 1,hk=>cases hk;rfl
  | k+2,hk=>exact nomatch (show(none:Option Ent)=some x from hk))
 have Kj:=Kl.put (d:=5) (by decide) (.v (.iface 34 (.int .i64 k)));have Z5:=Kj.put (d:=2) (by decide) (.v (.iface 34 (.int .i64 k)));refine wpS_seq (wpS_region ?_);refine Sk (cs':={c₀ with mode:=.panicking [{v:=.iface 34 (.int .i64 k),recovered:=true}]}::cs) (v:=.iface 34 (.int .i64 k)) rfl rfl rfl rfl rfl rfl (by simp) (.inl (by simp[recoverD,hu])) ?_;refine ov (c:=BZ) Qa rfl Z5 ?_;refine Xd rfl ?_;refine G5 Qa rfl rfl rfl rfl ?_;refine Q9 rfl ?_;refine KZ hf (by simp) (λw1 ZE Qh=>?_);refine KZ (he.mod ZE (λh=>QX h.symm)) (by simp) (λw2 XW Qy=>?_);exact⟨_,rfl,rfl,Qh.mod XW QX,Qy,(ZE.mono (λi hi=>.inl (.inl hi))).trans XW (λi hi=>.inl (.inr hi))⟩
theorem gQn (f e:Nat)(w:World):
  CallsD Tryz.prog 140 #[.pointer (some ⟨f,0,none⟩),.pointer (some ⟨e,0,none⟩)] .returning w
   (λen u' w'=>∃v,en= .returned v/\settle u'= .returning/\w=w'):=by
 refine callsD_of_wpS Tryz.func140 rfl λc₀ cs hu=>?_
 have Kl:=gQ (N:=BZ.N.n) [.pointer (some ⟨f,0,none⟩),.pointer (some ⟨e,0,none⟩)] (iN rfl) [(0,.v (.pointer (some ⟨f,0,none⟩))),(1,.v (.pointer (some ⟨e,0,none⟩)))] (by
  intro k x hk
  match k,hk with
  | 0,hk=>cases hk;rfl
  | 1,hk=>cases hk;rfl
  | k+2,hk=>exact nomatch (show(none:Option Ent)=some x from hk))
 have Kj:=Kl.put (d:=5) (by decide) (.v .nilIface);have Z5:=Kj.put (d:=2) (by decide) (.v .nilIface);refine wpS_seq (wpS_region ?_);refine Sk (cs':={c₀ with mode:=.returning}::cs) (v:=.nilIface) rfl rfl rfl rfl rfl rfl (by simp) (.inr ⟨by simp[recoverD,hu],rfl,by rw[<-hu]⟩) ?_;refine ov (c:=BZ) Qa rfl Z5 ?_;refine JT (w':=w) (v:=.bool false) (λa hf=>?_) ?_
 ·have e1:=hf.ev (show Env.ev _ (.tmp 6)=some .nilIface from rfl);have hu:=Tryz.underlying20;have e2:(Op.equal 20 .nilIface .nilIface).run Tryz.prog w= .ok true w:=gQm hu 9999;have e3:binOp .neq 20 .nilIface .nilIface=(do pure (.bool (!(<-Op.equal 20 .nilIface .nilIface)))):=rfl;simp only[execOp,e1,eqGuard];simp[Act.eval,e3,show gx.P=Tryz.prog from rfl,e2]
 refine Q9 rfl ?_;exact⟨_,rfl,rfl,rfl⟩
end
section
def eO (l:List Nat):List (List Nat)->Nat->Option Nat->Option Nat
 | [],_,QW=>QW
 | s::names,i,QW=>eO l names (i+1) (if s=l then some i else QW)
def Jq (names:List (List Nat))(l:List Nat):Option Nat:=eO l names 0 none
theorem So (l:List Nat)(hl:∀x∈l,x<256):∀(names:List (List Nat))(i:Nat)(QW:Option Nat)(m:List (ByteArray×Value)),KO names->XG (Qd l) m=QW.map (λv:Nat=>Value.int .i64 v)->
  XG (Qd l) (Y3 names i m)=(eO l names i QW).map (λv:Nat=>Value.int .i64 v)
 | [],i,QW,m,_,h=>h
 | s::names,i,QW,m,hn,h=>by
  simp only[Y3,eO];refine So l hl names (i+1) _ _ (λt ht=>hn t (by simp[ht])) ?_;rw[bR];by_cases hs:s=l
  ·subst hs;simp
  ·rw[if_neg (λe=>hs (Kn hl (hn s (by simp)).1 e).symm),if_neg hs];exact h
theorem G6 {names:List (List Nat)}(hn:KO names):Sh (Jq names) (Y3 names 0 []):=λl hl=>So l hl names 0 none [] hn rfl
def eP (names:List (List Nat))(s:List Nat):List Fz×Int:=if Z1 names then
  match iS (Jq names) (s.length+1) ⟨s,[],false⟩with
  | none=>([],31)
  | some (_,p)=>if ZT p.r≠ [] then([],31)else if p.u then([],3)else if 512<p.f.length then([],2)else(p.f,0)
 else([],1)
def G7 (w:World)(r:List Fz×Int)(v:Value)(w':World):Prop:=∃F m cF,v= .tuple #[.slice F m cF,.int .i64 r.2]/\Ext w w'/\SlS Fz.cells 4 w' F m cF r.1
theorem gQo (p:Ps):Ky [] p=(true,{p with r:=ZT p.r}):=by rw[xG]<;>rfl
theorem Sp (names:List (List Nat))(A:Option Addr)(n c:Nat)(s:List Nat)(w:World)(h:Sl w 1 A n c (XH names))(hb:KO names)(hs:∀x∈s,x<256)(hl:s.length<=1000000000000):
  Fn Tryz.prog 89 [.slice A n c,.string (Qd s)] w (G7 w (eP names s)):=by
 refine xK (c:={c89 with cuts:=[]}) Qa Tryz.func89 rfl rfl rfl ?_;refine Z2 (ZN Qa ?_);refine new (λw1 Qe Q6 Qh=>?_);refine new (λw2 Qg Ze Qy=>?_);have QT:=Qe.trans Qg;refine Z2 (ZN Qa ?_);refine call (GX names A n c w2 (h.ext QT) hb) ?_;rintro v w3 ⟨v1,rfl,Qi,Aj⟩;have QU:=QT.trans Qi;have hBf:=(Qh.ext Qg).ext Qi;have gy:=Qy.ext Qi;refine Z2 (ZN Qa ?_);cases X5:Z1 names with
 | false=>
  refine Xd rfl ?_;refine KZ hBf (by simp[Kb]) (λw4 Zf QR=>?_);have QX:w1.heap.size≠w.heap.size:=by omega
  refine KZ (gy.mod Zf QX) (by simp[Kb]) (λw5 XZ QD=>?_);refine kt Qa rfl (.inl rfl) ?_;refine Qz (QR.mod XZ QX.symm) rfl ?_;refine Qz QD rfl ?_;have Qx:=XZ.ext (Zf.ext QU (λi hi=>by omega)) (λi hi=>by omega);refine⟨none,0,0,?_,Qx,?_⟩
  ·unfold eP;rw[X5]<;>rfl
  ·unfold eP;rw[X5];exact SlS.nil _
 | true=>
  refine Q9 rfl ?_;obtain⟨q,rfl,hq,fx⟩:=Aj X5;refine Z2 (xJ Qa rfl rfl rfl rfl ⟨_,_,_,_,rfl,rfl,?_⟩);refine Z2 (ZN Qa ?_);refine new (λw4 Qs KR QR=>?_);have Xp:=QU.trans Qs;have Jr:=Qi.size;have hR:Rd w4 w4.heap.size w3.heap.size none 0 (.map (some q)) ⟨s,[],false⟩:=⟨QR,Own.nil _ _ _ _,by omega,QB _,hs,by simpa using hl⟩
  have hG:GM w3.heap.size q (Y3 names 0 []) w4 none:=⟨fx.ext Qs,by have:=fx.lt;omega,λ⟨_,e,_⟩=>by cases e⟩
  have QX:w.heap.size≠w1.heap.size:=by omega
  have wD:∀i,i<w3.heap.size->¬RdS w3.heap.size none i:=λi hi e=>by
   rcases e with rfl | ⟨_,e,_⟩
   ·omega
   ·cases e
  have keep:∀w',Mod (RdS w3.heap.size none) w4 w'->Ext w w'/\Blk w' w.heap.size 149 [.slice none 0 0]/\Blk w' w1.heap.size 34 [.int .i64 0]:=λw' hm=>by
   refine⟨hm.ext Xp (λi hi=>?_),(hBf.ext Qs).mod hm (wD _ (by omega)),(gy.ext Qs).mod hm (wD _ (by omega))⟩;rcases hi with rfl | ⟨_,e,_⟩
   ·omega
   ·cases e
  have Xj:∀k w' Vq,Ext w w'->Sm w.heap.size w1.heap.size k w' Vq->eP names s=([],k)->G7 w (eP names s) (.tuple #[.slice none 0 0,.int .i64 k]) Vq:=λk w' Vq hE hR hp=>by
   rw[hp];refine⟨none,0,0,rfl,hR.2.2.ext hE (λi hi=>by rcases hi with rfl | rfl<;>omega),SlS.nil _⟩
  have hpp:eP names s=match iS (Jq names) (s.length+1) ⟨s,[],false⟩with
   | none=>([],31)
   | some (_,p)=>if ZT p.r≠ [] then([],31)else if p.u then([],3)else if 512<p.f.length then([],2)else(p.f,0):=by unfold eP;rw[Qf X5]
  refine Z2 (ZN Qa ?_);refine XU (Sf (s.length+1) _ _ none 0 _ q _ _ _ w4 hR hG (fB _) (Si (Jq names) _ _ q _ (G6 hb) (s.length+1))) ?_ ?_
  rotate_left
  ·rintro ch w5 ⟨ho,rfl,XZ⟩;obtain⟨Qx,Kj,he5⟩:=keep w5 XZ;refine aX Qa rfl rfl (args:= #[.pointer (some ⟨w.heap.size,0,none⟩),.pointer (some ⟨w1.heap.size,0,none⟩)]) (by simp) ((Ca _ _ 31 w5 _ _ QX Kj he5).mono ?_);rintro e u' w6 ⟨v,rfl,yT,jo⟩;refine⟨v,rfl,yT,?_⟩;refine Qz jo.1 rfl ?_;refine Qz jo.2.1 rfl ?_;exact Xj 31 w5 w6 Qx jo (by rw[hpp];unfold iS;rw[ho])
  rintro v w5 ⟨a,p,ho,rfl,A5,c5,h5,XZ,YD⟩;refine Z2 (ZN Qa ?_);refine call (uy _ _ A5 c5 _ p [] w5 h5 (by simp)) ?_;rintro v w6 ⟨rfl,h6,VQ⟩;rw[gQo] at h6;simp only at h6;have mQD:Mod (RdS w3.heap.size none) w4 w6:=XZ.trans VQ (λi hi=>.inl (.inl hi));obtain⟨QQ,cZ,DF⟩:=keep w6 mQD;have jN:eP names s=if ZT p.r≠ [] then([],31)else if p.u then([],3)else if 512<p.f.length then([],2)else(p.f,0):=by rw[hpp];unfold iS;rw[ho]
  have e0:((Qd (ZT p.r)=(⟨#[]⟩:ByteArray))↔ZT p.r=[]):=⟨λh=>Kn h6.b8 (by simp) h,λh=>by rw[h];rfl⟩
  refine Z2 (ZN Qa ?_);refine Qo h6.blk rfl ?_;by_cases ht:¬ZT p.r=[]
  ·refine Xd (by rw[Zr (λh=>ht (e0.1 h))];rfl) ?_;refine rv rfl rfl ?_;refine aX Qa rfl rfl (args:= #[.pointer (some ⟨w.heap.size,0,none⟩),.pointer (some ⟨w1.heap.size,0,none⟩)]) (by simp) ((Ca _ _ 31 w6 _ _ QX cZ DF).mono ?_);rintro e u' w7 ⟨v,rfl,jn,V6⟩;refine⟨v,rfl,jn,?_⟩;refine Qz V6.1 rfl ?_;refine Qz V6.2.1 rfl ?_;exact Xj 31 w6 w7 QQ V6 (by rw[jN,Qf ht])
  replace ht:=Decidable.not_not.1 ht;refine Q9 (by rw[Zx (e0.2 ht)];rfl) ?_;rw[if_neg (λh=>h ht)] at jN;refine Qo h6.blk rfl ?_;refine YK (λhu=>?_) (λhu=>?_)
  ·refine rv rfl rfl ?_;refine aX Qa rfl rfl (args:= #[.pointer (some ⟨w.heap.size,0,none⟩),.pointer (some ⟨w1.heap.size,0,none⟩)]) (by simp) ((Ca _ _ 3 w6 _ _ QX cZ DF).mono ?_);rintro e u' w7 ⟨v,rfl,jn,V6⟩;refine⟨v,rfl,jn,?_⟩;refine Qz V6.1 rfl ?_;refine Qz V6.2.1 rfl ?_;exact Xj 3 w6 w7 QQ V6 (by rw[jN,Qf hu])
  rw[if_neg (by rw[show p.u=false from hu];decide)] at jN;refine Qo h6.blk rfl ?_;refine Qw (λhl=>?_) (λhl=>?_)
  ·refine rv rfl rfl ?_;refine aX Qa rfl rfl (args:= #[.pointer (some ⟨w.heap.size,0,none⟩),.pointer (some ⟨w1.heap.size,0,none⟩)]) (by simp) ((Ca _ _ 2 w6 _ _ QX cZ DF).mono ?_);rintro e u' w7 ⟨v,rfl,jn,V6⟩;refine⟨v,rfl,jn,?_⟩;refine Qz V6.1 rfl ?_;refine Qz V6.2.1 rfl ?_;exact Xj 2 w6 w7 QQ V6 (by rw[jN,Qf (show 512<p.f.length by simp only at hl;omega)])
  have ep:¬512<p.f.length:=λh=>hl (by simp only;omega)
  rw[if_neg ep] at jN;refine Z2 (ZN Qa ?_);refine Qo h6.blk rfl ?_;refine KZ cZ (by simp) (λw7 J5 Q3=>?_);refine KZ (DF.mod J5 QX.symm) (by simp) (λw8 JD Xz=>?_);refine ZN Qa ?_;refine gV Qa rfl rfl (.inl rfl) (args:= #[.pointer (some ⟨w.heap.size,0,none⟩),.pointer (some ⟨w1.heap.size,0,none⟩)]) (by simp) ((gQn _ _ w8).mono ?_);rintro e u' _ ⟨v,rfl,LI,rfl⟩;refine⟨v,rfl,LI,?_⟩;refine Qz (Q3.mod JD QX) rfl ?_;refine Qz Xz rfl ?_;rw[jN];have hM:Mod (λi=>i=w.heap.size∨i=w1.heap.size) w6 w8:=(J5.mono (λi hi=>.inl (.inl hi))).trans JD (λi hi=>.inl (.inr hi));refine⟨A5,p.f.length,c5,rfl,hM.ext QQ (λi hi=>by rcases hi with rfl | rfl<;>omega),?_,rfl⟩;have ld:∀i,Qk A5 i->w4.heap.size<=i:=λi hi=>(h6.own.rows i hi).1
  exact(h6.own.mod hM (λi hi e=>by have:=ld i hi;rcases e with rfl | rfl<;>omega)).sl
end
end
noncomputable section
section
def Zw (o:Int):Int:=if o=0∨o=1∨o=2 then 0 else if o=3 then 1 else if o=4∨o=5 then 2 else -1
theorem uB (o:Int):((o=0∨o=1∨o=2)/\Zw o=0)∨(o=3/\Zw o=1)∨((o=4∨o=5)/\Zw o=2)∨(Zw o= -1/\o≠0/\o≠1/\o≠2/\o≠3/\o≠4/\o≠5):=by
 unfold Zw;split
 ·left;omega
 ·split
  ·right;left;omega
  ·split
   ·right;right;left;omega
   ·right;right;right;omega
def VJ (x:Fz)(i:Nat):Prop:=0<=Zw x.o/\(if x.o=2 then 0<=x.v/\x.v<64 else x.v=0)/\(if 0<Zw x.o then 0<=x.a/\x.a<i else x.a=0)/\(if 1<Zw x.o then 0<=x.b/\x.b<i else x.b=0)
instance (x:Fz) (i:Nat):Decidable (VJ x i):=by unfold VJ;infer_instance
def Wv (x:Fz):Fz:=⟨x.o,if x.o=2 then x.v else 0,if 0<Zw x.o then x.a else 0,if 1<Zw x.o then x.b else 0⟩
theorem Sq (a b c d a' b' c' d':Int):(a==a'&&(b==b'&&(c==c'&&(d==d'&&true))))=decide (a=a'/\b=b'/\c=c'/\d=d'):=by
 rw[qE];simp only[Z9,beq_iff_eq,VX,and_true]
theorem Sr (x:Fz):(x.o=(Wv x).o/\x.v=(Wv x).v/\x.a=(Wv x).a/\x.b=(Wv x).b)↔((x.o≠2->x.v=0)/\(Zw x.o<=0->x.a=0)/\(Zw x.o<=1->x.b=0)):=by
 unfold Wv;simp only;constructor
 ·rintro⟨_,h1,h2,h3⟩;split at h1<;>split at h2<;>split at h3<;>omega
 ·rintro⟨h1,h2,h3⟩;refine⟨trivial,?_,?_,?_⟩<;>split<;>omega
theorem gQp (x:Fz)(i:Nat)(w:World):Fn Tryz.prog 223 [.agg x.cells.toArray,.int .i64 i] w (λv w'=>v= .int .i64 (if VJ x i then Zw x.o else -1)/\Ext w w'):=by
 refine QJ (c:={fQR with cuts:=[3]}) Qa Tryz.func223 rfl rfl rfl ?_;refine new (λw1 Qe Q6 Qh=>?_);refine Qz Qh rfl ?_;refine new (λw2 Qg Ze Qy=>?_);refine Qv Qy rfl (sc rfl) (λw3 Jc _ Qu=>?_);have XI:Mod (·=w1.heap.size) w2 w3:=qQL Jc rfl
 replace Qu:Blk w3 w1.heap.size 280 [.int .i64 x.o,.int .i64 0,.int .i64 0,.int .i64 0]:=Qu;have VR:=(Qh.ext Qg).mod XI (by omega);have Qi:Ext w w3:=XI.ext (Qe.trans Qg) (λi hi=>by omega);refine gR [] Qa [6] (λk:Int=>[.int .i64 k]) (λk w'=>Ext w w'/\Blk w' w.heap.size 280 x.cells/\Blk w' w1.heap.size 280 (Wv x).cells/\k=Zw x.o/\0<=Zw x.o/\(x.o=2->0<=x.v/\x.v<64)) ?_ ?_
 ·refine Qz VR rfl ?_;refine X8 (λh=>?_) (λh=>?_)
  ·refine⟨_,rfl,Qi,VR,?_,?_,?_,?_⟩
   ·rw[show(Wv x).cells=[.int .i64 x.o,.int .i64 0,.int .i64 0,.int .i64 0] from by simp[Wv,Fz.cells,h,Zw]];exact Qu
   ·rw[h]<;>rfl
   ·rw[h];decide
   ·intro h2;omega
  refine X8 (λh1=>?_) (λh1=>?_)
  ·refine⟨_,rfl,Qi,VR,?_,?_,?_,?_⟩
   ·rw[show(Wv x).cells=[.int .i64 x.o,.int .i64 0,.int .i64 0,.int .i64 0] from by simp[Wv,Fz.cells,h1,Zw]];exact Qu
   ·rw[h1]<;>rfl
   ·rw[h1];decide
   ·intro h2;omega
  refine X8 (λh2=>?_) (λh2=>?_)
  ·refine Qo VR rfl ?_;refine XV Qu (by simp) (λw4 Zf QR=>?_);have Wc:=VR.mod Zf (by omega);have Qs:=Zf.ext Qi (λi hi=>by omega);refine Qo Wc rfl ?_;refine Qw (λh3=>?_) (λh3=>?_)
   ·exact⟨by rw[if_neg (λhf=>by have:=hf.2.1;rw[Qf h2] at this;omega)],Qs⟩
   refine Qo Wc rfl ?_;refine Qw (λh4=>?_) (λh4=>?_)
   ·exact⟨by rw[if_neg (λhf=>by have:=hf.2.1;rw[Qf h2] at this;omega)],Qs⟩
   refine⟨_,rfl,Qs,Wc,?_,?_,?_,?_⟩
   ·rw[show(Wv x).cells=[.int .i64 x.o,.int .i64 x.v,.int .i64 0,.int .i64 0] from by simp[Wv,Fz.cells,h2,Zw]];exact QR
   ·rw[h2]<;>rfl
   ·rw[h2];decide
   ·intro _;omega
  refine X8 (λh3=>?_) (λh3=>?_)
  ·refine Qo VR rfl ?_;refine XV Qu (by simp) (λw4 Zf QR=>?_);have Wc:=VR.mod Zf (by omega);have Qs:=Zf.ext Qi (λi hi=>by omega);refine⟨_,rfl,Qs,Wc,?_,?_,?_,?_⟩
   ·rw[show(Wv x).cells=[.int .i64 x.o,.int .i64 0,.int .i64 x.a,.int .i64 0] from by simp[Wv,Fz.cells,h3,Zw]];exact QR
   ·rw[h3]<;>rfl
   ·rw[h3];decide
   ·intro _;omega
  have two:(x.o=4∨x.o=5)->∀w4,Mod (·=w1.heap.size) w3 w4->Blk w4 w1.heap.size 280 [.int .i64 x.o,.int .i64 0,.int .i64 x.a,.int .i64 x.b]->Ext w w4/\Blk w4 w.heap.size 280 x.cells/\Blk w4 w1.heap.size 280 (Wv x).cells/\(2:Int)=Zw x.o/\0<=Zw x.o/\(x.o=2->0<=x.v/\x.v<64):=λho w4 Zf QR=>by
   have e:Zw x.o=2:=by rcases ho with h | h<;>rw[h]<;>rfl
   refine⟨Zf.ext Qi (λi hi=>by omega),VR.mod Zf (by omega),?_,e.symm,by omega,by omega⟩;rw[show(Wv x).cells=[.int .i64 x.o,.int .i64 0,.int .i64 x.a,.int .i64 x.b] from by simp[Wv,Fz.cells,h2,e]];exact QR
  refine X8 (λh4=>?_) (λh4=>?_)
  ·refine Qo VR rfl ?_;refine XV Qu (by simp) (λw4 Zf QR=>?_);have Wc:=VR.mod Zf (by omega);refine Qo Wc rfl ?_;refine XV QR (by simp) (λw5 XZ QD=>?_);exact⟨_,rfl,two (.inl h4) w5 (Zf.trans XZ (λi hi=>.inl hi)) QD⟩
  refine X8 (λh5=>?_) (λh5=>?_)
  ·refine Qo VR rfl ?_;refine XV Qu (by simp) (λw4 Zf QR=>?_);have Wc:=VR.mod Zf (by omega);refine Qo Wc rfl ?_;refine XV QR (by simp) (λw5 XZ QD=>?_);exact⟨_,rfl,two (.inr h5) w5 (Zf.trans XZ (λi hi=>.inl hi)) QD⟩
  ·have ZE:Zw x.o= -1:=by rcases uB x.o with h | h | h | h<;>omega
   exact⟨by rw[if_neg (λhf=>by have:=hf.1;omega)],Qi⟩
 rintro k w4 ⟨Qs,Wc,fX,rfl,h0,hv⟩;have no:¬VJ x i->∀w',Ext w w'->(Value.int .i64 (-1))= .int .i64 (if VJ x i then Zw x.o else -1)/\Ext w w':=λh w' hE=>⟨by rw[if_neg h],hE⟩
 have yes:VJ x i->∀w',Ext w w'->(Value.int .i64 (Zw x.o))= .int .i64 (if VJ x i then Zw x.o else -1)/\Ext w w':=λh w' hE=>⟨by rw[Qf h],hE⟩
 have XN:=uB x.o;refine Qt Wc rfl ?_;refine Qt fX rfl ?_;by_cases hp:x.o=(Wv x).o/\x.v=(Wv x).v/\x.a=(Wv x).a/\x.b=(Wv x).b
 rotate_left
 ·refine Xd (by rw[Sq,Zr hp];rfl) ?_;refine no (λhf=>hp ((Sr x).2 ?_)) _ Qs;obtain⟨f1,f2,f3,f4⟩:=hf;split at f2<;>split at f3<;>split at f4<;>omega
 refine Q9 (by rw[Sq,Zx hp];rfl) ?_;have hq:=(Sr x).1 hp;have bad:(x.a<0∨x.b<0∨(0<Zw x.o/\(i<=x.a∨i<=x.b)))->¬VJ x i:=λhb hf=>by
  obtain⟨f1,f2,f3,f4⟩:=hf;split at f3<;>split at f4<;>omega
 refine Qo Wc rfl ?_;refine Qw (λh1=>?_) (λh1=>?_)
 ·exact no (bad (.inl h1)) _ Qs
 refine Qo Wc rfl ?_;refine Qw (λh2=>?_) (λh2=>?_)
 ·exact no (bad (.inr (.inl h2))) _ Qs
 refine Qw (λh3=>?_) (λh3=>?_)
 ·refine Qo Wc rfl ?_;refine Qo Wc rfl ?_;refine norm (m:=max x.a x.b) (by rw[Int.max_def];split<;>split<;>omega) ?_;refine Qw (λh4=>?_) (λh4=>?_)
  ·refine no (bad (.inr (.inr ⟨h3,?_⟩))) _ Qs;rw[Int.max_def] at h4;split at h4<;>omega
  ·rw[Int.max_def] at h4;refine yes ⟨h0,?_,?_,?_⟩ _ Qs
   ·split
    ·rename_i h;exact hv h
    ·rename_i h;exact hq.1 h
   ·rw[Qf h3];split at h4<;>omega
   ·split
    ·split at h4<;>omega
    ·exact hq.2.2 (by omega)
 ·refine yes ⟨h0,?_,?_,?_⟩ _ Qs
  ·split
   ·rename_i h;exact hv h
   ·rename_i h;exact hq.1 h
  ·rw[if_neg h3];exact hq.2.1 (by omega)
  ·rw[if_neg (by omega)];exact hq.2.2 (by omega)
end
section
def Ww (l:List Bool):List Value:=l.map .bool
theorem xL {l:List Bool}{j:Nat}{b:Bool}(h:l[j]? =some b):(Ww l)[j]? =some (.bool b):=by simp[Ww,h]
theorem gQq (l:List Bool):(Ww l).length=l.length:=by simp[Ww]
theorem Ss (l:List Bool)(i:Nat)(b:Bool):Ww (l.set i b)=(Ww l).set i (.bool b):=by simp[Ww,List.map_set]
def Y4 (x:Fz):List Nat:=if Zw x.o=2 then [x.a.toNat,x.b.toNat] else if Zw x.o=1 then [x.a.toNat] else []
def J1 (f:List Fz):List Nat:=f.flatMap Y4
def FV (f:List Fz):Prop:=f.length<=512/\0<f.length/\(∀i x,f[i]? =some x->VJ x i)/\∀i,i+1<f.length->(J1 f).count i=1
open Classical in
def uC (f:List Fz):Int:=if FV f then 0 else 30
theorem Cb {f:List Fz}(h:FV f):uC f=0:=Qf h
theorem Cc {f:List Fz}(h:¬FV f):uC f=30:=if_neg h
theorem gQr {f:List Fz}:uC f=0↔FV f:=by
 constructor
 ·intro h;unfold uC at h;split at h
  ·assumption
  ·cases h
 ·exact Cb
theorem gQs (d:List Fz){i:Nat}{x:Fz}(h:d[i]? =some x):J1 (d.take (i+1))=J1 (d.take i)++Y4 x:=by
 simp[J1,VF,h]
theorem gQt {x:Fz}{i:Nat}(h:VJ x i):∀j∈Y4 x,j<i:=by
 intro j hj;obtain⟨_,_,h3,h4⟩:=h;unfold Y4 at hj;split at hj
 ·rename_i h2;rw[Qf (by omega)] at h3 h4;simp at hj;omega
 ·split at hj
  ·rename_i h2;rw[Qf (by omega)] at h3;simp at hj;omega
  ·simp at hj
theorem gQu {d:List Fz}{i:Nat}(h:∀j x,j<i->d[j]? =some x->VJ x j):∀j∈J1 (d.take i),j+1<i:=by
 intro j hj;simp only[J1,Wo] at hj;obtain⟨x,hx,hk⟩:=hj;obtain⟨m,hm,KW⟩:=F9.1 hx;have QZ:m<i:=by simp at hm;omega
 have LJ:d[m]? =some x:=by
  rw[List.getElem_take] at KW;rw[<-KW];exact Xu _
 have:=gQt (h m x QZ LJ) j hk;omega
def fK (l:List Nat)(n:Nat):List Bool:=(List.range n).map λj=>decide (j∈l)
theorem St (l:List Nat)(n j:Nat)(hj:j<n):(fK l n)[j]? =some (decide (j∈l)):=by simp[fK,hj]
theorem gQv (l:List Nat)(n:Nat):(fK l n).length=n:=by simp[fK]
theorem gQw (l:List Nat)(n k:Nat):(fK l n).set k true=fK (l++ [k]) n:=by
 unfold fK;apply List.ext_getElem
 ·simp
 ·intro i h1 h2;simp at h1;simp only[List.getElem_set,List.getElem_map,List.getElem_range,XP,QO];split
  ·rename_i h;subst h;simp
  ·rename_i h;have:¬i=k:=λe=>h e.symm
   simp[this]
theorem gQx (n:Nat):fK [] n=List.replicate n false:=by
 apply List.ext_getElem
 ·simp[fK]
 ·intro i h1 h2;simp[fK]
theorem gQy {d:List Fz}{s:Nat}{x:Fz}(hx:d[s]? =some x)(h:¬VJ x s):¬FV d:=λhv=>h (hv.2.2.1 s x hx)
theorem gQz {d:List Fz}{s:Nat}(hnd:∀j x,j<s->d[j]? =some x->VJ x j)(hs:s<=d.length)(h:¬(J1 (d.take s)).Nodup):¬FV d:=λhv=>by
 apply h;rw[List.nodup_iff_count];intro a;by_cases ha:a∈J1 (d.take s)
 ·have h1:=gQu hnd a ha;have h2:=hv.2.2.2 a (by omega);rw[<-h2];have iD:(J1 (d.take s)).Sublist (J1 d):=by
   have:J1 d=J1 (d.take s)++J1 (d.drop s):=by
    unfold J1;rw[<-Yd,aQ]
   rw[this];exact List.sublist_append_left _ _
  exact iD.count_le a
 ·rw[PJ.2 ha];omega
theorem gQA {d:List Fz}(h1:d.length<=512)(h2:0<d.length)(hnd:∀j x,j<d.length->d[j]? =some x->VJ x j)(hn:(J1 d).Nodup)(hu:∀j,j+1<d.length->j∈J1 d):FV d:=
 ⟨h1,h2,λi x hx=>hnd i x (Jd.1 hx).1 hx,λi hi=>by
  have h3:=List.nodup_iff_count.1 hn i;have h4:=List.count_pos_iff.2 (hu i hi);omega⟩
theorem gQB {w:World}{t:TypeId}{cs cs':List Value}{K:Addr->World->Prop}(h:cs=cs')(k:∀w1,Ext w w1->w1.heap.size=w.heap.size+1->Blk w1 w.heap.size t cs'->K ⟨w.heap.size,0,none⟩ w1):qR w t cs K:=by
 subst h;exact new k
abbrev SF (w:World)(A:Option Addr)(n c:Nat)(f:List Fz):Prop:=SlS Fz.cells 4 w A n c f
def lK (x:Fz):List Int:=[x.a,x.b].take (Zw x.o).toNat
theorem gQC {x:Fz}{i:Nat}(h:VJ x i):(lK x).length=(Zw x.o).toNat/\∀j:Nat,∀a:Int,(lK x)[j]? =some a->0<=a/\a<i/\(Y4 x)[j]? =some a.toNat:=by
 obtain⟨h1,_,h3,h4⟩:=h;unfold lK Y4;rcases uB x.o with⟨_,e⟩ | ⟨_,e⟩ | ⟨_,e⟩ | ⟨e,_⟩
 ·rw[e];simp
 ·rw[e] at h3 ⊢;simp at h3;simp;intro j a ha;cases j with
  | zero=>simp at ha;subst ha;simp;omega
  | succ j=>simp at ha
 ·rw[e] at h3 h4 ⊢;simp at h3 h4;simp;intro j a ha
  match j,ha with
  | 0,ha=>simp at ha;subst ha;simp;omega
  | 1,ha=>simp at ha;subst ha;simp;omega
  | j+2,ha=>simp at ha
 ·rw[e] at h1;omega
theorem gQD (x:Fz)(_:0<=Zw x.o):(Y4 x).length=(Zw x.o).toNat:=by
 unfold Y4;rcases uB x.o with⟨_,e⟩ | ⟨_,e⟩ | ⟨_,e⟩ | ⟨e,_⟩<;>rw[e]<;>first | rfl | omega
end
section
theorem Su (A:Option Addr)(n c:Nat)(f:List Fz)(w:World)(h:SF w A n c f):
  Fn Tryz.prog 193 [.slice A n c] w (λv w'=>v= .int .i64 (uC f)/\Ext w w'):=by
 have QZ:=h.2;refine QJ (c:={fQz with cuts:=[4]}) Qa Tryz.func193 rfl rfl rfl ?_;refine X8 (λh1=>?_) (λh1=>?_)
 ·exact⟨by rw[Cc (λhv=>by have:=hv.2.1;omega)],Ext.refl w⟩
 refine Qw (λh2=>?_) (λh2=>?_)
 ·exact⟨by rw[Cc (λhv=>by have:=hv.1;omega)],Ext.refl w⟩
 refine gQB (cs':=Ww (List.replicate 512 false)) (by kernel_rfl) (λw1 Qe Q6 Qh=>?_);rw[<-gQx] at Qh;refine gR [] Qa [] (λ_:Unit=>[]) (λ_ w'=>Ext w w'/\Blk w' w.heap.size 297 (Ww (fK (J1 f) 512))/\(∀j x,j<n->f[j]? =some x->VJ x j)/\(J1 f).Nodup) ?_ ?_
 ·refine loop Qa [20] (λs:Nat=>[.int .i64 s]) (λs w'=>Ext w w'/\Blk w' w.heap.size 297 (Ww (fK (J1 (f.take s)) 512))/\s<=n/\(∀j x,j<s->f[j]? =some x->VJ x j)/\(J1 (f.take s)).Nodup) (λs _=>n-s) 0 rfl ⟨Qe,Qh,Xo _,λj x hj=>Xc hj (by omega),by simp[J1]⟩ ?_;rintro s w2 ⟨Qg,pk,hs,hnd,gz⟩;refine Qw (λh3=>?_) (λh3=>?_)
  ·refine Zt B0 (h.ext Qg) rfl (by omega) (λp x hx hc=>?_);refine Jz (vs:=x.cells) rfl hc ?_;refine new (λw3 Qi Jr Qu=>?_);refine Qv Qu rfl (sc rfl) (λw4 aC KR QR=>?_);have Jh:Ext w2 w4:=XT Qi Qu aC;have Qs:=Qg.trans Jh;have hU4:=pk.ext Jh;refine Qt QR rfl ?_;refine call (gQp x s w4) ?_;rintro v w5 ⟨rfl,Qx⟩;have QD:=QR.ext Qx;have bad:¬(VJ x s/\(J1 (f.take (s+1))).Nodup)->uC f=30:=λXi=>by
    refine Cc ?_;by_cases fY:VJ x s
    ·refine gQz (s:=s+1) (λj y hj hy=>?_) (by omega) (λh=>Xi ⟨fY,h⟩);by_cases We:j<s
     ·exact hnd j y We hy
     ·have:j=s:=by omega
      subst this;rw[Option.some.inj (hy.symm.trans hx)];exact fY
    ·exact gQy hx fY
   by_cases qd:¬VJ x s
   ·refine Zy (by rw[if_neg qd];decide) ?_;exact⟨by rw[bad (λhh=>qd hh.1)],Qs.trans Qx⟩
   replace qd:=Decidable.not_not.1 qd;have h0:=qd.1;have e5:(if VJ x s then Zw x.o else -1)=((Zw x.o).toNat:Int):=by rw[Qf qd];omega
   rw[e5];refine XJ (by omega) ?_;refine Qo QD rfl ?_;refine Qo QD rfl ?_;refine um Qa rfl rfl rfl rfl rfl rfl rfl rfl rfl rfl (λw6 QQ bu Q7=>?_);have Ar:(Zw x.o).toNat<=2:=by rcases uB x.o with h | h | h | h<;>omega
   refine kh Qa rfl rfl rfl rfl rfl rfl Ar ?_;have ZV:=Qx.trans QQ;have LK:=hU4.ext ZV;have XX:=Qs.trans ZV;obtain⟨ol,ok⟩:=gQC qd;have Zq:=gQD x h0;have jO:Sl w6 1 (some ⟨w5.heap.size,0,none⟩) (Zw x.o).toNat 2 ((lK x).map (Value.int .i64)):=by
    have:=Sl.own (sz:=1) (n:=(Zw x.o).toNat) (c:=2) Q7 Ar (by decide) (by simpa using Ar);rw[Wm] at this;simpa [lK,List.map_take] using this
   have hkz:J1 (f.take (s+1))=J1 (f.take s)++Y4 x:=gQs f hx;refine loop Qa [38] (λt:Nat=>[.int .i64 t]) (λt w'=>Mod (·=w.heap.size) w6 w'/\Blk w' w.heap.size 297 (Ww (fK (J1 (f.take s)++(Y4 x).take t) 512))/\t<=(Zw x.o).toNat/\(J1 (f.take s)++(Y4 x).take t).Nodup) (λt _=>(Zw x.o).toNat-t) 0 rfl ⟨Mod.refl _ _,by simpa using LK,Xo _,by simpa using gz⟩ ?_;rintro t w7 ⟨J5,DG,ht,LL⟩;have Xh:Ext w w7:=J5.ext XX (λi hi=>by omega);refine Qw (λh7=>?_) (λh7=>?_)
   ·have Wd:t<(lK x).length:=by omega
    have eu:(lK x)[t]? =some (lK x)[t]:=Xu Wd;generalize (lK x)[t]=a at eu;obtain⟨a0,ai,ak⟩:=ok t a eu;refine KF jO (by omega) (λad u hA hu Xq=>?_);simp only[aR,eu,xb] at hu;cases hu;have mQE:w7.cell? (ad.add t)=some (.int .i64 a):=World.grownBy.cell (J5.grown (row:=some w.heap.size) (λi hi=>by rw[hi])) Xq (by
     rw[og];cases hA;intro e;have:=(Option.some.inj e)
     have:=Qs.size;have:=Qx.size;have:=Qe.size;have:=pk.lt;simp only at*;omega)
    refine load mQE ?_;have Vc:a.toNat<512:=by omega
    refine BY (j:=a.toNat) (by omega) Vc ?_;refine Qo DG (xL (St _ _ _ Vc)) ?_;have KX:(Y4 x).take (t+1)=(Y4 x).take t++ [a.toNat]:=by rw[VF,ak]<;>rfl
    refine Qw (λh8=>?_) (λh8=>?_)
    ·refine⟨?_,Xh⟩;rw[bad];rintro⟨_,bQ1⟩;rw[hkz] at bQ1;have iD:(J1 (f.take s)++(Y4 x).take (t+1)).Nodup:=bQ1.sublist ((List.Sublist.refl _).append (List.take_sublist _ _));rw[KX,<-ZG,PI] at iD;exact iD.2.2 _ h8 _ (by simp) rfl
    ·refine BY (j:=a.toNat) (by omega) Vc ?_;refine XV DG (by rw[gQq,gQv];exact Vc) (λw8 JD Xz=>?_);rw[<-Ss,gQw,ZG,<-KX] at Xz;refine Qj ((t+1:Nat):Int) (by omega) (by omega) ?_;refine⟨t+1,rfl,⟨J5.trans JD (λi hi=>.inl hi),Xz,by omega,?_⟩,by show(Zw x.o).toNat-(t+1)<(Zw x.o).toNat-t;omega⟩;rw[KX,<-ZG,PI];refine⟨LL,by simp,λu hu v hv e=>?_⟩;simp only[QO] at hv;subst hv;subst e;exact h8 hu
   ·have e:(Y4 x).take t=Y4 x:=ZS (by omega);rw[e,<-hkz] at DG LL;refine Qj ((s+1:Nat):Int) (by omega) (by omega) ?_;refine⟨s+1,rfl,⟨Xh,DG,by omega,λj y hj hy=>?_,LL⟩,by show n-(s+1)<n-s;omega⟩;by_cases We:j<s
    ·exact hnd j y We hy
    ·have:j=s:=by omega
     subst this;rw[Option.some.inj (hy.symm.trans hx)];exact qd
  ·have:s=n:=by omega
   subst this;rw[ZS (by omega)] at pk gz;exact⟨(),rfl,Qg,pk,hnd,gz⟩
 rintro⟨⟩ w2 ⟨Qg,pk,hnd,gz⟩;refine Qj ((n-1:Nat):Int) (by omega) (by omega) ?_;refine kh Qa rfl rfl rfl rfl rfl rfl (by have:=h.1.le;omega) ?_;refine loop Qa [55] (λs:Nat=>[.int .i64 s]) (λs w'=>w2=w'/\s<=n-1/\∀j,j<s->j∈J1 f) (λs _=>n-s) 0 rfl ⟨rfl,Xo _,λj hj=>Xc hj (by omega)⟩ ?_;rintro s _ ⟨rfl,hs,hu⟩;refine Qw (λh3=>?_) (λh3=>?_)
 ·refine index (by omega) ?_;refine Qo pk (xL (St _ _ s (by omega))) ?_;refine kg (Qw (λhm=>?_) (λhm=>?_))
  ·refine Qj ((s+1:Nat):Int) (by omega) (by omega) ?_;refine⟨s+1,rfl,⟨rfl,by omega,λj hj=>?_⟩,by show n-(s+1)<n-s;omega⟩;by_cases We:j<s
   ·exact hu j We
   ·have:j=s:=by omega
    rw[this];exact hm
  ·refine⟨?_,Qg⟩;rw[Cc (λhv=>?_)];have:=hv.2.2.2 s (by omega);rw[PJ.2 hm] at this;cases this
 ·exact⟨by rw[Cb (gQA (by omega) (by omega) (λj x hj hx=>hnd j x (by omega) hx) gz (λj hj=>hu j (by omega)))],Qg⟩
end
section
inductive Fm where
 | c (b:Bool)
 | v (n:Nat)
 | not (a:Fm)
 | and (a b:Fm)
 | or (a b:Fm)
deriving DecidableEq
def RepF (f:List Fz):Fm->Nat->Prop
 | .c b,i=>f[i]? =some ⟨if b then 1 else 0,0,0,0⟩
 | .v n,i=>f[i]? =some ⟨2,(n:Nat),0,0⟩
 | .not a,i=>∃j:Nat,j<i/\f[i]? =some ⟨3,0,(j:Nat),0⟩/\RepF f a j
 | .and a b,i=>∃j k:Nat,j<i/\k<i/\f[i]? =some ⟨4,0,(j:Nat),(k:Nat)⟩/\RepF f a j/\RepF f b k
 | .or a b,i=>∃j k:Nat,j<i/\k<i/\f[i]? =some ⟨5,0,(j:Nat),(k:Nat)⟩/\RepF f a j/\RepF f b k
theorem gQE {x:Fz}{i:Nat}(h:VJ x i):(x=⟨0,0,0,0⟩)∨(x=⟨1,0,0,0⟩)∨(∃n:Nat,n<64/\x=⟨2,n,0,0⟩)∨(∃j:Nat,j<i/\x=⟨3,0,j,0⟩)∨(∃j k:Nat,j<i/\k<i/\(x=⟨4,0,j,k⟩∨x=⟨5,0,j,k⟩)):=by
 obtain⟨o,v,a,b⟩:=x;obtain⟨h1,h2,h3,h4⟩:=h;simp only at h1 h2 h3 h4;rcases uB o with⟨ho,e⟩ | ⟨ho,e⟩ | ⟨ho,e⟩ | ⟨e,_⟩
 ·rw[if_neg (by omega)] at h3 h4;subst h3;subst h4;rcases ho with rfl | rfl | rfl
  ·rw[if_neg (by omega)] at h2;subst h2;exact .inl rfl
  ·rw[if_neg (by omega)] at h2;subst h2;exact .inr (.inl rfl)
  ·rw[Qf rfl] at h2;refine .inr (.inr (.inl ⟨v.toNat,by omega,?_⟩));rw[Bo h2.1]
 ·rw[Qf (by omega)] at h3;rw[if_neg (by omega)] at h4 h2;subst ho;subst h4;subst h2;refine .inr (.inr (.inr (.inl ⟨a.toNat,by omega,?_⟩)));rw[Bo h3.1]
 ·rw[Qf (by omega)] at h3 h4;rw[if_neg (by omega)] at h2;subst h2;refine .inr (.inr (.inr (.inr ⟨a.toNat,b.toNat,by omega,by omega,?_⟩)));rw[Bo h3.1,Bo h4.1];rcases ho with rfl | rfl
  ·exact .inl rfl
  ·exact .inr rfl
 ·omega
theorem Sv {f:List Fz}(h:∀i x,f[i]? =some x->VJ x i):∀i,i<f.length->∃t,RepF f t i:=by
 intro i;induction i using Nat.strongRecOn with
 | _ i ih=>
  intro hi;have hx:=Xu hi;rcases gQE (h i _ hx)with e | e | ⟨n,_,e⟩ | ⟨j,hj,e⟩ | ⟨j,k,hj,hk,e⟩
  ·exact⟨.c false,by rw[e] at hx;exact hx⟩
  ·exact⟨.c true,by rw[e] at hx;exact hx⟩
  ·exact⟨.v n,by rw[e] at hx;exact hx⟩
  ·obtain⟨a,ha⟩:=ih j hj (by omega);exact⟨.not a,j,hj,by rw[e] at hx;exact hx,ha⟩
  ·obtain⟨a,ha⟩:=ih j hj (by omega);obtain⟨b,hb⟩:=ih k hk (by omega);rcases e with e | e
   ·exact⟨.and a b,j,k,hj,hk,by rw[e] at hx;exact hx,ha,hb⟩
   ·exact⟨.or a b,j,k,hj,hk,by rw[e] at hx;exact hx,ha,hb⟩
theorem RepF.lt {f:List Fz}:∀{t:Fm}{i:Nat},RepF f t i->i<f.length
 | .c _,_,h=>(Jd.1 h).1
 | .v _,_,h=>(Jd.1 h).1
 | .not _,_,⟨_,_,h,_⟩=>(Jd.1 h).1
 | .and _ _,_,⟨_,_,_,_,h,_⟩=>(Jd.1 h).1
 | .or _ _,_,⟨_,_,_,_,h,_⟩=>(Jd.1 h).1
def Z3:Fm->Nat
 | .or _ _=>0
 | .and _ _=>1
 | _=>2
def YL (b:Bool)(s:List Nat):List Nat:=if b then 40::s++ [41] else s
def JN (nm:List (List Nat)):Fm->List Nat
 | .c b=>if b then WY else dH
 | .v n=>nm[n]?.getD []
 | .not a=>33::YL (decide (Z3 a<2)) (JN nm a)
 | .and a b=>YL (decide (Z3 a<1)) (JN nm a)++ [32,38,38,32]++YL (decide (Z3 b<2)) (JN nm b)
 | .or a b=>YL (decide (Z3 a<0)) (JN nm a)++ [32,124,124,32]++YL (decide (Z3 b<1)) (JN nm b)
def Z4 (nm:List (List Nat))(least:Nat)(t:Fm):List Nat:=YL (decide (Z3 t<least)) (JN nm t)
def VarsIn (n:Nat):Fm->Prop
 | .c _=>True
 | .v k=>k<n
 | .not a=>VarsIn n a
 | .and a b=>VarsIn n a/\VarsIn n b
 | .or a b=>VarsIn n a/\VarsIn n b
theorem gQF (o:Int)(w:World):Fn Tryz.prog 224 [.int .i64 o] w (λv w'=>v= .int .i64 (if o=5 then 0 else if o=4 then 1 else 2)/\w=w'):=by
 refine QJ (c:=fQS) Qa Tryz.func224 rfl rfl rfl ?_;refine X8 (λh=>?_) (λh=>?_)
 ·exact⟨by rw[Qf h],rfl⟩
 refine X8 (λh1=>?_) (λh1=>?_)
 ·exact⟨by rw[if_neg h,Qf h1],rfl⟩
 ·exact⟨by rw[if_neg h,if_neg h1],rfl⟩
theorem uD (u:FrameMode)(base g t:Nat)(rest:List Value)(A:Option Addr)(c:Nat)(out:List Nat)(b:Nat)(w:World)(hl:rp t (rest.length+2))(hb:Bld w base g t rest A c out)(hs:out.length+1<=140737488355328):
  CallsD Tryz.prog 225 [.pointer (some ⟨g,0,none⟩),.int .u8 b].toArray u w (λe u' w'=>u'=u/\∃v,e= .returned v/\(λ_ w'=>∃A' c',Bld w' base g t rest A' c' (out++ [b])/\Mod (BldS g A) w w'/\Moved w A A') v w'):=by
 refine gQl (c:=RT) Qa u Tryz.func225 rfl rfl rfl ?_;obtain⟨pa,Jn,hB⟩:=hb.blk;refine call (GP g t pa _ rest w hl Jn hB) ?_;rintro v w1 ⟨ZE,Qh⟩;have Yo:=hb.own.rows;have fV:=hb.g1;have nz:=hb.top;have hn:¬Qk A g:=λh=>by have:=(Yo g h).1;omega
 have r5:=hb.own.mod ZE (λk hk e=>hn (e▸hk));refine Qo Qh rfl ?_;refine Ru Qa rfl rfl rfl rfl rfl rfl rfl rfl ?_;intro w7 Xh mQA Q3;have jn:Sl w7 1 (some ⟨w1.heap.size,0,none⟩) 1 1 [.int .u8 (b:Int)]:=Sl.own' Q3 rfl (by simp[maxLen]);have mQB:=ZE.size;have mQC:=Xh.size;refine Je Qa rfl rfl rfl rfl rfl (by decide) rfl rfl ⟨_,rfl⟩ rfl rfl (r5.ext Xh) jn (by simp[JS]) (by unfold maxLen;omega) (by show _*1<=_;omega) (by omega) ?_;intro A' c' w2 XW fd pf;refine XV ((Qh.ext Xh).mod XW hn) (by simp) (λw3 XI Qu=>?_);have r6:=fd.rows;refine⟨A',c',⟨fV,by have:=XW.size;have:=XI.size;omega,⟨_,.inr rfl,by rw[Qq];exact Qu⟩,?_⟩,?_,pf.back (by omega)⟩
 ·rw[Qq,BW];exact fd.mod XI (λk hk e=>by have:=(r6 k hk).1;omega)
 ·exact(((ZE.mono (S':=BldS g A) (λi hi=>.inl (.inl hi))).trans (Mod.of_ext (λ_=>False) Xh) (λi hi=>hi.elim)).trans XW (λi hi=>.inl (.inr hi))).trans XI (λi hi=>.inl (.inl hi))
end
section
theorem uE (a b:Value):(#[]++ [a,b].toArray)++ #[]=[a,b].toArray:=by simp
theorem W0:rp 109 2:=by unfold rp;kernel_rfl
def Wr (base g:Nat)(W:World)(A1:Option Addr)(out xs:List Nat)(w':World):Prop:=∃A' c',Bld w' base g 109 [] A' c' (out++xs)/\Mod (BldS g A1) W w'/\Moved W A1 A'
theorem Wr.trans {base g:Nat}{W w1 w2:World}{A1 A':Option Addr}{out xs ys:List Nat}(hm:Mod (BldS g A1) W w1)(hv:Moved W A1 A')(k:Wr base g w1 A' (out++xs) ys w2):Wr base g W A1 out (xs++ys) w2:=by
 obtain⟨A2,c2,hb2,XW,Kr⟩:=k;exact⟨A2,c2,by rw[<-ZG];exact hb2,hm.trans XW (BldS.moved hv),hv.trans Kr hm.size⟩
theorem qQN {base g:Nat}{w w2 w':World}{A:Option Addr}{out xs:List Nat}(h:Wr base g w2 A out xs w')(hE:Ext w w2):Wr base g w A out xs w':=by
 obtain⟨A2,c2,hb2,XW,Kr⟩:=h;exact⟨A2,c2,hb2,(Mod.of_ext _ hE).trans XW (λi hi=>.inl hi),Kr.back hE.size⟩
theorem BldS.kept {base g:Nat}{w0 W:World}{A:Option Addr}{c:Nat}{out:List Nat}(h:Bld W base g 109 [] A c out)(hg:w0.heap.size<=g):∀i,BldS g A i->w0.heap.size<=i:=λi hi=>by
 have:=h.g1;rcases hi with rfl | hi
 ·exact hg
 ·have:=(h.own.rows i hi).1;omega
def QK:Fm->Nat
 | .c _=>1
 | .v _=>1
 | .not a=>QK a+1
 | .and a b=>QK a+QK b+1
 | .or a b=>QK a+QK b+1
def Yu:Fm->Int
 | .c b=>if b then 1 else 0
 | .v _=>2
 | .not _=>3
 | .and _ _=>4
 | .or _ _=>5
theorem gQG (t:Fm):(if Yu t=5 then(0:Int)else if Yu t=4 then 1 else 2)=(Z3 t:Nat):=by
 cases t with
 | c b=>cases b<;>rfl
 | _=>rfl
theorem RepF.node {f:List Fz}{t:Fm}{i:Nat}(h:RepF f t i):∃x,f[i]? =some x/\x.o=Yu t:=by
 cases t with
 | c b=>exact⟨_,h,rfl⟩
 | v n=>exact⟨_,h,rfl⟩
 | not a=>obtain⟨j,_,h,_⟩:=h;exact⟨_,h,rfl⟩
 | and a b=>obtain⟨j,k,_,_,h,_⟩:=h;exact⟨_,h,rfl⟩
 | or a b=>obtain⟨j,k,_,_,h,_⟩:=h;exact⟨_,h,rfl⟩
def Cd (base g:Nat)(w0:World)(NA:Option Addr)(nn nc:Nat)(nm:List (List Nat))(FA:Option Addr)(nf cf:Nat)(f:List Fz)(t:Fm):Prop:=
 ∀(i least:Nat) (A:Option Addr) (c:Nat) (out:List Nat) (w:World),Ext w0 w->Bld w base g 109 [] A c out->RepF f t i->VarsIn nn t->out.length+(Z4 nm least t).length<=140737488355328->least<=2->
  Fn Tryz.prog 194 [.pointer (some ⟨g,0,none⟩),.slice NA nn nc,.slice FA nf cf,.int .i64 i,.int .i64 least] w (λ_ w'=>Wr base g w A out (Z4 nm least t) w')
theorem gQH (base g:Nat)(w0:World)(NA:Option Addr)(nn nc:Nat)(nm:List (List Nat))(FA:Option Addr)(nf cf:Nat)(f:List Fz)(hN:Sl w0 1 NA nn nc (XH nm))(Yp:KO nm)(hF:SF w0 FA nf cf f)(yU:w0.heap.size<=g)(t:Fm)(ih:∀u:Fm,QK u<QK t->Cd base g w0 NA nn nc nm FA nf cf f u):Cd base g w0 NA nn nc nm FA nf cf f t:=by
 intro i least A c out w hE hb hr hv hl ZF;have Zq:=hF.2;have KC:nm.length=nn:=by have:=hN.len;rw[bT] at this;omega
 have hi:=hr.lt;obtain⟨x,hx,As⟩:=hr.node;refine xK (c:={fQA with cuts:=[]}) Qa Tryz.func194 rfl rfl rfl ?_;refine Z2 (ZN Qa ?_);refine Zt B0 (hF.ext hE) rfl (by omega) (λp y hy hc=>?_);have jM:y=x:=Option.some.inj (hy.symm.trans hx);subst jM;refine Jz (vs:=y.cells) rfl hc ?_;refine new (λw1 Qe Q6 Qh=>?_);refine Qv Qh rfl (sc rfl) (λw2 de Ze KS=>?_);have XB:Ext w w2:=XT Qe Qh de;have QT:=hE.trans XB;have hb2:=hb.grow XB;have nz:=hb.top;have fV:=hb.g1;have jP:¬BldS g A w.heap.size:=λe=>by
  rcases e with e | e
  ·omega
  ·have:=(hb.own.rows _ e).2;omega
 refine Z2 (ZN Qa ?_);refine Qz KS rfl ?_;refine call (gQF y.o w2) ?_;rintro v _ ⟨rfl,rfl⟩;rw[As,gQG];have JF:(Z4 nm least t).length=(JN nm t).length+(if Z3 t<least then 2 else 0):=by
  unfold Z4 YL;split
  ·rename_i h;rw[Qf (by simpa using h)];simp
  ·rename_i h;rw[if_neg (by simpa using h)]<;>rfl
 have vL:∀A' c' out' W w',Bld W base g 109 [] A' c' out'->Mod (BldS g A') W w'->Ext w0 W->Ext w0 w':=λA' c' out' W w' hb hm hE=>hm.ext hE (BldS.kept hb yU)
 refine Z2 ?_;refine Z2 (ZN Qa ?_);by_cases hd:Z3 t<least
 ·rw[Qf hd] at JF;have gA:Z4 nm least t=[40]++(JN nm t++ [41]):=by unfold Z4 YL;rw[Qf (by simpa using hd)];simp
  refine gQj rfl (Zx (by omega)) (Z2 (ZN Qa ?_));refine call (GQ base g _ [] _ _ _ 40 w2 W0 hb2 (by omega)) ?_;rintro v w3 ⟨A3,c3,pm,XI,bt⟩;generalize fh:out++ [40]=oo at pm;have VR:=KS.mod XI jP;have QU:=vL _ _ _ _ _ hb2 XI QT;have vM:¬BldS g A3 w.heap.size:=λe=>(BldS.moved bt _ e).elim jP (λh=>by omega)
  refine xJ Qa rfl rfl rfl rfl ⟨_,_,_,_,rfl,rfl,?_⟩;have XL:oo.length+(JN nm t).length<=140737488355327:=by rw[<-fh,Qq];simp only[Q2,Jp];omega
  have Ki:=XL
  replace XL:oo.length+(JN nm t).length<=140737488355328:=by omega
  have tq:∀w',Mod (BldS g A3) w3 w'->Blk w' w.heap.size 280 y.cells/\Ext w0 w':=λw' hm=>⟨VR.mod hm vM,vL _ _ _ _ _ pm hm QU⟩
  refine Z2 (ZN Qa ?_);refine Qz VR rfl ?_;refine ZN Qa ?_;rw[As] at*;cases t with
  | c b=>
   cases b with
   | false=>
    refine J0 rfl ?_;refine call (iR base g _ [] _ _ _ _ w3 W0 pm (by have:(JN nm (.c false)).length=5:=rfl;rw[this] at XL;exact XL)) ?_;rintro v w9 h9
    replace h9:Wr base g w3 A3 _ (JN nm (.c false)) w9:=h9;obtain⟨A9,c9,jp,fZ,jq⟩:=h9;refine gU (gV Qa rfl rfl (.inr rfl) (uE _ _) ((uD .returning base g _ [] A9 c9 _ 41 w9 W0 jp (by rw[Qq];omega)).mono ?_));rintro e u' QE ⟨rfl,v,rfl,XO⟩;refine⟨v,rfl,rfl,?_⟩;show Wr base g w A out (Z4 nm least _) QE;rw[gA];exact qQN (Wr.trans XI bt (by rw[fh];exact Wr.trans fZ jq XO)) XB
   | true=>
    refine XK (by decide) ?_;refine J0 rfl ?_;refine call (iR base g _ [] _ _ _ _ w3 W0 pm (by have:(JN nm (.c true)).length=4:=rfl;rw[this] at XL;exact XL)) ?_;rintro v w9 h9
    replace h9:Wr base g w3 A3 _ (JN nm (.c true)) w9:=h9;obtain⟨A9,c9,jp,fZ,jq⟩:=h9;refine gU (gV Qa rfl rfl (.inr rfl) (uE _ _) ((uD .returning base g _ [] A9 c9 _ 41 w9 W0 jp (by rw[Qq];omega)).mono ?_));rintro e u' QE ⟨rfl,v,rfl,XO⟩;refine⟨v,rfl,rfl,?_⟩;show Wr base g w A out (Z4 nm least _) QE;rw[gA];exact qQN (Wr.trans XI bt (by rw[fh];exact Wr.trans fZ jq XO)) XB
  | v n=>
   have hy:y=⟨2,(n:Nat),0,0⟩:=Option.some.inj (hx.symm.trans hr);subst hy;refine XK (by show(2:Int)≠_;decide) ?_;refine XK (by show(2:Int)≠_;decide) ?_;refine J0 rfl ?_;refine Qo VR rfl ?_;have hn:n<nn:=hv;have tr:nm[n]? =some nm[n]:=Xu (by omega);have jQ:JN nm (.v n)=nm[n]:=by show nm[n]?.getD []=_;rw[tr]<;>rfl
   rw[jQ] at XL;generalize nm[n]=s at*;refine KF (hN.ext QU) (by omega) (λad u hA hu Xq=>?_);rw[lJ tr] at hu;cases hu;refine load Xq ?_;refine call (iR base g _ [] _ _ _ _ w3 W0 pm (by rw[Q8];exact XL)) ?_;rintro v w9 h9;rw[Ws (Yp s (Xl tr)).1] at h9;rw[<-jQ] at h9;obtain⟨A9,c9,jp,fZ,jq⟩:=h9;refine gU (gV Qa rfl rfl (.inr rfl) (uE _ _) ((uD .returning base g _ [] A9 c9 _ 41 w9 W0 jp (by rw[Qq];omega)).mono ?_));rintro e u' QE ⟨rfl,v,rfl,XO⟩;refine⟨v,rfl,rfl,?_⟩;show Wr base g w A out (Z4 nm least _) QE;rw[gA];exact qQN (Wr.trans XI bt (by rw[fh];exact Wr.trans fZ jq XO)) XB
  | not a=>
   obtain⟨j,hj,hy,WJ⟩:=hr;have hy:=Option.some.inj (hx.symm.trans hy);subst hy;refine XK (by show(3:Int)≠_;decide) ?_;refine XK (by show(3:Int)≠_;decide) ?_;refine XK (by show(3:Int)≠_;decide) ?_;refine J0 rfl ?_;have Jn:JN nm (.not a)=[33]++Z4 nm 2 a:=rfl;rw[Jn,Qq] at XL;simp only[Q2,Jp] at XL;refine call (GQ base g _ [] _ _ _ 33 w3 W0 pm (by omega)) ?_;rintro v w7 ⟨A7,c7,jr,J5,K7⟩;obtain⟨yV,Xh⟩:=tq w7 J5;refine Qo yV rfl ?_;refine call (ih a (by simp only[QK];omega) j 2 A7 c7 _ w7 Xh jr WJ hv (by rw[Qq];simp only[Q2,Jp];omega) (QB _)) ?_;rintro v w9 h9
   replace h9:=Wr.trans J5 K7 h9;rw[<-Jn] at h9;obtain⟨A9,c9,jp,fZ,jq⟩:=h9;refine gU (gV Qa rfl rfl (.inr rfl) (uE _ _) ((uD .returning base g _ [] A9 c9 _ 41 w9 W0 jp (by rw[Qq];omega)).mono ?_));rintro e u' QE ⟨rfl,v,rfl,XO⟩;refine⟨v,rfl,rfl,?_⟩;show Wr base g w A out (Z4 nm least _) QE;rw[gA];exact qQN (Wr.trans XI bt (by rw[fh];exact Wr.trans fZ jq XO)) XB
  | and a b=>
   obtain⟨j,k,hj,hk,hy,WJ,gB⟩:=hr;have hy:=Option.some.inj (hx.symm.trans hy);subst hy;refine XK (by show(4:Int)≠_;decide) ?_;refine XK (by show(4:Int)≠_;decide) ?_;refine XK (by show(4:Int)≠_;decide) ?_;refine XK (by show(4:Int)≠_;decide) ?_;have Jn:JN nm (.and a b)=(Z4 nm 1 a++ [32,38,38,32])++Z4 nm 2 b:=rfl;rw[Jn,Qq,Qq] at XL;simp only[Q2,Jp] at XL;refine Qo VR rfl ?_;refine call (ih a (by simp only[QK];omega) j 1 _ _ _ w3 QU pm WJ hv.1 (by omega) (by omega)) ?_;rintro v w7 ⟨A7,c7,jr,J5,K7⟩;refine um Qa rfl rfl rfl rfl rfl rfl rfl rfl rfl rfl (λw8 Xn YU Xz=>?_);refine index (j:=1) (by decide) ?_;refine Qo Xz rfl ?_;have JD:=J5.trans (Mod.of_ext (BldS g A7) Xn) (BldS.moved K7);refine call (iR base g _ [] _ _ _ _ w8 W0 (jr.grow Xn) (by rw[Qq,show(⟨#[32,38,38,32]⟩:ByteArray).size=4 from rfl];omega)) ?_;rintro v w5 h5
   replace h5:=Wr.trans JD K7 (show Wr base g w8 A7 _ [32,38,38,32] w5 from (by obtain⟨A5,c5,Yk,XZ,YD⟩:=h5;exact⟨A5,c5,Yk,XZ,YD⟩));obtain⟨A5,c5,Yk,XZ,YD⟩:=h5;obtain⟨KT,Qx⟩:=tq w5 XZ;refine Qo KT rfl ?_;refine Qj 2 (by show(1:Int)+1=2;decide) (by decide) ?_;refine call (ih b (by simp only[QK];omega) k 2 A5 c5 _ w5 Qx Yk gB hv.2 (by rw[Qq,Qq];simp only[Q2,Jp];omega) (by omega)) ?_;rintro v w9 h9
   replace h9:=Wr.trans XZ YD h9;rw[<-Jn] at h9;obtain⟨A9,c9,jp,fZ,jq⟩:=h9;refine gU (gV Qa rfl rfl (.inr rfl) (uE _ _) ((uD .returning base g _ [] A9 c9 _ 41 w9 W0 jp (by rw[Qq];omega)).mono ?_));rintro e u' QE ⟨rfl,v,rfl,XO⟩;refine⟨v,rfl,rfl,?_⟩;show Wr base g w A out (Z4 nm least _) QE;rw[gA];exact qQN (Wr.trans XI bt (by rw[fh];exact Wr.trans fZ jq XO)) XB
  | or a b=>
   obtain⟨j,k,hj,hk,hy,WJ,gB⟩:=hr;have hy:=Option.some.inj (hx.symm.trans hy);subst hy;refine XK (by show(5:Int)≠_;decide) ?_;refine XK (by show(5:Int)≠_;decide) ?_;refine XK (by show(5:Int)≠_;decide) ?_;refine XK (by show(5:Int)≠_;decide) ?_;have Jn:JN nm (.or a b)=(Z4 nm 0 a++ [32,124,124,32])++Z4 nm 1 b:=rfl;rw[Jn,Qq,Qq] at XL;simp only[Q2,Jp] at XL;refine Qo VR rfl ?_;refine call (ih a (by simp only[QK];omega) j 0 _ _ _ w3 QU pm WJ hv.1 (by omega) (by omega)) ?_;rintro v w7 ⟨A7,c7,jr,J5,K7⟩;refine um Qa rfl rfl rfl rfl rfl rfl rfl rfl rfl rfl (λw8 Xn YU Xz=>?_);refine index (j:=0) (by decide) ?_;refine Qo Xz rfl ?_;have JD:=J5.trans (Mod.of_ext (BldS g A7) Xn) (BldS.moved K7);refine call (iR base g _ [] _ _ _ _ w8 W0 (jr.grow Xn) (by rw[Qq,show(⟨#[32,124,124,32]⟩:ByteArray).size=4 from rfl];omega)) ?_;rintro v w5 h5
   replace h5:=Wr.trans JD K7 (show Wr base g w8 A7 _ [32,124,124,32] w5 from (by obtain⟨A5,c5,Yk,XZ,YD⟩:=h5;exact⟨A5,c5,Yk,XZ,YD⟩));obtain⟨A5,c5,Yk,XZ,YD⟩:=h5;obtain⟨KT,Qx⟩:=tq w5 XZ;refine Qo KT rfl ?_;refine Qj 1 (by show(0:Int)+1=1;decide) (by decide) ?_;refine call (ih b (by simp only[QK];omega) k 1 A5 c5 _ w5 Qx Yk gB hv.2 (by rw[Qq,Qq];simp only[Q2,Jp];omega) (by omega)) ?_;rintro v w9 h9
   replace h9:=Wr.trans XZ YD h9;rw[<-Jn] at h9;obtain⟨A9,c9,jp,fZ,jq⟩:=h9;refine gU (gV Qa rfl rfl (.inr rfl) (uE _ _) ((uD .returning base g _ [] A9 c9 _ 41 w9 W0 jp (by rw[Qq];omega)).mono ?_));rintro e u' QE ⟨rfl,v,rfl,XO⟩;refine⟨v,rfl,rfl,?_⟩;show Wr base g w A out (Z4 nm least _) QE;rw[gA];exact qQN (Wr.trans XI bt (by rw[fh];exact Wr.trans fZ jq XO)) XB
 ·rw[if_neg hd] at JF;have gA:Z4 nm least t=JN nm t:=by unfold Z4 YL;rw[if_neg (by simpa using hd)]
  refine gQk rfl (Zr (by omega)) (ZN Qa ?_);have XL:out.length+(JN nm t).length<=140737488355328:=by omega
  have tq:∀w',Mod (BldS g A) w2 w'->Blk w' w.heap.size 280 y.cells/\Ext w0 w':=λw' hm=>⟨KS.mod hm jP,vL _ _ _ _ _ hb2 hm QT⟩
  refine Z2 (ZN Qa ?_);refine Qz KS rfl ?_;refine ZN Qa ?_;rw[As] at*;cases t with
  | c b=>
   cases b with
   | false=>
    refine J0 rfl ?_;refine call (iR base g _ [] _ _ _ _ w2 W0 hb2 (by have:(JN nm (.c false)).length=5:=rfl;rw[this] at XL;exact XL)) ?_;rintro v w9 h9
    replace h9:Wr base g w2 A _ (JN nm (.c false)) w9:=h9;refine gU (kt Qa rfl (.inr rfl) ?_);show Wr base g w A out (Z4 nm least _) w9;rw[gA];exact qQN h9 XB
   | true=>
    refine XK (by decide) ?_;refine J0 rfl ?_;refine call (iR base g _ [] _ _ _ _ w2 W0 hb2 (by have:(JN nm (.c true)).length=4:=rfl;rw[this] at XL;exact XL)) ?_;rintro v w9 h9
    replace h9:Wr base g w2 A _ (JN nm (.c true)) w9:=h9;refine gU (kt Qa rfl (.inr rfl) ?_);show Wr base g w A out (Z4 nm least _) w9;rw[gA];exact qQN h9 XB
  | v n=>
   have hy:y=⟨2,(n:Nat),0,0⟩:=Option.some.inj (hx.symm.trans hr);subst hy;refine XK (by show(2:Int)≠_;decide) ?_;refine XK (by show(2:Int)≠_;decide) ?_;refine J0 rfl ?_;refine Qo KS rfl ?_;have hn:n<nn:=hv;have tr:nm[n]? =some nm[n]:=Xu (by omega);have jQ:JN nm (.v n)=nm[n]:=by show nm[n]?.getD []=_;rw[tr]<;>rfl
   rw[jQ] at XL;generalize nm[n]=s at*;refine KF (hN.ext QT) (by omega) (λad u hA hu Xq=>?_);rw[lJ tr] at hu;cases hu;refine load Xq ?_;refine call (iR base g _ [] _ _ _ _ w2 W0 hb2 (by rw[Q8];exact XL)) ?_;rintro v w9 h9;rw[Ws (Yp s (Xl tr)).1] at h9;rw[<-jQ] at h9;refine gU (kt Qa rfl (.inr rfl) ?_);show Wr base g w A out (Z4 nm least _) w9;rw[gA];exact qQN h9 XB
  | not a=>
   obtain⟨j,hj,hy,WJ⟩:=hr;have hy:=Option.some.inj (hx.symm.trans hy);subst hy;refine XK (by show(3:Int)≠_;decide) ?_;refine XK (by show(3:Int)≠_;decide) ?_;refine XK (by show(3:Int)≠_;decide) ?_;refine J0 rfl ?_;have Jn:JN nm (.not a)=[33]++Z4 nm 2 a:=rfl;rw[Jn,Qq] at XL;simp only[Q2,Jp] at XL;refine call (GQ base g _ [] _ _ _ 33 w2 W0 hb2 (by omega)) ?_;rintro v w7 ⟨A7,c7,jr,J5,K7⟩;obtain⟨yV,Xh⟩:=tq w7 J5;refine Qo yV rfl ?_;refine call (ih a (by simp only[QK];omega) j 2 A7 c7 _ w7 Xh jr WJ hv (by rw[Qq];simp only[Q2,Jp];omega) (QB _)) ?_;rintro v w9 h9
   replace h9:=Wr.trans J5 K7 h9;rw[<-Jn] at h9;refine gU (kt Qa rfl (.inr rfl) ?_);show Wr base g w A out (Z4 nm least _) w9;rw[gA];exact qQN h9 XB
  | and a b=>
   obtain⟨j,k,hj,hk,hy,WJ,gB⟩:=hr;have hy:=Option.some.inj (hx.symm.trans hy);subst hy;refine XK (by show(4:Int)≠_;decide) ?_;refine XK (by show(4:Int)≠_;decide) ?_;refine XK (by show(4:Int)≠_;decide) ?_;refine XK (by show(4:Int)≠_;decide) ?_;have Jn:JN nm (.and a b)=(Z4 nm 1 a++ [32,38,38,32])++Z4 nm 2 b:=rfl;rw[Jn,Qq,Qq] at XL;simp only[Q2,Jp] at XL;refine Qo KS rfl ?_;refine call (ih a (by simp only[QK];omega) j 1 _ _ _ w2 QT hb2 WJ hv.1 (by omega) (by omega)) ?_;rintro v w7 ⟨A7,c7,jr,J5,K7⟩;refine um Qa rfl rfl rfl rfl rfl rfl rfl rfl rfl rfl (λw8 Xn YU Xz=>?_);refine index (j:=1) (by decide) ?_;refine Qo Xz rfl ?_;have JD:=J5.trans (Mod.of_ext (BldS g A7) Xn) (BldS.moved K7);refine call (iR base g _ [] _ _ _ _ w8 W0 (jr.grow Xn) (by rw[Qq,show(⟨#[32,38,38,32]⟩:ByteArray).size=4 from rfl];omega)) ?_;rintro v w5 h5
   replace h5:=Wr.trans JD K7 (show Wr base g w8 A7 _ [32,38,38,32] w5 from (by obtain⟨A5,c5,Yk,XZ,YD⟩:=h5;exact⟨A5,c5,Yk,XZ,YD⟩));obtain⟨A5,c5,Yk,XZ,YD⟩:=h5;obtain⟨KT,Qx⟩:=tq w5 XZ;refine Qo KT rfl ?_;refine Qj 2 (by show(1:Int)+1=2;decide) (by decide) ?_;refine call (ih b (by simp only[QK];omega) k 2 A5 c5 _ w5 Qx Yk gB hv.2 (by rw[Qq,Qq];simp only[Q2,Jp];omega) (by omega)) ?_;rintro v w9 h9
   replace h9:=Wr.trans XZ YD h9;rw[<-Jn] at h9;refine gU (kt Qa rfl (.inr rfl) ?_);show Wr base g w A out (Z4 nm least _) w9;rw[gA];exact qQN h9 XB
  | or a b=>
   obtain⟨j,k,hj,hk,hy,WJ,gB⟩:=hr;have hy:=Option.some.inj (hx.symm.trans hy);subst hy;refine XK (by show(5:Int)≠_;decide) ?_;refine XK (by show(5:Int)≠_;decide) ?_;refine XK (by show(5:Int)≠_;decide) ?_;refine XK (by show(5:Int)≠_;decide) ?_;have Jn:JN nm (.or a b)=(Z4 nm 0 a++ [32,124,124,32])++Z4 nm 1 b:=rfl;rw[Jn,Qq,Qq] at XL;simp only[Q2,Jp] at XL;refine Qo KS rfl ?_;refine call (ih a (by simp only[QK];omega) j 0 _ _ _ w2 QT hb2 WJ hv.1 (by omega) (by omega)) ?_;rintro v w7 ⟨A7,c7,jr,J5,K7⟩;refine um Qa rfl rfl rfl rfl rfl rfl rfl rfl rfl rfl (λw8 Xn YU Xz=>?_);refine index (j:=0) (by decide) ?_;refine Qo Xz rfl ?_;have JD:=J5.trans (Mod.of_ext (BldS g A7) Xn) (BldS.moved K7);refine call (iR base g _ [] _ _ _ _ w8 W0 (jr.grow Xn) (by rw[Qq,show(⟨#[32,124,124,32]⟩:ByteArray).size=4 from rfl];omega)) ?_;rintro v w5 h5
   replace h5:=Wr.trans JD K7 (show Wr base g w8 A7 _ [32,124,124,32] w5 from (by obtain⟨A5,c5,Yk,XZ,YD⟩:=h5;exact⟨A5,c5,Yk,XZ,YD⟩));obtain⟨A5,c5,Yk,XZ,YD⟩:=h5;obtain⟨KT,Qx⟩:=tq w5 XZ;refine Qo KT rfl ?_;refine Qj 1 (by show(0:Int)+1=1;decide) (by decide) ?_;refine call (ih b (by simp only[QK];omega) k 1 A5 c5 _ w5 Qx Yk gB hv.2 (by rw[Qq,Qq];simp only[Q2,Jp];omega) (by omega)) ?_;rintro v w9 h9
   replace h9:=Wr.trans XZ YD h9;rw[<-Jn] at h9;refine gU (kt Qa rfl (.inr rfl) ?_);show Wr base g w A out (Z4 nm least _) w9;rw[gA];exact qQN h9 XB
theorem gQI (base g:Nat)(w0:World)(NA:Option Addr)(nn nc:Nat)(nm:List (List Nat))(FA:Option Addr)(nf cf:Nat)(f:List Fz)(hN:Sl w0 1 NA nn nc (XH nm))(Yp:KO nm)(hF:SF w0 FA nf cf f)(yU:w0.heap.size<=g)(t:Fm):Cd base g w0 NA nn nc nm FA nf cf f t:=by
 have key:∀(n:Nat) (t:Fm),QK t<n->Cd base g w0 NA nn nc nm FA nf cf f t:=by
  intro n;induction n with
  | zero=>intro t h;omega
  | succ n ih=>intro t _;exact gQH base g w0 NA nn nc nm FA nf cf f hN Yp hF yU t (λu hu=>ih u (by omega))
 exact key _ t (fB _)
end
section
theorem Ce {o v a b o' v' a' b':Int}(h:(⟨o,v,a,b⟩:Fz)=⟨o',v',a',b'⟩):o=o'/\v=v'/\a=a'/\b=b':=by cases h;exact⟨rfl,rfl,rfl,rfl⟩
theorem qQP {f:List Fz}:∀{t t':Fm}{i:Nat},RepF f t i->RepF f t' i->t=t':=by
 intro t;induction t with
 | c b=>
  intro t' i h h';obtain⟨x,hx,ho⟩:=RepF.node h;obtain⟨x',KW,Kt⟩:=RepF.node h';have e:=Option.some.inj (hx.symm.trans KW);rw[<-e,ho] at Kt;cases t' with
  | c b'=>cases b<;>cases b'<;>first | rfl | (simp[Yu] at Kt)
  | v n=>cases b<;>simp[Yu] at Kt
  | not a=>cases b<;>simp[Yu] at Kt
  | and a c=>cases b<;>simp[Yu] at Kt
  | or a c=>cases b<;>simp[Yu] at Kt
 | v n=>
  intro t' i h h';obtain⟨x',KW,Kt⟩:=RepF.node h';have e:=Option.some.inj (KW.symm.trans h);rw[e] at Kt;cases t' with
  | c b'=>cases b'<;>simp[Yu] at Kt
  | v n'=>
   have:=Ce (Option.some.inj (h.symm.trans h'));congr 1;omega
  | not a=>simp[Yu] at Kt
  | and a c=>simp[Yu] at Kt
  | or a c=>simp[Yu] at Kt
 | not a iha=>
  intro t' i h h';obtain⟨j,hj,hx,ha⟩:=h;obtain⟨x',KW,Kt⟩:=RepF.node h';have e:=Option.some.inj (KW.symm.trans hx);rw[e] at Kt;cases t' with
  | c b'=>cases b'<;>simp[Yu] at Kt
  | v n'=>simp[Yu] at Kt
  | not a'=>
   obtain⟨j',qe,At,tu⟩:=h';have:=Ce (Option.some.inj (hx.symm.trans At));have ej:j=j':=by omega
   subst ej;rw[iha ha tu]
  | and a c=>simp[Yu] at Kt
  | or a c=>simp[Yu] at Kt
 | and a b iha ihb=>
  intro t' i h h';obtain⟨j,k,hj,hk,hx,ha,hb⟩:=h;obtain⟨x',KW,Kt⟩:=RepF.node h';have e:=Option.some.inj (KW.symm.trans hx);rw[e] at Kt;cases t' with
  | c b'=>cases b'<;>simp[Yu] at Kt
  | v n'=>simp[Yu] at Kt
  | not a'=>simp[Yu] at Kt
  | and a' b'=>
   obtain⟨j',k',qe,YX,At,tu,hb'⟩:=h';have:=Ce (Option.some.inj (hx.symm.trans At));have ej:j=j':=by omega
   have ek:k=k':=by omega
   subst ej;subst ek;rw[iha ha tu,ihb hb hb']
  | or a c=>simp[Yu] at Kt
 | or a b iha ihb=>
  intro t' i h h';obtain⟨j,k,hj,hk,hx,ha,hb⟩:=h;obtain⟨x',KW,Kt⟩:=RepF.node h';have e:=Option.some.inj (KW.symm.trans hx);rw[e] at Kt;cases t' with
  | c b'=>cases b'<;>simp[Yu] at Kt
  | v n'=>simp[Yu] at Kt
  | not a'=>simp[Yu] at Kt
  | and a c=>simp[Yu] at Kt
  | or a' b'=>
   obtain⟨j',k',qe,YX,At,tu,hb'⟩:=h';have:=Ce (Option.some.inj (hx.symm.trans At));have ej:j=j':=by omega
   have ek:k=k':=by omega
   subst ej;subst ek;rw[iha ha tu,ihb hb hb']
open Classical in
def gW (f:List Fz):Fm:=if h:∃t,RepF f t (f.length-1)then h.choose else .c false
theorem G8 {f:List Fz}{t:Fm}(h:RepF f t (f.length-1)):gW f=t:=by
 have kY:∃t,RepF f t (f.length-1):=⟨t,h⟩
 unfold gW;rw[dif_pos kY];exact qQP kY.choose_spec h
theorem gQJ {f:List Fz}(h:FV f):RepF f (gW f) (f.length-1):=by
 obtain⟨t,ht⟩:=Sv h.2.2.1 (f.length-1) (by have:=h.2.1;omega);rw[G8 ht];exact ht
def oy (n:Nat)(f:List Fz):Prop:=∀x∈f,x.o=2->x.v<n
theorem uF {n:Nat}{f:List Fz}(h:oy n f):∀{t:Fm}{i:Nat},RepF f t i->VarsIn n t
 | .c _,_,_=>trivial
 | .v k,_,hr=>by have:=h _ (Xl hr) rfl;simp only at this;show k<n;omega
 | .not a,_,⟨_,_,_,ha⟩=>show VarsIn n a from uF h ha
 | .and a b,_,⟨_,_,_,_,_,ha,hb⟩=>⟨show VarsIn n a from uF h ha,show VarsIn n b from uF h hb⟩
 | .or a b,_,⟨_,_,_,_,_,ha,hb⟩=>⟨show VarsIn n a from uF h ha,show VarsIn n b from uF h hb⟩
open Classical in
def lL (names:List (List Nat))(f:List Fz):List Nat×Int:=if Z1 names then if FV f/\oy names.length f then(Z4 names 0 (gW f),0)else([],30)else([],1)
theorem gQK {names:List (List Nat)}{f:List Fz}(h:Z1 names=false):lL names f=([],1):=by unfold lL;rw[h]<;>rfl
theorem Sw {names:List (List Nat)}{f:List Fz}(h:Z1 names=true)(hv:FV f)(ho:oy names.length f):lL names f=(Z4 names 0 (gW f),0):=by unfold lL;rw[Qf h,Qf ⟨hv,ho⟩]
theorem Sy {names:List (List Nat)}{f:List Fz}(h:Z1 names=true)(hv:¬(FV f/\oy names.length f)):lL names f=([],30):=by unfold lL;rw[Qf h,if_neg hv]
def Sz (w:World)(r:List Nat×Int)(v:Value)(w':World):Prop:=v= .tuple #[.string (Qd r.1),.int .i64 r.2]/\Ext w w'
theorem gQL {nm:List (List Nat)}(hn:KO nm):∀(t:Fm),∀x∈JN nm t,x<256:=by
 have par:∀(b:Bool) (s:List Nat),(∀x∈s,x<256)->∀x∈YL b s,x<256:=by
  intro b s h x hx;unfold YL at hx;split at hx
  ·simp only[XP,QY,JM,JR,Jo] at hx;rcases hx with rfl | hx | rfl
   ·decide
   ·exact h x hx
   ·decide
  ·exact h x hx
 intro t;induction t with
 | c b=>
  cases b
  ·show∀x∈dH,x<256;decide
  ·show∀x∈WY,x<256;decide
 | v n=>
  intro x hx;unfold JN at hx;cases h:nm[n]? with
  | none=>rw[h] at hx;cases hx
  | some s=>rw[h] at hx;exact(hn s (Xl h)).1 x hx
 | not a ih=>
  intro x hx;unfold JN at hx;simp only[QY] at hx;rcases hx with rfl | hx
  ·decide
  ·exact par _ _ ih x hx
 | and a b iha ihb=>
  intro x hx;unfold JN at hx;simp only[XP,QY,JM,JR] at hx;rcases hx with(hx | hx) | hx
  ·exact par _ _ iha x hx
  ·omega
  ·exact par _ _ ihb x hx
 | or a b iha ihb=>
  intro x hx;unfold JN at hx;simp only[XP,QY,JM,JR] at hx;rcases hx with(hx | hx) | hx
  ·exact par _ _ iha x hx
  ·omega
  ·exact par _ _ ihb x hx
theorem gQM (names:List (List Nat))(A FA:Option Addr)(n c nf cf:Nat)(f:List Fz)(w:World)(h:Sl w 1 A n c (XH names))(hb:KO names)(hF:SF w FA nf cf f)(hl:FV f->oy names.length f->(Z4 names 0 (gW f)).length<=140737488355328):
  Fn Tryz.prog 134 [.slice A n c,.slice FA nf cf] w (Sz w (lL names f)):=by
 have Zq:=hF.2;have KC:names.length=n:=by have:=h.len;rw[bT] at this;omega
 refine QJ (c:={eQX with cuts:=[6]}) Qa Tryz.func134 rfl rfl rfl ?_;refine call (GX names A n c w h hb) ?_;rintro v w1 ⟨v1,rfl,Qe,_⟩;cases X5:Z1 names with
 | false=>
  refine Xd rfl ?_;exact⟨by rw[gQK X5];rfl,Qe⟩
 | true=>
  refine Q9 rfl ?_;refine call (Su FA nf cf f w1 (hF.ext Qe)) ?_;rintro v w2 ⟨rfl,Qg⟩;have QT:=Qe.trans Qg;refine WW (λh1=>?_) (λh1=>?_)
  ·exact⟨by rw[Sy X5 (λhh=>h1 (Cb hh.1))];rfl,QT⟩
  have hv:=gQr.1 h1;refine gR [] Qa [] (λ_:Unit=>[]) (λ_ w'=>Ext w w'/\oy names.length f) ?_ ?_
  ·refine loop Qa [23] (λs:Nat=>[.int .i64 s]) (λs w'=>Ext w w'/\s<=nf/\∀j x,j<s->f[j]? =some x->x.o=2->x.v<n) (λs _=>nf-s) 0 rfl ⟨QT,Xo _,λj x hj=>Xc hj (by omega)⟩ ?_;rintro s w3 ⟨Qi,hs,hall⟩;refine Qw (λh3=>?_) (λh3=>?_)
   ·refine Zt B0 (hF.ext Qi) rfl (by omega) (λp x hx hc=>?_);refine Jz (vs:=x.cells) rfl hc ?_;refine new (λw4 Qs KR QR=>?_);refine Qv QR rfl (sc rfl) (λw5 JE KI QD=>?_);have K8:Ext w3 w5:=XT Qs QR JE;have Qx:=Qi.trans K8;have next:(x.o=2->x.v<n)->∀j y,j<s+1->f[j]? =some y->y.o=2->y.v<n:=λhq j y hj hy ho=>by
     by_cases We:j<s
     ·exact hall j y We hy ho
     ·have:j=s:=by omega
      subst this;have e:=Option.some.inj (hy.symm.trans hx);subst e;exact hq ho
    refine Qz QD rfl ?_;refine X8 (λh4=>?_) (λh4=>?_)
    ·refine Qo QD rfl ?_;refine Qw (λh5=>?_) (λh5=>?_)
     ·refine⟨?_,Qx⟩;rw[Sy X5 (λhh=>by have:=hh.2 x (Xl hx) h4;omega)];rfl
     ·refine Qj ((s+1:Nat):Int) (by omega) (by have:=hv.1;omega) ?_;exact⟨s+1,rfl,⟨Qx,by omega,next (λ_=>by omega)⟩,by show nf-(s+1)<nf-s;omega⟩
    ·refine Qj ((s+1:Nat):Int) (by omega) (by have:=hv.1;omega) ?_;exact⟨s+1,rfl,⟨Qx,by omega,next (λho=>Xc ho h4)⟩,by show nf-(s+1)<nf-s;omega⟩
   ·refine⟨(),rfl,Qi,λx hx ho=>?_⟩;obtain⟨j,hj,rfl⟩:=F9.1 hx;rw[KC];exact hall j _ (by omega) (Xu hj) ho
  rintro⟨⟩ w3 ⟨Qi,Av⟩;have ht:=gQJ hv;have aL:=hv.2.1;refine new (λw4 Qs KR QR=>?_);have LM:Bld w4 w4.heap.size w3.heap.size 109 [] none 0 []:=⟨by omega,QB _,⟨_,.inl rfl,QR⟩,Own.nil _ _ _ _⟩
  refine Qj ((nf-1:Nat):Int) (by omega) (by have:=hv.1;omega) ?_;have cy:=hl hv Av;rw[Zq] at ht;refine call (gQI w4.heap.size w3.heap.size w3 A n c names FA nf cf f (h.ext Qi) hb (hF.ext Qi) (QB _) (gW f) (nf-1) 0 none 0 [] w4 Qs LM ht (by rw[<-KC];exact uF Av ht) (by rw[Jp];omega) (by omega)) ?_;rintro v w5 ⟨A5,c5,Yk,XZ,YD⟩;rw[bO] at Yk;have Qx:Ext w w5:=XZ.ext (Qi.trans Qs) (λi hi=>by
   rcases hi with rfl | ⟨_,e,_⟩
   ·exact Qi.size
   ·cases e)
  have h8:∀x∈Z4 names 0 (gW f),x<256:=by
   unfold Z4 YL;rw[if_neg (by simp)];exact gQL hb _
  refine call (RZ w4.heap.size w3.heap.size _ [] A5 c5 _ w5 Yk h8 cy) ?_;rintro v w6 ⟨rfl,VQ⟩;refine⟨by rw[Sw X5 hv Av],VQ.ext Qx (λi hi=>?_)⟩;have:=(Yk.own.rows i hi).1;have:=Qi.size;omega
end
section
structure Br where
 v:Int
 l:Int
 h:Int
deriving DecidableEq
def Br.cells (x:Br):List Value:=[.int .i64 x.v,.int .i64 x.l,.int .i64 x.h]
theorem W3 (x:Br):x.cells.length=3:=rfl
abbrev SB (w:World)(A:Option Addr)(n c:Nat)(d:List Br):Prop:=SlS Br.cells 3 w A n c d
def Xm (A:Option Addr)(n c:Nat)(r:Int):Value:=.agg #[.slice A n c,.int .i64 r]
def Ql (d:List Br)(n:Int):Int:=if n<2 then 64 else(d[(n-2).toNat]?.map (·.v)).getD 64
def Zl (nd:List Br):Nat->Int->List Br×List Nat->Int×(List Br×List Nat)
 | 0,n,st=>(n,st)
 | m+1,n,st=>if n<2 then(n,st)else
   if 0<st.2[(n-2).toNat]?.getD 0 then((st.2[(n-2).toNat]?.getD 0:Nat),st)else
    match nd[(n-2).toNat]? with
    | none=>(n,st)
    | some x=>
     let a:=Zl nd m x.l st
     let b:=Zl nd m x.h a.2
     (((b.2.1.length+2:Nat):Int),(b.2.1++ [⟨x.v,a.1,b.1⟩],b.2.2.set (n-2).toNat (b.2.1.length+2)))
def cN (nd:List Br)(r:Int):List Br×Int:=let a:=Zl nd (r.toNat+1) r ([],List.replicate nd.length 0);(a.2.1,a.1)
def aY (nd:List Br):Prop:=∀(j:Nat)(x:Br),nd[j]? =some x->0<=x.l/\x.l<j+2/\0<=x.h/\x.h<j+2
def iU (nd:List Br)(j:Nat)(b:Br):Prop:=0<=b.v/\b.v<=63/\0<=b.l/\b.l<j+2/\0<=b.h/\b.h<j+2/\b.l≠b.h/\b∉nd.take j/\b.v<Ql nd b.l/\b.v<Ql nd b.h
def VD (nd:List Br)(r:Int):Prop:=(∀(j:Nat)(b:Br),nd[j]? =some b->iU nd j b)/\0<=r/\r<nd.length+2/\cN nd r=(nd,r)
open Classical in
def XC (nd:List Br)(r:Int):Int:=if 4096<nd.length then 2 else if VD nd r then 0 else 20
theorem gQN {nd:List Br}{r:Int}(h:4096<nd.length):XC nd r=2:=Qf h
theorem G9 {nd:List Br}{r:Int}(h:¬4096<nd.length)(k:VD nd r):XC nd r=0:=(if_neg h).trans (Qf k)
theorem Cf {nd:List Br}{r:Int}(h:¬4096<nd.length)(k:¬VD nd r):XC nd r=20:=(if_neg h).trans (if_neg k)
theorem fL {nd:List Br}{r:Int}:XC nd r=0↔¬4096<nd.length/\VD nd r:=by
 constructor
 ·intro h;unfold XC at h;split at h
  ·cases h
  ·split at h
   ·exact⟨by assumption,by assumption⟩
   ·cases h
 ·exactλh=>G9 h.1 h.2
theorem VD.wf {nd:List Br}{r:Int}(h:VD nd r):aY nd:=λj x hx=>by
 obtain⟨_,_,h1,h2,h3,h4,_⟩:=h.1 j x hx;exact⟨h1,h2,h3,h4⟩
theorem eQ (A:Option Addr)(n c:Nat)(r m:Int)(nd:List Br)(w:World)(h:SB w A n c nd)(hm:m<n+2):
  Fn Tryz.prog 103 [Xm A n c r,.int .i64 m] w (λv w'=>v= .int .i64 (Ql nd m)/\Ext w w'):=by
 have QZ:=h.2;refine QJ (c:={eQE with cuts:=[]}) Qa Tryz.func103 rfl rfl rfl ?_;refine new (λw1 Qe Q6 Qh=>?_);refine Qw (λh1=>?_) (λh1=>?_)
 ·exact⟨by unfold Ql;rw[Qf h1],Qe⟩
 ·refine Qz Qh rfl ?_;refine Qj (((m-2).toNat:Nat):Int) (by omega) (by have:=h.1.le;have:=h.1.cap;simp only[maxLen] at this;omega) ?_;refine Zt W3 (h.ext Qe) rfl (by omega) (λp x hx hc=>?_);refine load (hc 0 _ rfl) ?_;exact⟨by unfold Ql;rw[if_neg h1,hx];rfl,Qe⟩
theorem rx (a b c a' b' c':Int):(a==a'&&(b==b'&&(c==c'&&true)))=decide (a=a'/\b=b'/\c=c'):=by
 rw[qE];simp only[Z9,beq_iff_eq,VX,and_true]
theorem ry {x y:Br}:x=y↔x.v=y.v/\x.l=y.l/\x.h=y.h:=by
 constructor
 ·rintro rfl;exact⟨rfl,rfl,rfl⟩
 ·obtain⟨a,b,c⟩:=x;obtain⟨d,e,f⟩:=y;rintro⟨rfl,rfl,rfl⟩;rfl
theorem gQO {α:Type}{l l':List α}{j:Nat}{x y:α}(hx:l[j]? =some x)(hy:l'[j]? =some y)(h:x≠y):l≠l':=λe=>by subst e;exact h (Option.some.inj (hx.symm.trans hy))
theorem gQP {α:Type}{l l':List α}{n:Nat}(h1:l.length=n)(h2:l'.length=n)(h:∀j,j<n->l[j]? =l'[j]?):l=l':=by
 apply Bl;intro j;by_cases hj:j<n
 ·exact h j hj
 ·rw[qG (by omega),qG (by omega)]
theorem gQQ (A B:Option Addr)(n c m e:Nat)(l l':List Br)(w:World)(h:SB w A n c l)(h':SB w B m e l'):
  Fn Tryz.prog 158 [.slice A n c,.slice B m e] w (λv w'=>v= .bool (decide (l=l'))/\Ext w w'):=by
 have hl:=h.2;have ep:=h'.2;refine QJ (c:={fQh with cuts:=[]}) Qa Tryz.func158 rfl rfl rfl ?_;refine WW (λh1=>?_) (λh1=>?_)
 ·exact⟨by rw[Zr (λe=>by subst e;omega)],Ext.refl w⟩
 refine loop Qa [13] (λs:Nat=>[.int .i64 s]) (λs w'=>Ext w w'/\s<=n/\∀j,j<s->l[j]? =l'[j]?) (λs _=>n-s) 0 rfl ⟨Ext.refl w,Xo _,λj hj=>Xc hj (by omega)⟩ ?_;rintro s w1 ⟨Qe,hs,hall⟩;refine Qw (λh2=>?_) (λh2=>?_)
 ·refine XR Qa (Ext w1) 9 [(true,0),(true,1),(true,2),(true,3),(true,4),(true,5),(true,6),(true,7),(true,8)] (by kernel_rfl) (Ext.drew w1) ?_;refine Zt W3 (h.ext Qe) rfl (by omega) (λp x hx hc=>?_);refine Xv (vs:=x.cells) rfl (λw' Qb j v hj=>Qb.cell (hc j v hj)) ?_;refine Zt W3 (h'.ext Qe) rfl (by omega) (λq y hy ZZ=>?_);refine Xv (vs:=y.cells) rfl (λw' Qb j v hj=>Qb.cell (ZZ j v hj)) ?_;have cz:=Qe.trans (Ext.drew w1);by_cases Xr:x=y
  ·refine Q9 (by rw[rx,Zx (ry.1 Xr)];rfl) ?_;refine Qj ((s+1:Nat):Int) (by omega) (by have:=h.1.le;have:=h.1.cap;simp only[maxLen] at this;omega) ?_;refine⟨s+1,rfl,⟨cz,by omega,λj hj=>?_⟩,by show n-(s+1)<n-s;omega⟩;by_cases We:j<s
   ·exact hall j We
   ·have:j=s:=by omega
    subst this;rw[hx,hy,Xr]
  ·refine Xd (by rw[rx,Zr (λe=>Xr (ry.2 e))];rfl) ?_;exact⟨by rw[Zr (gQO hx hy Xr)],cz⟩
 ·exact⟨by rw[Zx (gQP hl (by omega) (λj hj=>hall j (by omega)))],Qe⟩
theorem gQR (A B:Option Addr)(n c m e:Nat)(l l':List Br)(r r':Int)(w:World)(h:SB w A n c l)(h':SB w B m e l'):
  Fn Tryz.prog 105 [Xm A n c r,Xm B m e r'] w (λv w'=>v= .bool (decide ((l,r)=(l',r')))/\Ext w w'):=by
 refine QJ (c:={eQG with cuts:=[]}) Qa Tryz.func105 rfl rfl rfl ?_;refine new (λw1 Qe Q6 Qh=>?_);refine new (λw2 Qg Ze Qy=>?_);have Vj:=Qh.ext Qg;have QT:=Qe.trans Qg;refine Qo Vj rfl ?_;refine Qo Qy rfl ?_;refine X8 (λh1=>?_) (λh1=>?_)
 ·refine Qz Vj rfl ?_;refine Qz Qy rfl ?_;refine call (gQQ A B n c m e l l' w2 (h.ext QT) (h'.ext QT)) ?_;rintro v w3 ⟨rfl,Qi⟩;refine⟨?_,QT.trans Qi⟩;congr 1;exact xj.2 ⟨λe=>by rw[e,h1],λe=>by cases e;rfl⟩
 ·exact⟨by rw[Zr (λe=>h1 (by cases e;rfl))],QT⟩
end
section
theorem SC {α:Type} [DecidableEq α]{kv:α->Value}{c:Cx}{o:Oper}{S:Env}{w:World}{K:Env->World->Prop}{Q:Zs}{t ke e:Nat}{r rk:TyRow}{x y:Operand}{q:Nat}{m:List (α×Value)}{a:α}{v:Value}{z:Operand}(hg:c.g.Ok)
  (ho:o.op= .insert t x y z) (jL:o.dst=none) (hr:Q0 c.g.tys t=some r) (hd:r.d= .map ke e) (cv:Q0 c.g.tys ke=some rk) (hk:KeyV rk.d kv)
  (hx:S.ev x=some (.map (some q))) (hy:S.ev y=some (kv a)) (hz:S.ev z=some v) (hm:MapAt kv w q m)
  (k:∀w1,w.grownBy w1 (some q)->w1.heap.size=w.heap.size->MapAt kv w1 q (Zo a v m)->K S w1):Zh c o S w K Q:=by
 have h:Zh c {o with op:=.mapUpdate t x y z} S w K Q:=lI hg rfl jL hr hd cv hk hx hy hz hm k;unfold Zh at*;intro b hf;have h1:=h b hf;unfold Oper.wp at*;have e:(execOp b.eval o).run c.g.P w=(execOp b.eval {o with op:=.mapUpdate t x y z}).run c.g.P w:=by simp only[execOp,ho]
 rw[e];generalize (execOp b.eval {o with op:=.mapUpdate t x y z}).run c.g.P w=r at*;cases r with
 | ok n w'=>cases n<;>simp only[Oper.upon] at h1 ⊢ <;> exact h1
 | halt x w'=>cases x<;>simp only[Oper.upon] at h1 ⊢ <;> exact h1
theorem gQS {l:List Nat}{j v:Nat}(h:l[j]? =some 0)(hv:0<v):(l.set j v).count 0+1=l.count 0:=by
 induction l generalizing j with
 | nil=>simp at h
 | cons x l ih=>
  cases j with
  | zero=>
   simp at h;subst h;rw[PK,PL (by omega),List.count_cons_self]
  | succ j=>
   simp at h;have:=ih h;rw[List.set_cons_succ,Bp,Bp];omega
theorem lM {nd:List Br}{m:Nat}{n:Int}{st:List Br×List Nat}(h:n<2):Zl nd (m+1) n st=(n,st):=by rw[Zl,Qf h]
theorem lN {nd:List Br}{m:Nat}{n:Int}{st:List Br×List Nat}(h:¬n<2)(k:0<st.2[(n-2).toNat]?.getD 0):Zl nd (m+1) n st=(((st.2[(n-2).toNat]?.getD 0:Nat):Int),st):=by rw[Zl,if_neg h,Qf k]
theorem oz {nd:List Br}{m:Nat}{n:Int}{st:List Br×List Nat}{x:Br}(h:¬n<2)(k:¬0<st.2[(n-2).toNat]?.getD 0)(hx:nd[(n-2).toNat]? =some x):
  Zl nd (m+1) n st=((((Zl nd m x.h (Zl nd m x.l st).2).2.1.length+2:Nat):Int),((Zl nd m x.h (Zl nd m x.l st).2).2.1++ [⟨x.v,(Zl nd m x.l st).1,(Zl nd m x.h (Zl nd m x.l st).2).1⟩],(Zl nd m x.h (Zl nd m x.l st).2).2.2.set (n-2).toNat ((Zl nd m x.h (Zl nd m x.l st).2).2.1.length+2))):=by
 rw[Zl,if_neg h,if_neg k,hx]
structure VisF (nd:List Br) (n:Int) (st aM:List Br×List Nat):Prop where
 len:aM.2.length=nd.length
 keep:∀k:Nat,n<(k:Int)+2->aM.2[k]? =st.2[k]?
 cnt:aM.1.length+aM.2.count 0<=st.1.length+st.2.count 0
 ge:st.1.length<=aM.1.length
theorem lO {nd:List Br}(hw:aY nd):∀(m:Nat)(n:Int)(st:List Br×List Nat),0<=n->n<m->n<nd.length+2->st.2.length=nd.length->VisF nd n st (Zl nd m n st).2
 | 0,n,st,h0,hm,_,_=>by omega
 | m+1,n,st,h0,hm,hn,hl=>by
  by_cases h1:n<2
  ·rw[lM h1];exact⟨hl,λ_ _=>rfl,QB _,QB _⟩
  by_cases h2:0<st.2[(n-2).toNat]?.getD 0
  ·rw[lN h1 h2];exact⟨hl,λ_ _=>rfl,QB _,QB _⟩
  have hj:(n-2).toNat<nd.length:=by omega
  have hx:=Xu hj;obtain⟨w1,w2,w3,w4⟩:=hw _ _ hx;rw[oz h1 h2 hx];have f1:=lO hw m nd[(n-2).toNat].l st w1 (by omega) (by omega) hl;have f2:=lO hw m nd[(n-2).toNat].h _ w3 (by omega) (by omega) f1.len;generalize (Zl nd m nd[(n-2).toNat].l st)=a at*;generalize (Zl nd m nd[(n-2).toNat].h a.2)=b at*;have hz:st.2[(n-2).toNat]? =some 0:=by
   have:st.2[(n-2).toNat]? =some st.2[(n-2).toNat]:=Xu (by omega);rw[this] at h2 ⊢;simp only[gJ] at h2;congr 1;omega
  have Ze:b.2.2[(n-2).toNat]? =some 0:=by rw[f2.keep _ (by omega),f1.keep _ (by omega),hz]
  have hc:=gQS (v:=b.2.1.length+2) Ze (by omega);have c1:=f1.cnt;have c2:=f2.cnt;have g1:=f1.ge;have g2:=f2.ge;refine⟨by rw[gG];exact f2.len,λk hk=>?_,?_,?_⟩
  ·rw[gK (by omega),f2.keep k (by omega),f1.keep k (by omega)]
  ·rw[Qq];simp only[Q2,Jp];omega
  ·rw[Qq];omega
abbrev bU:Int->Value:=λn=>.int .i64 n
def MapOk (num:List Nat)(m:List (Int×Value)):Prop:=∀n:Int,0<=n->XG n m=if n<2 then some (.int .i64 n)else if 0<num[(n-2).toNat]?.getD 0 then some (.int .i64 (num[(n-2).toNat]?.getD 0:Nat))else none
theorem MapOk.set {num:List Nat}{m:List (Int×Value)}(h:MapOk num m){n:Int}(h2:¬n<2)(hl:(n-2).toNat<num.length){v:Nat}(hv:0<v):MapOk (num.set (n-2).toNat v) (Zo n (.int .i64 (v:Nat)) m):=by
 intro k hk;rw[bR];by_cases e:k=n
 ·subst e;rw[Qf rfl,if_neg h2,jZ hl];simp only[gJ];rw[Qf hv]
 ·rw[if_neg e,h k hk];by_cases Yj:k<2
  ·rw[Qf Yj,Qf Yj]
  ·rw[if_neg Yj,if_neg Yj,gK (by omega)]
theorem gQT (n:Nat):MapOk (List.replicate n 0) (Zo 1 (.int .i64 1) (Zo 0 (.int .i64 0) [])):=by
 intro k hk;rw[bR,bR];by_cases h1:k=1
 ·subst h1;rfl
 ·rw[if_neg h1];by_cases h0:k=0
  ·subst h0;rfl
  ·rw[if_neg h0,if_neg (by omega),if_neg]
   ·rfl
   ·cases h:(List.replicate n 0)[(k-2).toNat]? with
    | none=>simp
    | some x=>
     have:=Bq (Xl h);rw[this];simp
end
section
def lP (l:List Br):List Value:=l.flatMap Br.cells
theorem Cg (l:List Br)(x:Br):lP (l++ [x])=lP l++x.cells:=by simp[lP]
structure VP where
 mb:Nat
 q:Nat
 bb:Nat
 bp:Nat
 fb:Nat
 ob:Nat
def VP.ptr (i:Nat):Value:=.pointer (some ⟨i,0,none⟩)
def VP.clo (p:VP):Value:=.func (.func 157) #[] #[VP.ptr p.mb,VP.ptr p.bb,VP.ptr p.fb,VP.ptr p.ob]
structure VK (w:World) (base:Nat) (p:VP) (NA:Option Addr) (nn nc:Nat) (nd:List Br):Prop where
 mbx:Blk w p.mb 238 [.map (some p.q)]
 bbx:Blk w p.bb 174 [VP.ptr p.bp]
 bpx:∃kv,Blk w p.bp 177 [.slice NA nn nc,kv]
 fbx:Blk w p.fb 215 [p.clo]
 nds:SB w NA nn nc nd
 lt:p.q<base/\p.ob<base
 ne:p.q≠p.ob/\p.q≠p.mb/\p.q≠p.bb/\p.q≠p.bp/\p.q≠p.fb/\p.ob≠p.mb/\p.ob≠p.bb/\p.ob≠p.bp/\p.ob≠p.fb
 lt2:p.mb<base/\p.bb<base/\p.bp<base/\p.fb<base
 row:∀ad,NA=some ad->0<nn->ad.block<base/\ad.block≠p.q/\ad.block≠p.ob
def VS (p:VP)(A:Option Addr):Nat->Prop:=λk=>k=p.q∨k=p.ob∨Qk A k
theorem VS.moved {w:World}{p:VP}{A A':Option Addr}(h:Moved w A A'):∀k,VS p A' k->VS p A k∨w.heap.size<=k:=by
 rintro k (rfl | rfl | hk)
 ·exact .inl (.inl rfl)
 ·exact .inl (.inr (.inl rfl))
 ·rcases h.rows k hk with h | h
  ·exact .inl (.inr (.inr h))
  ·exact .inr h
theorem Mod.cell {S:Nat->Prop}{w w':World}(k:Mod S w w'){a:Addr}{v:Value}(h:w.cell? a=some v)(hn:¬S a.block):w'.cell? a=some v:=by
 have Xa:=World.block_lt_of_cell? w a h;have e:=k.block a.block Xa hn;unfold World.cell? at h ⊢;rw[e];exact h
theorem Sl.modS {S:Nat->Prop}{w w':World}{sz n c:Nat}{A:Option Addr}{cs:List Value}(h:Sl w sz A n c cs)(k:Mod S w w')(hn:0<n->∀i,Qk A i->¬S i):Sl w' sz A n c cs:=
 ⟨h.len,h.le,h.cap,λh0=>by
  obtain⟨ad,rfl,hc⟩:=h.at_ h0;exact⟨ad,rfl,λj u hu=>k.cell (hc j u hu) (hn h0 _ ⟨ad,rfl,(og ad j).symm⟩)⟩⟩
theorem Ha {α:Type} [DecidableEq α]{kv:α->Value}{c:Cx}{o:Oper}{S:Env}{w:World}{K:Env->World->Prop}{Q:Zs}{t ke e:Nat}{r rk re:TyRow}{x y:Operand}{q:Nat}{m:List (α×Value)}{a:α}{v:Value}(hg:c.g.Ok)
  (ho:o.op= .lookup t x y false) (hr:Q0 c.g.tys t=some r) (hd:r.d= .map ke e) (cv:Q0 c.g.tys ke=some rk) (Zc:Q0 c.g.tys e=some re) (hk:KeyV rk.d kv)
  (hx:S.ev x=some (.map (some q))) (hy:S.ev y=some (kv a)) (hm:MapAt kv w q m) (hv:(XG a m).getD re.z=v) (k:Xf c S o.dst (.v v) (λS=>K S w)):Zh c o S w K Q:=by
 subst hv;exact eQv hg ho hr hd cv Zc hk hx hy hm k
theorem VK.mod {w w':World}{base:Nat}{p:VP}{NA OA:Option Addr}{nn nc:Nat}{nd:List Br}(h:VK w base p NA nn nc nd)(hr:∀i,Qk OA i->base<=i)(hm:Mod (VS p OA) w w'):VK w' base p NA nn nc nd:=by
 obtain⟨n1,n2,n3,n4,n5,n6,n7,n8,n9⟩:=h.ne;obtain⟨l1,l2,l3,l4⟩:=h.lt2;have key:∀i,i<base->i≠p.q->i≠p.ob->¬VS p OA i:=λi hi hq ho e=>by
  rcases e with e | e | e
  ·exact hq e
  ·exact ho e
  ·have:=hr i e;omega
 obtain⟨kv,OE⟩:=h.bpx;refine⟨h.mbx.mod hm (key _ l1 n2.symm n6.symm),h.bbx.mod hm (key _ l2 n3.symm n7.symm),⟨kv,OE.mod hm (key _ l3 n4.symm n8.symm)⟩,h.fbx.mod hm (key _ l4 n5.symm n9.symm),⟨h.nds.1.modS hm ?_,h.nds.2⟩,h.lt,h.ne,h.lt2,h.row⟩;rintro h0 i ⟨ad,rfl,rfl⟩;obtain⟨r1,r2,r3⟩:=h.row ad rfl h0;exact key _ r1 r2 r3
structure VSt (w:World) (base:Nat) (p:VP) (r0:Int) (OA:Option Addr) (oc:Nat) (st:List Br×List Nat):Prop where
 own:Own w base 105 3 OA st.1.length oc (lP st.1)
 obx:Blk w p.ob 32 [.slice OA st.1.length oc,.int .i64 r0]
 mp:∃mm,MapAt bU w p.q mm/\MapOk st.2 mm
 top:base<=w.heap.size
theorem VSt.ext {w w':World}{base:Nat}{p:VP}{r0:Int}{OA:Option Addr}{oc:Nat}{st:List Br×List Nat}(h:VSt w base p r0 OA oc st)(k:Ext w w'):VSt w' base p r0 OA oc st:=
 ⟨h.own.ext k,h.obx.ext k,let ⟨mm,h1,h2⟩:=h.mp;⟨mm,h1.ext k,h2⟩,X3 h.top k.size⟩
def VTo (w:World)(base:Nat)(p:VP)(r0:Int)(OA:Option Addr)(st:List Br×List Nat)(w':World):Prop:=∃OA' oc',VSt w' base p r0 OA' oc' st/\Mod (VS p OA) w w'/\Moved w OA OA'
theorem SD (base:Nat)(p:VP)(r0:Int)(NA:Option Addr)(nn nc:Nat)(nd:List Br)(VC:aY nd)(gz:nn<=1000000000000):∀(m:Nat)(n:Int)(st:List Br×List Nat)(OA:Option Addr)(oc:Nat)(w:World),
  VK w base p NA nn nc nd->VSt w base p r0 OA oc st->0<=n->n<m->n<nn+2->st.2.length=nn->st.1.length+st.2.count 0<=1000000000000->
  Fn Tryz.prog 157 [.int .i64 n,VP.ptr p.mb,VP.ptr p.bb,VP.ptr p.fb,VP.ptr p.ob] w (λv w'=>v= .int .i64 (Zl nd m n st).1/\VTo w base p r0 OA (Zl nd m n st).2 w')
 | 0,n,st,OA,oc,w,_,_,h0,hm,_,_,_=>by omega
 | m+1,n,st,OA,oc,w,hK,hS,h0,hm,hn,hl,hc=>by
  have ih:=SD base p r0 NA nn nc nd VC gz m;have KC:nd.length=nn:=hK.nds.2;obtain⟨mm,wF,hmo⟩:=hS.mp;have Yo:=hS.own.rows;have qQm:=wF.lt;have qQn:=hS.obx.lt;refine QJ (c:={fQg with cuts:=[]}) Qa Tryz.func157 rfl rfl rfl ?_;refine Qz hK.mbx rfl ?_;have aK:=hmo n h0;by_cases h1:n<2
  ·rw[Qf h1] at aK;refine xH (kv:=bU) (a:=n) (v:=.int .i64 n) (b:=true) Qa rfl rfl rfl rfl rfl (KeyV.int .i64) rfl rfl wF (by rw[aK];rfl) (by rw[aK];rfl) ?_;refine Xd rfl ?_;refine⟨by rw[lM h1],OA,oc,?_,Mod.refl _ _,Moved.refl _ _⟩;rw[lM h1];exact hS
  rw[if_neg h1] at aK;by_cases h2:0<st.2[(n-2).toNat]?.getD 0
  ·rw[Qf h2] at aK;refine xH (kv:=bU) (a:=n) (v:=.int .i64 (st.2[(n-2).toNat]?.getD 0:Nat)) (b:=true) Qa rfl rfl rfl rfl rfl (KeyV.int .i64) rfl rfl wF (by rw[aK];rfl) (by rw[aK];rfl) ?_;refine Xd rfl ?_;refine⟨by rw[lN h1 h2],OA,oc,?_,Mod.refl _ _,Moved.refl _ _⟩;rw[lN h1 h2];exact hS
  rw[if_neg h2] at aK;refine xH (kv:=bU) (a:=n) (v:=.int .i64 0) (b:=false) Qa rfl rfl rfl rfl rfl (KeyV.int .i64) rfl rfl wF (by rw[aK];rfl) (by rw[aK];rfl) ?_;refine Q9 rfl ?_;have hj:(n-2).toNat<nd.length:=by omega
  have hx:=Xu hj;generalize nd[(n-2).toNat]=x at hx;obtain⟨x1,x2,x3,x4⟩:=VC _ _ hx;obtain⟨kv,OE⟩:=hK.bpx;refine Qz hK.bbx rfl ?_;refine Qz OE rfl ?_;refine Qj (((n-2).toNat:Nat):Int) (by omega) (by omega) ?_;refine Zt W3 hK.nds rfl (by omega) (λad y hy cA=>?_);have jM:y=x:=Option.some.inj (hy.symm.trans hx);subst jM;refine Jz (vs:=y.cells) rfl cA ?_;refine new (λw1 Qe Q6 Qh=>?_);refine Qv Qh rfl (sc rfl) (λw2 de Ze KS=>?_);have Qg:Ext w w2:=XT Qe Qh de;have DH:Mod (VS p OA) w w2:=Mod.of_ext _ Qg;have LN:=hK.mod (λi hi=>(Yo i hi).1) DH;have LO:=hS.ext Qg;have jP:¬VS p OA w.heap.size:=λe=>by
   rcases e with e | e | e
   ·omega
   ·omega
   ·have:=(Yo _ e).2;omega
  refine Qz LN.fbx rfl ?_;refine Qo KS rfl ?_;have f1:=lO VC m y.l st x1 (by omega) (by omega) (by omega);refine call (ih y.l st OA oc w2 LN LO x1 (by omega) (by omega) hl hc) ?_;rintro v w3 ⟨rfl,OA3,LP,vN,Ji,mM⟩;have f9:=LN.mod (λi hi=>(Yo i hi).1) Ji;have VR:=KS.mod Ji jP;have LE:=vN.own.rows;have vM:¬VS p OA3 w.heap.size:=λe=>(VS.moved mM _ e).elim jP (λh=>by omega)
  refine Qz f9.fbx rfl ?_;refine Qo VR rfl ?_;have f2:=lO VC m y.h _ x3 (by omega) (by omega) f1.len;have c1:=f1.cnt;have c2:=f2.cnt;refine call (ih y.h _ OA3 LP w3 f9 vN x3 (by omega) (by omega) (by rw[f1.len];exact KC) (by omega)) ?_;rintro v w4 ⟨rfl,OA4,oc4,aD,K6,r8⟩;have Wc:=VR.mod K6 vM;have r9:=aD.own.rows;have mN:=Ji.trans K6 (VS.moved mM);have LQ:=mM.trans r8 Ji.size;have yW:Mod (VS p OA) w w4:=DH.trans mN (λi hi=>.inl hi);have yX:=LQ.back Qg.size;have Yl:=f9.mod (λi hi=>(LE i hi).1) K6;have nA:=oz (m:=m) h1 h2 hx;rw[nA];generalize (Zl nd m y.l st)=a at*;generalize (Zl nd m y.h a.2)=b at*;have oQH:¬Qk OA4 p.ob:=λe=>by have:=(r9 _ e).1;have:=hK.lt.2;omega
  have hnq:¬Qk OA4 p.q:=λe=>by have:=(r9 _ e).1;have:=hK.lt.1;omega
  refine Qz aD.obx rfl ?_;refine Qz Wc rfl ?_;refine Xg Qa [(⟨y.v,a.1,b.1⟩:Br).cells] rfl rfl rfl rfl rfl ⟨rfl,rfl,⟨⟩⟩ rfl (λcs h=>by simp only[QO] at h;subst h;rfl) rfl (by decide) (by decide) ?_;intro w5 Qx KI QD;have js:=aD.ext Qx;have mO:Sl w5 3 (some ⟨w4.heap.size,0,none⟩) 1 1 (⟨y.v,a.1,b.1⟩:Br).cells:=Sl.own (sz:=3) (n:=1) QD (QB _) (by decide) (by simp[Br.cells]);refine Je Qa rfl rfl rfl rfl rfl (by decide) rfl rfl ⟨_,rfl⟩ rfl rfl js.own mO (by intro u hu;simp[Br.cells] at hu;rcases hu with rfl | rfl | rfl<;>rfl) (by unfold maxLen;omega) (by show _*24<=_;omega) js.top ?_;intro OA6 DI w6 Vv yY yZ;refine KZ (js.obx.mod Vv oQH) (by simp) (λw7 Xe Q3=>?_);have vP:Mod (VS p OA4) w4 w7:=((Mod.of_ext (VS p OA4) Qx).trans Vv (λi hi=>.inl (.inr (.inr hi)))).trans Xe (λi hi=>.inl (.inr (.inl hi)));have aE:=Yl.mod (λi hi=>(r9 i hi).1) vP;obtain⟨m4,mQF,mQG⟩:=aD.mp;have mQH:MapAt bU w7 p.q m4:=((mQF.ext Qx).mod Vv hnq).mod Xe hK.ne.1;have QZ:b.2.2.length=nd.length:=f2.len;refine Qz aE.mbx rfl ?_;refine Qz Q3 rfl ?_;refine Qj ((b.2.1.length+2:Nat):Int) (by omega) (by omega) ?_;refine lI (kv:=bU) (a:=n) Qa rfl rfl rfl rfl rfl (KeyV.int .i64) rfl rfl rfl mQH (λw8 YV _ bQ2=>?_);have ZL:Mod (·=p.q) w7 w8:=qQL YV rfl;have mQI:=mQG.set h1 (by omega) (v:=b.2.1.length+2) (by omega);have mQJ:XG n (Zo n (.int .i64 ((b.2.1.length+2:Nat):Int)) m4)=some (.int .i64 ((b.2.1.length+2:Nat):Int)):=by rw[bR,Qf rfl]
  have sf:Mod (VS p OA4) w4 w8:=vP.trans ZL (λi hi=>.inl (.inl hi));have hK8:=Yl.mod (λi hi=>(r9 i hi).1) sf;refine Qz hK8.mbx rfl ?_;refine Ha (kv:=bU) (a:=n) (v:=.int .i64 ((b.2.1.length+2:Nat):Int)) Qa rfl rfl rfl rfl rfl (KeyV.int .i64) rfl rfl bQ2 (by rw[mQJ];rfl) ?_;have y8:=yY.rows;have el:(b.2.1++ [(⟨y.v,a.1,b.1⟩:Br)]).length=b.2.1.length+1:=by simp
  refine⟨rfl,OA6,DI,⟨?_,?_,⟨_,bQ2,mQI⟩,?_⟩,yW.trans sf (VS.moved yX),?_⟩
  ·rw[el,Cg];refine(yY.mod Xe (λi hi e=>?_)).mod ZL (λi hi e=>?_)
   ·have:=(y8 i hi).1;have:=hK.lt.2;omega
   ·have:=(y8 i hi).1;have:=hK.lt.1;omega
  ·rw[el];exact Q3.mod ZL (λe=>hK.ne.1 e.symm)
  ·have:=aD.top;have:=sf.size;omega
  ·exact yX.trans (yZ.back Qx.size) yW.size
end
section
def xM (w:World)(r:List Br×Int)(v:Value)(w':World):Prop:=∃A n c,v=Xm A n c r.2/\Ext w w'/\SB w' A n c r.1/\∀i,Qk A i->w.heap.size<=i
theorem Hd (bp:Nat)(kv:Value)(NA:Option Addr)(nn nc:Nat)(nd:List Br)(root:Int)(w:World)(hb:Blk w bp 177 [.slice NA nn nc,kv])(hN:SB w NA nn nc nd)(VC:aY nd)(gz:nn<=1000000000000)(h0:0<=root)(hr:root<nn+2)
  (ld:∀ad,NA=some ad->0<nn->ad.block<w.heap.size):
  Fn Tryz.prog 104 [.pointer (some ⟨bp,0,none⟩),.int .i64 root] w (xM w (cN nd root)):=by
 have KC:nd.length=nn:=hN.2;have ew:=hb.lt;refine QJ (c:={eQF with cuts:=[]}) Qa Tryz.func104 rfl rfl rfl ?_;refine new (λw1 Qe Q6 Qh=>?_);refine new (λw2 Qg Ze Qy=>?_);refine new (λw3 Qi Jr Qu=>?_);refine Qv Qu rfl (sc rfl) (λw4 aC KR QR=>?_);have K6:Mod (·=w2.heap.size) w3 w4:=qQL aC rfl;refine xC Qa bU rfl ?_;intro w5 Qx KI XZ;refine SC (kv:=bU) (a:=0) Qa rfl rfl rfl rfl rfl (KeyV.int .i64) rfl rfl rfl XZ (λw6 WB bu VQ=>?_);refine SC (kv:=bU) (a:=1) Qa rfl rfl rfl rfl rfl (KeyV.int .i64) rfl rfl rfl VQ (λw7 Zv W8 J5=>?_);have mQK:Mod (·=w4.heap.size) w5 w7:=(qQL (S:=(·=w4.heap.size)) WB rfl).trans (qQL (S:=(·=w4.heap.size)) Zv rfl) (λi hi=>.inl hi);refine new (λw8 Xn YU Xz=>?_);refine KZ Xz (by simp[Kb]) (λw9 Zg JI=>?_);refine new (λQE X1 y9 J6=>?_);refine KZ J6 (by simp[Kb]) (λQL Jj Z6=>?_);have z9:=Zg.size;have DJ:=Jj.size;have q1:Ext w w4:=K6.ext ((Qe.trans Qg).trans Qi) (λi hi=>by omega);have q2:Ext w4 w7:=mQK.ext Qx (λi hi=>by omega);have q3:Ext w7 w9:=Zg.ext Xn (λi hi=>by omega);have q4:Ext w9 QL:=Jj.ext X1 (λi hi=>by omega);have DK:Ext w QL:=((q1.trans q2).trans q3).trans q4
 let p:VP:=⟨w7.heap.size,w4.heap.size,w.heap.size,bp,w9.heap.size,w2.heap.size⟩
 have vJ:Blk QL w.heap.size 174 [VP.ptr bp]:=(((Qh.ext (Qg.trans Qi)).mod K6 (by omega)).ext q2).ext (q3.trans q4);have mQL:Blk QL w1.heap.size 32 [.slice none 0 0,.int .i64 0]:=(((Qy.ext Qi).mod K6 (by omega)).ext q2).ext (q3.trans q4);have LT:Blk QL w2.heap.size 32 [.slice none 0 0,.int .i64 0]:=(QR.ext q2).ext (q3.trans q4);have mQM:Blk QL w7.heap.size 238 [.map (some w4.heap.size)]:=JI.ext q4;have mQN:MapAt bU QL w4.heap.size _:=((J5.ext Xn).mod Zg (by omega)).ext q4;have hK:VK QL QL.heap.size p NA nn nc nd:=by
  refine⟨mQM,vJ,⟨kv,hb.ext DK⟩,Z6,hN.ext DK,⟨?_,?_⟩,⟨?_,?_,?_,?_,?_,?_,?_,?_,?_⟩,⟨?_,?_,?_,?_⟩,λad e hn=>?_⟩
  all_goals try (show(_:Nat)≠_;simp only[p];omega)
  all_goals try (show(_:Nat)<_;simp only[p];omega)
  have:=ld ad e hn;refine⟨by omega,?_,?_⟩<;>(simp only[p];omega)
 have hS:VSt QL QL.heap.size p 0 none 0 ([],List.replicate nd.length 0):=⟨Own.nil _ _ _ _,LT,⟨_,mQN,gQT _⟩,QB _⟩
 refine Qz Z6 rfl ?_;refine call (SD QL.heap.size p 0 NA nn nc nd VC gz (root.toNat+1) root ([],List.replicate nd.length 0) none 0 QL hK hS h0 (by omega) hr (by simp[KC]) (by simp;omega)) ?_;rintro v Xb ⟨rfl,OA,oc,co,V7,vQ⟩;have wD:∀i,i≠w4.heap.size->i≠w2.heap.size->¬VS p none i:=λi h1 h2 e=>by
  rcases e with e | e | ⟨_,e,_⟩
  ·exact h1 e
  ·exact h2 e
  ·cases e
 have LU:=mQL.mod V7 (wD _ (by omega) (by omega));have Yo:=co.own.rows;refine XV co.obx (by simp) (λX9 KA Vw=>?_);have jt:=LU.mod KA (by show¬w1.heap.size=w2.heap.size;omega);refine Qt Vw rfl ?_;refine Qv jt rfl (sc rfl) (λZu ga _ JV=>?_);have Vk:Mod (·=w1.heap.size) X9 Zu:=qQL ga rfl;refine Qt JV rfl ?_;have XB:Ext w Xb:=V7.ext DK (λi hi=>by
  rcases hi with e | e | ⟨_,e,_⟩
  ·simp only[p] at e;omega
  ·simp only[p] at e;omega
  ·cases e)
 have JW:Ext w Zu:=Vk.ext (KA.ext XB (λi hi=>by have tv:i=w2.heap.size:=hi;omega)) (λi hi=>by omega);refine⟨OA,_,oc,rfl,JW,⟨?_,rfl⟩,λi hi=>X3 DK.size (Yo i hi).1⟩;have:∀i,Qk OA i->QL.heap.size<=i:=λi hi=>(Yo i hi).1
 exact((co.own.mod KA (λi hi e=>by have:=this i hi;have e':i=w2.heap.size:=e;omega)).mod Vk (λi hi e=>by have:=this i hi;omega)).sl
end
section
theorem gQU {P:Program}{t:TypeId}{fs:Array Field}{ks:List Nat}{xs ys:Array Value}{b:Bool}{w:World}(hu:P.underlying t=some (.struct fs))(hh:P.stoodInHeld t=false)(hf:qP P 0 fs.toList ks=true)(h:eG ks xs.toList ys.toList=some b)(n:Nat):
  (Op.equalIn (n+2) t (.agg xs) (.agg ys)).run P w= .ok b w:=by
 have Z5:P.fieldsOf t=fs:=by simp[Program.fieldsOf,hu]
 rw[run_equalIn_struct w (n+1) t xs ys (by rw[Z5];exact hu) hh,Z5];exact Gt fs.toList ks 0 _ _ b hf h (λj=>by simp) (λj=>by simp) n w
theorem k3:fE (Tryz.prog.underlying 3)<3:=by rw[Tryz.underlying3];decide
abbrev dI:Br->Value:=λb=>.agg b.cells.toArray
theorem gQV (a b:Br)(n:Nat)(w:World):(Op.equalIn (n+2) 105 (dI a) (dI b)).run Tryz.prog w= .ok (decide (a=b)) w:=by
 refine gQU (ks:=[0,0,0]) Tryz.underlying105 (by kernel_rfl) (by kernel_rfl) ?_ n;rw[show eG [0,0,0] a.cells.toArray.toList b.cells.toArray.toList=some (a.v==b.v&&(a.l==b.l&&(a.h==b.h&&true))) from rfl,rx];congr 1;exact xj.2 ry.symm
theorem gQW (b:Bool)(a:Br)(n:Nat)(w:World):(Instr.checkKey b (n+2) 105 (dI a)).run Tryz.prog w= .ok () w:=by
 simp[Instr.checkKey,Ja Tryz.underlying105,Ja Tryz.underlying3,dI,Br.cells,dC k3 (cs:= #[Value.int IntKind.i64 a.v,Value.int IntKind.i64 a.l,Value.int IntKind.i64 a.h]) (n:=0) rfl,dC k3 (cs:= #[Value.int IntKind.i64 a.v,Value.int IntKind.i64 a.l,Value.int IntKind.i64 a.h]) (n:=1) rfl,dC k3 (cs:= #[Value.int IntKind.i64 a.v,Value.int IntKind.i64 a.l,Value.int IntKind.i64 a.h]) (n:=2) rfl]
theorem Ch:KeyQ Tryz.prog 105 dI:=
 qQZ Tryz.underlying105 (λa b w=>gQV a b 9998 w) (λb a w=>gQW b a 9998 w) (λa=>by simp[Br.cells,Instr.sameBits])
theorem He {α:Type} [DecidableEq α]{kv:α->Value}{c:Cx}{o:Oper}{S:Env}{w:World}{K:Env->World->Prop}{Q:Zs}{t ke e:Nat}{r re:TyRow}{x y:Operand}{q:Nat}{m:List (α×Value)}{a:α}(hg:c.g.Ok)(ho:o.op= .lookup t x y false)(hr:Q0 c.g.tys t=some r)(hd:r.d= .map ke e)(Zc:Q0 c.g.tys e=some re)(hk:KeyQ c.g.P ke kv)
  (hx:S.ev x=some (.map (some q))) (hy:S.ev y=some (kv a)) (hm:MapQ kv w q m) {v:Value} (hv:(XG a m).getD re.z=v)
  (k:Xf c S o.dst (.v v) (λS=>K S w)):Zh c o S w K Q:=by
 refine JT (w':=w) (λb hf=>?_) k;have e1:=hf.ev hx;have e2:=hf.ev hy;have:=R5 (w:=w) (a:=a) hg hr hd Zc hk hm false;simp only[hv] at this;simp only[execOp,ho,e1,e2];simp only[Sem.run_bind,this,Result.andThen_ok];simp
theorem SB.lt {w:World}{A:Option Addr}{n c:Nat}{d:List Br}(h:SB w A n c d):∀ad,A=some ad->0<n->ad.block<w.heap.size:=by
 intro ad e hn;obtain⟨ad',e',hc⟩:=h.1.at_ hn;cases e.symm.trans e';have hl:=h.1.len;cases XN:d.flatMap Br.cells with
 | nil=>rw[XN] at hl;simp at hl;omega
 | cons u us=>
  rw[XN] at hc;have:=World.block_lt_of_cell? w _ (hc 0 u rfl);rw[og] at this;exact this
end
section
theorem uG (A:Option Addr)(n c:Nat)(nd:List Br)(root:Int)(w:World)(h:SB w A n c nd):
  Fn Tryz.prog 52 [Xm A n c root] w (λv w'=>v= .int .i64 (XC nd root)/\Ext w w'):=by
 have QZ:=h.2;refine QJ (c:={c52 with cuts:=[4]}) Qa Tryz.func52 rfl rfl rfl ?_;refine new (λw1 Qe Q6 Qh=>?_);refine Qz Qh rfl ?_;refine Qw (λh1=>?_) (λh1=>?_)
 ·exact⟨by rw[gQN (by omega)],Qe⟩
 have Wf:¬4096<nd.length:=by omega
 refine uv Qa dI rfl ?_;intro w2 Qg Ze XW;have QT:=Qe.trans Qg;have Qy:=Qh.ext Qg;refine gR [] Qa [] (λ_:Unit=>[]) (λ_ w'=>Mod (·=w1.heap.size) w2 w'/\∀(j:Nat) (b:Br),j<n->nd[j]? =some b->iU nd j b) ?_ ?_
 ·refine Qz Qy rfl ?_;refine loop Qa [15] (λs:Nat=>[.int .i64 s]) (λs w'=>Mod (·=w1.heap.size) w2 w'/\s<=n/\(∀(j:Nat) (b:Br),j<s->nd[j]? =some b->iU nd j b)/\∃m,MapQ dI w' w1.heap.size m/\∀b,(XG b m).getD (.bool false)= .bool (decide (b∈nd.take s))) (λs _=>n-s) 0 rfl ⟨Mod.refl _ _,Xo _,λj b hj=>Xc hj (by omega),[],XW,λb=>by simp[XG]⟩ ?_;rintro s w3 ⟨Ji,hs,hall,m,XI,YY⟩;have Qi:Ext w w3:=Ji.ext QT (λi hi=>by have:=Qe.size;omega);have Qu:=Qy.mod Ji (by omega);refine Qw (λh2=>?_) (λh2=>?_)
  ·refine Zt W3 (h.ext Qi) rfl (by omega) (λp x hx hc=>?_);refine Jz (vs:=x.cells) rfl hc ?_;refine new (λw4 Qs KR QR=>?_);refine Qv QR rfl (sc rfl) (λw5 JE KI KT=>?_);have K8:Ext w3 w5:=XT Qs QR JE;have Qx:=Qi.trans K8;have XZ:=XI.ext K8;have QD:=Qu.ext K8;have bad:¬iU nd s x->∀w',Ext w w'->(Value.int .i64 20= .int .i64 (XC nd root))/\Ext w w':=λXi w' hE=>⟨by rw[Cf Wf (λhv=>Xi (hv.1 s x hx))],hE⟩
   refine Qz KT rfl ?_;refine Qw (λc1=>?_) (λc1=>?_)
   ·exact bad (λhb=>by have:=hb.1;omega) _ Qx
   refine Qz KT rfl ?_;refine Qw (λc2=>?_) (λc2=>?_)
   ·exact bad (λhb=>by have:=hb.2.1;omega) _ Qx
   refine Qo KT rfl ?_;refine Qw (λc3=>?_) (λc3=>?_)
   ·exact bad (λhb=>by have:=hb.2.2.1;omega) _ Qx
   refine Qo KT rfl ?_;refine Qw (λc4=>?_) (λc4=>?_)
   ·exact bad (λhb=>by have:=hb.2.2.2.2.1;omega) _ Qx
   refine Qo KT rfl ?_;refine Qj ((s:Int)+1) rfl (by omega) ?_;refine Qw (λc5=>?_) (λc5=>?_)
   ·exact bad (λhb=>by have:=hb.2.2.2.1;omega) _ Qx
   refine Qo KT rfl ?_;refine Qj ((s:Int)+1) rfl (by omega) ?_;refine Qw (λc6=>?_) (λc6=>?_)
   ·exact bad (λhb=>by have:=hb.2.2.2.2.2.1;omega) _ Qx
   refine Qo KT rfl ?_;refine Qo KT rfl ?_;refine X8 (λc7=>?_) (λc7=>?_)
   ·exact bad (λhb=>hb.2.2.2.2.2.2.1 c7) _ Qx
   refine Qt KT rfl ?_;refine He (kv:=dI) (a:=x) Qa rfl rfl rfl rfl Ch rfl rfl XZ (YY x) ?_;refine Qw (λc8=>?_) (λc8=>?_)
   ·exact bad (λhb=>hb.2.2.2.2.2.2.2.1 c8) _ Qx
   refine XR Qa (Ext w5) 16 [(true,0),(true,1),(true,2),(true,4),(true,5),(false,3),(true,6),(true,7),(true,8),(true,9),(true,10),(true,12),(true,13),(false,11),(true,14),(true,15)] (by kernel_rfl) (Ext.drew w5) ?_;have qB:∀w',Ext w5 w'->∀(j:Nat) (v:Value),[Value.slice A n c,.int .i64 root][j]? =some v->w'.cell? ((⟨w.heap.size,0,none⟩:Addr).add j)=some v:=λw' Qb j v hj=>by rw[(QD.ext Qb).cell];exact hj
   have qX:∀w',Ext w5 w'->∀(j:Nat) (v:Value),x.cells[j]? =some v->w'.cell? ((⟨w3.heap.size,0,none⟩:Addr).add j)=some v:=λw' Qb j v hj=>by rw[(KT.ext Qb).cell];exact hj
   have za:∀w',Ext w5 w'->w'.cell? (⟨w3.heap.size,0,none⟩:Addr)=some (.int .i64 x.v):=λw' Qb=>by have:=qX w' Qb 0 _ rfl;simpa [Addr.add] using this
   refine Xv (vs:=[.slice A n c,.int .i64 root]) rfl (λw' Qb j v hj=>by have:=qB w' Qb j v hj;simpa [Addr.add] using this) ?_;refine QN (v:=.int .i64 x.l) (λw' Qb=>qX w' Qb 1 _ rfl) ?_;refine QN (v:=.int .i64 x.v) (λw' Qb=>za w' Qb) ?_;refine call (eQ A n c root x.l nd _ (h.ext (Qx.trans (Ext.drew w5))) (by omega)) ?_;rintro v w6 ⟨rfl,QQ⟩;have ZV:=(Ext.drew w5).trans QQ;refine⟨ZV,?_⟩;refine Qw (λc9=>?_) (λc9=>?_)
   ·exact bad (λhb=>by have:=hb.2.2.2.2.2.2.2.2.1;omega) _ (Qx.trans ZV)
   refine Xv (vs:=[.slice A n c,.int .i64 root]) rfl (λw' Qb j v hj=>by have:=qB w' Qb j v hj;simpa [Addr.add] using this) ?_;refine QN (v:=.int .i64 x.h) (λw' Qb=>qX w' Qb 2 _ rfl) ?_;refine QN (v:=.int .i64 x.v) (λw' Qb=>za w' Qb) ?_;refine call (eQ A n c root x.h nd _ (h.ext (Qx.trans ZV)) (by omega)) ?_;rintro v w7 ⟨rfl,Xh⟩;have Js:=ZV.trans Xh;refine⟨Js,?_⟩;refine Qw (λuu=>?_) (λuu=>?_)
   ·exact bad (λhb=>by have:=hb.2.2.2.2.2.2.2.2.2;omega) _ (Qx.trans Js)
   have X5:iU nd s x:=⟨by omega,by omega,by omega,by omega,by omega,by omega,c7,c8,by omega,by omega⟩
   refine Qt (KT.ext Js) rfl ?_;refine uw (kv:=dI) (a:=x) Qa rfl rfl rfl rfl Ch rfl rfl rfl (XZ.ext Js) (λw8 ZL YU JD=>?_);refine Qj ((s+1:Nat):Int) (by omega) (by omega) ?_;refine⟨s+1,rfl,⟨(Ji.trans (Mod.of_ext (·=w1.heap.size) (K8.trans Js)) (λi hi=>.inl hi)).trans ZL (λi hi=>.inl hi),by omega,λj b hj hb=>?_,_,JD,λb=>?_⟩,by show n-(s+1)<n-s;omega⟩
   ·by_cases We:j<s
    ·exact hall j b We hb
    ·have:j=s:=by omega
     subst this;rw[Option.some.inj (hb.symm.trans hx)];exact X5
   ·rw[bR,VF,hx];by_cases nC:b=x
    ·subst nC;simp
    ·rw[if_neg nC,YY b];simp[nC]
  ·have:s=n:=by omega
   subst this;exact⟨(),rfl,Ji,hall⟩
 rintro⟨⟩ w3 ⟨Ji,hall⟩;have Qi:Ext w w3:=Ji.ext QT (λi hi=>by have:=Qe.size;omega);have Qu:=Qy.mod Ji (by omega);refine Qo Qu rfl ?_;refine Qw (λc1=>?_) (λc1=>?_)
 ·exact⟨by rw[Cf Wf (λhv=>by have:=hv.2.1;omega)],Qi⟩
 refine Qo Qu rfl ?_;refine Qz Qu rfl ?_;refine Qj ((n:Int)+1) rfl (by omega) ?_;refine Qw (λc2=>?_) (λc2=>?_)
 ·exact⟨by rw[Cf Wf (λhv=>by have:=hv.2.2.1;omega)],Qi⟩
 have VC:aY nd:=λj x hx=>by
  obtain⟨_,_,h1,h2,h3,h4,_⟩:=hall j x (by have:=(Jd.1 hx).1;omega) hx;exact⟨h1,h2,h3,h4⟩
 refine Qz Qu rfl ?_;refine new (λw4 Qs KR QR=>?_);have Xp:=Qi.trans Qs;have kN:=Qu.ext Qs;refine Qo kN rfl ?_;refine call (Hd w3.heap.size (.map none) A n c nd root w4 QR (h.ext Xp) VC (by omega) (by omega) (by omega) (SB.lt (h.ext Xp))) ?_;rintro v w5 ⟨OA,m,oc,rfl,Qx,kO,_⟩;refine new (λw6 QQ bu Q7=>?_);refine Qv Q7 rfl (sc rfl) (λw7 Zv W8 yV=>?_);have Js:Ext w5 w7:=XT QQ Q7 Zv;have Vx:=(Xp.trans Qx).trans Js;refine Qt yV rfl ?_;refine Qt ((kN.ext Qx).ext Js) rfl ?_;refine call (gQR OA A m oc n c _ nd _ root w7 (kO.ext Js) (h.ext Vx)) ?_;rintro v w8 ⟨rfl,Xn⟩;have WC:=Vx.trans Xn;refine kg (Qw (λc3=>?_) (λc3=>?_))
 ·exact⟨by rw[G9 Wf ⟨λj b hb=>hall j b (by have:=(Jd.1 hb).1;omega) hb,by omega,by omega,c3⟩],WC⟩
 ·exact⟨by rw[Cf Wf (λhv=>c3 hv.2.2.2)],WC⟩
end
section
theorem Blk.cell0 {w:World}{g t:Nat}{cs:List Value}(h:Blk w g t cs):w.cell? ⟨g,0,none⟩=cs[0]? :=by have:=h.cell 0;simpa [Addr.add] using this
theorem xN (A:Option Addr)(n c:Nat)(r m:Int)(nd:List Br)(w:World)(h:SB w A n c nd)(hm:m<n+2):
  Fn Tryz.prog 161 [Xm A n c r,.int .i64 m] w (λv w'=>v= .int .i64 (Ql nd m)/\Ext w w'):=by
 have QZ:=h.2;refine QJ (c:={fQj with cuts:=[]}) Qa Tryz.func161 rfl rfl rfl ?_;refine new (λw1 Qe Q6 Qh=>?_);refine Qw (λh1=>?_) (λh1=>?_)
 ·exact⟨by unfold Ql;rw[Qf h1],Qe⟩
 ·refine Qz Qh rfl ?_;refine Qj (((m-2).toNat:Nat):Int) (by omega) (by have:=h.1.le;have:=h.1.cap;simp only[maxLen] at this;omega) ?_;refine Zt W3 (h.ext Qe) rfl (by omega) (λp x hx hc=>?_);refine load (hc 0 _ rfl) ?_;exact⟨by unfold Ql;rw[if_neg h1,hx];rfl,Qe⟩
theorem pQn (A:Option Addr)(n c:Nat)(r:Int)(s:Nat)(nd:List Br)(x:Br)(w:World)(h:SB w A n c nd)(hx:nd[s]? =some x)(cw:n<=1000000000000):
  Fn Tryz.prog 212 [Xm A n c r,.int .i64 s] w (λv w'=>∃b,v= .bool b/\(b=true↔iU nd s x)/\Ext w w'):=by
 have QZ:=h.2;have hs:s<nd.length:=(Jd.1 hx).1;refine QJ (c:={fQM with cuts:=[]}) Qa Tryz.func212 rfl rfl rfl ?_;refine new (λw1 Qe Q6 Qh=>?_);refine Qz Qh rfl ?_;refine Zt W3 (h.ext Qe) rfl (by omega) (λp y hy hc=>?_);have jM:y=x:=Option.some.inj (hy.symm.trans hx);subst jM;refine Jz (vs:=y.cells) rfl hc ?_;refine new (λw4 Qs KR QR=>?_);refine Qv QR rfl (sc rfl) (λw5 JE KI KT=>?_);have JJ:Ext w1 w5:=XT Qs QR JE;have Qx:=Qe.trans JJ;have QD:=Qh.ext JJ;have bad:¬iU nd s y->∀w',Ext w w'->∃b,(Value.bool false:Value)= .bool b/\(b=true↔iU nd s y)/\Ext w w':=λXi w' hE=>⟨false,rfl,by simp[Xi],hE⟩
 refine Qz KT rfl ?_;refine Qw (λc1=>?_) (λc1=>?_)
 ·exact bad (λhb=>by have:=hb.1;omega) _ Qx
 refine Qz KT rfl ?_;refine Qw (λc2=>?_) (λc2=>?_)
 ·exact bad (λhb=>by have:=hb.2.1;omega) _ Qx
 refine Qo KT rfl ?_;refine Qw (λc3=>?_) (λc3=>?_)
 ·exact bad (λhb=>by have:=hb.2.2.1;omega) _ Qx
 refine Qo KT rfl ?_;refine Qw (λc4=>?_) (λc4=>?_)
 ·exact bad (λhb=>by have:=hb.2.2.2.2.1;omega) _ Qx
 refine Qo KT rfl ?_;refine Qj ((s:Int)+2) rfl (by omega) ?_;refine Qw (λc5=>?_) (λc5=>?_)
 ·exact bad (λhb=>by have:=hb.2.2.2.1;omega) _ Qx
 refine Qo KT rfl ?_;refine Qj ((s:Int)+2) rfl (by omega) ?_;refine Qw (λc6=>?_) (λc6=>?_)
 ·exact bad (λhb=>by have:=hb.2.2.2.2.2.1;omega) _ Qx
 refine Qo KT rfl ?_;refine Qo KT rfl ?_;refine X8 (λc7=>?_) (λc7=>?_)
 ·exact bad (λhb=>hb.2.2.2.2.2.2.1 c7) _ Qx
 have qB:∀w',Ext w5 w'->∀(j:Nat) (v:Value),[Value.slice A n c,.int .i64 r][j]? =some v->w'.cell? ((⟨w.heap.size,0,none⟩:Addr).add j)=some v:=λw' Qb j v hj=>by rw[(QD.ext Qb).cell];exact hj
 have qX:∀w',Ext w5 w'->∀(j:Nat) (v:Value),y.cells[j]? =some v->w'.cell? ((⟨w1.heap.size,0,none⟩:Addr).add j)=some v:=λw' Qb j v hj=>by rw[(KT.ext Qb).cell];exact hj
 have za:∀w',Ext w5 w'->w'.cell? (⟨w1.heap.size,0,none⟩:Addr)=some (.int .i64 y.v):=λw' Qb=>by rw[(KT.ext Qb).cell0]<;>rfl
 refine XR Qa (Ext w5) 16 [(true,0),(true,1),(true,2),(true,4),(true,5),(false,3),(true,6),(true,7),(true,8),(true,9),(true,10),(true,12),(true,13),(false,11),(true,14),(true,15)] (by kernel_rfl) (Ext.drew w5) ?_;refine Xv (vs:=[.slice A n c,.int .i64 r]) rfl (λw' Qb j v hj=>by have:=qB w' Qb j v hj;simpa [Addr.add] using this) ?_;refine QN (v:=.int .i64 y.l) (λw' Qb=>qX w' Qb 1 _ rfl) ?_;refine QN (v:=.int .i64 y.v) (λw' Qb=>za w' Qb) ?_;refine call (xN A n c r y.l nd _ (h.ext (Qx.trans (Ext.drew w5))) (by omega)) ?_;rintro v w6 ⟨rfl,QQ⟩;have ZV:=(Ext.drew w5).trans QQ;refine⟨ZV,?_⟩;refine Qw (λc9=>?_) (λc9=>?_)
 ·exact bad (λhb=>by have:=hb.2.2.2.2.2.2.2.2.1;omega) _ (Qx.trans ZV)
 refine Xv (vs:=[.slice A n c,.int .i64 r]) rfl (λw' Qb j v hj=>by have:=qB w' Qb j v hj;simpa [Addr.add] using this) ?_;refine QN (v:=.int .i64 y.h) (λw' Qb=>qX w' Qb 2 _ rfl) ?_;refine QN (v:=.int .i64 y.v) (λw' Qb=>za w' Qb) ?_;refine call (xN A n c r y.h nd _ (h.ext (Qx.trans ZV)) (by omega)) ?_;rintro v w7 ⟨rfl,Xh⟩;have Js:=ZV.trans Xh;refine⟨Js,?_⟩;refine Qw (λuu=>?_) (λuu=>?_)
 ·exact bad (λhb=>by have:=hb.2.2.2.2.2.2.2.2.2;omega) _ (Qx.trans Js)
 have Vx:=Qx.trans Js;refine loop Qa [6] (λt:Nat=>[.int .i64 t]) (λt w'=>Ext w7 w'/\t<=s/\y∉nd.take t) (λt _=>s-t) 0 rfl ⟨Ext.refl w7,Xo _,by simp⟩ ?_;rintro t w8 ⟨Xn,ht,Xi⟩;have Xz:=(QD.ext Js).ext Xn;have hX8:=(KT.ext Js).ext Xn;have WC:=Vx.trans Xn;refine Qw (λh8=>?_) (λh8=>?_)
 ·refine XR Qa (Ext w8) 7 [(true,0),(true,1),(true,2),(true,3),(true,4),(true,5),(true,6)] (by kernel_rfl) (Ext.drew w8) ?_;refine QN (v:=.slice A n c) (λw' Qb=>by rw[(Xz.ext Qb).cell];rfl) ?_;refine Zt W3 (h.ext WC) rfl (by omega) (λp z hz hc=>?_);refine Xv (vs:=z.cells) rfl (λw' Qb j v hj=>Qb.cell (hc j v hj)) ?_;refine Xv (vs:=y.cells) rfl (λw' Qb j v hj=>by have:=(hX8.ext Qb).cell j;simp[Addr.add] at this;rw[<-hj];simpa [Addr.add] using this) ?_;have cz:=Xn.trans (Ext.drew w8);by_cases Ft:z=y
  ·refine Xd (by rw[rx,Zx (ry.1 Ft)]) ?_;refine bad (λhb=>hb.2.2.2.2.2.2.2.1 ?_) _ (Vx.trans cz);subst Ft;exact Xl (i:=t) (by rw[qJ (by omega)];exact hz)
  ·refine Q9 (by rw[rx,Zr (λe=>Ft (ry.2 e))]) ?_;refine Qj ((t+1:Nat):Int) (by omega) (by omega) ?_;refine⟨t+1,rfl,⟨cz,by omega,?_⟩,by show s-(t+1)<s-t;omega⟩;rw[VF,hz];simp only[PM,XP,QO,not_or];exact⟨Xi,λe=>Ft e.symm⟩
 ·have:t=s:=by omega
  subst this;exact⟨true,rfl,by simp only[true_iff];exact⟨by omega,by omega,by omega,by omega,by omega,by omega,c7,Xi,by omega,by omega⟩,WC⟩
end
section
def lQ (l:List Nat):List Value:=l.map λ(x:Nat)=>.int .i64 (x:Int)
theorem SE {l:List Nat}{j x:Nat}(h:l[j]? =some x):(lQ l)[j]? =some (.int .i64 (x:Int)):=by simp[lQ,h]
theorem gQX (l:List Nat):(lQ l).length=l.length:=by simp[lQ]
theorem gQY (l:List Nat)(i x:Nat):lQ (l.set i x)=(lQ l).set i (.int .i64 (x:Int)):=by simp[lQ,List.map_set]
def WS (x pg:Nat)(A:Option Addr):Nat->Prop:=λk=>k=x∨k=pg∨Qk A k
theorem WS.moved {w:World}{x pg:Nat}{A A':Option Addr}(h:Moved w A A'):∀k,WS x pg A' k->WS x pg A k∨w.heap.size<=k:=by
 rintro k (rfl | rfl | hk)
 ·exact .inl (.inl rfl)
 ·exact .inl (.inr (.inl rfl))
 ·rcases h.rows k hk with h | h
  ·exact .inl (.inr (.inr h))
  ·exact .inr h
structure Wk (w:World) (base x pg:Nat) (NA:Option Addr) (nn nc:Nat) (nd:List Br) (OA:Option Addr) (oc:Nat) (st:List Br×List Nat):Prop where
 blk:Blk w x 249 [.slice NA nn nc,.slice (some ⟨pg,0,none⟩) nn nn,.slice OA st.1.length oc]
 num:Blk w pg 3 (lQ st.2)
 own:Own w base 105 3 OA st.1.length oc (lP st.1)
 lt:x<base/\pg<base/\x≠pg
 top:base<=w.heap.size
 nds:SB w NA nn nc nd
 row:∀ad,NA=some ad->0<nn->ad.block<base/\ad.block≠x/\ad.block≠pg
 len:st.2.length=nn
theorem Wk.ext {w w':World}{base x pg:Nat}{NA:Option Addr}{nn nc:Nat}{nd:List Br}{OA:Option Addr}{oc:Nat}{st:List Br×List Nat}(h:Wk w base x pg NA nn nc nd OA oc st)(k:Ext w w'):Wk w' base x pg NA nn nc nd OA oc st:=
 ⟨h.blk.ext k,h.num.ext k,h.own.ext k,h.lt,X3 h.top k.size,h.nds.ext k,h.row,h.len⟩
theorem Wk.keep {w w':World}{base x pg:Nat}{NA:Option Addr}{nn nc:Nat}{nd:List Br}{OA:Option Addr}{oc:Nat}{st:List Br×List Nat}(h:Wk w base x pg NA nn nc nd OA oc st)(hm:Mod (WS x pg OA) w w'):SB w' NA nn nc nd:=by
 refine⟨h.nds.1.modS hm ?_,h.nds.2⟩;rintro h0 i ⟨ad,rfl,rfl⟩ hi;obtain⟨r1,r2,r3⟩:=h.row ad rfl h0;rcases hi with hi | hi | hi
 ·exact r2 hi
 ·exact r3 hi
 ·have:=(h.own.rows _ hi).1;omega
def WTo (w:World)(base x pg:Nat)(NA:Option Addr)(nn nc:Nat)(nd:List Br)(OA:Option Addr)(st:List Br×List Nat)(w':World):Prop:=∃OA' oc',Wk w' base x pg NA nn nc nd OA' oc' st/\Mod (WS x pg OA) w w'/\Moved w OA OA'
theorem SG (base x pg:Nat)(NA:Option Addr)(nn nc:Nat)(nd:List Br)(VC:aY nd)(gz:nn<=1000000000000):∀(m:Nat)(n:Int)(st:List Br×List Nat)(OA:Option Addr)(oc:Nat)(w:World),
  Wk w base x pg NA nn nc nd OA oc st->0<=n->n<m->n<nn+2->st.1.length+st.2.count 0<=1000000000000->
  Fn Tryz.prog 164 [.pointer (some ⟨x,0,none⟩),.int .i64 n] w (λv w'=>v= .int .i64 (Zl nd m n st).1/\WTo w base x pg NA nn nc nd OA (Zl nd m n st).2 w')
 | 0,n,st,OA,oc,w,_,h0,hm,_,_=>by omega
 | m+1,n,st,OA,oc,w,hK,h0,hm,hn,hc=>by
  have ih:=SG base x pg NA nn nc nd VC gz m;have KC:nd.length=nn:=hK.nds.2;have hl:=hK.len;have Yo:=hK.own.rows;have qQo:=hK.blk.lt;have qQp:=hK.num.lt;obtain⟨lx,lp,lxp⟩:=hK.lt;refine QJ (c:={fQm with cuts:=[]}) Qa Tryz.func164 rfl rfl rfl ?_;by_cases h1:n<2
  ·refine Zy h1 ?_;rw[lM h1];exact⟨rfl,OA,oc,hK,Mod.refl _ _,Moved.refl _ _⟩
  refine XJ h1 ?_;have hj:(n-2).toNat<nn:=by omega
  have hz:st.2[(n-2).toNat]? =some st.2[(n-2).toNat]:=Xu (by omega);refine Qo hK.blk rfl ?_;refine Qj (((n-2).toNat:Nat):Int) (by omega) (by omega) ?_;refine index (by omega) ?_;refine Qo hK.num (SE hz) ?_;have hd:st.2[(n-2).toNat]?.getD 0=st.2[(n-2).toNat]:=by rw[hz]<;>rfl
  by_cases h2:0<st.2[(n-2).toNat]?.getD 0
  ·rw[lN h1 h2];rw[hd] at h2 ⊢;refine Zy (by omega) ?_;refine Qo hK.blk rfl ?_;refine Qj (((n-2).toNat:Nat):Int) (by omega) (by omega) ?_;refine index (by omega) ?_;refine Qo hK.num (SE hz) ?_;exact⟨rfl,OA,oc,hK,Mod.refl _ _,Moved.refl _ _⟩
  refine XJ (by rw[hd] at h2;omega) ?_;have hx:=Xu (show(n-2).toNat<nd.length by omega);generalize nd[(n-2).toNat]=b at hx;obtain⟨x1,x2,x3,x4⟩:=VC _ _ hx;rw[oz h1 h2 hx];refine Qz hK.blk rfl ?_;refine Qj (((n-2).toNat:Nat):Int) (by omega) (by omega) ?_;refine Zt W3 hK.nds rfl (by omega) (λad y hy cA=>?_);have jM:y=b:=Option.some.inj (hy.symm.trans hx);subst jM;refine Jz (vs:=y.cells) rfl cA ?_;refine new (λw1 Qe Q6 Qh=>?_);refine Qv Qh rfl (sc rfl) (λw2 de Ze KS=>?_);have Qg:Ext w w2:=XT Qe Qh de;have DH:Mod (WS x pg OA) w w2:=Mod.of_ext _ Qg;have jP:¬WS x pg OA w.heap.size:=λe=>by
   rcases e with e | e | e
   ·omega
   ·omega
   ·have:=(Yo _ e).2;omega
  refine Qo KS rfl ?_;have f1:=lO VC m y.l st x1 (by omega) (by omega) (by omega);refine call (ih y.l st OA oc w2 (hK.ext Qg) x1 (by omega) (by omega) hc) ?_;rintro v w3 ⟨rfl,OA3,LP,f9,Ji,mM⟩;have VR:=KS.mod Ji jP;have vM:¬WS x pg OA3 w.heap.size:=λe=>(WS.moved mM _ e).elim jP (λh=>by omega)
  refine Qo VR rfl ?_;have f2:=lO VC m y.h _ x3 (by omega) (by omega) f1.len;have c1:=f1.cnt;have c2:=f2.cnt;refine call (ih y.h _ OA3 LP w3 f9 x3 (by omega) (by omega) (by omega)) ?_;rintro v w4 ⟨rfl,OA4,oc4,Yl,K6,r8⟩;have Wc:=VR.mod K6 vM;have mQO:¬WS x pg OA4 w.heap.size:=λe=>(WS.moved r8 _ e).elim vM (λh=>by have:=Ji.size;omega)
  have mN:=Ji.trans K6 (WS.moved mM);have LQ:=mM.trans r8 Ji.size;have yW:Mod (WS x pg OA) w w4:=DH.trans mN (λi hi=>.inl hi);have yX:=LQ.back Qg.size;generalize (Zl nd m y.l st)=a at*;generalize (Zl nd m y.h a.2)=b at*;have r9:=Yl.own.rows;have eo:¬Qk OA4 x:=λe=>by have:=(r9 _ e).1;omega
  have hnp:¬Qk OA4 pg:=λe=>by have:=(r9 _ e).1;omega
  refine XR Qa (Mod (Qk OA4) w4) 12 [(true,0),(true,1),(true,2),(true,3),(true,4),(true,5),(true,6),(true,7),(true,8),(true,9),(false,10),(false,11)] (by kernel_rfl) (Mod.of_ext _ (Ext.drew w4)) ?_;refine QN (v:=.slice OA4 b.2.1.length oc4) (λw' Qb=>by rw[(Yl.blk.mod Qb eo).cell];rfl) ?_;refine QN (v:=.int .i64 y.v) (λw' Qb=>by rw[(Wc.mod Qb (λe=>mQO (.inr (.inr e)))).cell];rfl) ?_;refine Xg Qa [(⟨y.v,a.1,b.1⟩:Br).cells] rfl rfl rfl rfl rfl ⟨rfl,rfl,⟨⟩⟩ rfl (λcs h=>by simp only[QO] at h;subst h;rfl) rfl (by decide) (by decide) ?_;intro w5 Qx KI QD;have bw:=(Ext.drew w4).trans Qx;have kP:=Yl.ext bw;refine⟨Mod.of_ext _ bw,?_⟩;have mO:Sl w5 3 (some ⟨w4.drew.heap.size,0,none⟩) 1 1 (⟨y.v,a.1,b.1⟩:Br).cells:=Sl.own (sz:=3) (n:=1) QD (QB _) (by decide) (by simp[Br.cells]);refine Je Qa rfl rfl rfl rfl rfl (by decide) rfl rfl ⟨_,rfl⟩ rfl rfl kP.own mO (by intro u hu;simp[Br.cells] at hu;rcases hu with rfl | rfl | rfl<;>rfl) (by unfold maxLen;omega) (by show _*24<=_;omega) kP.top ?_;intro OA6 DI w6 Vv yY yZ;have pq:Mod (Qk OA4) w4 w6:=(Mod.of_ext (Qk OA4) bw).trans Vv (λi hi=>.inl hi);refine⟨pq,?_⟩;refine XV (Yl.blk.mod pq eo) (by simp) (λw7 Xe Q3=>?_);have hN7:=(Yl.num.mod pq hnp).mod Xe (λe=>lxp e.symm);have QZ:b.2.2.length=nn:=Yl.len;refine XR Qa (Ext w7) 13 [(true,0),(true,1),(true,2),(true,3),(true,4),(true,5),(true,6),(true,7),(true,8),(true,9),(true,10),(true,11),(true,12)] (by kernel_rfl) (Ext.drew w7) ?_;refine QN (v:=.slice (some ⟨pg,0,none⟩) nn nn) (λw' Qb=>by rw[(Q3.ext Qb).cell];rfl) ?_;refine Qj (((n-2).toNat:Nat):Int) (by omega) (by omega) ?_;refine QN (v:=.slice OA6 (b.2.1.length+1) DI) (λw' Qb=>by rw[(Q3.ext Qb).cell];rfl) ?_;refine Qj ((b.2.1.length+2:Nat):Int) (by omega) (by omega) ?_;refine index (by omega) ?_;refine XV (hN7.ext (Ext.drew w7)) (by rw[gQX];omega) (λw8 ZL Xz=>?_);rw[<-gQY] at Xz;have zb:=(Q3.ext (Ext.drew w7)).mod ZL lxp;refine Qo zb rfl ?_;refine Qj ((b.2.1.length+2:Nat):Int) (by omega) (by omega) ?_;have sf:Mod (WS x pg OA4) w4 w8:=(((pq.mono (λi hi=>.inl (.inr (.inr hi)))).trans Xe (λi hi=>.inl (.inl hi))).trans (Mod.of_ext (WS x pg OA4) (Ext.drew w7)) (λi hi=>.inl hi)).trans ZL (λi hi=>.inl (.inr (.inl hi)));have y8:=yY.rows;have el:(b.2.1++ [(⟨y.v,a.1,b.1⟩:Br)]).length=b.2.1.length+1:=by simp
  refine⟨rfl,OA6,DI,⟨?_,?_,?_,hK.lt,?_,Yl.keep sf,hK.row,?_⟩,yW.trans sf (WS.moved yX),?_⟩
  ·rw[el];exact zb
  ·exact Xz
  ·rw[el,Cg];refine((yY.mod Xe (λi hi e=>?_)).ext (Ext.drew w7)).mod ZL (λi hi e=>?_)
   ·have:=(y8 i hi).1;omega
   ·have:=(y8 i hi).1;omega
  ·have:=Yl.top;have:=sf.size;omega
  ·rw[gG];exact QZ
  ·exact yX.trans (yZ.back bw.size) yW.size
theorem gQZ (NA:Option Addr)(nn nc:Nat)(nd:List Br)(root:Int)(w:World)(hN:SB w NA nn nc nd)(VC:aY nd)(gz:nn<=1000000000000)(h0:0<=root)(hr:root<nn+2):
  Fn Tryz.prog 108 [.slice NA nn nc,.int .i64 root] w (xM w (cN nd root)):=by
 have KC:nd.length=nn:=hN.2;have ld:=SB.lt hN;refine QJ (c:={eQI with cuts:=[]}) Qa Tryz.func108 rfl rfl rfl ?_;refine new (λw1 Qe Q6 Qh=>?_);refine BU Qa rfl rfl rfl rfl rfl rfl rfl rfl (by show 8*nn<=_;omega) (by unfold maxLen;omega) (λw2 Qg Ze Qy=>?_);refine new (λw3 Qi Jr Qu=>?_);have QU:=(Qe.trans Qg).trans Qi;have hW:Wk w3 w3.heap.size w2.heap.size w1.heap.size NA nn nc nd none 0 ([],List.replicate nd.length 0):=by
  refine⟨Qu,?_,Own.nil _ _ _ _,⟨by omega,by omega,by omega⟩,QB _,hN.ext QU,λad e hn=>?_,by simp[KC]⟩
  ·have:=Qy.ext Qi;rw[KC];simpa [lQ] using this
  ·have:=ld ad e hn;exact⟨by omega,by omega,by omega⟩
 refine call (SG w3.heap.size w2.heap.size w1.heap.size NA nn nc nd VC gz (root.toNat+1) root _ none 0 w3 hW h0 (by omega) hr (by simp;omega)) ?_;rintro v w4 ⟨rfl,OA,oc,hK,K6,r8⟩;refine Qo hK.blk rfl ?_;have df:=((Qh.ext Qg).ext Qi).mod K6 (λe=>by
  rcases e with e | e | ⟨_,e,_⟩
  ·omega
  ·omega
  ·cases e)
 refine Qv df rfl (sc rfl) (λw5 JE _ QD=>?_);have Jt:Mod (·=w.heap.size) w4 w5:=qQL JE rfl;refine Qt QD rfl ?_;have Qs:Ext w w4:=K6.ext QU (λi hi=>by
  rcases hi with e | e | ⟨_,e,_⟩
  ·omega
  ·omega
  ·cases e)
 exact⟨OA,_,oc,rfl,Jt.ext Qs (λi hi=>by omega),⟨(hK.own.mod Jt (λi hi e=>by have:=(hK.own.rows i hi).1;omega)).sl,rfl⟩,λi hi=>X3 QU.size (hK.own.rows i hi).1⟩
end
section
def K2 (b:Br):List Br->Option Nat
 | []=>none
 | x::l=>if x=b then some 0 else(K2 b l).map (·+1)
theorem SH {b:Br}:∀{l:List Br}{s:Nat},(∀j,j<s->l[j]? ≠some b)->l[s]? =some b->K2 b l=some s
 | [],s,_,h=>by simp at h
 | x::l,0,_,h=>by simp at h;simp[K2,h]
 | x::l,s+1,hn,h=>by
  have hx:x≠b:=λe=>hn 0 (by omega) (by simp[e])
  have:=SH (l:=l) (s:=s) (λj hj=>by have:=hn (j+1) (by omega);simpa using this) (by simpa using h);simp[K2,hx,this]
theorem SI {b:Br}:∀{l:List Br},(∀j,j<l.length->l[j]? ≠some b)->K2 b l=none
 | [],_=>rfl
 | x::l,hn=>by
  have hx:x≠b:=λe=>hn 0 (by simp) (by simp[e])
  have:=SI (l:=l) (λj hj=>by have:=hn (j+1) (by simpa using hj);simpa using this);simp[K2,hx,this]
def Jf (b:Br)(l:List Br):List Br×Int:=if b.l=b.h then(l,b.l)else match K2 b l with
 | some i=>(l,((i+2:Nat):Int))
 | none=>(l++ [b],((l.length+2:Nat):Int))
theorem xO (b:Br)(l:List Br):l.length<=(Jf b l).1.length:=by
 unfold Jf;split
 ·exact QB _
 ·split
  ·exact QB _
  ·simp
def eS (op x y:Int):Int:=if op=0 then x*y else if op=1 then max x y else if op=3 then 1-x else if op=4 then(1-x)*y else(x+y) % 2
def Qm (d:List Br)(n v:Int):Int×Int:=if Ql d n≠v then(n,n)else match d[(n-2).toNat]? with
 | some b=>(b.l,b.h)
 | none=>(n,n)
abbrev Tr3:=Int×Int×Int
def Xw (a b:List Br)(op:Int):Nat->Int->Int->List Br×List Tr3->Int×(List Br×List Tr3)
 | 0,_,_,st=>(0,st)
 | m+1,x,y,st=>if x<2/\y<2 then(eS op x y,st)else
   match st.2.find? (λt=>decide (t.1=x/\t.2.1=y))with
   | some t=>(t.2.2,st)
   | none=>
    let v:=min (Ql a x) (Ql b y)
    let r0:=Xw a b op m (Qm a x v).1 (Qm b y v).1 st
    let r1:=Xw a b op m (Qm a x v).2 (Qm b y v).2 r0.2
    let u:=Jf ⟨v,r0.1,r1.1⟩ r1.2.1
    (u.2,(u.1,r1.2.2++ [(x,y,u.2)]))
theorem lR {a b:List Br}{op:Int}{m:Nat}{x y:Int}{st:List Br×List Tr3}(h:x<2/\y<2):Xw a b op (m+1) x y st=(eS op x y,st):=by rw[Xw,Qf h]
theorem lS {a b:List Br}{op:Int}{m:Nat}{x y:Int}{st:List Br×List Tr3}{t:Tr3}(h:¬(x<2/\y<2))(k:st.2.find? (λt=>decide (t.1=x/\t.2.1=y))=some t):Xw a b op (m+1) x y st=(t.2.2,st):=by rw[Xw,if_neg h,k]
theorem lT {a b:List Br}{op:Int}{m:Nat}{x y:Int}{st:List Br×List Tr3}(h:¬(x<2/\y<2))(k:st.2.find? (λt=>decide (t.1=x/\t.2.1=y))=none)(v:Int)(hv:min (Ql a x) (Ql b y)=v):
  Xw a b op (m+1) x y st=((Jf ⟨v,(Xw a b op m (Qm a x v).1 (Qm b y v).1 st).1,(Xw a b op m (Qm a x v).2 (Qm b y v).2 (Xw a b op m (Qm a x v).1 (Qm b y v).1 st).2).1⟩ (Xw a b op m (Qm a x v).2 (Qm b y v).2 (Xw a b op m (Qm a x v).1 (Qm b y v).1 st).2).2.1).2,
   ((
    Jf ⟨v,(Xw a b op m (Qm a x v).1 (Qm b y v).1 st).1,(Xw a b op m (Qm a x v).2 (Qm b y v).2 (Xw a b op m (Qm a x v).1 (Qm b y v).1 st).2).1⟩ (Xw a b op m (Qm a x v).2 (Qm b y v).2 (Xw a b op m (Qm a x v).1 (Qm b y v).1 st).2).2.1).1,
    (Xw a b op m (Qm a x v).2 (Qm b y v).2 (Xw a b op m (Qm a x v).1 (Qm b y v).1 st).2).2.2++ [(x,y,(Jf ⟨v,(Xw a b op m (Qm a x v).1 (Qm b y v).1 st).1,(Xw a b op m (Qm a x v).2 (Qm b y v).2 (Xw a b op m (Qm a x v).1 (Qm b y v).1 st).2).1⟩ (Xw a b op m (Qm a x v).2 (Qm b y v).2 (Xw a b op m (Qm a x v).1 (Qm b y v).1 st).2).2.1).2)])):=by
 subst hv;rw[Xw,if_neg h,k]
theorem oA (a b:List Br)(op:Int):∀(m:Nat)(x y:Int)(st:List Br×List Tr3),st.1.length<=(Xw a b op m x y st).2.1.length/\st.2.length<=(Xw a b op m x y st).2.2.length
 | 0,x,y,st=>⟨QB _,QB _⟩
 | m+1,x,y,st=>by
  by_cases h:x<2/\y<2
  ·rw[lR h];exact⟨QB _,QB _⟩
  cases k:st.2.find? (λt=>decide (t.1=x/\t.2.1=y))with
  | some t=>rw[lS h k];exact⟨QB _,QB _⟩
  | none=>
   rw[lT h k _ rfl];have h1:=oA a b op m (Qm a x (min (Ql a x) (Ql b y))).1 (Qm b y (min (Ql a x) (Ql b y))).1 st;have h2:=oA a b op m (Qm a x (min (Ql a x) (Ql b y))).2 (Qm b y (min (Ql a x) (Ql b y))).2 (Xw a b op m (Qm a x (min (Ql a x) (Ql b y))).1 (Qm b y (min (Ql a x) (Ql b y))).1 st).2;refine⟨X3 (X3 h1.1 h2.1) (xO _ _),?_⟩;simp only[Qq];omega
def V0 (nd:List Br):Prop:=aY nd/\∀(j:Nat)(b:Br),nd[j]? =some b->0<=b.v/\b.v<=63
theorem VD.dok {nd:List Br}{r:Int}(h:VD nd r):V0 nd:=⟨h.wf,λj b hb=>⟨(h.1 j b hb).1,(h.1 j b hb).2.1⟩⟩
theorem W4 {nd:List Br}(h:V0 nd){n v:Int}(h0:0<=n)(gb:v<64):0<=(Qm nd n v).1/\(Qm nd n v).1<=n/\0<=(Qm nd n v).2/\(Qm nd n v).2<=n/\(Ql nd n=v->(Qm nd n v).1<n/\(Qm nd n v).2<n):=by
 unfold Qm;split
 ·rename_i hv;exact⟨h0,j0 _,h0,j0 _,λe=>Xc e hv⟩
 ·rename_i hv;have hv:=Decidable.not_not.1 hv;have wG:¬n<2:=λh2=>by
   unfold Ql at hv;rw[Qf h2] at hv;omega
  cases hx:nd[(n-2).toNat]? with
  | none=>
   unfold Ql at hv;rw[if_neg wG,hx] at hv;simp at hv;omega
  | some b=>
   obtain⟨h1,h2,h3,h4⟩:=h.1 _ _ hx;exact⟨h1,by simp only;omega,h3,by simp only;omega,λ_=>⟨by simp only;omega,by simp only;omega⟩⟩
theorem aZ {nd:List Br}(h:V0 nd){n:Int}(h2:¬n<2)(hn:n<nd.length+2):Ql nd n<64:=by
 unfold Ql;have hx:=Xu (show(n-2).toNat<nd.length by omega);rw[if_neg h2,hx];have:=(h.2 _ _ hx).2;simp only[xb,gJ];omega
theorem gQ0 (base:Nat)(A:Option Addr)(n c:Nat)(l:List Br)(b:Br)(w:World)(h:Own w base 105 3 A n c (lP l))(hn:l.length=n)(hb:base<=w.heap.size)(hl:n+1<=1000000000000):
  Fn Tryz.prog 163 [.slice A n c,.agg b.cells.toArray] w (λv w'=>∃A' c',v= .tuple #[.slice A' (Jf b l).1.length c',.int .i64 (Jf b l).2]/\Own w' base 105 3 A' (Jf b l).1.length c' (lP (Jf b l).1)/\Mod (Qk A) w w'/\Moved w A A'):=by
 have hsb:SB w A n c l:=⟨h.sl,hn⟩
 refine QJ (c:={fQl with cuts:=[]}) Qa Tryz.func163 rfl rfl rfl ?_;refine new (λw1 Qe Q6 Qh=>?_);have fW:Mod (Qk A) w w1:=Mod.of_ext _ Qe;refine Qo Qh rfl ?_;refine Qo Qh rfl ?_;refine X8 (λh1=>?_) (λh1=>?_)
 ·have e:Jf b l=(l,b.l):=by unfold Jf;rw[Qf h1]
  rw[e];refine XR Qa (Ext w1) 5 [(true,0),(true,1),(true,2),(true,3),(true,4)] (by kernel_rfl) (Ext.drew w1) ?_;refine QN (v:=.int .i64 b.l) (λw' Qb=>by rw[(Qh.ext Qb).cell];rfl) ?_;have cz:=Qe.trans (Ext.drew w1);rw[hn];exact⟨A,c,rfl,h.ext cz,Mod.of_ext _ cz,Moved.refl _ _⟩
 have e0:Jf b l=match K2 b l with
  | some i=>(l,((i+2:Nat):Int))
  | none=>(l++ [b],((l.length+2:Nat):Int)):=by unfold Jf;rw[if_neg h1]
 refine loop Qa [6] (λs:Nat=>[.int .i64 s]) (λs w'=>Ext w1 w'/\s<=n/\∀j,j<s->l[j]? ≠some b) (λs _=>n-s) 0 rfl ⟨Ext.refl _,Xo _,λj hj=>Xc hj (by omega)⟩ ?_;rintro s w2 ⟨Qg,hs,Xi⟩;have QT:=Qe.trans Qg;have Qy:=Qh.ext Qg;refine Qw (λh3=>?_) (λh3=>?_)
 ·refine XR Qa (Ext w2) 6 [(true,0),(true,1),(true,2),(true,3),(true,4),(true,5)] (by kernel_rfl) (Ext.drew w2) ?_;refine Zt W3 (hsb.ext QT) rfl (by omega) (λp z hz hc=>?_);refine Xv (vs:=z.cells) rfl (λw' Qb j v hj=>Qb.cell (hc j v hj)) ?_;refine Xv (vs:=b.cells) rfl (λw' Qb j v hj=>by rw[(Qy.ext Qb).cell];exact hj) ?_;have cz:=Qg.trans (Ext.drew w2);by_cases qf:z=b
  ·refine Xd (by rw[rx,Zx (ry.1 qf)]) ?_;subst qf;rw[SH Xi hz] at e0;simp only at e0;rw[e0];refine Qj ((s+2:Nat):Int) (by omega) (by omega) ?_;rw[hn];exact⟨A,c,rfl,h.ext (Qe.trans cz),Mod.of_ext _ (Qe.trans cz),Moved.refl _ _⟩
  ·refine Q9 (by rw[rx,Zr (λe=>qf (ry.2 e))]) ?_;refine Qj ((s+1:Nat):Int) (by omega) (by omega) ?_;refine⟨s+1,rfl,⟨cz,by omega,λj hj=>?_⟩,by show n-(s+1)<n-s;omega⟩;by_cases We:j<s
   ·exact Xi j We
   ·have:j=s:=by omega
    subst this;rw[hz];exactλe=>qf (Option.some.inj e)
 ·have:s=n:=by omega
  subst this;rw[SI (by rw[hn];exact Xi)] at e0;simp only at e0;rw[e0];refine Qt Qy rfl ?_;refine Xg Qa [b.cells] rfl rfl rfl rfl rfl ⟨rfl,rfl,⟨⟩⟩ rfl (λcs h=>by simp only[QO] at h;subst h;rfl) rfl (by decide) (by decide) ?_;intro w3 Qi Jr Qu;have QU:=QT.trans Qi;have sh:Sl w3 3 (some ⟨w2.heap.size,0,none⟩) 1 1 b.cells:=Sl.own (sz:=3) (n:=1) Qu (QB _) (by decide) (by simp[Br.cells]);refine Je Qa rfl rfl rfl rfl rfl (by decide) rfl rfl ⟨_,rfl⟩ rfl rfl (h.ext QU) sh (by intro u hu;simp[Br.cells] at hu;rcases hu with rfl | rfl | rfl<;>rfl) (by unfold maxLen;omega) (by show _*24<=_;omega) (X3 hb QU.size) ?_;intro A' c' w4 K6 si r8;refine Qj ((s+2:Nat):Int) (by omega) (by omega) ?_;have el:(l++ [b]).length=s+1:=by rw[Qq,hn]<;>rfl
  rw[el,hn];refine⟨A',c',rfl,?_,(Mod.of_ext (Qk A) QU).trans K6 (λi hi=>.inl hi),r8.back QU.size⟩;rw[Cg];exact si
end
section
theorem gQ1 (pb:Nat)(cs:List Value)(op x y:Int)(w:World)(h:Blk w pb 183 cs)(hc:cs[4]? =some (.int .i64 op))(x0:0<=x)(x1:x<2)(y0:0<=y)(y1:y<2)(ho:op≠3/\op≠4):
  Fn Tryz.prog 160 [.pointer (some ⟨pb,0,none⟩),.int .i64 x,.int .i64 y] w (λv w'=>v= .int .i64 (eS op x y)/\w=w'):=by
 refine QJ (c:={fQi with cuts:=[]}) Qa Tryz.func160 rfl rfl rfl ?_;refine Qo h hc ?_;refine X8 (λc0=>?_) (λc0=>?_)
 ·have:0<=x*y/\x*y<=1:=by
   rcases(by omega:x=0∨x=1)with rfl | rfl<;>rcases(by omega:y=0∨y=1)with rfl | rfl<;>decide
  refine Qj (x*y) rfl (by omega) ?_;exact⟨by unfold eS;rw[Qf c0],rfl⟩
 refine X8 (λc1=>?_) (λc1=>?_)
 ·refine norm (m:=max x y) (by rw[Int.max_def];split<;>split<;>omega) ?_;exact⟨by unfold eS;rw[if_neg c0,Qf c1],rfl⟩
 ·refine Qj (x+y) rfl (by omega) ?_;refine normIf (m:=(x+y) % 2) (by decide) (Int.tmod_eq_emod_of_nonneg (by omega)) ?_;exact⟨by unfold eS;rw[if_neg c0,if_neg c1,if_neg ho.1,if_neg ho.2],rfl⟩
theorem SJ (A:Option Addr)(n c:Nat)(r m v:Int)(nd:List Br)(w:World)(h:SB w A n c nd)(hm:m<n+2)(gb:v<64):
  Fn Tryz.prog 162 [Xm A n c r,.int .i64 m,.int .i64 v] w (λu w'=>u= .tuple #[.int .i64 (Qm nd m v).1,.int .i64 (Qm nd m v).2]/\Ext w w'):=by
 have QZ:=h.2;have cw:n<=9223372036854775807:=by have:=h.1.le;have:=h.1.cap;simp only[maxLen] at this;omega
 refine QJ (c:={fQk with cuts:=[]}) Qa Tryz.func162 rfl rfl rfl ?_;refine new (λw1 Qe Q6 Qh=>?_);refine Qt Qh rfl ?_;refine call (xN A n c r m nd w1 (h.ext Qe) hm) ?_;rintro u w2 ⟨rfl,Qg⟩;have QT:=Qe.trans Qg;have Qy:=Qh.ext Qg;refine WW (λc1=>?_) (λc1=>?_)
 ·exact⟨by unfold Qm;rw[Qf c1],QT⟩
 ·have wG:¬m<2:=λh2=>by
   unfold Ql at c1;rw[Qf h2] at c1;omega
  have hx:=Xu (show(m-2).toNat<nd.length by omega);generalize nd[(m-2).toNat]=b at hx;have e:Qm nd m v=(b.l,b.h):=by unfold Qm;rw[if_neg (by omega),hx]
  rw[e];refine XR Qa (Ext w2) 16 [(true,0),(true,1),(true,2),(true,3),(true,4),(true,5),(true,6),(true,7),(true,8),(true,9),(true,10),(true,11),(true,12),(true,13),(true,14),(true,15)] (by kernel_rfl) (Ext.drew w2) ?_;refine QN (v:=.slice A n c) (λw' Qb=>by rw[(Qy.ext Qb).cell];rfl) ?_;refine Qj (((m-2).toNat:Nat):Int) (by omega) (by omega) ?_;refine Zt W3 (h.ext QT) rfl (by omega) (λp z hz hc=>?_);have qf:z=b:=Option.some.inj (hz.symm.trans hx);subst qf;refine QN (v:=.int .i64 z.l) (λw' Qb=>Qb.cell (hc 1 _ rfl)) ?_;refine QN (v:=.slice A n c) (λw' Qb=>by rw[(Qy.ext Qb).cell];rfl) ?_;refine Qj (((m-2).toNat:Nat):Int) (by omega) (by omega) ?_;refine Zt W3 (h.ext QT) rfl (by omega) (λp' z' aH ZZ=>?_);have OF:z'=z:=Option.some.inj (aH.symm.trans hx);subst OF;refine QN (v:=.int .i64 z'.h) (λw' Qb=>Qb.cell (ZZ 2 _ rfl)) ?_;exact⟨rfl,QT.trans (Ext.drew w2)⟩
def Tr3.cells (t:Tr3):List Value:=[.int .i64 t.1,.int .i64 t.2.1,.int .i64 t.2.2]
theorem Hf (t:Tr3):(Tr3.cells t).length=3:=rfl
def xP (l:List Tr3):List Value:=l.flatMap Tr3.cells
theorem gQ2 (l:List Tr3)(x:Tr3):xP (l++ [x])=xP l++Tr3.cells x:=by simp[xP]
def AS (pb:Nat)(NA SA:Option Addr):Nat->Prop:=λk=>k=pb∨Qk NA k∨Qk SA k
theorem AS.moved {w:World}{pb:Nat}{NA NA' SA SA':Option Addr}(h:Moved w NA NA')(h':Moved w SA SA'):∀k,AS pb NA' SA' k->AS pb NA SA k∨w.heap.size<=k:=by
 rintro k (rfl | hk | hk)
 ·exact .inl (.inl rfl)
 ·rcases h.rows k hk with h | h
  ·exact .inl (.inr (.inl h))
  ·exact .inr h
 ·rcases h'.rows k hk with h | h
  ·exact .inl (.inr (.inr h))
  ·exact .inr h
structure AD where
 A:Option Addr
 n:Nat
 c:Nat
 a:List Br
 ra:Int
 B:Option Addr
 m:Nat
 d:Nat
 b:List Br
 rb:Int
 op:Int
structure Ap (w0 w:World) (base pb:Nat) (D:AD) (NA:Option Addr) (nc:Nat) (SA:Option Addr) (sc:Nat) (st:List Br×List Tr3):Prop where
 e0:Ext w0 w
 as_:SB w0 D.A D.n D.c D.a
 bs:SB w0 D.B D.m D.d D.b
 p0:w0.heap.size<=pb
 blk:Blk w pb 183 [.slice D.A D.n D.c,.int .i64 D.ra,.slice D.B D.m D.d,.int .i64 D.rb,.int .i64 D.op,.slice NA st.1.length nc,.slice SA st.2.length sc]
 nown:Own w base 105 3 NA st.1.length nc (lP st.1)
 sown:Own w base 242 3 SA st.2.length sc (xP st.2)
 apart:∀i,Qk NA i->¬Qk SA i
 lt:pb<base
 top:base<=w.heap.size
def ATo (w0 w:World)(base pb:Nat)(D:AD)(NA SA:Option Addr)(st:List Br×List Tr3)(w':World):Prop:=∃NA' nc' SA' sc',Ap w0 w' base pb D NA' nc' SA' sc' st/\Mod (AS pb NA SA) w w'/\Moved w NA NA'/\Moved w SA SA'
theorem Ap.grow {w0 w w':World}{base pb:Nat}{D:AD}{NA:Option Addr}{nc:Nat}{SA:Option Addr}{sc:Nat}{st:List Br×List Tr3}(h:Ap w0 w base pb D NA nc SA sc st)(k:Ext w w'):Ap w0 w' base pb D NA nc SA sc st:=
 ⟨h.e0.trans k,h.as_,h.bs,h.p0,h.blk.ext k,h.nown.ext k,h.sown.ext k,h.apart,h.lt,X3 h.top k.size⟩
theorem Ap.kept {w0 w:World}{base pb:Nat}{D:AD}{NA:Option Addr}{nc:Nat}{SA:Option Addr}{sc:Nat}{st:List Br×List Tr3}(h:Ap w0 w base pb D NA nc SA sc st):∀i,AS pb NA SA i->w0.heap.size<=i:=by
 have:=h.p0;have:=h.lt;rintro i (rfl | hi | hi)
 ·omega
 ·have:=(h.nown.rows i hi).1;omega
 ·have:=(h.sown.rows i hi).1;omega
theorem gQ3 {l:List Tr3}{x y:Int}:∀{s:Nat}{t:Tr3},(∀j u,j<s->l[j]? =some u->¬(u.1=x/\u.2.1=y))->l[s]? =some t->t.1=x/\t.2.1=y->l.find? (λt=>decide (t.1=x/\t.2.1=y))=some t:=by
 induction l with
 | nil=>intro s t _ h;simp at h
 | cons u l ih=>
  intro s t hn h ht;cases s with
  | zero=>simp at h;subst h;rw[List.find?_cons_of_pos (by simp[ht])]
  | succ s=>
   rw[PN (by have:=hn 0 u (by omega) rfl;simpa using this)];exact ih (s:=s) (λj v hj hv=>hn (j+1) v (by omega) (by simpa using hv)) (by simpa using h) ht
theorem gQ4 {l:List Tr3}{x y:Int}(h:∀j u,j<l.length->l[j]? =some u->¬(u.1=x/\u.2.1=y)):l.find? (λt=>decide (t.1=x/\t.2.1=y))=none:=by
 rw[xd];intro u hu;obtain⟨j,hj,rfl⟩:=F9.1 hu;simpa using h j _ hj (Xu hj)
end
section
theorem SK (w0:World)(base pb:Nat)(D:AD)(ha:V0 D.a)(hb:V0 D.b)(dw:D.n<=1000000000000/\D.m<=1000000000000)(ho:D.op≠3/\D.op≠4):∀(m:Nat)(x y:Int)(st:List Br×List Tr3)(NA SA:Option Addr)(nc sc:Nat)(w:World),
  Ap w0 w base pb D NA nc SA sc st->0<=x->0<=y->x+y<m->x<D.n+2->y<D.m+2->(Xw D.a D.b D.op m x y st).2.1.length<=100000000000->(Xw D.a D.b D.op m x y st).2.2.length<=100000000000->
  Fn Tryz.prog 107 [.pointer (some ⟨pb,0,none⟩),.int .i64 x,.int .i64 y] w (λv w'=>v= .int .i64 (Xw D.a D.b D.op m x y st).1/\ATo w0 w base pb D NA SA (Xw D.a D.b D.op m x y st).2 w')
 | 0,x,y,st,NA,SA,nc,sc,w,_,x0,y0,hm,_,_,_,_=>by omega
 | m+1,x,y,st,NA,SA,nc,sc,w,h,x0,y0,hm,hx,hy,XL,Ki=>by
  have ih:=SK w0 base pb D ha hb dw ho m;have qQq:=oA D.a D.b D.op (m+1) x y st;have Vc:D.a.length=D.n:=h.as_.2;have ew:D.b.length=D.m:=h.bs.2;refine QJ (c:={eQH with cuts:=[1]}) Qa Tryz.func107 rfl rfl rfl ?_;refine gR [] Qa [] (λ_:Unit=>[]) (λ_ w'=>w=w'/\¬(x<2/\y<2)) ?_ ?_
  ·refine Qw (λc1=>?_) (λc1=>?_)
   ·refine Qw (λc2=>?_) (λc2=>?_)
    ·rw[lR ⟨c1,c2⟩];refine call (gQ1 pb _ D.op x y w h.blk rfl x0 c1 y0 c2 ho) ?_;rintro v _ ⟨rfl,rfl⟩;exact⟨rfl,NA,nc,SA,sc,h,Mod.refl _ _,Moved.refl _ _,Moved.refl _ _⟩
    ·exact⟨(),rfl,rfl,λhh=>c2 hh.2⟩
   ·exact⟨(),rfl,rfl,λhh=>c1 hh.1⟩
  rintro⟨⟩ _ ⟨rfl,Xr⟩;have OG:SlS Tr3.cells 3 w SA st.2.length sc st.2:=⟨h.sown.sl,rfl⟩
  refine loop Qa [7] (λs:Nat=>[.int .i64 s]) (λs w'=>w=w'/\s<=st.2.length/\∀(j:Nat) (u:Tr3),j<s->st.2[j]? =some u->¬(u.1=x/\u.2.1=y)) (λs _=>st.2.length-s) 0 rfl ⟨rfl,Xo _,λj u hj=>Xc hj (by omega)⟩ ?_;rintro s _ ⟨rfl,hs,Xi⟩;refine Qo h.blk rfl ?_;refine Qw (λh3=>?_) (λh3=>?_)
  ·have again:∀t:Tr3,st.2[s]? =some t->¬(t.1=x/\t.2.1=y)->∀(j:Nat) (u:Tr3),j<s+1->st.2[j]? =some u->¬(u.1=x/\u.2.1=y):=λt ht hn j u hj hu=>by
    by_cases We:j<s
    ·exact Xi j u We hu
    ·have:j=s:=by omega
     subst this;rw[Option.some.inj (hu.symm.trans ht)];exact hn
   refine Qo h.blk rfl ?_;refine Zt Hf OG rfl (by omega) (λp t ht hc=>?_);refine index (j:=0) (by decide) ?_;refine load (hc 0 _ rfl) ?_;refine X8 (λe1=>?_) (λe1=>?_)
   ·refine Qo h.blk rfl ?_;refine Zt Hf OG rfl (by omega) (λp' t' ht' ZZ=>?_);have Aw:t'=t:=Option.some.inj (ht'.symm.trans ht);subst Aw;refine index (j:=1) (by decide) ?_;refine load (ZZ 1 _ rfl) ?_;refine X8 (λe2=>?_) (λe2=>?_)
    ·refine Qo h.blk rfl ?_;refine Zt Hf OG rfl (by omega) (λp2 t2 mP WD=>?_);have mQP:t2=t':=Option.some.inj (mP.symm.trans ht);subst mQP;refine index (j:=2) (by decide) ?_;refine load (WD 2 _ rfl) ?_;rw[lS Xr (gQ3 Xi ht ⟨e1,e2⟩)];exact⟨rfl,NA,nc,SA,sc,h,Mod.refl _ _,Moved.refl _ _,Moved.refl _ _⟩
    ·refine Qj ((s+1:Nat):Int) (by omega) (by omega) ?_;exact⟨s+1,rfl,⟨rfl,by omega,again t' ht (λhh=>e2 hh.2)⟩,by show st.2.length-(s+1)<st.2.length-s;omega⟩
   ·refine Qj ((s+1:Nat):Int) (by omega) (by omega) ?_;exact⟨s+1,rfl,⟨rfl,by omega,again t ht (λhh=>e1 hh.1)⟩,by show st.2.length-(s+1)<st.2.length-s;omega⟩
  have jR:s=st.2.length:=by omega
  subst jR;have OH:=gQ4 Xi;have DL:=h.e0;refine XR Qa (Ext w) 13 [(true,0),(true,1),(true,2),(true,3),(true,4),(true,6),(true,7),(true,8),(true,9),(true,10),(false,5),(false,11),(true,12)] (by kernel_rfl) (Ext.drew w) ?_;refine Xv (vs:=[.slice D.A D.n D.c,.int .i64 D.ra]) rfl (λw' Qb j v hj=>by
   rw[add_add,(h.blk.ext Qb).cell]
   match j,hj with
   | 0,hj=>exact hj
   | 1,hj=>exact hj) ?_
  refine Xv (vs:=[.slice D.B D.m D.d,.int .i64 D.rb]) rfl (λw' Qb j v hj=>by
   rw[add_add,(h.blk.ext Qb).cell]
   match j,hj with
   | 0,hj=>exact hj
   | 1,hj=>exact hj) ?_
  refine call (xN D.A D.n D.c D.ra x D.a _ (h.as_.ext (DL.trans (Ext.drew w))) hx) ?_;rintro v w1 ⟨rfl,Qe⟩;have LV:=(Ext.drew w).trans Qe;refine⟨LV,?_⟩;refine call (xN D.B D.m D.d D.rb y D.b w1 (h.bs.ext (DL.trans LV)) hy) ?_;rintro v w2 ⟨rfl,Qg⟩;have QT:=LV.trans Qg;refine⟨QT,?_⟩;refine norm (m:=min (Ql D.a x) (Ql D.b y)) (by rw[Jk];split<;>split<;>omega) ?_;have ZP:min (Ql D.a x) (Ql D.b y)<64:=by
   by_cases c:x<2
   ·have:=aZ hb (n:=y) (λc2=>Xr ⟨c,c2⟩) (by omega);rw[Jk];split<;>omega
   ·have:=aZ ha (n:=x) c (by omega);rw[Jk];split<;>omega
  have dx:Ql D.a x=min (Ql D.a x) (Ql D.b y)∨Ql D.b y=min (Ql D.a x) (Ql D.b y):=by rw[Jk];split<;>simp
  have nA:=lT (a:=D.a) (b:=D.b) (op:=D.op) (m:=m) Xr OH _ rfl;rw[nA] at XL Ki ⊢;generalize min (Ql D.a x) (Ql D.b y)=v at*;obtain⟨s1,s2,s3,s4,s5⟩:=W4 ha (n:=x) x0 ZP;obtain⟨t1,t2,t3,t4,t5⟩:=W4 hb (n:=y) y0 ZP;have dec:(Qm D.a x v).1+(Qm D.b y v).1<m/\(Qm D.a x v).2+(Qm D.b y v).2<m:=by
   rcases dx with e | e
   ·have:=s5 e;omega
   ·have:=t5 e;omega
  have h2:=h.grow QT;refine Jz (vs:=[.slice D.A D.n D.c,.int .i64 D.ra]) rfl (λj v hj=>by
   rw[add_add,h2.blk.cell]
   match j,hj with
   | 0,hj=>exact hj
   | 1,hj=>exact hj) ?_
  refine call (SJ D.A D.n D.c D.ra x v D.a w2 (h2.as_.ext h2.e0) hx ZP) ?_;rintro _ w3 ⟨rfl,Qi⟩;have o8:=h2.grow Qi;refine Jz (vs:=[.slice D.B D.m D.d,.int .i64 D.rb]) rfl (λj v hj=>by
   rw[add_add,o8.blk.cell]
   match j,hj with
   | 0,hj=>exact hj
   | 1,hj=>exact hj) ?_
  refine call (SJ D.B D.m D.d D.rb y v D.b w3 (o8.bs.ext o8.e0) hy ZP) ?_;rintro _ w4 ⟨rfl,Qs⟩;have Xp:=(QT.trans Qi).trans Qs;have h4:=o8.grow Qs;have pQs:=oA D.a D.b D.op m (Qm D.a x v).1 (Qm D.b y v).1 st;have pQt:=oA D.a D.b D.op m (Qm D.a x v).2 (Qm D.b y v).2 (Xw D.a D.b D.op m (Qm D.a x v).1 (Qm D.b y v).1 st).2;simp only[Qq,Q2,Jp] at XL Ki;have ulen:=xO ⟨v,(Xw D.a D.b D.op m (Qm D.a x v).1 (Qm D.b y v).1 st).1,(Xw D.a D.b D.op m (Qm D.a x v).2 (Qm D.b y v).2 (Xw D.a D.b D.op m (Qm D.a x v).1 (Qm D.b y v).1 st).2).1⟩ (Xw D.a D.b D.op m (Qm D.a x v).2 (Qm D.b y v).2 (Xw D.a D.b D.op m (Qm D.a x v).1 (Qm D.b y v).1 st).2).2.1;refine call (ih _ _ st NA SA nc sc w4 h4 s1 t1 dec.1 (by omega) (by omega) (by omega) (by omega)) ?_;rintro _ w5 ⟨rfl,NA5,nc5,SA5,sc5,h5,Jt,LW,LX⟩;refine call (ih _ _ _ NA5 SA5 nc5 sc5 w5 h5 s3 t3 dec.2 (by omega) (by omega) (by omega) (by omega)) ?_;rintro _ w6 ⟨rfl,NA6,nc6,SA6,sc6,h6,Vv,yZ,LK⟩;have pq:=Jt.trans Vv (AS.moved LW LX);have bQ3:=LW.trans yZ Jt.size;have bQ4:=LX.trans LK Jt.size;generalize (Xw D.a D.b D.op m (Qm D.a x v).1 (Qm D.b y v).1 st)=r0 at*;generalize (Xw D.a D.b D.op m (Qm D.a x v).2 (Qm D.b y v).2 r0.2)=r1 at*;have mQQ:=h6.nown.rows;have mQR:=h6.sown.rows;have pQu:=h6.lt;have pQv:=h6.top;refine Qo h6.blk rfl ?_;refine call (gQ0 base NA6 _ nc6 r1.2.1 ⟨v,r0.1,r1.1⟩ w6 h6.nown rfl h6.top (by omega)) ?_;rintro _ w7 ⟨NA7,nc7,rfl,pr,Xe,hV7⟩;have Q3:=h6.blk.mod Xe (λe=>by have:=(mQQ _ e).1;omega);have V8:=h6.sown.mod Xe (λi hi e=>h6.apart i e hi);generalize Jf ⟨v,r0.1,r1.1⟩ r1.2.1=u at*;refine XV Q3 (by simp) (λw8 ZL Xz=>?_);have mQS:=pr.mod ZL (λi hi e=>by have:=(pr.rows i hi).1;omega);have io:=V8.mod ZL (λi hi e=>by have:=(V8.rows i hi).1;omega);refine Qo Xz rfl ?_;refine Xg Qa [Tr3.cells (x,y,u.2)] rfl rfl rfl rfl rfl ⟨rfl,rfl,⟨⟩⟩ rfl (λcs h=>by simp only[QO] at h;subst h;rfl) rfl (by decide) (by decide) ?_;intro w9 Xx gc JI;have LI:Sl w9 3 (some ⟨w8.heap.size,0,none⟩) 1 1 (Tr3.cells (x,y,u.2)):=Sl.own (sz:=3) (n:=1) JI (QB _) (by decide) (by simp[Tr3.cells]);have z7:=Xe.size;have z8:=ZL.size;have z9:=Xx.size;refine Je Qa rfl rfl rfl rfl rfl (by decide) rfl rfl ⟨_,rfl⟩ rfl rfl (io.ext Xx) LI (by intro u hu;simp[Tr3.cells] at hu;rcases hu with rfl | rfl | rfl<;>rfl) (by unfold maxLen;omega) (by show _*24<=_;omega) (by omega) ?_;intro SA10 LY QE ZA bQ5 bQ6;have mQT:=io.rows;refine XV ((Xz.ext Xx).mod ZA (λe=>by have:=(mQT _ e).1;omega)) (by simp) (λQL Jj Z6=>?_);have bQ7:∀i,Qk NA7 i->¬Qk SA6 i:=λi hi e=>by
   rcases hV7.rows i hi with hh | hh
   ·exact h6.apart i hh e
   ·have:=(mQR i e).2;omega
  have mQU:∀i,Qk NA7 i->¬Qk SA10 i:=λi hi e=>by
   rcases bQ6.rows i e with hh | hh
   ·exact bQ7 i hi hh
   ·have:=(pr.rows i hi).2;omega
  have mQV:=((mQS.ext Xx).mod ZA (λi hi e=>bQ7 i hi e)).mod Jj (λi hi e=>by have:=(pr.rows i hi).1;omega);have sj:=bQ5.mod Jj (λi hi e=>by have:=(bQ5.rows i hi).1;omega);have bQ8:Mod (AS pb NA6 SA6) w6 QL:=((((Xe.mono (λi hi=>.inl (.inr (.inl hi)))).trans ZL (λi hi=>.inl (.inl hi))).trans (Mod.of_ext (AS pb NA6 SA6) Xx) (λi hi=>.inl hi)).trans ZA (λi hi=>.inl (.inr (.inr hi)))).trans Jj (λi hi=>.inl (.inl hi));have oQI:=pq.trans bQ8 (AS.moved bQ3 bQ4);have el:(r1.2.2++ [((x,y,u.2):Tr3)]).length=r1.2.2.length+1:=by simp
  refine⟨rfl,NA7,nc7,SA10,LY,⟨bQ8.ext h6.e0 h6.kept,h.as_,h.bs,h.p0,?_,mQV,?_,mQU,h.lt,?_⟩,(Mod.of_ext (AS pb NA SA) Xp).trans oQI (λi hi=>.inl hi),?_,?_⟩
  ·show Blk QL pb _ [_,_,_,_,_,_,.slice SA10 (r1.2.2++ [((x,y,u.2):Tr3)]).length LY];rw[el];exact Z6
  ·show Own QL base _ 3 SA10 (r1.2.2++ [((x,y,u.2):Tr3)]).length LY (xP (r1.2.2++ [((x,y,u.2):Tr3)]));rw[el,gQ2];exact sj
  ·have:=ZA.size;have:=Jj.size;omega
  ·exact(bQ3.back Xp.size).trans hV7 (by have:=Xp.size;have:=pq.size;omega)
  ·exact(bQ4.back Xp.size).trans (bQ6.back (by omega)) (by have:=Xp.size;have:=pq.size;omega)
end
section
def SM (st:List Br×List Tr3):Prop:=aY st.1/\∀t∈st.2,0<=t.2.2/\t.2.2<st.1.length+2
theorem gQ5 {b:Br}{l:List Br}(hw:aY l)(h1:0<=b.l)(h2:b.l<l.length+2)(h3:0<=b.h)(h4:b.h<l.length+2):aY (Jf b l).1/\0<=(Jf b l).2/\(Jf b l).2<(Jf b l).1.length+2:=by
 have idx:∀{l:List Br} {i:Nat},K2 b l=some i->i<l.length:=by
  intro l;induction l with
  | nil=>intro i h;cases h
  | cons x l ih=>
   intro i h;unfold K2 at h;split at h
   ·cases h;simp
   ·cases hf:K2 b l with
    | none=>rw[hf] at h;cases h
    | some k=>rw[hf] at h;cases h;have:=ih hf;simp;omega
 unfold Jf;split
 ·exact⟨hw,h1,h2⟩
 ·split
  ·rename_i i hi;have:=idx hi;exact⟨hw,by omega,by simp only;omega⟩
  ·refine⟨λj x hx=>?_,by omega,by simp only[Qq,Q2,Jp];omega⟩;by_cases hj:j<l.length
   ·rw[gI hj] at hx;exact hw j x hx
   ·rw[aS (by omega)] at hx;have o9:j-l.length=0:=by
     cases hk:j-l.length with
     | zero=>rfl
     | succ k=>rw[hk] at hx;simp at hx
    rw[o9] at hx;simp at hx;subst hx;omega
theorem Hg {op x y:Int}(x0:0<=x)(x1:x<2)(y0:0<=y)(y1:y<2):0<=eS op x y/\eS op x y<2:=by
 unfold eS;rcases(by omega:x=0∨x=1)with rfl | rfl<;>rcases(by omega:y=0∨y=1)with rfl | rfl<;>(split<;>first | decide | (split<;>first | decide | (split<;>first | decide | (split<;>decide))))
theorem xQ {a b:List Br}(ha:V0 a)(hb:V0 b)(op:Int):∀(m:Nat)(x y:Int)(st:List Br×List Tr3),SM st->0<=x->0<=y->x<a.length+2->y<b.length+2->
  SM (Xw a b op m x y st).2/\0<=(Xw a b op m x y st).1/\(Xw a b op m x y st).1<(Xw a b op m x y st).2.1.length+2
 | 0,x,y,st,h,_,_,_,_=>⟨h,j0 _,by show(0:Int)<st.1.length+2;omega⟩
 | m+1,x,y,st,h,x0,y0,hx,hy=>by
  by_cases Xr:x<2/\y<2
  ·rw[lR Xr];have:=Hg (op:=op) x0 Xr.1 y0 Xr.2;exact⟨h,this.1,by simp only;omega⟩
  cases k:st.2.find? (λt=>decide (t.1=x/\t.2.1=y))with
  | some t=>
   rw[lS Xr k];have:=h.2 t (dQJ k);exact⟨h,this.1,this.2⟩
  | none=>
   have ZP:min (Ql a x) (Ql b y)<64:=by
    by_cases c:x<2
    ·have:=aZ hb (n:=y) (λc2=>Xr ⟨c,c2⟩) (by omega);rw[Jk];split<;>omega
    ·have:=aZ ha (n:=x) c (by omega);rw[Jk];split<;>omega
   rw[lT Xr k _ rfl];generalize min (Ql a x) (Ql b y)=v at*;obtain⟨s1,s2,s3,s4,s5⟩:=W4 ha (n:=x) x0 ZP;obtain⟨t1,t2,t3,t4,t5⟩:=W4 hb (n:=y) y0 ZP;have i1:=xQ ha hb op m (Qm a x v).1 (Qm b y v).1 st h s1 t1 (by omega) (by omega);have m2:=oA a b op m (Qm a x v).2 (Qm b y v).2 (Xw a b op m (Qm a x v).1 (Qm b y v).1 st).2;generalize (Xw a b op m (Qm a x v).1 (Qm b y v).1 st)=r0 at*;have i2:=xQ ha hb op m (Qm a x v).2 (Qm b y v).2 r0.2 i1.1 s3 t3 (by omega) (by omega);generalize (Xw a b op m (Qm a x v).2 (Qm b y v).2 r0.2)=r1 at*;have hu:=gQ5 (b:=⟨v,r0.1,r1.1⟩) (l:=r1.2.1) i2.1.1 i1.2.1 (by have:=i1.2.2;simp only;omega) i2.2.1 i2.2.2;have hul:=xO ⟨v,r0.1,r1.1⟩ r1.2.1;generalize Jf ⟨v,r0.1,r1.1⟩ r1.2.1=u at*;refine⟨⟨hu.1,λt ht=>?_⟩,hu.2.1,hu.2.2⟩;simp only[XP,QO] at ht;rcases ht with ht | rfl
   ·have:=i2.1.2 t ht;exact⟨this.1,by simp only;omega⟩
   ·exact⟨hu.2.1,hu.2.2⟩
def lU (a:List Br)(ra:Int)(b:List Br)(rb op:Int):Int×(List Br×List Tr3):=Xw a b op (ra.toNat+rb.toNat+1) ra rb ([],[])
def Ye (a:List Br)(ra:Int)(b:List Br)(rb op:Int):List Br×Int:=cN (lU a ra b rb op).2.1 (lU a ra b rb op).1
def ku (d:List Br×Int):(List Br×Int)×Int:=if 4096<d.1.length then(([],0),2)else(d,0)
def fM (a:List Br)(ra:Int)(b:List Br)(rb op:Int):(List Br×Int)×Int:=if XC a ra≠0 then(([],0),XC a ra)else if XC b rb≠0 then(([],0),XC b rb)else ku (Ye a ra b rb op)
def rz (w:World)(r:(List Br×Int)×Int)(v:Value)(w':World):Prop:=∃A n c,v= .tuple #[Xm A n c r.1.2,.int .i64 r.2]/\Ext w w'/\SB w' A n c r.1.1/\∀i,Qk A i->w.heap.size<=i
theorem gQ6 (A:Option Addr)(n c:Nat)(a:List Br)(ra:Int)(B:Option Addr)(m d:Nat)(b:List Br)(rb op:Int)(w:World)(h:SB w A n c a)(h':SB w B m d b)(ha:V0 a)(hb:V0 b)(r0:0<=ra)(r1:ra<n+2)(s0:0<=rb)(s1:rb<m+2)(hn:n<=1000000000000)(hm:m<=1000000000000)
  (XL:(lU a ra b rb op).2.1.length<=100000000000) (Ki:(lU a ra b rb op).2.2.length<=100000000000) (ho:op≠3/\op≠4):
  Fn Tryz.prog 58 [Xm A n c ra,Xm B m d rb,.int .i64 op] w (xM w (Ye a ra b rb op)):=by
 have Vc:=h.2;have ew:=h'.2;refine QJ (c:={c58 with cuts:=[]}) Qa Tryz.func58 rfl rfl rfl ?_;refine new (λw1 Qe Q6 Qh=>?_);refine new (λw2 Qg Ze Qy=>?_);refine new (λw3 Qi Jr Qu=>?_);have QU:=(Qe.trans Qg).trans Qi;have Vw:=(Qh.ext Qg).ext Qi;have pu:=Qy.ext Qi;refine Qt Vw rfl ?_;refine Qt pu rfl ?_;refine new (λw4 Qs KR QR=>?_);have Xp:=QU.trans Qs
 let D:AD:=⟨A,n,c,a,ra,B,m,d,b,rb,op⟩
 have hA:Ap w3 w4 w4.heap.size w3.heap.size D none 0 none 0 ([],[]):=⟨Qs,h.ext QU,h'.ext QU,QB _,QR,Own.nil _ _ _ _,Own.nil _ _ _ _,(λi hi=>by obtain⟨_,e,_⟩:=hi;cases e),(by omega),QB _⟩
 refine Qo (Vw.ext Qs) rfl ?_;refine Qo (pu.ext Qs) rfl ?_;have inv:=xQ ha hb op (ra.toNat+rb.toNat+1) ra rb ([],[]) ⟨λj x hx=>by simp at hx,λt ht=>by simp at ht⟩ r0 s0 (by omega) (by omega);refine call (SK w3 w4.heap.size w3.heap.size D ha hb ⟨hn,hm⟩ ho (ra.toNat+rb.toNat+1) ra rb ([],[]) none none 0 0 w4 hA r0 s0 (by omega) r1 s1 XL Ki) ?_;rintro v w5 ⟨rfl,NA,nc,SA,sc1,LZ,Jt,LW,LX⟩;have Qx:Ext w3 w5:=LZ.e0;have JK:=QU.trans Qx;refine Qo LZ.blk rfl ?_;refine call (gQZ NA _ nc _ _ w5 ⟨LZ.nown.sl,rfl⟩ inv.1.1 (by have:(lU a ra b rb op).2.1.length<=100000000000:=XL;exact X3 this (by decide)) inv.2.1 inv.2.2) ?_;rintro v w6 ⟨OA,k,oc,rfl,QQ,mQ,jo⟩;refine Qv ((Qu.ext Qx).ext QQ) rfl (sc rfl) (λw7 Zv _ Q3=>?_);have Xe:Mod (·=w2.heap.size) w6 w7:=qQL Zv rfl;refine Qt Q3 rfl ?_;have z5:=Qx.size;have nr:∀i,Qk OA i->¬i=w2.heap.size:=λi hi e=>by have:=jo i hi;omega
 refine⟨OA,k,oc,rfl,Xe.ext (JK.trans QQ) (λi hi=>by have:=Qe.size;have:=Qg.size;omega),⟨mQ.1.modS Xe (λ_ i hi=>nr i hi),mQ.2⟩,λi hi=>by have:=jo i hi;have:=JK.size;omega⟩
theorem gQ7 (k:Int)(w:World)(h0:0<=k)(h1:k<=63):Fn Tryz.prog 30 [.int .i64 k] w (rz w (([⟨k,0,1⟩],2),0)):=by
 refine QJ (c:={c30 with cuts:=[]}) Qa Tryz.func30 rfl rfl rfl ?_;refine new (λw1 Qe Q6 Qh=>?_);refine XJ (by omega) ?_;refine XJ (by omega) ?_;refine Xg Qa [(⟨k,0,1⟩:Br).cells] rfl rfl rfl rfl rfl ⟨rfl,rfl,⟨⟩⟩ rfl (λcs h=>by simp only[QO] at h;subst h;rfl) rfl (by decide) (by decide) ?_;intro w2 Qg Ze Qy;refine Qv (Qh.ext Qg) rfl (sc rfl) (λw3 Jc _ Qu=>?_);have Ji:Mod (·=w.heap.size) w2 w3:=qQL Jc rfl;refine Qt Qu rfl ?_;refine⟨some ⟨w1.heap.size,0,none⟩,1,1,rfl,Ji.ext (Qe.trans Qg) (λi hi=>by omega),⟨Sl.own (sz:=3) (n:=1) (Qy.mod Ji (by omega)) (QB _) (by decide) (by simp[Br.cells]),rfl⟩,λi ⟨ad,e,hi⟩=>by cases e;simp only at hi;omega⟩
end
section
structure DV where
 A:Option Addr
 n:Nat
 c:Nat
 nd:List Br
 r:Int
def DV.cells (x:DV):List Value:=[.slice x.A x.n x.c,.int .i64 x.r]
theorem eT (x:DV):x.cells.length=2:=rfl
def dJ:List DV->Int
 | []=>0
 | x::l=>if XC x.nd x.r≠0 then XC x.nd x.r else dJ l
theorem gQ8 {l:List DV}:∀{s:Nat}{x:DV},(∀j y,j<s->l[j]? =some y->XC y.nd y.r=0)->l[s]? =some x->XC x.nd x.r≠0->dJ l=XC x.nd x.r:=by
 induction l with
 | nil=>intro s x _ h;simp at h
 | cons y l ih=>
  intro s x hn h hx;cases s with
  | zero=>simp at h;subst h;rw[dJ,Qf hx]
  | succ s=>
   rw[dJ,if_neg (λhh=>hh (hn 0 y (by omega) rfl))];exact ih (s:=s) (λj z hj hz=>hn (j+1) z (by omega) (by simpa using hz)) (by simpa using h) hx
theorem gQ9 {l:List DV}(h:∀j y,j<l.length->l[j]? =some y->XC y.nd y.r=0):dJ l=0:=by
 induction l with
 | nil=>rfl
 | cons y l ih=>
  rw[dJ,if_neg (λhh=>hh (h 0 y (by simp) rfl))];exact ih (λj z hj hz=>h (j+1) z (by simpa using hj) (by simpa using hz))
end
end
section
section
def eU (nd:List Br):Nat->Int->(Nat->Bool)->Bool
 | 0,n,_=>decide (n=1)
 | m+1,n,e=>if n<2 then decide (n=1)else match nd[(n-2).toNat]? with
  | none=>false
  | some b=>if e b.v.toNat then eU nd m b.h e else eU nd m b.l e
def ev (nd:List Br)(n:Int)(e:Nat->Bool):Bool:=eU nd n.toNat n e
theorem lV {nd:List Br}{m:Nat}{n:Int}{e:Nat->Bool}(h:n<2):eU nd m n e=decide (n=1):=by
 cases m with
 | zero=>rfl
 | succ m=>rw[eU,Qf h]
theorem Ci {nd:List Br}(hw:aY nd):∀(m m':Nat)(n:Int)(e:Nat->Bool),n<=m->n<=m'->eU nd m n e=eU nd m' n e
 | 0,m',n,e,h,_=>by rw[lV (by omega),lV (by omega)]
 | m+1,0,n,e,_,h=>by rw[lV (by omega),lV (by omega)]
 | m+1,m'+1,n,e,h,h'=>by
  by_cases hn:n<2
  ·rw[lV hn,lV hn]
  ·rw[eU,eU,if_neg hn,if_neg hn];cases hb:nd[(n-2).toNat]? with
   | none=>rfl
   | some b=>
    obtain⟨h1,h2,h3,h4⟩:=hw _ _ hb;simp only;rw[Ci hw m m' b.h e (by omega) (by omega),Ci hw m m' b.l e (by omega) (by omega)]
theorem JX {nd:List Br}{n:Int}{e:Nat->Bool}(h:n<2):ev nd n e=decide (n=1):=lV h
theorem cO {nd:List Br}(hw:aY nd){n:Int}{e:Nat->Bool}{b:Br}(h:¬n<2)(hb:nd[(n-2).toNat]? =some b):ev nd n e=if e b.v.toNat then ev nd b.h e else ev nd b.l e:=by
 obtain⟨h1,h2,h3,h4⟩:=hw _ _ hb;unfold ev;obtain⟨k,hk⟩:∃k,n.toNat=k+1:=⟨n.toNat-1,by omega⟩
 rw[hk,eU,if_neg h,hb];simp only;rw[Ci hw k b.h.toNat b.h e (by omega) (by omega),Ci hw k b.l.toNat b.l e (by omega) (by omega)]
def Rd0 (nd:List Br):Prop:=∀(j:Nat)(b:Br),nd[j]? =some b->iU nd j b
theorem Rd0.wf {nd:List Br}(h:Rd0 nd):aY nd:=λj x hx=>by
 obtain⟨_,_,h1,h2,h3,h4,_⟩:=h j x hx;exact⟨h1,h2,h3,h4⟩
theorem VD.rd0 {nd:List Br}{r:Int}(h:VD nd r):Rd0 nd:=h.1
theorem eV {nd:List Br}{n:Int}{b:Br}(h:¬n<2)(hb:nd[(n-2).toNat]? =some b):Ql nd n=b.v:=by unfold Ql;rw[if_neg h,hb]<;>rfl
def YM (e:Nat->Bool)(v:Nat)(x:Bool):Nat->Bool:=λk=>if k=v then x else e k
theorem W5 {nd:List Br}{n:Int}(h:¬n<2)(hn:n<nd.length+2):∃b,nd[(n-2).toNat]? =some b:=⟨_,Xu (by omega)⟩
theorem eW {nd:List Br}(h:Rd0 nd)(v:Nat)(x:Bool)(e:Nat->Bool):∀(m:Nat)(n:Int),n.toNat<m->n<nd.length+2->(v:Int)<Ql nd n->ev nd n (YM e v x)=ev nd n e
 | 0,n,hm,_,_=>by omega
 | m+1,n,hm,hn,hv=>by
  by_cases h2:n<2
  ·rw[JX h2,JX h2]
  obtain⟨b,hb⟩:=W5 h2 hn;obtain⟨b1,b2,b3,b4,b5,b6,b7,b8,b9,bz⟩:=h _ _ hb;rw[eV h2 hb] at hv;rw[cO h.wf h2 hb,cO h.wf h2 hb,eW h v x e m b.h (by omega) (by omega) (by omega),eW h v x e m b.l (by omega) (by omega) (by omega)];have:YM e v x b.v.toNat=e b.v.toNat:=by unfold YM;rw[if_neg (by omega)]
  rw[this]
def Eqv (nd:List Br)(n:Int)(Za:List Br)(n':Int):Prop:=∀e,ev nd n e=ev Za n' e
theorem Eqv.symm {nd Za:List Br}{n n':Int}(h:Eqv nd n Za n'):Eqv Za n' nd n:=λe=>(h e).symm
theorem Eqv.trans {nd Za kQ:List Br}{n n' n2:Int}(h:Eqv nd n Za n')(k:Eqv Za n' kQ n2):Eqv nd n kQ n2:=λe=>(h e).trans (k e)
def Cj (nd:List Br)(m:Nat):Prop:=∀(n n':Int),0<=n->0<=n'->n<m->n'<m->n<nd.length+2->n'<nd.length+2->Eqv nd n nd n'->n=n'
theorem xR {nd:List Br}(h:Rd0 nd){n:Int}{b:Br}(h2:¬n<2)(hb:nd[(n-2).toNat]? =some b)(hn:n<nd.length+2)(e:Nat->Bool):ev nd n (YM e b.v.toNat true)=ev nd b.h e/\ev nd n (YM e b.v.toNat false)=ev nd b.l e:=by
 obtain⟨b1,b2,b3,b4,b5,b6,b7,b8,b9,bz⟩:=h _ _ hb;have e1:YM e b.v.toNat true b.v.toNat=true:=by unfold YM;rw[Qf rfl]
 have e2:YM e b.v.toNat false b.v.toNat=false:=by unfold YM;rw[Qf rfl]
 rw[cO h.wf h2 hb,cO h.wf h2 hb,e1,e2,Qf rfl,if_neg (by decide)];exact⟨eW h _ _ _ (b.h.toNat+1) _ (by omega) (by omega) (by omega),eW h _ _ _ (b.l.toNat+1) _ (by omega) (by omega) (by omega)⟩
theorem dep {nd:List Br}(h:Rd0 nd){n:Int}{m:Nat}{b:Br}(hi:Cj nd m)(h2:¬n<2)(hb:nd[(n-2).toNat]? =some b)(hn:n<nd.length+2)(hm:n<=m):∃e,ev nd n (YM e b.v.toNat true)≠ev nd n (YM e b.v.toNat false):=by
 obtain⟨b1,b2,b3,b4,b5,b6,b7,b8,b9,bz⟩:=h _ _ hb;refine Classical.byContradiction (λQX=>b7 ?_);refine hi b.l b.h b3 b5 (by omega) (by omega) (by omega) (by omega) (λe=>?_);have:=xR h h2 hb hn e;rw[<-this.1,<-this.2];refine Classical.byContradiction (λhh=>QX ⟨e,λh3=>hh h3.symm⟩)
theorem uH {nd Za:List Br}(h:Rd0 nd){n n':Int}{m:Nat}(hi:Cj nd m)(hm:n<=m)(hn:n<nd.length+2)(h2:n'<2)(k:Eqv nd n Za n'):n<2:=by
 refine Classical.byContradiction (λhh=>?_);obtain⟨b,hb⟩:=W5 hh hn;obtain⟨e,he⟩:=dep h hi hh hb hn hm;apply he;rw[k,k,JX h2,JX h2]
theorem uI {nd Za:List Br}(h:Rd0 nd)(h':Rd0 Za){n n':Int}{m:Nat}{b b':Br}(hi:Cj nd m)(hm:n<=m)(hn:n<nd.length+2)(KJ:n'<Za.length+2)(h2:¬n<2)(JP:¬n'<2)(hb:nd[(n-2).toNat]? =some b)(hb':Za[(n'-2).toNat]? =some b')(k:Eqv nd n Za n'):b'.v<=b.v:=by
 refine Classical.byContradiction (λhh=>?_);obtain⟨e,he⟩:=dep h hi h2 hb hn hm;apply he;obtain⟨b1,_⟩:=h _ _ hb;rw[k,k,eW h' _ _ _ (n'.toNat+1) _ (by omega) KJ (by rw[eV JP hb'];omega),eW h' _ _ _ (n'.toNat+1) _ (by omega) KJ (by rw[eV JP hb'];omega)]
theorem SO {nd Za:List Br}(h:Rd0 nd)(h':Rd0 Za){n n':Int}{b b':Br}(hn:n<nd.length+2)(KJ:n'<Za.length+2)(h2:¬n<2)(JP:¬n'<2)(hb:nd[(n-2).toNat]? =some b)(hb':Za[(n'-2).toNat]? =some b')(k:Eqv nd n Za n')(hv:b.v=b'.v):Eqv nd b.l Za b'.l/\Eqv nd b.h Za b'.h:=by
 refine⟨λe=>?_,λe=>?_⟩
 ·rw[<-(xR h h2 hb hn e).2,<-(xR h' JP hb' KJ e).2,k,hv]
 ·rw[<-(xR h h2 hb hn e).1,<-(xR h' JP hb' KJ e).1,k,hv]
theorem uJ {nd:List Br}(h:Rd0 nd):∀m,Cj nd m
 | 0=>λn n' h0 _ hm _ _ _ _=>by omega
 | m+1=>λn n' h0 vR hm Fu hn KJ k=>by
  have ih:=uJ h m;by_cases h2:n<2
  ·have JP:n'<2:=uH h ih (by omega) KJ h2 k.symm;have:=k (λ_=>true);rw[JX h2,JX JP,xj] at this;omega
  by_cases JP:n'<2
  ·exact Xc (uH h ih (by omega) hn JP k) h2
  obtain⟨b,hb⟩:=W5 h2 hn;obtain⟨b',hb'⟩:=W5 JP KJ;have hv:b.v=b'.v:=Int.le_antisymm (uI h h ih (by omega) KJ hn JP h2 hb' hb k.symm) (uI h h ih (by omega) hn KJ h2 JP hb hb' k);obtain⟨k1,k2⟩:=SO h h hn KJ h2 JP hb hb' k hv;obtain⟨b1,b2,b3,b4,b5,b6,b7,b8,b9,bz⟩:=h _ _ hb;obtain⟨c1,c2,c3,c4,c5,c6,c7,c8,c9,uu⟩:=h _ _ hb';have el:=ih b.l b'.l b3 c3 (by omega) (by omega) (by omega) (by omega) k1;have eh:=ih b.h b'.h b5 c5 (by omega) (by omega) (by omega) (by omega) k2;have ebb:b=b':=by cases b;cases b';simp_all
  subst ebb;rcases Int.lt_trichotomy n n' with Xa | heq | hgt
  ·exact Xc (Xl (i:=(n-2).toNat) (by rw[qJ (by omega)];exact hb)) c8
  ·exact heq
  ·exact Xc (Xl (i:=(n'-2).toNat) (by rw[qJ (by omega)];exact hb')) b8
theorem inj {nd:List Br}(h:Rd0 nd){n n':Int}(h0:0<=n)(vR:0<=n')(hn:n<nd.length+2)(KJ:n'<nd.length+2)(k:Eqv nd n nd n'):n=n':=
 uJ h (nd.length+2) n n' h0 vR (by omega) (by omega) hn KJ k
structure Twin (nd Za:List Br) (st aM:List Br×List Nat):Prop where
 out:st.1=aM.1
 len:st.2.length=nd.length
 len':aM.2.length=Za.length
 num:∀(n n':Int),¬n<2->¬n'<2->n<nd.length+2->n'<Za.length+2->Eqv nd n Za n'->st.2[(n-2).toNat]? =aM.2[(n'-2).toNat]?
theorem Hh {nd Za:List Br}(h:Rd0 nd)(h':Rd0 Za):∀(m m':Nat)(n n':Int)(st aM:List Br×List Nat),0<=n->0<=n'->n<m->n'<m'->n<nd.length+2->n'<Za.length+2->Eqv nd n Za n'->Twin nd Za st aM->
  (Zl nd m n st).1=(Zl Za m' n' aM).1/\Twin nd Za (Zl nd m n st).2 (Zl Za m' n' aM).2
 | 0,m',n,n',st,aM,h0,_,hm,_,_,_,_,_=>by omega
 | m+1,0,n,n',st,aM,_,h0,_,hm,_,_,_,_=>by omega
 | m+1,m'+1,n,n',st,aM,h0,vR,hm,Fu,hn,KJ,k,T=>by
  have I:=uJ h (nd.length+2);have I':=uJ h' (Za.length+2);by_cases h2:n<2
  ·have JP:n'<2:=uH h' I' (by omega) KJ h2 k.symm;rw[lM h2,lM JP];have:=k (λ_=>true);rw[JX h2,JX JP,xj] at this;exact⟨by simp only;omega,T⟩
  have JP:¬n'<2:=λhh=>h2 (uH h I (by omega) hn hh k)
  obtain⟨b,hb⟩:=W5 h2 hn;obtain⟨b',hb'⟩:=W5 JP KJ;have OI:=T.num n n' h2 JP hn KJ k;by_cases h3:0<st.2[(n-2).toNat]?.getD 0
  ·rw[lN h2 h3,lN JP (by rw[<-OI];exact h3)];exact⟨by simp only;rw[OI],T⟩
  have o8:¬0<aM.2[(n'-2).toNat]?.getD 0:=by rw[<-OI];exact h3
  have hv:b.v=b'.v:=Int.le_antisymm (uI h' h I' (by omega) KJ hn JP h2 hb' hb k.symm) (uI h h' I (by omega) hn KJ h2 JP hb hb' k);obtain⟨k1,k2⟩:=SO h h' hn KJ h2 JP hb hb' k hv;obtain⟨b1,b2,b3,b4,b5,b6,b7,b8,b9,bz⟩:=h _ _ hb;obtain⟨c1,c2,c3,c4,c5,c6,c7,c8,c9,uu⟩:=h' _ _ hb';rw[oz h2 h3 hb,oz JP o8 hb'];obtain⟨e1,T1⟩:=Hh h h' m m' b.l b'.l st aM b3 c3 (by omega) (by omega) (by omega) (by omega) k1 T;generalize (Zl nd m b.l st)=p at*;generalize (Zl Za m' b'.l aM)=p' at*;obtain⟨e2,T2⟩:=Hh h h' m m' b.h b'.h p.2 p'.2 b5 c5 (by omega) (by omega) (by omega) (by omega) k2 T1;generalize (Zl nd m b.h p.2)=q at*;generalize (Zl Za m' b'.h p'.2)=q' at*;have tw:=T2.out;refine⟨by simp only;rw[tw],by simp only;rw[tw,hv,e1,e2],by rw[gG];exact T2.len,by rw[gG];exact T2.len',λi i' j2 j2' hi tv kk=>?_⟩;have l1:=T2.len;have l2:=T2.len';by_cases Q4:i=n
  ·subst Q4;have:i'=n':=inj h' (by omega) vR tv KJ (kk.symm.trans k);subst this;simp only;rw[jZ (by omega),jZ (by omega),tw]
  ·have qQr:i'≠n':=λe=>by
    subst e;exact Q4 (inj h (by omega) h0 hi hn (kk.trans k.symm))
   simp only;rw[gK (by omega),gK (by omega)];exact T2.num i i' j2 j2' hi tv kk
theorem hQa (nd Za:List Br):Twin nd Za ([],List.replicate nd.length 0) ([],List.replicate Za.length 0):=
 ⟨rfl,by simp,by simp,λn n' h2 JP hn KJ _=>by simp only;rw[List.getElem?_replicate_of_lt (by omega),List.getElem?_replicate_of_lt (by omega)]⟩
theorem SP {nd Za:List Br}(h:Rd0 nd)(h':Rd0 Za){n n':Int}(h0:0<=n)(vR:0<=n')(hn:n<nd.length+2)(KJ:n'<Za.length+2)(k:Eqv nd n Za n'):cN nd n=cN Za n':=by
 obtain⟨e,T⟩:=Hh h h' (n.toNat+1) (n'.toNat+1) n n' _ _ h0 vR (by omega) (by omega) hn KJ k (hQa nd Za);unfold cN;simp only;rw[e,T.out]
theorem VD.eqv {nd Za:List Br}{r r':Int}(h:VD nd r)(h':VD Za r')(k:Eqv nd r Za r'):(nd,r)=(Za,r'):=by
 rw[<-h.2.2.2,<-h'.2.2.2];exact SP h.1 h'.1 h.2.1 h'.2.1 h.2.2.1 h'.2.2.1 k
theorem Hi {nd:List Br}(hw:aY nd)(l:List Br):∀(m:Nat)(n:Int)(e:Nat->Bool),n<nd.length+2->eU (nd++l) m n e=eU nd m n e
 | 0,n,e,_=>rfl
 | m+1,n,e,hn=>by
  by_cases h2:n<2
  ·rw[lV h2,lV h2]
  ·obtain⟨b,hb⟩:=W5 h2 hn;obtain⟨h1,JP,h3,h4⟩:=hw _ _ hb;rw[eU,eU,if_neg h2,if_neg h2,gI (by omega),hb];simp only;rw[Hi hw l m b.h e (by omega),Hi hw l m b.l e (by omega)]
theorem oC {nd:List Br}(hw:aY nd)(l:List Br){n:Int}(hn:n<nd.length+2)(e:Nat->Bool):ev (nd++l) n e=ev nd n e:=Hi hw l _ n e hn
theorem uK {nd:List Br}(l:List Br){n:Int}(hn:n<nd.length+2):Ql (nd++l) n=Ql nd n:=by
 unfold Ql;by_cases h2:n<2
 ·rw[Qf h2,Qf h2]
 ·rw[if_neg h2,if_neg h2,gI (by omega)]
theorem iV {nd:List Br}{n:Int}(h:n<2):Ql nd n=64:=Qf h
theorem SQ {nd Za:List Br}(h:Rd0 nd)(h':Rd0 Za){n n':Int}(hn:n<nd.length+2)(KJ:n'<Za.length+2)(k:Eqv nd n Za n'):Ql nd n=Ql Za n':=by
 have I:=uJ h (nd.length+2);have I':=uJ h' (Za.length+2);by_cases h2:n<2
 ·rw[iV h2,iV (uH h' I' (by omega) KJ h2 k.symm)]
 have JP:¬n'<2:=λhh=>h2 (uH h I (by omega) hn hh k)
 obtain⟨b,hb⟩:=W5 h2 hn;obtain⟨b',hb'⟩:=W5 JP KJ;rw[eV h2 hb,eV JP hb'];exact Int.le_antisymm (uI h' h I' (by omega) KJ hn JP h2 hb' hb k.symm) (uI h h' I (by omega) hn KJ h2 JP hb hb' k)
theorem Rd0.snoc {nd:List Br}(h:Rd0 nd){b:Br}(hb:iU (nd++ [b]) nd.length b):Rd0 (nd++ [b]):=by
 intro j x hx;by_cases hj:j<nd.length
 ·rw[gI hj] at hx;obtain⟨b1,b2,b3,b4,b5,b6,b7,b8,b9,bz⟩:=h _ _ hx;exact⟨b1,b2,b3,b4,b5,b6,b7,by rw[Ga (by omega)];exact b8,by rw[uK _ (by omega)];exact b9,by rw[uK _ (by omega)];exact bz⟩
 ·have hl:=(Jd.1 hx).1;simp at hl;have:j=nd.length:=by omega
  subst this;rw[aS (QB _)] at hx;simp at hx;subst hx;exact hb
theorem SR {nd:List Br}{b:Br}(b1:0<=b.v)(b2:b.v<=63)(b3:0<=b.l)(b4:b.l<nd.length+2)(b5:0<=b.h)(b6:b.h<nd.length+2)(b7:b.l≠b.h)(b8:b∉nd)(b9:b.v<Ql nd b.l)(bz:b.v<Ql nd b.h):iU (nd++ [b]) nd.length b:=
 ⟨b1,b2,b3,b4,b5,b6,b7,by rw[Ga (QB _),qI];exact b8,by rw[uK _ b4];exact b9,by rw[uK _ b6];exact bz⟩
structure Wi (nd:List Br) (st:List Br×List Nat):Prop where
 rd:Rd0 st.1
 len:st.2.length=nd.length
 num:∀k m:Nat,st.2[k]? =some m->0<m->2<=m/\m<st.1.length+2/\Eqv st.1 (m:Int) nd ((k:Int)+2)
 sur:∀j:Nat,j<st.1.length->∃k:Nat,st.2[k]? =some (j+2)
theorem Wi.start (nd:List Br):Wi nd ([],List.replicate nd.length 0):=
 ⟨λj b hb=>by simp at hb,by simp,λk m hk hm=>by
  have:=Bq (Xl hk);omega,λj hj=>by simp at hj⟩
theorem Hj {nd:List Br}(h:Rd0 nd):∀(m:Nat)(n:Int)(st:List Br×List Nat),0<=n->n<m->n<nd.length+2->Wi nd st->
  Wi nd (Zl nd m n st).2/\0<=(Zl nd m n st).1/\(Zl nd m n st).1<(Zl nd m n st).2.1.length+2/\Eqv (Zl nd m n st).2.1 (Zl nd m n st).1 nd n/\∃l,(Zl nd m n st).2.1=st.1++l
 | 0,n,st,h0,hm,_,_=>by omega
 | m+1,n,st,h0,hm,hn,W=>by
  by_cases h2:n<2
  ·rw[lM h2];exact⟨W,h0,by simp only;omega,λe=>by rw[JX h2,JX h2],[],by simp⟩
  have Xa:(n-2).toNat<st.2.length:=by have:=W.len;omega
  by_cases h3:0<st.2[(n-2).toNat]?.getD 0
  ·rw[lN h2 h3];have hg:=Xu Xa;rw[hg] at h3 ⊢;simp only[gJ] at h3 ⊢;obtain⟨q1,q2,q3⟩:=W.num _ _ hg h3;have en:(((n-2).toNat:Nat):Int)+2=n:=by omega
   rw[en] at q3;exact⟨W,by omega,by omega,q3,[],by simp⟩
  obtain⟨b,hb⟩:=W5 h2 hn;obtain⟨b1,b2,b3,b4,b5,b6,b7,b8,b9,bz⟩:=h _ _ hb;have f1:=lO h.wf m b.l st b3 (by omega) (by omega) W.len;rw[oz h2 h3 hb];obtain⟨W1,p1,p2,p3,l1,p4⟩:=Hj h m b.l st b3 (by omega) (by omega) W;generalize (Zl nd m b.l st)=p at*;have f2:=lO h.wf m b.h p.2 b5 (by omega) (by omega) W1.len;obtain⟨W2,q1,q2,q3,l2,q4⟩:=Hj h m b.h p.2 b5 (by omega) (by omega) W1;generalize (Zl nd m b.h p.2)=q at*;have hz:q.2.2[(n-2).toNat]? =some 0:=by
   rw[f2.keep _ (by omega),f1.keep _ (by omega)];have hg:=Xu Xa;rw[hg] at h3 ⊢;simp only[gJ] at h3;congr 1;omega
  have hR:=W2.rd;have L0:p.1<q.2.1.length+2:=by rw[q4,Qq];omega
  have L3:Eqv q.2.1 p.1 nd b.l:=λe=>by rw[q4,oC W1.rd.wf l2 p2];exact p3 e
  have QX:p.1≠q.1:=λe=>b7 (inj h b3 b5 (by omega) (by omega) (L3.symm.trans (by rw[e];exact q3)))
  have XL:=SQ hR h L0 (by omega) L3;have Ki:=SQ hR h q2 (by omega) q3;have mean:∀kQ,Rd0 kQ->∀(i:Int),¬i<2->kQ[(i-2).toNat]? =some ⟨b.v,p.1,q.1⟩->(∀e,ev kQ p.1 e=ev q.2.1 p.1 e)->(∀e,ev kQ q.1 e=ev q.2.1 q.1 e)->Eqv kQ i nd n:=λkQ hR2 i hi hx u1 u2 e=>by
   rw[cO hR2.wf hi hx,cO h.wf h2 hb];simp only;rw[u1,u2,L3 e,q3 e]
  have ny:(⟨b.v,p.1,q.1⟩:Br)∉q.2.1:=λQ4=>by
   obtain⟨j,hj,hjx⟩:=F9.1 Q4;obtain⟨k,hk⟩:=W2.sur j hj;obtain⟨_,_,r3⟩:=W2.num k _ hk (by omega);have XW:=mean q.2.1 hR ((j+2:Nat):Int) (by omega) (by rw[show(((j+2:Nat):Int)-2).toNat=j by omega,Xu hj,hjx]) (λ_=>rfl) (λ_=>rfl);have Yj:=(Jd.1 hk).1;have DM:=W2.len;have:=inj h (n:=(k:Int)+2) (n':=n) (by omega) h0 (by omega) hn (r3.symm.trans XW);have Xk:(n-2).toNat=k:=by omega
   rw[Xk,hk] at hz;cases hz
  have pv:Rd0 (q.2.1++ [⟨b.v,p.1,q.1⟩]):=hR.snoc (SR b1 b2 p1 L0 q1 q2 QX ny (by rw[XL];exact b9) (by rw[Ki];exact bz));have nA:Eqv (q.2.1++ [⟨b.v,p.1,q.1⟩]) ((q.2.1.length+2:Nat):Int) nd n:=mean _ pv _ (by omega) (by
   rw[show(((q.2.1.length+2:Nat):Int)-2).toNat=q.2.1.length by omega,aS (QB _)];simp) (λe=>oC hR.wf _ L0 e) (λe=>oC hR.wf _ q2 e)
  refine⟨⟨pv,by rw[gG];exact W2.len,λk mm hk ZW=>?_,λj hj=>?_⟩,by omega,by simp only[Qq,Q2,Jp];omega,nA,l1++(l2++ [⟨b.v,p.1,q.1⟩]),by simp only;rw[q4,p4];simp⟩
  ·simp only at hk ⊢;by_cases Xk:(n-2).toNat=k
   ·subst Xk;rw[jZ (by have:=W2.len;omega)] at hk;cases hk;refine⟨by omega,by simp,?_⟩;rw[show(((n-2).toNat:Nat):Int)+2=n by omega];exact nA
   ·rw[gK Xk] at hk;obtain⟨r1,r2,r3⟩:=W2.num k mm hk ZW;exact⟨r1,by simp;omega,λe=>by rw[oC hR.wf _ (by omega)];exact r3 e⟩
  ·simp only[Qq,Q2,Jp] at hj;by_cases aJ:j<q.2.1.length
   ·obtain⟨k,hk⟩:=W2.sur j aJ;refine⟨k,?_⟩;simp only;rw[gK (λe=>by rw[e,hk] at hz;cases hz)];exact hk
   ·have:j=q.2.1.length:=by omega
    subst this;exact⟨(n-2).toNat,by simp only;rw[jZ (by have:=W2.len;omega)]⟩
theorem hQb {nd:List Br}(h:Rd0 nd){r:Int}(h0:0<=r)(hr:r<nd.length+2):VD (cN nd r).1 (cN nd r).2/\Eqv (cN nd r).1 (cN nd r).2 nd r/\(cN nd r).1.length<=nd.length:=by
 obtain⟨W,w1,w2,w3,_⟩:=Hj h (r.toNat+1) r _ h0 (by omega) hr (Wi.start nd);have f:=(lO h.wf (r.toNat+1) r _ h0 (by omega) hr (Wi.start nd).len).cnt;have e1:(cN nd r).1=(Zl nd (r.toNat+1) r ([],List.replicate nd.length 0)).2.1:=rfl;have e2:(cN nd r).2=(Zl nd (r.toNat+1) r ([],List.replicate nd.length 0)).1:=rfl;rw[<-e1] at w3 w2 f;rw[<-e2] at w3 w2 w1;have hR:Rd0 (cN nd r).1:=W.rd;refine⟨⟨hR,w1,w2,?_⟩,w3,?_⟩
 ·rw[SP hR h w1 h0 w2 hr w3]
 ·have:=List.count_le_length (a:=0) (l:=List.replicate nd.length 0);simp at this f;omega
end
section
theorem SS {b:Br}:∀{l:List Br}{i:Nat},K2 b l=some i->l[i]? =some b
 | [],i,h=>by cases h
 | x::l,i,h=>by
  unfold K2 at h;split at h
  ·rename_i hx;cases h;simp[hx]
  ·cases hf:K2 b l with
   | none=>rw[hf] at h;cases h
   | some k=>rw[hf] at h;cases h;simpa using SS hf
theorem ST {b:Br}:∀{l:List Br},K2 b l=none->b∉l
 | [],_=>by simp
 | x::l,h=>by
  unfold K2 at h;split at h
  ·cases h
  ·rename_i hx;cases hf:K2 b l with
   | some k=>rw[hf] at h;cases h
   | none=>simp only[QY,not_or];exact⟨λe=>hx e.symm,ST hf⟩
structure UniqOk (nd:List Br) (b:Br) (r:List Br×Int):Prop where
 rd:Rd0 r.1
 pos:0<=r.2
 lt:r.2<r.1.length+2
 mean:∀e,ev r.1 r.2 e=if e b.v.toNat then ev nd b.h e else ev nd b.l e
 lvl:b.v<=Ql r.1 r.2
 ext:∃l,r.1=nd++l
theorem hQc {nd:List Br}(h:Rd0 nd){b:Br}(b1:0<=b.v)(b2:b.v<=63)(b3:0<=b.l)(b4:b.l<nd.length+2)(b5:0<=b.h)(b6:b.h<nd.length+2)(b9:b.v<Ql nd b.l)(bz:b.v<Ql nd b.h):UniqOk nd b (Jf b nd):=by
 unfold Jf;split
 ·rename_i he;exact⟨h,b3,b4,λe=>by simp only;rw[<-he];split<;>rfl,by simp only;omega,[],by simp⟩
 ·rename_i QX;split
  ·rename_i i hi;have hx:=SS hi;have Xa:=(Jd.1 hx).1;have KW:nd[(((i+2:Nat):Int)-2).toNat]? =some b:=by rw[show(((i+2:Nat):Int)-2).toNat=i by omega];exact hx
   have h2:¬(((i+2:Nat):Int)<2):=by omega
   exact⟨h,by simp only;omega,by simp only;omega,λe=>cO h.wf h2 KW,by simp only;rw[eV h2 KW];exact j0 _,[],by simp⟩
  ·rename_i hn;have X5:=SR b1 b2 b3 b4 b5 b6 QX (ST hn) b9 bz;have hR:=h.snoc X5;have KW:(nd++ [b])[(((nd.length+2:Nat):Int)-2).toNat]? =some b:=by
    rw[show(((nd.length+2:Nat):Int)-2).toNat=nd.length by omega,aS (QB _)];simp
   have h2:¬(((nd.length+2:Nat):Int)<2):=by omega
   exact⟨hR,by simp only;omega,by simp only[Qq,Q2,Jp];omega,λe=>by simp only;rw[cO hR.wf h2 KW,oC h.wf _ b6,oC h.wf _ b4],by simp only;rw[eV h2 KW];exact j0 _,[b],rfl⟩
theorem Rd0.dok {nd:List Br}(h:Rd0 nd):V0 nd:=⟨h.wf,λj b hb=>⟨(h j b hb).1,(h j b hb).2.1⟩⟩
theorem uL {nd:List Br}(h:Rd0 nd){n v:Int}(_:0<=n)(hn:n<nd.length+2)(hv:v<=Ql nd n)(gb:v<64):
  (∀e,ev nd n e=if e v.toNat then ev nd (Qm nd n v).2 e else ev nd (Qm nd n v).1 e)/\v<Ql nd (Qm nd n v).1/\v<Ql nd (Qm nd n v).2/\(Qm nd n v).1<nd.length+2/\(Qm nd n v).2<nd.length+2:=by
 unfold Qm;split
 ·rename_i QX;exact⟨λe=>by simp,by simp only;omega,by simp only;omega,hn,hn⟩
 ·rename_i he;have he:=Decidable.not_not.1 he;have h2:¬n<2:=λhh=>by rw[iV hh] at he;omega
  obtain⟨b,hb⟩:=W5 h2 hn;obtain⟨b1,b2,b3,b4,b5,b6,b7,b8,b9,bz⟩:=h _ _ hb;have VV:=eV h2 hb;simp only[hb];exact⟨λe=>by rw[cO h.wf h2 hb,show v=b.v by omega],by omega,by omega,by omega,by omega⟩
def KP (op:Int)(x y:Bool):Bool:=if op=0 then x&&y else if op=1 then x||y else if op=3 then !x else if op=4 then !x&&y else x !=y
theorem SU {op x y:Int}(x0:0<=x)(x1:x<2)(y0:0<=y)(y1:y<2):decide (eS op x y=1)=KP op (decide (x=1)) (decide (y=1)):=by
 unfold eS KP;rcases(by omega:x=0∨x=1)with rfl | rfl<;>rcases(by omega:y=0∨y=1)with rfl | rfl<;>(split<;>first | rfl | (split<;>first | rfl | (split<;>first | rfl | (split<;>rfl))))
structure At2I (a b:List Br) (op:Int) (st:List Br×List Tr3):Prop where
 rd:Rd0 st.1
 seen:∀t∈st.2,0<=t.2.2/\t.2.2<st.1.length+2/\(∀e,ev st.1 t.2.2 e=KP op (ev a t.1 e) (ev b t.2.1 e))/\min (Ql a t.1) (Ql b t.2.1)<=Ql st.1 t.2.2
structure At2R (a b:List Br) (op:Int) (x y:Int) (st:List Br×List Tr3) (r:Int×(List Br×List Tr3)):Prop where
 inv:At2I a b op r.2
 pos:0<=r.1
 lt:r.1<r.2.1.length+2
 mean:∀e,ev r.2.1 r.1 e=KP op (ev a x e) (ev b y e)
 lvl:min (Ql a x) (Ql b y)<=Ql r.2.1 r.1
 ext:∃l,r.2.1=st.1++l
theorem At2I.ext {a b:List Br}{op:Int}{nd:List Br}{s:List Tr3}(h:At2I a b op (nd,s)){Za:List Br}(hr:Rd0 Za)(he:∃l,Za=nd++l):At2I a b op (Za,s):=by
 obtain⟨l,rfl⟩:=he;refine⟨hr,λt ht=>?_⟩;obtain⟨h1,h2,h3,h4⟩:=h.seen t ht;exact⟨h1,by simp only at h2 ⊢;rw[Qq];omega,λe=>by rw[oC h.rd.wf l h2];exact h3 e,by rw[uK l h2];exact h4⟩
theorem Hk {a b:List Br}(ha:Rd0 a)(hb:Rd0 b)(op:Int):∀(m:Nat)(x y:Int)(st:List Br×List Tr3),At2I a b op st->0<=x->0<=y->x+y<m->x<a.length+2->y<b.length+2->At2R a b op x y st (Xw a b op m x y st)
 | 0,x,y,st,_,_,_,hm,_,_=>by omega
 | m+1,x,y,st,h,x0,y0,hm,hx,hy=>by
  by_cases Xr:x<2/\y<2
  ·rw[lR Xr];have hc:=Hg (op:=op) x0 Xr.1 y0 Xr.2;refine⟨h,hc.1,by simp only;omega,λe=>?_,?_,[],by simp⟩
   ·simp only;rw[JX hc.2,JX Xr.1,JX Xr.2];exact SU x0 Xr.1 y0 Xr.2
   ·simp only;rw[iV hc.2,iV Xr.1];omega
  cases k:st.2.find? (λt=>decide (t.1=x/\t.2.1=y))with
  | some t=>
   rw[lS Xr k];have hk:=List.find?_some k;simp only[VX] at hk;obtain⟨rfl,rfl⟩:=hk;obtain⟨h1,h2,h3,h4⟩:=h.seen t (dQJ k);exact⟨h,h1,h2,h3,h4,[],by simp⟩
  | none=>
   have ZP:min (Ql a x) (Ql b y)<64:=by
    by_cases c:x<2
    ·have:=aZ hb.dok (n:=y) (λc2=>Xr ⟨c,c2⟩) (by omega);rw[Jk];split<;>omega
    ·have:=aZ ha.dok (n:=x) c (by omega);rw[Jk];split<;>omega
   have gf:0<=min (Ql a x) (Ql b y):=by
    have pos:∀{d:List Br},Rd0 d->∀{n:Int},n<d.length+2->0<=Ql d n:=λ{d} hd {n} hn=>by
     by_cases h2:n<2
     ·rw[iV h2];omega
     ·obtain⟨z,hz⟩:=W5 h2 hn;rw[eV h2 hz];exact(hd _ _ hz).1
    have p1:=pos ha hx;have p2:=pos hb hy;rw[Jk];split<;>omega
   rw[lT Xr k _ rfl];have dx:Ql a x=min (Ql a x) (Ql b y)∨Ql b y=min (Ql a x) (Ql b y):=by rw[Jk];split<;>simp
   have mQW:min (Ql a x) (Ql b y)<=Ql a x:=Int.min_le_left _ _;have bQ9:min (Ql a x) (Ql b y)<=Ql b y:=Int.min_le_right _ _;have pY:At2I a b op st->min (Ql a x) (Ql b y)<=min (Ql a x) (Ql b y):=λ_=>j0 _
   generalize hv:min (Ql a x) (Ql b y)=v at*;obtain⟨s1,s2,s3,s4,s5⟩:=W4 ha.dok (n:=x) x0 ZP;obtain⟨t1,t2,t3,t4,t5⟩:=W4 hb.dok (n:=y) y0 ZP;obtain⟨u1,u2,u3,u4,u5⟩:=uL ha x0 hx mQW ZP;obtain⟨z1,z2,z3,z4,z5⟩:=uL hb y0 hy bQ9 ZP;have dec:(Qm a x v).1+(Qm b y v).1<m/\(Qm a x v).2+(Qm b y v).2<m:=by
    rcases dx with e | e
    ·have:=s5 e;omega
    ·have:=t5 e;omega
   have i1:=Hk ha hb op m _ _ st h s1 t1 dec.1 u4 z4;generalize (Xw a b op m (Qm a x v).1 (Qm b y v).1 st)=r0 at*;have i2:=Hk ha hb op m _ _ r0.2 i1.inv s3 t3 dec.2 u5 z5;generalize (Xw a b op m (Qm a x v).2 (Qm b y v).2 r0.2)=r1 at*;obtain⟨l1,XL⟩:=i1.ext;obtain⟨l2,Ki⟩:=i2.ext;have r0lt:r0.1<r1.2.1.length+2:=by rw[Ki,Qq];have:=i1.lt;omega
   have r0m:∀e,ev r1.2.1 r0.1 e=ev r0.2.1 r0.1 e:=λe=>by rw[Ki,oC i1.inv.rd.wf l2 i1.lt]
   have r0l:Ql r1.2.1 r0.1=Ql r0.2.1 r0.1:=by rw[Ki,uK l2 i1.lt]
   have g1:v<Ql r1.2.1 r0.1:=by rw[r0l];have:=i1.lvl;rw[Jk] at this;split at this<;>omega
   have g2:v<Ql r1.2.1 r1.1:=by have:=i2.lvl;rw[Jk] at this;split at this<;>omega
   have U:=hQc i2.inv.rd (b:=⟨v,r0.1,r1.1⟩) gf (by simp only;omega) i1.pos r0lt i2.pos i2.lt g1 g2;have hu3:=U.ext;have hI:=At2I.ext (s:=r1.2.2) i2.inv U.rd U.ext;generalize Jf ⟨v,r0.1,r1.1⟩ r1.2.1=u at*;have XW:∀e,ev u.1 u.2 e=KP op (ev a x e) (ev b y e):=λe=>by
    rw[U.mean e,u1 e,z1 e];simp only;split
    ·exact i2.mean e
    ·rw[r0m e];exact i1.mean e
   refine⟨⟨U.rd,λt ht=>?_⟩,U.pos,U.lt,XW,by rw[hv];exact U.lvl,?_⟩
   ·simp only[XP,QO] at ht;rcases ht with ht | rfl
    ·exact hI.seen t ht
    ·exact⟨U.pos,U.lt,XW,by rw[hv];exact U.lvl⟩
   ·obtain⟨l3,hl3⟩:=hu3;exact⟨l1++(l2++l3),by simp only;rw[hl3,Ki,XL];simp⟩
theorem SV:∀(N:Nat)(l:List Nat),l.Nodup->(∀x∈l,x<N)->l.length<=N
 | 0,l,_,h=>by
  cases l with
  | nil=>simp
  | cons x l=>have:=h x (by simp);omega
 | N+1,l,hn,h=>by
  have h1:=SV N (l.filter (λx=>decide (x≠N))) (hn.filter _) (λx hx=>by
   rw[Jy,VX] at hx;have:=h x hx.1;omega)
  have h2:l.length=(l.filter (λx=>decide (x≠N))).length+l.count N:=by
   clear h h1 hn;induction l with
   | nil=>rfl
   | cons x l ih=>
    by_cases e:x=N
    ·subst e;rw[List.filter_cons_of_neg (by simp),List.count_cons_self,Q2];omega
    ·rw[List.filter_cons_of_pos (by simpa using e),PL e,Q2,Q2];omega
  have h3:=List.nodup_iff_count.1 hn N;omega
def Hl (M:Nat)(t:Tr3):Nat:=t.1.toNat*M+t.2.1.toNat
structure At2B (n m:Nat) (st:List Br×List Tr3):Prop where
 rng:∀t∈st.2,0<=t.1/\t.1<n/\0<=t.2.1/\t.2.1<m
 nod:(st.2.map (Hl m)).Nodup
 le:st.1.length<=st.2.length
theorem At2B.bound {n m:Nat}{st:List Br×List Tr3}(h:At2B n m st):st.2.length<=n*m/\st.1.length<=n*m:=by
 have:=SV (n*m) _ h.nod (λx hx=>by
  simp only[Zk] at hx;obtain⟨t,ht,rfl⟩:=hx;obtain⟨h1,h2,h3,h4⟩:=h.rng t ht;unfold Hl;have:(t.1.toNat+1)*m<=n*m:=WN _ (by omega);rw[lr] at this;omega)
 rw[JL] at this;exact⟨this,X3 h.le this⟩
theorem hQd {m:Nat}{x y x' y':Nat}(hy:y<m)(nD:y'<m)(h:x*m+y=x'*m+y'):x=x'/\y=y':=by
 have hx:x=x':=by
  have e1:(x*m+y)/m=x:=by rw[xe,Nat.mul_add_div (by omega),Nat.div_eq_of_lt hy]<;>rfl
  have e2:(x'*m+y')/m=x':=by rw[xe,Nat.mul_add_div (by omega),Nat.div_eq_of_lt nD]<;>rfl
  rw[<-e1,<-e2,h]
 subst hx;exact⟨rfl,by omega⟩
theorem Hm {a b:List Br}(ha:V0 a)(hb:V0 b)(op:Int):∀(f:Nat)(x y:Int)(st:List Br×List Tr3),At2B (a.length+2) (b.length+2) st->0<=x->0<=y->x+y<f->x<a.length+2->y<b.length+2->
  At2B (a.length+2) (b.length+2) (Xw a b op f x y st).2/\(∀t∈(Xw a b op f x y st).2.2,t∈st.2∨t.1+t.2.1<=x+y)
 | 0,x,y,st,_,_,_,hm,_,_=>by omega
 | f+1,x,y,st,h,x0,y0,hm,hx,hy=>by
  by_cases Xr:x<2/\y<2
  ·rw[lR Xr];exact⟨h,λt ht=>.inl ht⟩
  cases k:st.2.find? (λt=>decide (t.1=x/\t.2.1=y))with
  | some t=>rw[lS Xr k];exact⟨h,λt ht=>.inl ht⟩
  | none=>
   have ZP:min (Ql a x) (Ql b y)<64:=by
    by_cases c:x<2
    ·have:=aZ hb (n:=y) (λc2=>Xr ⟨c,c2⟩) (by omega);rw[Jk];split<;>omega
    ·have:=aZ ha (n:=x) c (by omega);rw[Jk];split<;>omega
   rw[lT Xr k _ rfl];have dx:Ql a x=min (Ql a x) (Ql b y)∨Ql b y=min (Ql a x) (Ql b y):=by rw[Jk];split<;>simp
   generalize min (Ql a x) (Ql b y)=v at*;obtain⟨s1,s2,s3,s4,s5⟩:=W4 ha (n:=x) x0 ZP;obtain⟨t1,t2,t3,t4,t5⟩:=W4 hb (n:=y) y0 ZP;have dec:(Qm a x v).1+(Qm b y v).1<x+y/\(Qm a x v).2+(Qm b y v).2<x+y:=by
    rcases dx with e | e
    ·have:=s5 e;omega
    ·have:=t5 e;omega
   obtain⟨i1,j1⟩:=Hm ha hb op f _ _ st h s1 t1 (by omega) (by omega) (by omega);generalize (Xw a b op f (Qm a x v).1 (Qm b y v).1 st)=r0 at*;obtain⟨i2,j2⟩:=Hm ha hb op f _ _ r0.2 i1 s3 t3 (by omega) (by omega) (by omega);generalize (Xw a b op f (Qm a x v).2 (Qm b y v).2 r0.2)=r1 at*;have ul:(Jf ⟨v,r0.1,r1.1⟩ r1.2.1).1.length<=r1.2.1.length+1:=by
    unfold Jf;split
    ·exact xf _
    ·split
     ·exact xf _
     ·simp
   have ny:∀t∈r1.2.2,¬(t.1=x/\t.2.1=y):=λt ht hh=>by
    rcases j2 t ht with h1 | h1
    ·rcases j1 t h1 with h2 | h2
     ·have:=xd.1 k t h2;simp at this;exact this hh.1 hh.2
     ·omega
    ·omega
   refine⟨⟨λt ht=>?_,?_,?_⟩,λt ht=>?_⟩
   ·simp only[XP,QO] at ht;rcases ht with ht | rfl
    ·exact i2.rng t ht
    ·exact⟨x0,by simp only;omega,y0,by simp only;omega⟩
   ·simp only[WR,Kw,Bn];rw[PI];refine⟨i2.nod,by simp,λp hp q hq e=>?_⟩;simp only[QO] at hq;subst hq;subst e;simp only[Zk] at hp;obtain⟨t,ht,hk⟩:=hp;obtain⟨r1',r2',r3',r4'⟩:=i2.rng t ht;unfold Hl at hk;have:=hQd (m:=b.length+2) (by omega) (by simp only;omega) hk;simp only at this;exact ny t ht ⟨by omega,by omega⟩
   ·simp only[Qq,Q2,Jp];have:=i2.le;omega
   ·simp only[XP,QO] at ht;rcases ht with ht | rfl
    ·rcases j2 t ht with h1 | h1
     ·rcases j1 t h1 with h2 | h2
      ·exact .inl h2
      ·exact .inr (by omega)
     ·exact .inr (by omega)
    ·exact .inr (by simp only;omega)
theorem Ho {a b:List Br}{ra rb:Int}(ha:VD a ra)(hb:VD b rb)(op:Int):(lU a ra b rb op).2.2.length<=(a.length+2)*(b.length+2)/\(lU a ra b rb op).2.1.length<=(a.length+2)*(b.length+2):=
 (Hm ha.dok hb.dok op (ra.toNat+rb.toNat+1) ra rb ([],[]) ⟨λt ht=>by simp at ht,by simp,QB _⟩ ha.2.1 hb.2.1 (by have:=ha.2.1;have:=hb.2.1;omega) ha.2.2.1 hb.2.2.1).1.bound
theorem hQe {a b:List Br}{ra rb:Int}(ha:VD a ra)(hb:VD b rb)(op:Int):VD (Ye a ra b rb op).1 (Ye a ra b rb op).2/\∀e,ev (Ye a ra b rb op).1 (Ye a ra b rb op).2 e=KP op (ev a ra e) (ev b rb e):=by
 have R:=Hk ha.rd0 hb.rd0 op (ra.toNat+rb.toNat+1) ra rb ([],[]) ⟨λj x hx=>by simp at hx,λt ht=>by simp at ht⟩ ha.2.1 hb.2.1 (by have:=ha.2.1;have:=hb.2.1;omega) ha.2.2.1 hb.2.2.1;obtain⟨n1,n2,n3⟩:=hQb R.inv.rd R.pos R.lt;exact⟨n1,λe=>(n2 e).trans (R.mean e)⟩
end
section
def Yv:Nat->List Nat->List (List Nat)×Bool
 | 0,_=>([],true)
 | _+1,[]=>([],true)
 | n+1,b::l=>
  if b=32∨b=9 then Yv n l
  else if b=40∨b=41∨b=33 then([b]::(Yv n l).1,(Yv n l).2)
  else if(b=38∨b=124)/\l.head? =some b then([b,b]::(Yv n l.tail).1,(Yv n l.tail).2)
  else if bS b then((b::l).takeWhile Zi::(Yv n ((b::l).dropWhile Zi)).1,(Yv n ((b::l).dropWhile Zi)).2)
  else([],false)
def X4 (l:List Nat):List (List Nat)×Bool:=Yv l.length l
theorem uM {b:Nat}(h:bS b=true):Zi b=true:=by unfold Zi;rw[h]<;>rfl
theorem Ck {b:Nat}{l:List Nat}(h:bS b=true):(b::l).dropWhile Zi=l.dropWhile Zi:=by rw[qH,Qf (uM h)]
theorem Cl (p:Nat->Bool)(l:List Nat):(l.dropWhile p).length<=l.length:=(List.dropWhile_suffix p).length_le
theorem xS:∀(n m:Nat)(l:List Nat),l.length<=n->l.length<=m->Yv n l=Yv m l
 | n,m,[],_,_=>by cases n<;>cases m<;>rfl
 | 0,_,b::l,h,_=>by simp at h
 | _+1,0,b::l,_,h=>by simp at h
 | n+1,m+1,b::l,h,h'=>by
  simp only[Q2] at h h';have e1:=xS n m l (by omega) (by omega);have e2:=xS n m l.tail (by rw[Bs];omega) (by rw[Bs];omega);have hd:=Cl Zi l;have e3:=xS n m (l.dropWhile Zi) (by omega) (by omega);simp only[Yv];split
  ·exact e1
  ·split
   ·rw[e1]
   ·split
    ·rw[e2]
    ·split
     ·rename_i hl;rw[Ck hl,e3]
     ·rfl
theorem xT:X4 []=([],true):=rfl
theorem xU {b:Nat}{l:List Nat}(h:b=32∨b=9):X4 (b::l)=X4 l:=by
 show Yv (l.length+1) (b::l)=_;rw[Yv,Qf h]<;>rfl
theorem oE {b:Nat}{l:List Nat}(h:b=40∨b=41∨b=33):X4 (b::l)=([b]::(X4 l).1,(X4 l).2):=by
 show Yv (l.length+1) (b::l)=_;rw[Yv,if_neg (by omega),Qf h]<;>rfl
theorem rA {b:Nat}{l:List Nat}(h:b=38∨b=124):X4 (b::b::l)=([b,b]::(X4 l).1,(X4 l).2):=by
 show Yv ((b::l).length+1) (b::b::l)=_;rw[Yv,if_neg (by omega),if_neg (by omega),Qf ⟨h,rfl⟩];have:=xS (b::l).length l.length l (by simp) (QB _);rw[show(b::l).tail=l from rfl,this]<;>rfl
theorem xV {b:Nat}{l:List Nat}(h:bS b=true):X4 (b::l)=((b::l).takeWhile Zi::(X4 ((b::l).dropWhile Zi)).1,(X4 ((b::l).dropWhile Zi)).2):=by
 have hb:b=95∨(97<=b/\b<=122)∨(65<=b/\b<=90):=by unfold bS at h;simp at h;omega
 show Yv (l.length+1) (b::l)=_;rw[Yv,if_neg (by omega),if_neg (by omega),if_neg (by omega),Qf h,Ck h];have:=xS l.length (l.dropWhile Zi).length (l.dropWhile Zi) (Cl _ _) (QB _);rw[this]<;>rfl
theorem Cm {b:Nat}{l:List Nat}(h1:¬(b=32∨b=9))(h2:¬(b=40∨b=41∨b=33))(h3:¬((b=38∨b=124)/\l.head? =some b))(h4:bS b=false):X4 (b::l)=([],false):=by
 show Yv (l.length+1) (b::l)=_;rw[Yv,if_neg h1,if_neg h2,if_neg h3,if_neg (by rw[h4];decide)]
theorem rB (l:List Nat):X4 (ZT l)=X4 l:=by
 induction l with
 | nil=>rfl
 | cons b l ih=>
  unfold ZT at*;rw[qH];split
  ·rename_i h;rw[ih,xU];simpa using h
  ·rfl
theorem xW {l:List Nat}{b:Nat}{r:List Nat}(h:ZT l=b::r):¬(b=32∨b=9):=by
 unfold ZT at h;induction l with
 | nil=>cases h
 | cons x l ih=>
  rw[qH] at h;split at h
  ·exact ih h
  ·rename_i hx;cases h;simpa using hx
theorem Hp {b:Nat}(hb:b=40∨b=41∨b=33)(p:Ps):match Ky [b] p with
  | (true,p')=>X4 p.r=([b]::(X4 p'.r).1,(X4 p'.r).2)/\p'.f=p.f/\p'.u=p.u/\p'.r.length<p.r.length
  | (false,p')=>(X4 p.r).1.head? ≠some [b]/\p'={p with r:=ZT p.r}:=by
 have hl:=rB p.r;have Wd:=ux p.r;rw[xG];cases ht:ZT p.r with
 | nil=>
  rw[ht] at hl;simp only[List.isPrefixOf];refine⟨?_,by simp⟩;rw[<-hl];simp[xT]
 | cons x r=>
  have hx:=xW ht;rw[ht] at hl Wd;by_cases JG:x=b
  ·subst JG;simp only[List.isPrefixOf,beq_self_eq_true,dB];refine⟨by rw[<-hl,oE hb];simp,trivial,trivial,by simp at Wd ⊢;omega⟩
  ·have: [b].isPrefixOf (x::r)=false:=by simp[List.isPrefixOf,Ne.symm JG]
   rw[this];simp only;refine⟨λh=>?_,by simp⟩;rw[<-hl] at h;by_cases h2:x=40∨x=41∨x=33
   ·rw[oE h2] at h;simp at h;exact JG h
   ·by_cases h3:(x=38∨x=124)/\r.head? =some x
    ·cases r with
     | nil=>simp at h3
     | cons y r=>
      simp at h3;obtain⟨h3,rfl⟩:=h3;rw[rA h3] at h;simp at h
    ·by_cases h4:bS x=true
     ·rw[xV h4,an,Qf (uM h4)] at h;simp at h;exact JG h.1
     ·rw[Cm hx h2 h3 (by simpa using h4)] at h;simp at h
theorem Co {b:Nat}(hb:b=38∨b=124)(p:Ps):match Ky [b,b] p with
  | (true,p')=>X4 p.r=([b,b]::(X4 p'.r).1,(X4 p'.r).2)/\p'.f=p.f/\p'.u=p.u/\p'.r.length<p.r.length
  | (false,p')=>(X4 p.r).1.head? ≠some [b,b]/\p'={p with r:=ZT p.r}:=by
 have hl:=rB p.r;have Wd:=ux p.r;rw[xG];cases ht:ZT p.r with
 | nil=>
  rw[ht] at hl;simp only[List.isPrefixOf];refine⟨?_,by simp⟩;rw[<-hl];simp[xT]
 | cons x r=>
  have hx:=xW ht;rw[ht] at hl Wd;by_cases JG:x=b/\r.head? =some b
  ·obtain⟨rfl,hr⟩:=JG;cases r with
   | nil=>simp at hr
   | cons y r=>
    simp at hr;subst hr;simp only[List.isPrefixOf,beq_self_eq_true,dB];refine⟨by rw[<-hl,rA hb];simp,trivial,trivial,by simp at Wd ⊢;omega⟩
  ·have: [b,b].isPrefixOf (x::r)=false:=by
    rw[<-Bool.not_eq_true];intro h;cases r with
    | nil=>simp[List.isPrefixOf] at h
    | cons y r=>simp[List.isPrefixOf] at h;exact JG ⟨h.1.symm,by simp[h.2]⟩
   rw[this];simp only;refine⟨λh=>?_,by simp⟩;rw[<-hl] at h;by_cases h2:x=40∨x=41∨x=33
   ·rw[oE h2] at h;simp at h
   ·by_cases h3:(x=38∨x=124)/\r.head? =some x
    ·cases r with
     | nil=>simp at h3
     | cons y r=>
      simp at h3;obtain⟨h3,rfl⟩:=h3;rw[rA h3] at h;simp at h;exact JG ⟨h,by simp[h]⟩
    ·by_cases h4:bS x=true
     ·have la:Zi b=false:=by rcases hb with rfl | rfl<;>decide
      rw[xV h4,an,Qf (uM h4)] at h;simp at h;have hi:=uM h4;rw[h.1,la] at hi;cases hi
     ·rw[Cm hx h2 h3 (by simpa using h4)] at h;simp at h
def YN (op:List Nat)(mk:Fm->Fm->Fm)(opd:List (List Nat)->Option (Fm×Bool×List (List Nat))):Nat->Fm->Bool->List (List Nat)->Option (Fm×Bool×List (List Nat))
 | 0,_,_,_=>none
 | m+1,a,u,ts=>if ts.head? =some op then
   match opd ts.tail with
   | none=>none
   | some (b,v,Jx)=>YN op mk opd m (mk a b) (u||v) Jx
  else some (a,u,ts)
def Y5 (op:List Nat)(mk:Fm->Fm->Fm)(opd:List (List Nat)->Option (Fm×Bool×List (List Nat)))(ts:List (List Nat)):Option (Fm×Bool×List (List Nat)):=match opd ts with
 | none=>none
 | some (a,u,Jx)=>YN op mk opd (Jx.length+1) a u Jx
def Hq (t:List Nat):Bool:=match t with
 | []=>false
 | b::_=>bS b
def lW (ix:List Nat->Option Nat)(t:List Nat):Fm×Bool:=if t=WY then(.c true,false)else if t=dH then(.c false,false)else(.v ((ix t).getD 0),(ix t).isNone)
def K4 (ix:List Nat->Option Nat):Nat->List (List Nat)->Option (Fm×Bool×List (List Nat))
 | 0,_=>none
 | _+1,[]=>none
 | n+1,t::ts=>if t=[33] then
   match K4 ix n ts with
   | none=>none
   | some (a,u,Jx)=>some (.not a,u,Jx)
  else if t=[40] then
   match Y5 [124,124] .or (Y5 [38,38] .and (K4 ix n)) ts with
   | none=>none
   | some (a,u,Jx)=>if Jx.head? =some [41] then some (a,u,Jx.tail)else none
  else if Hq t then some ((lW ix t).1,(lW ix t).2,ts)else none
def uN (ix:List Nat->Option Nat)(n:Nat)(ts:List (List Nat)):Option (Fm×Bool×List (List Nat)):=Y5 [124,124] .or (Y5 [38,38] .and (K4 ix n)) ts
def Zd:Fm->Nat->List Fz
 | .c b,_=>[⟨if b then 1 else 0,0,0,0⟩]
 | .v n,_=>[⟨2,(n:Nat),0,0⟩]
 | .not a,k=>Zd a k++ [⟨3,0,((k+QK a-1:Nat):Int),0⟩]
 | .and a b,k=>Zd a k++Zd b (k+QK a)++ [⟨4,0,((k+QK a-1:Nat):Int),((k+QK a+QK b-1:Nat):Int)⟩]
 | .or a b,k=>Zd a k++Zd b (k+QK a)++ [⟨5,0,((k+QK a-1:Nat):Int),((k+QK a+QK b-1:Nat):Int)⟩]
theorem Kd:∀(t:Fm)(k:Nat),(Zd t k).length=QK t
 | .c _,_=>rfl
 | .v _,_=>rfl
 | .not a,k=>by simp[Zd,QK,Kd a k]
 | .and a b,k=>by simp[Zd,QK,Kd a k,Kd b,lq]
 | .or a b,k=>by simp[Zd,QK,Kd a k,Kd b,lq]
theorem YO:∀t:Fm,0<QK t
 | .c _=>Nat.one_pos
 | .v _=>Nat.one_pos
 | .not _=>Nat.succ_pos _
 | .and _ _=>Nat.succ_pos _
 | .or _ _=>Nat.succ_pos _
def rC (p:Ps)(r:Option (Nat×Ps))(rt:Option (Fm×Bool×List (List Nat))):Prop:=match rt with
 | none=>r=none
 | some (t,u,ts)=>∃p',r=some (p.f.length+QK t-1,p')/\p'.f=p.f++Zd t p.f.length/\p'.u=(p.u||u)/\X4 p'.r=(ts,(X4 p.r).2)/\p'.r.length<p.r.length
def xX (opd:Ps->Option (Nat×Ps))(opt:List (List Nat)->Option (Fm×Bool×List (List Nat))):Prop:=∀p,rC p (opd p) (opt (X4 p.r).1)
def lX (opt:List (List Nat)->Option (Fm×Bool×List (List Nat))):Prop:=∀ts t u Jx,opt ts=some (t,u,Jx)->Jx.length<ts.length
theorem SW {op:List Nat}{o:Int}{mk:Fm->Fm->Fm}{opd:Ps->Option (Nat×Ps)}{opt:List (List Nat)->Option (Fm×Bool×List (List Nat))}
  (bJ:∀p,match Ky op p with
   | (true,p')=>X4 p.r=(op::(X4 p'.r).1,(X4 p'.r).2)/\p'.f=p.f/\p'.u=p.u/\p'.r.length<p.r.length
   | (false,p')=>(X4 p.r).1.head? ≠some op/\p'={p with r:=ZT p.r})
  (Fv:∀a b k,Zd (mk a b) k=Zd a k++Zd b (k+QK a)++ [⟨o,0,((k+QK a-1:Nat):Int),((k+QK a+QK b-1:Nat):Int)⟩]) (XQ:∀a b,QK (mk a b)=QK a+QK b+1) (H:xX opd opt) (hl:lX opt):
  ∀(m m':Nat) (a:Fm) (u:Bool) (p0 p:Ps),p.f=p0.f++Zd a p0.f.length->p.u=(p0.u||u)->(X4 p.r).2=(X4 p0.r).2->p.r.length<p0.r.length->p.r.length<m->(X4 p.r).1.length<m'->
   rC p0 (gT op o opd m (p0.f.length+QK a-1) p) (YN op mk opt m' a u (X4 p.r).1)
 | 0,m',a,u,p0,p,_,_,_,_,h,_=>by omega
 | m+1,0,a,u,p0,p,_,_,_,_,_,h=>by omega
 | m+1,m'+1,a,u,p0,p,hf,hu,Ki,hr,hm,Fu=>by
  have hs:=bJ p;unfold gT YN;cases lf:Ky op p with
  | mk b p1=>
  rw[lf] at hs;cases b with
  | false=>
   obtain⟨h1,rfl⟩:=hs;rw[if_neg h1];refine⟨_,rfl,hf,hu,?_,?_⟩
   ·simp only;rw[rB,<-Ki]
   ·have:=ux p.r;simp only;omega
  | true=>
   obtain⟨h1,h2,h3,h4⟩:=hs;have hh:=QC Prod.fst h1;have zd:=QC Prod.snd h1;simp only at hh zd;rw[hh,Gb,Qf rfl,List.tail_cons];simp only;have hc:=H p1;cases ho:opt (X4 p1.r).1 with
   | none=>
    rw[ho] at hc;simp only[rC] at hc ⊢;rw[hc]
   | some q=>
    obtain⟨t,v,ts⟩:=q;rw[ho] at hc;obtain⟨p2,e1,e2,e3,e4,e5⟩:=hc;rw[e1];simp only;have Xa:=hl _ _ _ _ ho;have pa:=YO a;have pt:=YO t;rw[hf] at h2;have Zq:p1.f.length=p0.f.length+QK a:=by rw[h2,Qq,Kd]
    have ih:=SW bJ Fv XQ H hl m m' (mk a t) (u||v) p0 {p2 with f:=p2.f++ [⟨o,0,((p0.f.length+QK a-1:Nat):Int),((p1.f.length+QK t-1:Nat):Int)⟩]}
     (by simp only;rw[e2,h2,Fv,Qq,Kd];simp) (by simp only;rw[e3,h3,hu,Gc]) (by simp only;rw[e4,<-zd,Ki]) (by simp only;omega) (by simp only;omega)
     (by simp only;rw[e4];simp only;rw[hh] at Fu;simp only[Q2] at Fu;omega)
    simp only[e4] at ih;have hx:p2.f.length=p0.f.length+QK (mk a t)-1:=by rw[e2,Qq,Kd,Zq,XQ];omega
    rw[hx];exact ih
theorem Cp {op:List Nat}{o:Int}{mk:Fm->Fm->Fm}{opd:Ps->Option (Nat×Ps)}{opt:List (List Nat)->Option (Fm×Bool×List (List Nat))}
  (bJ:∀p,match Ky op p with
   | (true,p')=>X4 p.r=(op::(X4 p'.r).1,(X4 p'.r).2)/\p'.f=p.f/\p'.u=p.u/\p'.r.length<p.r.length
   | (false,p')=>(X4 p.r).1.head? ≠some op/\p'={p with r:=ZT p.r})
  (Fv:∀a b k,Zd (mk a b) k=Zd a k++Zd b (k+QK a)++ [⟨o,0,((k+QK a-1:Nat):Int),((k+QK a+QK b-1:Nat):Int)⟩]) (XQ:∀a b,QK (mk a b)=QK a+QK b+1) (H:xX opd opt) (hl:lX opt):xX (VZ op o opd) (Y5 op mk opt):=λp=>by
 have hc:=H p;unfold VZ Y5;cases ho:opt (X4 p.r).1 with
 | none=>
  rw[ho] at hc;simp only[rC] at hc ⊢;rw[hc]
 | some q=>
  obtain⟨t,v,ts⟩:=q;rw[ho] at hc;obtain⟨p2,e1,e2,e3,e4,e5⟩:=hc;rw[e1];simp only;have:=SW bJ Fv XQ H hl (p2.r.length+1) (ts.length+1) t v p p2 e2 e3 (by rw[e4]) e5 (by omega) (by rw[e4];exact fB _);rw[e4] at this;exact this
theorem SY {op:List Nat}{mk:Fm->Fm->Fm}{opt:List (List Nat)->Option (Fm×Bool×List (List Nat))}(hl:lX opt):∀(m:Nat)(a:Fm)(u:Bool)(ts:List (List Nat))(t:Fm)(v:Bool)(Jx:List (List Nat)),YN op mk opt m a u ts=some (t,v,Jx)->Jx.length<=ts.length
 | 0,a,u,ts,t,v,Jx,h=>by cases h
 | m+1,a,u,ts,t,v,Jx,h=>by
  unfold YN at h;split at h
  ·cases ho:opt ts.tail with
   | none=>rw[ho] at h;cases h
   | some q=>
    obtain⟨b,v2,sk⟩:=q;rw[ho] at h;have h1:=SY hl m _ _ _ _ _ _ h;have h2:=hl _ _ _ _ ho;rw[Bs] at h2;omega
  ·cases h;exact QB _
theorem xY {op:List Nat}{mk:Fm->Fm->Fm}{opt:List (List Nat)->Option (Fm×Bool×List (List Nat))}(hl:lX opt):lX (Y5 op mk opt):=λts t u Jx h=>by
 unfold Y5 at h;cases ho:opt ts with
 | none=>rw[ho] at h;cases h
 | some q=>
  obtain⟨b,v2,sk⟩:=q;rw[ho] at h;have h1:=SY hl _ _ _ _ _ _ _ h;have h2:=hl _ _ _ _ ho;omega
theorem uO (ix:List Nat->Option Nat):∀n,lX (K4 ix n)
 | 0=>λts t u Jx h=>by cases h
 | n+1=>λts t u Jx h=>by
  have ih:=uO ix n;cases ts with
  | nil=>cases h
  | cons x ts=>
   unfold K4 at h;split at h
   ·cases ho:K4 ix n ts with
    | none=>rw[ho] at h;cases h
    | some q=>
     obtain⟨b,v2,sk⟩:=q;rw[ho] at h;have:=ih _ _ _ _ ho;cases h;simp;omega
   ·split at h
    ·cases ho:Y5 [124,124] .or (Y5 [38,38] .and (K4 ix n)) ts with
     | none=>rw[ho] at h;cases h
     | some q=>
      obtain⟨b,v2,sk⟩:=q;rw[ho] at h;have:=xY (op:=[124,124]) (mk:=.or) (xY (op:=[38,38]) (mk:=.and) ih) _ _ _ _ ho;simp only at h;split at h
      ·cases h;simp[Bs];omega
      ·cases h
    ·split at h
     ·cases h;simp
     ·cases h
theorem hQf (p:Nat->Bool)(l:List Nat):l.take (l.takeWhile p).length=l.takeWhile p:=by
 induction l with
 | nil=>rfl
 | cons x l ih=>
  rw[an];split
  ·rw[Q2,fy,ih]
  ·rfl
theorem hQg (p:Nat->Bool)(l:List Nat):l.drop (l.takeWhile p).length=l.dropWhile p:=by
 induction l with
 | nil=>rfl
 | cons x l ih=>
  rw[an,qH];split
  ·rw[Q2,PO,ih]
  ·rfl
theorem hQh (l:List Nat):ZT (ZT l)=ZT l:=by
 cases h:ZT l with
 | nil=>rfl
 | cons b r=>
  have:=xW h;unfold ZT;rw[qH,if_neg (by simpa using this)]
theorem SZ {x:Nat}{r:List Nat}(h:VY (x::r)≠0):bS x=true/\VY (x::r)=((x::r).takeWhile Zi).length:=by
 have e:VY (x::r)=if isDig x then 0 else((x::r).takeWhile Zi).length:=rfl
 rw[e] at h ⊢;split at h
 ·exact Xc rfl h
 ·rename_i hd;rw[if_neg hd];refine⟨?_,rfl⟩;rw[an] at h;split at h
  ·rename_i hi;unfold Zi at hi;rw[Bool.or_eq_true] at hi;exact hi.resolve_right hd
  ·exact Xc rfl h
theorem hQi {x:Nat}{r:List Nat}(h:VY (x::r)=0):bS x=false:=by
 have e:VY (x::r)=if isDig x then 0 else((x::r).takeWhile Zi).length:=rfl
 rw[e] at h;rw[<-Bool.not_eq_true];intro hl;have hb:x=95∨(97<=x/\x<=122)∨(65<=x/\x<=90):=by unfold bS at hl;simp at hl;omega
 rw[if_neg (by unfold isDig;simp;omega),an,Qf (uM hl)] at h;simp at h
theorem hQj {x:Nat}{r:List Nat}(h:bS x=true):Hq ((x::r).takeWhile Zi)=true:=by
 rw[an,Qf (uM h)];exact h
theorem S3 (ix:List Nat->Option Nat):∀n,xX (dG ix n) (K4 ix n)
 | 0=>λp=>rfl
 | n+1=>λp=>by
  have ih:=S3 ix n;have dw:=uO ix n;have s1:=Hp (b:=33) (by omega) p;cases hk:Ky [33] p with
  | mk b p1=>
  rw[hk] at s1;cases b with
  | true=>
   obtain⟨h1,h2,h3,h4⟩:=s1;rw[GZ ix n hk,h1];have hc:=ih p1;unfold K4;rw[Qf rfl];cases ho:K4 ix n (X4 p1.r).1 with
   | none=>
    rw[ho] at hc;simp only[rC] at hc ⊢;rw[hc]
   | some q=>
    obtain⟨t,v,ts⟩:=q;rw[ho] at hc;obtain⟨p2,e1,e2,e3,e4,e5⟩:=hc;rw[e1];have pt:=YO t;refine⟨(Ys ⟨3,0,((p1.f.length+QK t-1:Nat):Int),0⟩ p2).2,?_,?_,?_,?_,?_⟩
    ·simp only[Ys];rw[e2,Qq,Kd,h2]<;>rfl
    ·simp only[Ys];rw[e2,h2];simp[Zd]
    ·simp only[Ys];rw[e3,h3]
    ·simp only[Ys];rw[e4,h1]
    ·simp only[Ys];omega
  | false=>
   obtain⟨h1,rfl⟩:=s1;have s2:=Hp (b:=40) (by omega) {p with r:=ZT p.r};cases Yj:Ky [40] {p with r:=ZT p.r}with
   | mk b p2=>
   rw[Yj] at s2;have Wd:=ux p.r;cases b with
   | true=>
    obtain⟨h5,h6,h7,h8⟩:=s2;simp only[rB] at h5 h6 h7 h8;rw[G0 ix n hk Yj,h5];have hc:=Cp (op:=[124,124]) (o:=5) (mk:=.or) (λp=>Co (by omega) p) (λa b k=>rfl) (λa b=>rfl) (Cp (op:=[38,38]) (o:=4) (mk:=.and) (λp=>Co (by omega) p) (λa b k=>rfl) (λa b=>rfl) ih dw) (xY dw) p2;unfold K4;rw[if_neg (by decide),Qf rfl];unfold iS;cases ho:Y5 [124,124] Fm.or (Y5 [38,38] Fm.and (K4 ix n)) (X4 p2.r).1 with
    | none=>
     rw[ho] at hc;simp only[rC] at hc ⊢;rw[hc]
    | some q=>
     obtain⟨t,v,ts⟩:=q;rw[ho] at hc;obtain⟨p3,e1,e2,e3,e4,e5⟩:=hc;rw[e1];simp only;have s3:=Hp (b:=41) (by omega) p3;cases kL:Ky [41] p3 with
     | mk b p4=>
     rw[kL] at s3;cases b with
     | true=>
      obtain⟨g1,g2,g3,g4⟩:=s3;have ht:=QC Prod.fst (e4.symm.trans g1);have mP:=QC Prod.snd (e4.symm.trans g1);simp only at ht mP;rw[ht,Gb,Qf rfl,List.tail_cons];refine⟨_,by rw[h6],by rw[g2,e2,h6],by rw[g3,e3,h7],?_,?_⟩
      ·rw[h5];simp only;rw[mP]
      ·omega
     | false=>
      obtain⟨g1,rfl⟩:=s3;rw[e4] at g1;simp only at g1;rw[if_neg g1]<;>rfl
   | false=>
    obtain⟨h5,rfl⟩:=s2;simp only[rB] at h5;rw[G3 ix n hk Yj];simp only[hQh];have hl:=rB p.r;cases ht:ZT p.r with
    | nil=>
     rw[ht,xT] at hl;rw[<-hl]<;>rfl
    | cons x r=>
     have hx:=xW ht;rw[ht] at hl Wd;rw[<-hl] at h1 h5 ⊢;by_cases la:VY (x::r)=0
     ·rw[Qf la];have h4:=hQi la;have:K4 ix (n+1) (X4 (x::r)).1=none:=by
       by_cases h2:x=40∨x=41∨x=33
       ·rw[oE h2] at h1 h5 ⊢;simp only[Gb,ne_eq,Option.some.injEq,List.cons.injEq,and_true] at h1 h5;have:x=41:=by omega
        subst this;rfl
       ·by_cases h3:(x=38∨x=124)/\r.head? =some x
        ·cases r with
         | nil=>simp at h3
         | cons y r=>
          simp at h3;obtain⟨h3,rfl⟩:=h3;rw[rA h3];rcases h3 with rfl | rfl<;>rfl
        ·rw[Cm hx h2 h3 h4]<;>rfl
      rw[this]<;>rfl
     ·rw[if_neg la];obtain⟨XL,Ki⟩:=SZ la;rw[Ki,hQf,hQg];have oQJ:=xV (l:=r) XL;rw[oQJ] at h1 h5 hl ⊢;simp only[Gb,ne_eq,Option.some.injEq] at h1 h5;unfold K4;rw[if_neg h1,if_neg h5,Qf (hQj XL)];have QZ:((x::r).dropWhile Zi).length<p.r.length:=by
       rw[Ck XL];have:=Cl Zi r;simp only[Q2] at Wd;omega
      unfold lW;by_cases pw:(x::r).takeWhile Zi=WY
      ·rw[Qf pw,Qf pw];exact⟨_,rfl,rfl,by simp,by simp only;rw[<-hl],QZ⟩
      ·rw[if_neg pw,if_neg pw];by_cases mP:(x::r).takeWhile Zi=dH
       ·rw[Qf mP,Qf mP];exact⟨_,rfl,rfl,by simp,by simp only;rw[<-hl],QZ⟩
       ·rw[if_neg mP,if_neg mP];exact⟨_,rfl,rfl,rfl,by simp only;rw[<-hl],QZ⟩
theorem hQk (ix:List Nat->Option Nat)(n:Nat):xX (iS ix n) (uN ix n):=
 Cp (op:=[124,124]) (o:=5) (mk:=.or) (λp=>Co (by omega) p) (λ_ _ _=>rfl) (λ_ _=>rfl) (Cp (op:=[38,38]) (o:=4) (mk:=.and) (λp=>Co (by omega) p) (λ_ _ _=>rfl) (λ_ _=>rfl) (S3 ix n) (uO ix n)) (xY (uO ix n))
theorem hQl (l:List Nat):ZT l=[]↔X4 l=([],true):=by
 rw[<-rB l];cases h:ZT l with
 | nil=>simp[xT]
 | cons x r=>
  have hx:=xW h;simp only[reduceCtorEq,false_iff];intro e;by_cases h2:x=40∨x=41∨x=33
  ·rw[oE h2] at e;simp at e
  ·by_cases h3:(x=38∨x=124)/\r.head? =some x
   ·cases r with
    | nil=>simp at h3
    | cons y r=>
     simp at h3;obtain⟨h3,rfl⟩:=h3;rw[rA h3] at e;simp at e
   ·by_cases h4:bS x=true
    ·rw[xV h4] at e;simp at e
    ·rw[Cm hx h2 h3 (by simpa using h4)] at e;simp at e
def Cq (names:List (List Nat))(s:List Nat):List Fz×Int:=if Z1 names then
  if(X4 s).2 then match uN (Jq names) (s.length+1) (X4 s).1 with
   | none=>([],31)
   | some (t,u,ts)=>if ts≠ [] then([],31)else if u then([],3)else if 512<QK t then([],2)else(Zd t 0,0)
  else([],31)
 else([],1)
theorem S4 (names:List (List Nat))(s:List Nat):eP names s=Cq names s:=by
 unfold eP Cq;by_cases hn:Z1 names=true
 ·rw[Qf hn,Qf hn];have hc:=hQk (Jq names) (s.length+1) ⟨s,[],false⟩;simp only at hc;cases ho:uN (Jq names) (s.length+1) (X4 s).1 with
  | none=>
   rw[ho] at hc;simp only[rC] at hc;rw[hc];simp
  | some q=>
   obtain⟨t,v,ts⟩:=q;rw[ho] at hc;obtain⟨p2,e1,e2,e3,e4,e5⟩:=hc;rw[e1];simp only at e2 e3 e4 ⊢;simp only[bO,Jp,Bool.false_or] at e2 e3;have he:=hQl p2.r;rw[e4] at he;by_cases hf:(X4 s).2=true
   ·rw[Qf hf];rw[hf] at he;simp only[Prod.mk.injEq,and_true] at he;rw[e3,e2,Kd];by_cases dt:ts=[]
    ·rw[if_neg (λh=>h (he.2 dt)),if_neg (c:=ts≠ []) (λh=>h dt)]
    ·rw[Qf (λh=>dt (he.1 h)),Qf dt]
   ·rw[if_neg hf,Qf (λh=>hf (by have:=QC Prod.snd (he.1 h);simpa using this))]
 ·rw[if_neg hn,if_neg hn]
end
section
def Yf (b:Bool)(ts:List (List Nat)):List (List Nat):=if b then [40]::ts++ [[41]] else ts
def JB (nm:List (List Nat)):Fm->List (List Nat)
 | .c b=>[if b then WY else dH]
 | .v n=>[nm[n]?.getD []]
 | .not a=>[33]::Yf (decide (Z3 a<2)) (JB nm a)
 | .and a b=>Yf (decide (Z3 a<1)) (JB nm a)++ [38,38]::Yf (decide (Z3 b<2)) (JB nm b)
 | .or a b=>JB nm a++ [124,124]::Yf (decide (Z3 b<1)) (JB nm b)
theorem hQm (nm:List (List Nat)):∀t:Fm,0<(JB nm t).length
 | .c _=>Nat.one_pos
 | .v _=>Nat.one_pos
 | .not _=>Nat.succ_pos _
 | .and _ _=>by simp only[JB,Qq,Q2];omega
 | .or _ _=>by simp only[JB,Qq,Q2];omega
def Stop (l:List Nat):Prop:=∀b r,l=b::r->Zi b=false
theorem Stop.nil:Stop []:=λ_ _ h=>by cases h
theorem Stop.cons {b:Nat}{r:List Nat}(h:Zi b=false):Stop (b::r):=λ_ _ e=>by cases e;exact h
def oF (w:List Nat):Prop:=(∃b r,w=b::r/\bS b=true)/\∀x∈w,Zi x=true
theorem hQn {w rest:List Nat}(h:∀x∈w,Zi x=true)(hs:Stop rest):(w++rest).takeWhile Zi=w/\(w++rest).dropWhile Zi=rest:=by
 induction w with
 | nil=>
  cases rest with
  | nil=>exact⟨rfl,rfl⟩
  | cons b r=>
   have:=hs b r rfl;rw[bO,an,qH,if_neg (by rw[this];decide),if_neg (by rw[this];decide)];exact⟨rfl,rfl⟩
 | cons x w ih=>
  obtain⟨h1,h2⟩:=ih (λy hy=>h y (by simp[hy]));have hx:=h x (by simp);rw[Jo,an,qH,Qf hx,Qf hx,h1,h2];exact⟨rfl,rfl⟩
theorem hQo {w rest:List Nat}(h:oF w)(hs:Stop rest):X4 (w++rest)=(w::(X4 rest).1,(X4 rest).2):=by
 obtain⟨⟨b,r,rfl,hb⟩,hall⟩:=h;obtain⟨h1,h2⟩:=hQn hall hs;rw[Jo] at h1 h2 ⊢;rw[xV hb,h1,h2]
theorem hQp {w:List Nat}(h:oF w):Hq w=true:=by
 obtain⟨⟨b,r,rfl,hb⟩,_⟩:=h;exact hb
theorem Ht {s:List Nat}(h:aW s=true):oF s/\s≠WY/\s≠dH:=by
 unfold aW at h;rw[VX] at h;obtain⟨h1,h2,h3,h4⟩:=h;cases s with
 | nil=>exact Xc rfl h1
 | cons b r=>
  obtain⟨hl,he⟩:=SZ (x:=b) (r:=r) (by rw[h2];simp);rw[he] at h2;refine⟨⟨⟨b,r,rfl,hl⟩,λx hx=>?_⟩,h3,h4⟩;have:(b::r).takeWhile Zi=b::r:=(List.takeWhile_prefix Zi).eq_of_length h2;rw[<-this] at hx;exact(Ka.1 (List.all_takeWhile (p:=Zi) (l:=b::r))) x hx
theorem S5:oF WY:=⟨⟨116,_,rfl,by decide⟩,by decide⟩
theorem S8:oF dH:=⟨⟨102,_,rfl,by decide⟩,by decide⟩
structure NmOk (nm:List (List Nat)) (ix:List Nat->Option Nat):Prop where
 word:∀k,k<nm.length->aW (nm[k]?.getD [])=true
 ix:∀k,k<nm.length->ix (nm[k]?.getD [])=some k
def LexS (s:List Nat)(ts:List (List Nat)):Prop:=∀rest,Stop rest->X4 (s++rest)=(ts++(X4 rest).1,(X4 rest).2)
theorem LexS.par {s:List Nat}{ts:List (List Nat)}(h:LexS s ts)(b:Bool):LexS (YL b s) (Yf b ts):=by
 cases b with
 | false=>exact h
 | true=>
  intro rest hs;show X4 (40::s++ [41]++rest)=_;rw[Jo,Jo,oE (by omega),ZG,List.singleton_append,h (41::rest) (Stop.cons (by decide)),oE (by omega)];simp[Yf]
theorem LexS.word {w:List Nat}(h:oF w):LexS w [w]:=λ_ hs=>hQo h hs
theorem uP {nm:List (List Nat)}{ix:List Nat->Option Nat}(hn:NmOk nm ix):∀(t:Fm),VarsIn nm.length t->LexS (JN nm t) (JB nm t)
 | .c b,_=>by
  cases b with
  | true=>exact LexS.word S5
  | false=>exact LexS.word S8
 | .v n,h=>LexS.word (Ht (hn.word n h)).1
 | .not a,h=>by
  have ih:=(uP hn a h).par (decide (Z3 a<2));intro rest hs;show X4 (33::YL _ _++rest)=_;rw[Jo,oE (by omega),ih rest hs]<;>rfl
 | .and a b,h=>by
  have iha:=(uP hn a h.1).par (decide (Z3 a<1));have ihb:=(uP hn b h.2).par (decide (Z3 b<2));intro rest hs;show X4 (YL _ _++ [32,38,38,32]++YL _ _++rest)=_;rw[ZG,ZG,show [32,38,38,32]++(YL (decide (Z3 b<2)) (JN nm b)++rest)=32::38::38::32::(YL (decide (Z3 b<2)) (JN nm b)++rest) from rfl];rw[iha _ (Stop.cons (b:=32) (by decide)),xU (by omega),rA (by omega),xU (by omega),ihb rest hs];simp[JB]
 | .or a b,h=>by
  have iha:=uP hn a h.1;have ihb:=(uP hn b h.2).par (decide (Z3 b<1));intro rest hs;show X4 (YL (decide (Z3 a<0)) _++ [32,124,124,32]++YL _ _++rest)=_;rw[show decide (Z3 a<0)=false from Zr (by omega)];show X4 (JN nm a++ [32,124,124,32]++YL _ _++rest)=_;rw[ZG,ZG,show [32,124,124,32]++(YL (decide (Z3 b<1)) (JN nm b)++rest)=32::124::124::32::(YL (decide (Z3 b<1)) (JN nm b)++rest) from rfl];rw[iha _ (Stop.cons (b:=32) (by decide)),xU (by omega),rA (by omega),xU (by omega),ihb rest hs];simp[JB]
theorem hQq {nm:List (List Nat)}{ix:List Nat->Option Nat}(hn:NmOk nm ix)(t:Fm)(h:VarsIn nm.length t):X4 (Z4 nm 0 t)=(JB nm t,true):=by
 have:=uP hn t h [] Stop.nil;unfold Z4;rw[show decide (Z3 t<0)=false from Zr (by omega)];simp only[KE,xT] at this;exact this
theorem S9 {op:List Nat}{mk:Fm->Fm->Fm}{opt:List (List Nat)->Option (Fm×Bool×List (List Nat))}(hl:lX opt):∀(m m':Nat)(a:Fm)(u:Bool)(ts:List (List Nat)),ts.length<m->ts.length<m'->YN op mk opt m a u ts=YN op mk opt m' a u ts
 | 0,_,_,_,_,h,_=>by omega
 | _+1,0,_,_,_,_,h=>by omega
 | m+1,m'+1,a,u,ts,h,h'=>by
  unfold YN;split
  ·cases ho:opt ts.tail with
   | none=>rfl
   | some q=>
    obtain⟨b,v,Jx⟩:=q;have:=hl _ _ _ _ ho;rw[Bs] at this;exact S9 hl m m' _ _ Jx (by omega) (by omega)
  ·rfl
theorem Cr {op:List Nat}{mk:Fm->Fm->Fm}{opt:List (List Nat)->Option (Fm×Bool×List (List Nat))}{m:Nat}{a:Fm}{u:Bool}{ts:List (List Nat)}(h:ts.head? ≠some op):YN op mk opt (m+1) a u ts=some (a,u,ts):=by
 unfold YN;rw[if_neg h]
theorem Ta {op:List Nat}{mk:Fm->Fm->Fm}{opt:List (List Nat)->Option (Fm×Bool×List (List Nat))}(hl:lX opt){m:Nat}{a b:Fm}{u v:Bool}{ts Jx:List (List Nat)}(h:opt ts=some (b,v,Jx)):YN op mk opt ((op::ts).length+m) a u (op::ts)=YN op mk opt (Jx.length+1) (mk a b) (u||v) Jx:=by
 have:=hl _ _ _ _ h;have e:YN op mk opt ((ts.length+m)+1) a u (op::ts)=YN op mk opt (ts.length+m) (mk a b) (u||v) Jx:=by
  rw[YN,Gb,Qf rfl,List.tail_cons,h]
 rw[Q2,show ts.length+1+m=(ts.length+m)+1 by omega,e];exact S9 hl _ _ _ _ _ (by omega) (by omega)
theorem hQr (ix:List Nat->Option Nat)(b:Bool):lW ix (if b then WY else dH)=(.c b,false):=by cases b<;>rfl
theorem hQs {nm:List (List Nat)}{ix:List Nat->Option Nat}(hn:NmOk nm ix){n:Nat}(h:n<nm.length):lW ix (nm[n]?.getD [])=(.v n,false):=by
 obtain⟨_,h1,h2⟩:=Ht (hn.word n h);unfold lW;rw[if_neg h1,if_neg h2,hn.ix n h]<;>rfl
theorem hQt {w:List Nat}(h:oF w):w≠ [33]/\w≠ [40]/\w≠ [41]/\w≠ [38,38]/\w≠ [124,124]:=by
 obtain⟨⟨b,r,rfl,hb⟩,_⟩:=h;refine⟨?_,?_,?_,?_,?_⟩<;>(intro e;cases e;exact Xc hb (by decide))
theorem Tb {ix:List Nat->Option Nat}{n:Nat}{w:List Nat}{rest:List (List Nat)}(h:oF w):K4 ix (n+1) (w::rest)=some ((lW ix w).1,(lW ix w).2,rest):=by
 have:=hQt h;unfold K4;rw[if_neg this.1,if_neg this.2.1,Qf (hQp h)]
abbrev uQ (ix:List Nat->Option Nat)(n:Nat):=Y5 [38,38] Fm.and (K4 ix n)
abbrev Tc (ix:List Nat->Option Nat)(n:Nat):=Y5 [124,124] Fm.or (uQ ix n)
theorem hQu (ix:List Nat->Option Nat)(n:Nat):lX (uQ ix n):=xY (uO ix n)
theorem Td {op:List Nat}{mk:Fm->Fm->Fm}{opt:List (List Nat)->Option (Fm×Bool×List (List Nat))}{ts Jx:List (List Nat)}{a:Fm}{u:Bool}(h:opt ts=some (a,u,Jx)):Y5 op mk opt ts=YN op mk opt (Jx.length+1) a u Jx:=by
 unfold Y5;rw[h]
def Hu (nm:List (List Nat))(ix:List Nat->Option Nat)(n:Nat):Prop:=∀(t:Fm)(rest:List (List Nat)),VarsIn nm.length t->(Yf (decide (Z3 t<2)) (JB nm t)).length<=n->K4 ix n (Yf (decide (Z3 t<2)) (JB nm t)++rest)=some (t,false,rest)
theorem Te {nm:List (List Nat)}{ix:List Nat->Option Nat}{n:Nat}(F:Hu nm ix n):∀(t:Fm)(rest:List (List Nat)),VarsIn nm.length t->(Yf (decide (Z3 t<1)) (JB nm t)).length<=n->
  uQ ix n (Yf (decide (Z3 t<1)) (JB nm t)++rest)=YN [38,38] .and (K4 ix n) (rest.length+1) t false rest:=by
 intro t;have base:∀t,decide (Z3 t<1)=decide (Z3 t<2)->∀rest,VarsIn nm.length t->(Yf (decide (Z3 t<1)) (JB nm t)).length<=n->uQ ix n (Yf (decide (Z3 t<1)) (JB nm t)++rest)=YN [38,38] .and (K4 ix n) (rest.length+1) t false rest:=by
  intro t e rest hv hl;rw[e] at hl ⊢;exact Td (F t rest hv hl)
 induction t with
 | c b=>exact base _ rfl
 | v k=>exact base _ rfl
 | not a _=>exact base _ rfl
 | or a b _ _=>exact base _ rfl
 | and a b iha _=>
  intro rest hv hl;have e:Yf (decide (Z3 (.and a b)<1)) (JB nm (.and a b))=Yf (decide (Z3 a<1)) (JB nm a)++ [38,38]::Yf (decide (Z3 b<2)) (JB nm b):=rfl;rw[e,Qq,Q2] at hl;rw[e,ZG,Jo,iha _ hv.1 (by omega)];have hf:=F b rest hv.2 (by omega);exact Ta (uO ix n) (m:=1) hf
theorem Tf {nm:List (List Nat)}{ix:List Nat->Option Nat}{n:Nat}(F:Hu nm ix n):∀(t:Fm)(rest:List (List Nat)),VarsIn nm.length t->(JB nm t).length<=n->rest.head? ≠some [38,38]->
  Tc ix n (JB nm t++rest)=YN [124,124] .or (uQ ix n) (rest.length+1) t false rest:=by
 intro t;have base:∀t,decide (Z3 t<1)=false->∀rest,VarsIn nm.length t->(JB nm t).length<=n->rest.head? ≠some [38,38]->Tc ix n (JB nm t++rest)=YN [124,124] .or (uQ ix n) (rest.length+1) t false rest:=by
  intro t e rest hv hl hs;have:=Te F t rest hv (by rw[e];exact hl);rw[e,Cr hs] at this;exact Td this
 induction t with
 | c b=>exact base _ rfl
 | v k=>exact base _ rfl
 | not a _=>exact base _ rfl
 | and a b _ _=>exact base _ rfl
 | or a b iha _=>
  intro rest hv hl hs;have e:JB nm (.or a b)=JB nm a++ [124,124]::Yf (decide (Z3 b<1)) (JB nm b):=rfl;rw[e,Qq,Q2] at hl;rw[e,ZG,Jo,iha _ hv.1 (by omega) (by simp)];have hf:=Te F b rest hv.2 (by omega);rw[Cr hs] at hf;exact Ta (hQu ix n) (m:=1) hf
theorem Tg {nm:List (List Nat)}{ix:List Nat->Option Nat}(hn:NmOk nm ix):∀n,Hu nm ix n
 | 0=>λt rest hv hl=>by
  have:∀(b:Bool),0<(Yf b (JB nm t)).length:=by
   intro b;have:=hQm nm t;cases b with
   | true=>simp[Yf]
   | false=>exact this
  have:=this (decide (Z3 t<2));omega
 | n+1=>λt rest hv hl=>by
  have F:=Tg hn n;by_cases h2:Z3 t<2
  ·rw[Zx h2] at hl ⊢;have e:Yf true (JB nm t)++rest=[40]::(JB nm t++ [41]::rest):=by simp[Yf]
   have ep:(JB nm t).length<=n:=by simp[Yf] at hl;omega
   rw[e];have ho:=Tf F t ([41]::rest) hv ep (by simp);rw[Cr (by simp)] at ho;unfold K4;have Kt:Y5 [124,124] Fm.or (Y5 [38,38] Fm.and (K4 ix n)) (JB nm t++ [41]::rest)=some (t,false,[41]::rest):=ho;rw[if_neg (by decide),Qf rfl,Kt];simp
  ·rw[Zr h2] at hl ⊢;cases t with
   | c b=>
    show K4 ix (n+1) ((if b then WY else dH)::rest)=_;rw[Tb (by cases b;exact S8;exact S5),hQr]
   | v k=>
    show K4 ix (n+1) (nm[k]?.getD []::rest)=_;rw[Tb (Ht (hn.word k hv)).1,hQs hn hv]
   | not a=>
    have ep:(Yf (decide (Z3 a<2)) (JB nm a)).length<=n:=by
     have:(Yf false (JB nm (.not a))).length=(Yf (decide (Z3 a<2)) (JB nm a)).length+1:=rfl;omega
    show K4 ix (n+1) ([33]::(Yf (decide (Z3 a<2)) (JB nm a)++rest))=_;unfold K4;rw[Qf rfl,F a rest hv ep]
   | and a b=>exact Xc (show Z3 (.and a b)<2 by simp[Z3]) h2
   | or a b=>exact Xc (show Z3 (.or a b)<2 by simp[Z3]) h2
theorem hQv {nm:List (List Nat)}{ix:List Nat->Option Nat}(hn:NmOk nm ix)(t:Fm)(hv:VarsIn nm.length t){n:Nat}(hl:(JB nm t).length<=n):uN ix n (JB nm t)=some (t,false,[]):=by
 have:=Tf (Tg hn n) t [] hv hl (by simp);rw[KE,Cr (by simp)] at this;exact this
theorem Cs:∀(n:Nat)(l:List Nat),(Yv n l).1.length<=l.length
 | 0,l=>Xo _
 | n+1,[]=>Xo _
 | n+1,b::l=>by
  have i1:=Cs n l;have i2:=Cs n l.tail;rw[Bs] at i2;simp only[Yv,Q2];split
  ·omega
  ·split
   ·simp only[Q2];omega
   ·split
    ·rename_i h;cases l with
     | nil=>simp at h
     | cons y l=>simp only[Q2] at i2 ⊢;omega
    ·split
     ·rename_i h;have i3:=Cs n (l.dropWhile Zi);have:=Cl Zi l;rw[Ck h];simp only[Q2];omega
     ·simp
theorem hQw {nm:List (List Nat)}(hn:Z1 nm=true)(hi:NmOk nm (Jq nm))(t:Fm)(hv:VarsIn nm.length t)(hs:QK t<=512):eP nm (Z4 nm 0 t)=(Zd t 0,0):=by
 rw[S4];unfold Cq;have hl:=hQq hi t hv;have ZF:(JB nm t).length<=(Z4 nm 0 t).length+1:=by
  have:=Cs (Z4 nm 0 t).length (Z4 nm 0 t);have e:Yv (Z4 nm 0 t).length (Z4 nm 0 t)=(JB nm t,true):=hl;rw[e] at this;exact Nat.le_succ_of_le this
 rw[Qf hn,hl];simp only;rw[Qf trivial,hQv hi t hv ZF];simp only;rw[if_neg (c:=([]:List (List Nat))≠ []) (λh=>h rfl),if_neg (by decide),if_neg (by omega)]
end
section
theorem Th (a:ByteArray)(v:Value):∀m:List (ByteArray×Value),a∈m.map Prod.fst->(Zo a v m).map Prod.fst=m.map Prod.fst
 | [],h=>by simp at h
 | (b,u)::m,h=>by
  unfold Zo;by_cases e:a=b
  ·subst e;rw[Qf rfl]<;>rfl
  ·rw[if_neg e,Kw,Th a v m (by simp only[Kw,QY] at h;exact h.resolve_left e)];rfl
theorem Hv (a:ByteArray)(v:Value):∀m:List (ByteArray×Value),a∉m.map Prod.fst->(Zo a v m).map Prod.fst=m.map Prod.fst++ [a]
 | [],_=>rfl
 | (b,u)::m,h=>by
  simp only[Kw,QY,not_or] at h;unfold Zo;rw[if_neg h.1,Kw,Hv a v m h.2]<;>rfl
theorem Ti (a:ByteArray)(v:Value)(m:List (ByteArray×Value))(h:a∈m.map Prod.fst):(Zo a v m).length=m.length:=by
 have:=QC List.length (Th a v m h);simpa using this
theorem Tj (a:ByteArray)(v:Value)(m:List (ByteArray×Value))(h:a∉m.map Prod.fst):(Zo a v m).length=m.length+1:=by
 have:=QC List.length (Hv a v m h);simpa using this
theorem Tk:∀(l:List (List Nat))(i:Nat)(m:List (ByteArray×Value)),(Y3 l i m).length<=m.length+l.length
 | [],_,m=>QB _
 | s::l,i,m=>by
  have:=Tk l (i+1) (Zo (Qd s) (.int .i64 (i:Nat)) m);simp only[Y3,Q2];by_cases h:Qd s∈m.map Prod.fst
  ·have:=Ti _ (.int .i64 (i:Nat)) m h;omega
  ·have:=Tj _ (.int .i64 (i:Nat)) m h;omega
theorem Tl:∀(l:List (List Nat))(i:Nat)(m:List (ByteArray×Value)),(∀s∈l,∀x∈s,x<256)->((Y3 l i m).length=m.length+l.length↔l.Nodup/\∀s∈l,Qd s∉m.map Prod.fst)
 | [],_,m,_=>by simp[Y3]
 | s::l,i,m,hb=>by
  have hs:=hb s (by simp);have ih:=Tl l (i+1) (Zo (Qd s) (.int .i64 (i:Nat)) m) (λt ht=>hb t (by simp[ht]));have ZF:=Tk l (i+1) (Zo (Qd s) (.int .i64 (i:Nat)) m);simp only[Y3,Q2];by_cases h:Qd s∈m.map Prod.fst
  ·have hl:=Ti _ (.int .i64 (i:Nat)) m h;constructor
   ·intro e;omega
   ·intro e;exact Xc h (e.2 s (by simp))
  ·have hl:=Tj _ (.int .i64 (i:Nat)) m h;have hk:=Hv _ (.int .i64 (i:Nat)) m h;rw[show m.length+(l.length+1)=(Zo (Qd s) (.int .i64 (i:Nat)) m).length+l.length by omega,ih,hk];simp only[Bt,XP,not_or,QY];constructor
   ·rintro⟨h1,h2⟩;refine⟨⟨λhm=>(h2 s hm).2.1 rfl,h1⟩,λt ht=>?_⟩;rcases ht with rfl | ht
    ·exact h
    ·exact(h2 t ht).1
   ·rintro⟨⟨h1,h2⟩,h3⟩;refine⟨h2,λt ht=>⟨h3 t (.inr ht),λe=>?_,by simp⟩⟩;have:=Kn (hb t (by simp[ht])) hs e;subst this;exact h1 ht
theorem Tm {names:List (List Nat)}(hb:KO names):Z1 names=true↔names.all aW=true/\names.Nodup/\names.length<=64:=by
 have:=Tl names 0 [] (λs hs=>(hb s hs).1);simp only[Jp,WQ,Bn,JM,not_false_eq_true,implies_true,and_true] at this;unfold Z1;rw[VX,this]
theorem Tn (l:List Nat):∀(names:List (List Nat))(i:Nat)(QW:Option Nat),l∉names->eO l names i QW=QW
 | [],_,_,_=>rfl
 | s::names,i,QW,h=>by
  simp only[QY,not_or] at h;rw[eO,if_neg (λe=>h.1 e.symm),Tn l names (i+1) QW h.2]
theorem To:∀(names:List (List Nat))(k i:Nat)(QW:Option Nat)(l:List Nat),names.Nodup->names[k]? =some l->eO l names i QW=some (i+k)
 | [],k,i,QW,l,_,h=>by simp at h
 | s::names,0,i,QW,l,hn,h=>by
  simp at h;subst h;rw[eO,Qf rfl,Tn _ _ _ _ (Bt.1 hn).1]<;>rfl
 | s::names,k+1,i,QW,l,hn,h=>by
  have h':names[k]? =some l:=by simpa using h
  rw[eO,To names k (i+1) _ l (Bt.1 hn).2 h'];congr 1;omega
theorem hQx {names:List (List Nat)}(hb:KO names)(h:Z1 names=true):NmOk names (Jq names):=by
 obtain⟨h1,h2,h3⟩:=(Tm hb).1 h;refine⟨λk hk=>?_,λk hk=>?_⟩
 ·rw[Xu hk];exact Ka.1 h1 _ (PP hk)
 ·rw[Xu hk];have:=To names k 0 none names[k] h2 (Xu hk);rw[WQ] at this;exact this
theorem uR:∀(t:Fm)(pre ag:List Fz),RepF (pre++Zd t pre.length++ag) t (pre.length+QK t-1)
 | .c b,pre,ag=>by
  show(pre++ [_]++ag)[pre.length+1-1]? =_;simp
 | .v n,pre,ag=>by
  show(pre++ [_]++ag)[pre.length+1-1]? =_;simp
 | .not a,pre,ag=>by
  have pa:=YO a;refine⟨pre.length+QK a-1,by simp only[QK];omega,?_,?_⟩
  ·simp only[QK,Zd];rw[ZG,aS (by omega),ZG,aS (by rw[Kd];omega),Kd,show pre.length+(QK a+1)-1-pre.length-QK a=0 by omega];rfl
  ·have:=uR a pre ([⟨3,0,((pre.length+QK a-1:Nat):Int),0⟩]++ag);simpa [Zd] using this
 | .and a b,pre,ag=>by
  have pa:=YO a;have pb:=YO b;refine⟨pre.length+QK a-1,pre.length+QK a+QK b-1,by simp only[QK];omega,by simp only[QK];omega,?_,?_,?_⟩
  ·simp only[QK,Zd];rw[ZG,aS (by omega),ZG,aS (by rw[Qq,Kd,Kd];omega),Qq,Kd,Kd,show pre.length+(QK a+QK b+1)-1-pre.length-(QK a+QK b)=0 by omega];rfl
  ·have:=uR a pre (Zd b (pre.length+QK a)++ [⟨4,0,((pre.length+QK a-1:Nat):Int),((pre.length+QK a+QK b-1:Nat):Int)⟩]++ag);simpa [Zd] using this
  ·have:=uR b (pre++Zd a pre.length) ([⟨4,0,((pre.length+QK a-1:Nat):Int),((pre.length+QK a+QK b-1:Nat):Int)⟩]++ag);rw[Qq,Kd] at this;simpa [Zd] using this
 | .or a b,pre,ag=>by
  have pa:=YO a;have pb:=YO b;refine⟨pre.length+QK a-1,pre.length+QK a+QK b-1,by simp only[QK];omega,by simp only[QK];omega,?_,?_,?_⟩
  ·simp only[QK,Zd];rw[ZG,aS (by omega),ZG,aS (by rw[Qq,Kd,Kd];omega),Qq,Kd,Kd,show pre.length+(QK a+QK b+1)-1-pre.length-(QK a+QK b)=0 by omega];rfl
  ·have:=uR a pre (Zd b (pre.length+QK a)++ [⟨5,0,((pre.length+QK a-1:Nat):Int),((pre.length+QK a+QK b-1:Nat):Int)⟩]++ag);simpa [Zd] using this
  ·have:=uR b (pre++Zd a pre.length) ([⟨5,0,((pre.length+QK a-1:Nat):Int),((pre.length+QK a+QK b-1:Nat):Int)⟩]++ag);rw[Qq,Kd] at this;simpa [Zd] using this
theorem Hw (t:Fm):gW (Zd t 0)=t:=by
 refine G8 ?_;have:=uR t [] [];rw[Kd];simpa using this
theorem rD {α:Type}{l m:List α}{i:Nat}{x:α}(h:(l++m)[i]? =some x):(i<l.length/\l[i]? =some x)∨(l.length<=i/\m[i-l.length]? =some x):=by
 by_cases hi:i<l.length
 ·rw[gI hi] at h;exact .inl ⟨hi,h⟩
 ·rw[aS (by omega)] at h;exact .inr ⟨by omega,h⟩
theorem lY {α:Type}{y x:α}{i:Nat}(h: [y][i]? =some x):i=0/\x=y:=by
 cases i with
 | zero=>simp at h;exact⟨rfl,h.symm⟩
 | succ i=>simp at h
theorem hQy {j i:Nat}(h:j<i):VJ ⟨3,0,(j:Nat),0⟩ i:=by
 refine⟨show 0<=Zw 3 by decide,rfl,?_,rfl⟩;show if 0<Zw 3 then _ else _
 rw[Qf (by decide)];simp only;omega
theorem hQz {j k i:Nat}(h:j<i)(h':k<i):VJ ⟨4,0,(j:Nat),(k:Nat)⟩ i:=by
 refine⟨show 0<=Zw 4 by decide,rfl,?_,?_⟩
 ·show if 0<Zw 4 then _ else _
  rw[Qf (by decide)];simp only;omega
 ·show if 1<Zw 4 then _ else _
  rw[Qf (by decide)];simp only;omega
theorem hQA {j k i:Nat}(h:j<i)(h':k<i):VJ ⟨5,0,(j:Nat),(k:Nat)⟩ i:=by
 refine⟨show 0<=Zw 5 by decide,rfl,?_,?_⟩
 ·show if 0<Zw 5 then _ else _
  rw[Qf (by decide)];simp only;omega
 ·show if 1<Zw 5 then _ else _
  rw[Qf (by decide)];simp only;omega
theorem uS:∀(t:Fm)(k i:Nat)(x:Fz),VarsIn 64 t->(Zd t k)[i]? =some x->VJ x (k+i)
 | .c b,k,i,x,_,h=>by
  obtain⟨rfl,rfl⟩:=lY h;cases b<;>exact⟨by decide,rfl,rfl,rfl⟩
 | .v n,k,i,x,hv,h=>by
  obtain⟨rfl,rfl⟩:=lY h;refine⟨show 0<=Zw 2 by decide,?_,rfl,rfl⟩;have:n<64:=hv;rw[Qf rfl];simp only;omega
 | .not a,k,i,x,hv,h=>by
  have pa:=YO a;rcases rD h with⟨hi,h⟩ | ⟨hi,h⟩
  ·exact uS a k i x hv h
  ·rw[Kd] at hi h;obtain⟨e,rfl⟩:=lY h;exact hQy (by omega)
 | .and a b,k,i,x,hv,h=>by
  have pa:=YO a;have pb:=YO b;rcases rD h with⟨hi,h⟩ | ⟨hi,h⟩
  ·rcases rD h with⟨hi,h⟩ | ⟨hi,h⟩
   ·exact uS a k i x hv.1 h
   ·rw[Kd] at hi h;have:=uS b (k+QK a) (i-QK a) x hv.2 h
    rwa [show k+QK a+(i-QK a)=k+i by omega] at this
  ·rw[Qq,Kd,Kd] at hi h;obtain⟨e,rfl⟩:=lY h;exact hQz (by omega) (by omega)
 | .or a b,k,i,x,hv,h=>by
  have pa:=YO a;have pb:=YO b;rcases rD h with⟨hi,h⟩ | ⟨hi,h⟩
  ·rcases rD h with⟨hi,h⟩ | ⟨hi,h⟩
   ·exact uS a k i x hv.1 h
   ·rw[Kd] at hi h;have:=uS b (k+QK a) (i-QK a) x hv.2 h
    rwa [show k+QK a+(i-QK a)=k+i by omega] at this
  ·rw[Qq,Kd,Kd] at hi h;obtain⟨e,rfl⟩:=lY h;exact hQA (by omega) (by omega)
theorem xZ (l m:List Fz):J1 (l++m)=J1 l++J1 m:=by simp[J1]
theorem hQB (j:Nat):J1 [⟨3,0,(j:Nat),0⟩]=[j]:=by
 show Y4 _++ []=_;unfold Y4;rw[show Zw (Fz.o ⟨3,0,(j:Nat),0⟩)=1 from rfl];simp
theorem hQC (j k:Nat):J1 [⟨4,0,(j:Nat),(k:Nat)⟩]=[j,k]:=by
 show Y4 _++ []=_;unfold Y4;rw[show Zw (Fz.o ⟨4,0,(j:Nat),(k:Nat)⟩)=2 from rfl];simp
theorem hQD (j k:Nat):J1 [⟨5,0,(j:Nat),(k:Nat)⟩]=[j,k]:=by
 show Y4 _++ []=_;unfold Y4;rw[show Zw (Fz.o ⟨5,0,(j:Nat),(k:Nat)⟩)=2 from rfl];simp
theorem uT:∀(t:Fm)(k j:Nat),(J1 (Zd t k)).count j=if k<=j/\j+1<k+QK t then 1 else 0
 | .c b,k,j=>by
  rw[if_neg (by simp only[QK];omega)];cases b<;>rfl
 | .v n,k,j=>by
  rw[if_neg (by simp only[QK];omega)];rfl
 | .not a,k,j=>by
  have pa:=YO a;show _=if k<=j/\j+1<k+(QK a+1)then 1 else 0
  simp only[Zd];rw[xZ,qK,hQB,uT a k j,List.count_singleton];simp only[beq_iff_eq];by_cases h1:k<=j/\j+1<k+QK a
  ·rw[Qf h1,if_neg (by omega),Qf (by omega)]
  ·rw[if_neg h1];by_cases h2:k+QK a-1=j
   ·rw[Qf h2,Qf (by omega)]
   ·rw[if_neg h2,if_neg (by omega)]
 | .and a b,k,j=>by
  have pa:=YO a;have pb:=YO b;show _=if k<=j/\j+1<k+(QK a+QK b+1)then 1 else 0
  simp only[Zd];rw[xZ,xZ,qK,qK,hQC,uT a k j,uT b _ j,Bp,List.count_singleton];simp only[beq_iff_eq];by_cases h1:k<=j/\j+1<k+QK a
  ·rw[Qf h1,if_neg (by omega),if_neg (by omega),if_neg (by omega),Qf (by omega)]
  ·rw[if_neg h1];by_cases h2:k+QK a<=j/\j+1<k+QK a+QK b
   ·rw[Qf h2,if_neg (by omega),if_neg (by omega),Qf (by omega)]
   ·rw[if_neg h2];by_cases h3:k+QK a-1=j
    ·rw[if_neg (by omega),Qf h3,Qf (by omega)]
    ·rw[if_neg h3];by_cases h4:k+QK a+QK b-1=j
     ·rw[Qf h4,Qf (by omega)]
     ·rw[if_neg h4,if_neg (by omega)]
 | .or a b,k,j=>by
  have pa:=YO a;have pb:=YO b;show _=if k<=j/\j+1<k+(QK a+QK b+1)then 1 else 0
  simp only[Zd];rw[xZ,xZ,qK,qK,hQD,uT a k j,uT b _ j,Bp,List.count_singleton];simp only[beq_iff_eq];by_cases h1:k<=j/\j+1<k+QK a
  ·rw[Qf h1,if_neg (by omega),if_neg (by omega),if_neg (by omega),Qf (by omega)]
  ·rw[if_neg h1];by_cases h2:k+QK a<=j/\j+1<k+QK a+QK b
   ·rw[Qf h2,if_neg (by omega),if_neg (by omega),Qf (by omega)]
   ·rw[if_neg h2];by_cases h3:k+QK a-1=j
    ·rw[if_neg (by omega),Qf h3,Qf (by omega)]
    ·rw[if_neg h3];by_cases h4:k+QK a+QK b-1=j
     ·rw[Qf h4,Qf (by omega)]
     ·rw[if_neg h4,if_neg (by omega)]
theorem Tp {t:Fm}(hv:VarsIn 64 t)(hs:QK t<=512):FV (Zd t 0):=by
 refine⟨by rw[Kd];exact hs,by rw[Kd];exact YO t,λi x hx=>by have:=uS t 0 i x hv hx;rwa [WQ] at this,λi hi=>?_⟩;rw[uT,Qf];rw[Kd] at hi;omega
instance decVars (n:Nat):∀t:Fm,Decidable (VarsIn n t)
 | .c _=>isTrue trivial
 | .v k=>inferInstanceAs (Decidable (k<n))
 | .not a=>decVars n a
 | .and a b=> @instDecidableAnd _ _ (decVars n a) (decVars n b)
 | .or a b=> @instDecidableAnd _ _ (decVars n a) (decVars n b)
theorem VarsIn.mono {n m:Nat}(h:n<=m):∀{t:Fm},VarsIn n t->VarsIn m t
 | .c _,_=>trivial
 | .v _,hv=>Yq hv h
 | .not a,hv=>VarsIn.mono (t:=a) h hv
 | .and _ _,hv=>⟨VarsIn.mono h hv.1,VarsIn.mono h hv.2⟩
 | .or _ _,hv=>⟨VarsIn.mono h hv.1,VarsIn.mono h hv.2⟩
theorem uU:∀(t:Fm)(n k:Nat),VarsIn n t->oy n (Zd t k)
 | .c b,n,k,_=>λx hx ho=>by
  simp only[Zd,QO] at hx;subst hx;cases b<;>simp at ho
 | .v j,n,k,hv=>λx hx ho=>by
  simp only[Zd,QO] at hx;subst hx;have:j<n:=hv;simp only;omega
 | .not a,n,k,hv=>λx hx ho=>by
  simp only[Zd,XP,QO] at hx;rcases hx with hx | rfl
  ·exact uU a n k hv x hx ho
  ·simp at ho
 | .and a b,n,k,hv=>λx hx ho=>by
  simp only[Zd,XP,QO] at hx;rcases hx with(hx | hx) | rfl
  ·exact uU a n k hv.1 x hx ho
  ·exact uU b n _ hv.2 x hx ho
  ·simp at ho
 | .or a b,n,k,hv=>λx hx ho=>by
  simp only[Zd,XP,QO] at hx;rcases hx with(hx | hx) | rfl
  ·exact uU a n k hv.1 x hx ho
  ·exact uU b n _ hv.2 x hx ho
  ·simp at ho
end
end
noncomputable section
section
def Jl (x:Fz)(f:List Fz):Nat×List Fz:=if f.length<=512 then(f.length,f++ [x])else(f.length-1,f)
def KG (bld:Int->List Fz->Nat×List Fz)(op v:Int)(pos:Bool)(num:Int)(f:List Fz):Nat×List Fz:=
 let p:=Jl ⟨2,v,0,0⟩ f
 let a:=if pos then p else Jl ⟨3,0,(p.1:Nat),0⟩ p.2
 if op=4/\num=1 then a else
  let c:=bld num a.2
  Jl ⟨op,0,(a.1:Nat),(c.1:Nat)⟩ c.2
def ZC (
     nd:List Br):Nat->Int->List Fz->Nat×List Fz
 | 0,_,f=>(0,f)
 | m+1,n,f=>if n<2∨512<f.length then Jl ⟨min n 1,0,0,0⟩ f else
   match nd[(n-2).toNat]? with
   | none=>(0,f)
   | some b=>
    if b.l=0 then KG (ZC nd m) 4 b.v true b.h f else
    if b.h=0 then KG (ZC nd m) 4 b.v false b.l f else
    if b.h=1 then KG (ZC nd m) 5 b.v true b.l f else
    if b.l=1 then KG (ZC nd m) 5 b.v false b.h f else
     let hi:=KG (ZC nd m) 4 b.v true b.h f
     let lo:=KG (ZC nd m) 4 b.v false b.l hi.2
     Jl ⟨5,0,(hi.1:Nat),(lo.1:Nat)⟩ lo.2
structure Cn (w:World) (base x:Nat) (NA:Option Addr) (nn nc:Nat) (nd:List Br) (root:Int) (A:Option Addr) (c:Nat) (f:List Fz):Prop where
 blk:Blk w x 277 [.slice NA nn nc,.int .i64 root,.slice A f.length c]
 own:Own w base 280 4 A f.length c (om f)
 lt:x<base
 top:base<=w.heap.size
 nds:SB w NA nn nc nd
 row:∀ad,NA=some ad->0<nn->ad.block<base/\ad.block≠x
 lim:f.length<=513
def CnTo (w:World)(base x:Nat)(NA:Option Addr)(nn nc:Nat)(nd:List Br)(root:Int)(A:Option Addr)(f:List Fz)(w':World):Prop:=∃A' c',Cn w' base x NA nn nc nd root A' c' f/\Mod (RdS x A) w w'/\Moved w A A'
section
variable {base x:Nat} {NA:Option Addr} {nn nc:Nat} {nd:List Br} {root:Int}
theorem Cn.ext {w w':World}{A:Option Addr}{c:Nat}{f:List Fz}(h:Cn w base x NA nn nc nd root A c f)(k:Ext w w'):Cn w' base x NA nn nc nd root A c f:=
 ⟨h.blk.ext k,h.own.ext k,h.lt,X3 h.top k.size,h.nds.ext k,h.row,h.lim⟩
theorem CnTo.step {w w1 w2:World}{A A1:Option Addr}{f:List Fz}(h:CnTo w1 base x NA nn nc nd root A1 f w2)(hm:Mod (RdS x A) w w1)(hv:Moved w A A1):CnTo w base x NA nn nc nd root A f w2:=by
 obtain⟨A2,c2,h2,XW,Kr⟩:=h;exact⟨A2,c2,h2,RdS.trans hm hv XW,hv.trans Kr hm.size⟩
theorem Cn.keep {w w':World}{A:Option Addr}{c:Nat}{f:List Fz}(h:Cn w base x NA nn nc nd root A c f)(hm:Mod (RdS x A) w w'):SB w' NA nn nc nd:=by
 refine⟨h.nds.1.modS hm ?_,h.nds.2⟩;rintro h0 i ⟨ad,rfl,rfl⟩ hi;obtain⟨r1,r2⟩:=h.row ad rfl h0;rcases hi with hi | hi
 ·exact r2 hi
 ·have:=(h.own.rows _ hi).1;omega
theorem rF (A:Option Addr)(c:Nat)(f:List Fz)(z:Fz)(w:World)(h:Cn w base x NA nn nc nd root A c f):
  Fn Tryz.prog 221 [.pointer (some ⟨x,0,none⟩),.agg z.cells.toArray] w (λv w'=>v= .int .i64 ((Jl z f).1:Nat)/\CnTo w base x NA nn nc nd root A (Jl z f).2 w'):=by
 refine QJ (c:={fQP with cuts:=[]}) Qa Tryz.func221 rfl rfl rfl ?_;refine new (λw1 Qe Q6 Qh=>?_);have h1:=h.ext Qe;have dw:=h.lim;have Yo:=h.own.rows;have Xa:=h.lt;have nz:=h.top;have eo:¬Qk A x:=λhr=>by have:=(Yo x hr).1;omega
 refine Qo h1.blk rfl ?_;refine Qw (λhl=>?_) (λhl=>?_)
 ·have ZF:f.length<=512:=by omega
  have e:Jl z f=(f.length,f++ [z]):=by unfold Jl;rw[Qf ZF]
  rw[e];refine XR Qa (Mod (Qk A) w1) 8 [(true,0),(true,1),(true,2),(true,3),(true,4),(true,5),(false,6),(false,7)] (by kernel_rfl) (Mod.of_ext _ (Ext.drew w1)) ?_;refine QN (v:=.slice A f.length c) (λw' Qb=>by rw[(h1.blk.mod Qb eo).cell];rfl) ?_;have LD:¬Qk A w.heap.size:=λhr=>by have:=(Yo _ hr).2;omega
  refine Xv (vs:=z.cells) rfl (λw' Qb j v hj=>by rw[(Qh.mod Qb LD).cell];exact hj) ?_;refine Xg Qa [z.cells] rfl rfl rfl rfl rfl ⟨rfl,rfl,⟨⟩⟩ rfl (λcs h=>by simp only[QO] at h;subst h;rfl) rfl (by decide) (by decide) ?_;intro w2 Qg Ze Qy;have XB:=(Ext.drew w1).trans Qg;have h2:=h1.ext XB;refine⟨Mod.of_ext _ XB,?_⟩;have mI:Sl w2 4 (some ⟨w1.drew.heap.size,0,none⟩) 1 1 z.cells:=Sl.own (sz:=4) (n:=1) Qy (QB _) (by decide) (by simp[Fz.cells]);refine Je Qa rfl rfl rfl rfl rfl (by decide) rfl rfl ⟨_,rfl⟩ rfl rfl h2.own mI (by intro u hu;simp[Fz.cells] at hu;rcases hu with rfl | rfl | rfl | rfl<;>rfl) (by unfold maxLen;omega) (by show _*32<=_;omega) h2.top ?_;intro A' c' w3 XI ph DB;have KA:Mod (Qk A) w1 w3:=(Mod.of_ext (Qk A) XB).trans XI (λi hi=>.inl hi);refine⟨KA,?_⟩;refine XV (h1.blk.mod KA eo) (by simp) (λw4 Zf QR=>?_);refine Qo QR rfl ?_;have hz:=XB.size;have K6:Mod (RdS x A) w w4:=((Mod.of_ext (RdS x A) Qe).trans KA (λi hi=>.inl (.inr hi))).trans Zf (λi hi=>.inl (.inl hi));refine Qj ((f.length:Nat):Int) (by omega) (by omega) ?_;refine⟨rfl,A',c',⟨?_,?_,Xa,X3 nz K6.size,h.keep K6,h.row,?_⟩,K6,DB.back (X3 Qe.size hz)⟩
  ·show Blk w4 x _ [_,_,.slice A' (f++ [z]).length c'];rw[Qq];exact QR
  ·show Own w4 base _ 4 A' (f++ [z]).length c' (om (f++ [z]));rw[Qq,Sc];exact ph.mod Zf (λk hk e=>by have:=(ph.rows k hk).1;omega)
  ·show(f++ [z]).length<=513;rw[Qq];simp only[Q2,Jp];omega
 ·have ZF:¬f.length<=512:=by omega
  have e:Jl z f=(f.length-1,f):=by unfold Jl;rw[if_neg ZF]
  rw[e];refine Qo h1.blk rfl ?_;refine Qj ((f.length-1:Nat):Int) (by omega) (by omega) ?_;exact⟨rfl,A,c,h1,Mod.of_ext _ Qe,Moved.refl _ _⟩
def Tq (base x:Nat)(NA:Option Addr)(nn nc:Nat)(nd:List Br)(root:Int)(m:Nat):Prop:=∀(n:Int)(f:List Fz)(A:Option Addr)(c:Nat)(w:World),Cn w base x NA nn nc nd root A c f->0<=n->n<m->n<nn+2->
 Fn Tryz.prog 192 [.pointer (some ⟨x,0,none⟩),.int .i64 n] w (λv w'=>v= .int .i64 ((ZC nd m n f).1:Nat)/\CnTo w base x NA nn nc nd root A (ZC nd m n f).2 w')
theorem uV (m:Nat)(H:Tq base x NA nn nc nd root m)(op v:Int)(pos:Bool)(n:Int)(f:List Fz)(A:Option Addr)(c:Nat)(w:World)(h:Cn w base x NA nn nc nd root A c f)(h0:0<=n)(hm:n<m)(hn:n<nn+2):
  Fn Tryz.prog 222 [.pointer (some ⟨x,0,none⟩),.int .i64 op,.int .i64 v,.bool pos,.int .i64 n] w (λu w'=>u= .int .i64 ((KG (ZC nd m) op v pos n f).1:Nat)/\CnTo w base x NA nn nc nd root A (KG (ZC nd m) op v pos n f).2 w'):=by
 refine QJ (c:={fQQ with cuts:=[2]}) Qa Tryz.func222 rfl rfl rfl ?_;refine call (rF A c f ⟨2,v,0,0⟩ w h) ?_;rintro _ w1 ⟨rfl,A1,c1,h1,ZE,mK⟩;refine gR [] Qa [11] (λa:Nat=>[.int .i64 a]) (λa w'=>a=(if pos then Jl ⟨2,v,0,0⟩ f else Jl ⟨3,0,((Jl ⟨2,v,0,0⟩ f).1:Nat),0⟩ (Jl ⟨2,v,0,0⟩ f).2).1/\CnTo w base x NA nn nc nd root A (if pos then Jl ⟨2,v,0,0⟩ f else Jl ⟨3,0,((Jl ⟨2,v,0,0⟩ f).1:Nat),0⟩ (Jl ⟨2,v,0,0⟩ f).2).2 w') ?_ ?_
 ·refine kg (YK (λhp=>?_) (λhp=>?_))
  ·subst hp;exact⟨_,rfl,rfl,A1,c1,h1,ZE,mK⟩
  ·subst hp;refine call (rF A1 c1 _ ⟨3,0,((Jl ⟨2,v,0,0⟩ f).1:Nat),0⟩ w1 h1) ?_;rintro _ w2 ⟨rfl,h2⟩;exact⟨_,rfl,rfl,h2.step ZE mK⟩
 rintro a w2 ⟨ha,A2,c2,h2,XW,Kr⟩;unfold KG;generalize hq:(if pos then Jl ⟨2,v,0,0⟩ f else Jl ⟨3,0,((Jl ⟨2,v,0,0⟩ f).1:Nat),0⟩ (Jl ⟨2,v,0,0⟩ f).2)=q at*;subst ha;simp only[hq];by_cases Ax:op=4/\n=1
 ·rw[Qf Ax];refine J0 Ax.1 ?_;refine J0 Ax.2 ?_;exact⟨rfl,A2,c2,h2,XW,Kr⟩
 ·rw[if_neg Ax];by_cases h4:op=4
  ·refine J0 h4 ?_;refine XK (λh1=>Ax ⟨h4,h1⟩) ?_;refine call (H n q.2 A2 c2 w2 h2 h0 hm hn) ?_;rintro _ w3 ⟨rfl,A3,c3,h3,XI,bt⟩;refine call (rF A3 c3 _ ⟨op,0,(q.1:Nat),((ZC nd m n q.2).1:Nat)⟩ w3 h3) ?_;rintro _ w4 ⟨rfl,h4⟩;exact⟨rfl,(h4.step XI bt).step XW Kr⟩
  ·refine XK h4 ?_;refine call (H n q.2 A2 c2 w2 h2 h0 hm hn) ?_;rintro _ w3 ⟨rfl,A3,c3,h3,XI,bt⟩;refine call (rF A3 c3 _ ⟨op,0,(q.1:Nat),((ZC nd m n q.2).1:Nat)⟩ w3 h3) ?_;rintro _ w4 ⟨rfl,h4⟩;exact⟨rfl,(h4.step XI bt).step XW Kr⟩
theorem Ts (VC:aY nd):∀m,Tq base x NA nn nc nd root m
 | 0=>λn f A c w _ h0 hm _=>by omega
 | m+1=>λn f A c w h h0 hm hn=>by
  have ih:=Ts VC m;have dw:=h.lim;have KC:nd.length=nn:=h.nds.2;refine QJ (c:={fQy with cuts:=[]}) Qa Tryz.func192 rfl rfl rfl ?_;by_cases h1:n<2
  ·have e:ZC nd (m+1) n f=Jl ⟨min n 1,0,0,0⟩ f:=by rw[ZC,Qf (.inl h1)]
   rw[e];refine Zy h1 ?_;refine norm (m:=min n 1) (by rw[Jk];split<;>split<;>omega) ?_;refine call (rF A c f ⟨min n 1,0,0,0⟩ w h) ?_;rintro _ w1 ⟨rfl,h1⟩;exact⟨rfl,h1⟩
  refine XJ h1 ?_;refine Qo h.blk rfl ?_;by_cases h2:512<f.length
  ·have e:ZC nd (m+1) n f=Jl ⟨min n 1,0,0,0⟩ f:=by rw[ZC,Qf (.inr h2)]
   rw[e];refine Zy (by omega) ?_;refine norm (m:=min n 1) (by rw[Jk];split<;>split<;>omega) ?_;refine call (rF A c f ⟨min n 1,0,0,0⟩ w h) ?_;rintro _ w1 ⟨rfl,h1⟩;exact⟨rfl,h1⟩
  refine XJ (by omega) ?_;have hj:(n-2).toNat<nd.length:=by omega
  have hx:=Xu hj;generalize nd[(n-2).toNat]=y at hx;obtain⟨x1,x2,x3,x4⟩:=VC _ _ hx;have e:ZC nd (m+1) n f=(if y.l=0 then KG (ZC nd m) 4 y.v true y.h f else
    if y.h=0 then KG (ZC nd m) 4 y.v false y.l f else
    if y.h=1 then KG (ZC nd m) 5 y.v true y.l f else
    if y.l=1 then KG (ZC nd m) 5 y.v false y.h f else
     Jl ⟨5,0,((KG (ZC nd m) 4 y.v true y.h f).1:Nat),((KG (ZC nd m) 4 y.v false y.l (KG (ZC nd m) 4 y.v true y.h f).2).1:Nat)⟩ (KG (ZC nd m) 4 y.v false y.l (KG (ZC nd m) 4 y.v true y.h f).2).2):=by
   rw[ZC,if_neg (by omega),hx]
  rw[e];refine Qz h.blk rfl ?_;refine Qj (((n-2).toNat:Nat):Int) (by omega) (by have:=h.nds.1.le;have:=h.nds.1.cap;simp only[maxLen] at this;omega) ?_;refine Zt W3 h.nds rfl (by omega) (λad z hy cA=>?_);have jM:z=y:=Option.some.inj (hy.symm.trans hx);subst jM;refine Jz (vs:=z.cells) rfl cA ?_;refine new (λw1 Qe Q6 Qh=>?_);refine Qv Qh rfl (sc rfl) (λw2 de Ze KS=>?_);have Qg:Ext w w2:=XT Qe Qh de;have px:Mod (RdS x A) w w2:=Mod.of_ext _ Qg;have JP:=h.ext Qg;have jP:¬RdS x A w.heap.size:=λe=>by
   have:=h.blk.lt;rcases e with e | e
   ·omega
   ·have:=(h.own.rows _ e).2;omega
  refine Qo KS rfl ?_;refine X8 (λc1=>?_) (λc1=>?_)
  ·rw[Qf c1];refine Qz KS rfl ?_;refine Qo KS rfl ?_;refine call (uV m ih 4 z.v true z.h f A c w2 JP x3 (by omega) (by omega)) ?_;rintro _ w3 ⟨rfl,h3⟩;exact⟨rfl,h3.step px (Moved.refl _ _)⟩
  rw[if_neg c1];refine Qo KS rfl ?_;refine X8 (λc2=>?_) (λc2=>?_)
  ·rw[Qf c2];refine Qz KS rfl ?_;refine Qo KS rfl ?_;refine call (uV m ih 4 z.v false z.l f A c w2 JP x1 (by omega) (by omega)) ?_;rintro _ w3 ⟨rfl,h3⟩;exact⟨rfl,h3.step px (Moved.refl _ _)⟩
  rw[if_neg c2];refine Qo KS rfl ?_;refine X8 (λc3=>?_) (λc3=>?_)
  ·rw[Qf c3];refine Qz KS rfl ?_;refine Qo KS rfl ?_;refine call (uV m ih 5 z.v true z.l f A c w2 JP x1 (by omega) (by omega)) ?_;rintro _ w3 ⟨rfl,h3⟩;exact⟨rfl,h3.step px (Moved.refl _ _)⟩
  rw[if_neg c3];refine Qo KS rfl ?_;refine X8 (λc4=>?_) (λc4=>?_)
  ·rw[Qf c4];refine Qz KS rfl ?_;refine Qo KS rfl ?_;refine call (uV m ih 5 z.v false z.h f A c w2 JP x3 (by omega) (by omega)) ?_;rintro _ w3 ⟨rfl,h3⟩;exact⟨rfl,h3.step px (Moved.refl _ _)⟩
  rw[if_neg c4];refine Qz KS rfl ?_;refine Qo KS rfl ?_;refine call (uV m ih 4 z.v true z.h f A c w2 JP x3 (by omega) (by omega)) ?_;rintro _ w3 ⟨rfl,A3,c3,h3,XI,bt⟩;have VR:=KS.mod XI jP;refine Qz VR rfl ?_;refine Qo VR rfl ?_;refine call (uV m ih 4 z.v false z.l _ A3 c3 w3 h3 x1 (by omega) (by omega)) ?_;rintro _ w4 ⟨rfl,A4,c4,h4,Zf,pj⟩;refine call (rF A4 c4 _ ⟨5,0,((KG (ZC nd m) 4 z.v true z.h f).1:Nat),((KG (ZC nd m) 4 z.v false z.l (KG (ZC nd m) 4 z.v true z.h f).2).1:Nat)⟩ w4 h4) ?_;rintro _ w5 ⟨rfl,h5⟩;exact⟨rfl,(((h5.step Zf pj).step XI bt)).step px (Moved.refl _ _)⟩
end
end
section
def a8 (nd:List Br)(root:Int):List Fz×Int:=if XC nd root=0 then(if 512<(ZC nd (root.toNat+1) root []).2.length then([],2)else((ZC nd (root.toNat+1) root []).2,0))else([],XC nd root)
def uW (names:List (List Nat))(nd:List Br)(root:Int):List Nat×Int:=if Z1 names then(if(a8 nd root).2=0 then lL names (a8 nd root).1 else([],(a8 nd root).2))else([],1)
theorem of_fn (A:Option Addr)(n c:Nat)(nd:List Br)(root:Int)(w:World)(h:SB w A n c nd):
  Fn Tryz.prog 133 [Xm A n c root] w (G7 w (a8 nd root)):=by
 have QZ:=h.2;refine QJ (c:={eQW with cuts:=[]}) Qa Tryz.func133 rfl rfl rfl ?_;refine new (λw1 Qe Q6 Qh=>?_);refine Qt Qh rfl ?_;refine call (uG A n c nd root w1 (h.ext Qe)) ?_;rintro v w2 ⟨rfl,Qg⟩;have QT:=Qe.trans Qg;have Qy:=Qh.ext Qg;refine WW (λc1=>?_) (λc1=>?_)
 ·refine⟨none,0,0,?_,QT,?_⟩
  ·unfold a8;rw[if_neg c1]
  ·unfold a8;rw[if_neg c1];exact SlS.nil _
 obtain⟨Wf,hv⟩:=fL.1 c1;have VC:=hv.wf;refine Qt Qy rfl ?_;refine new (λw3 Qi Jr Qu=>?_);have QU:=QT.trans Qi;have mQX:=Qg.size;have hC:Cn w3 w3.heap.size w2.heap.size A n c nd root none 0 []:=⟨Qu,Own.nil _ _ _ _,by omega,QB _,h.ext QU,λad e hn=>by
  have h1:=SB.lt (h.ext QT) ad e hn;exact⟨by omega,by omega⟩,by simp⟩
 refine Qo (Qy.ext Qi) rfl ?_;have r0:=hv.2.1;have r1:=hv.2.2.1;refine call (Ts VC (root.toNat+1) root [] none 0 w3 hC r0 (by omega) (by omega)) ?_;rintro v w4 ⟨rfl,A4,c4,L4,Zf,pj⟩;have Qs:Ext w w4:=Zf.ext QU (λi hi=>by
  rcases hi with rfl | ⟨_,e,_⟩
  ·have:=QT.size;omega
  ·cases e)
 refine Qo L4.blk rfl ?_;refine Qw (λc2=>?_) (λc2=>?_)
 ·have e:a8 nd root=([],2):=by unfold a8;rw[Qf c1,Qf (by omega)]
  rw[e];exact⟨none,0,0,rfl,Qs,SlS.nil _⟩
 ·have e:a8 nd root=((ZC nd (root.toNat+1) root []).2,0):=by unfold a8;rw[Qf c1,if_neg (by omega)]
  rw[e];refine Qo L4.blk rfl ?_;exact⟨A4,_,c4,rfl,Qs,L4.own.sl,rfl⟩
theorem hQE (names:List (List Nat))(A NA:Option Addr)(n c nn nc:Nat)(nd:List Br)(root:Int)(w:World)(h:Sl w 1 A n c (XH names))(hb:KO names)(hN:SB w NA nn nc nd)
  (hl:(Z4 names 0 (gW (a8 nd root).1)).length<=140737488355328):
  Fn Tryz.prog 86 [.slice A n c,Xm NA nn nc root] w (Sz w (uW names nd root)):=by
 refine QJ (c:={c86 with cuts:=[]}) Qa Tryz.func86 rfl rfl rfl ?_;refine new (λw1 Qe Q6 Qh=>?_);refine call (GX names A n c w1 (h.ext Qe) hb) ?_;rintro v w2 ⟨v1,rfl,Qg,_⟩;have QT:=Qe.trans Qg;cases X5:Z1 names with
 | false=>
  refine Xd rfl ?_;exact⟨by unfold uW;rw[X5];rfl,QT⟩
 | true=>
  refine Q9 rfl ?_;refine Qt (Qh.ext Qg) rfl ?_;refine call (of_fn NA nn nc nd root w2 (hN.ext QT)) ?_;rintro v w3 ⟨F,m,cF,rfl,Qi,hF⟩;have QU:=QT.trans Qi;have e:uW names nd root=if(a8 nd root).2=0 then lL names (a8 nd root).1 else([],(a8 nd root).2):=by unfold uW;rw[Qf X5]
  refine WW (λc1=>?_) (λc1=>?_)
  ·exact⟨by rw[e,if_neg c1];rfl,QU⟩
  ·refine call (gQM names A F n c m cF _ w3 (h.ext QU) hb hF (λ_ _=>hl)) ?_;rintro v w4 ⟨rfl,Qs⟩;exact⟨by rw[e,Qf c1],QU.trans Qs⟩
end
end
end Go.Proofs.YtjabbbcdgmlojaaGreatDoor
