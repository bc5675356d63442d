/-
  What PPatchWeaves rests on, part 2 (wip/shake.py).
  Conditions: none.
-/
import Derived.Test.YtjabbbcdgmlojaaGreatDoorQPPatchWeavesa
set_option linter.all false
set_option linter.deprecated false
namespace Go.Proofs.YtjabbbcdgmlojaaGreatDoor
section
section
open Go Go.RowKit
theorem aQw {C:World->Prop}{p:Addr}{n:Nat}{vs:List Value}{K:List Value->Prop}(hl:vs.length=n)(h:∀w,C w->∀j v,vs[j]? =some v->w.cell? (p.add j)=some v)(k:K vs):iQv C p n K:=by unfold iQv;exact⟨vs,hl,h,k⟩
def fzV (f:List Fz):List Value:=f.flatMap Fz.cells
theorem nQm (f:List Fz)(x:Fz):fzV (f++ [x])=fzV f++x.cells:=by simp[fzV]
structure Rd (w:World) (base r:Nat) (A:Option Addr) (c:Nat) (mp:Value) (p:Ps):Prop where
 blk:Blk w r 222 [mp,.string (aQh p.r),.slice A p.f.length c,.bool p.u]
 own:Own w base 280 4 A p.f.length c (fzV p.f)
 lt:r<base
 top:base<=w.heap.size
 b8:∀x∈p.r,x<256
 lim:p.f.length+p.r.length<=1000000000000
theorem Rd.ext {w w':World}{base r:Nat}{A:Option Addr}{c:Nat}{mp:Value}{p:Ps}(h:Rd w base r A c mp p)(k:Ext w w'):Rd w' base r A c mp p:=
 ⟨h.blk.ext k,h.own.ext k,h.lt,Nat.le_trans h.top k.size,h.b8,h.lim⟩
def RdS (r:Nat)(A:Option Addr):Nat->Prop:=fun k=>k=r∨aQx A k
def RdTo (w:World)(base r:Nat)(A:Option Addr)(mp:Value)(p:Ps)(w':World):Prop:=∃A' c',Rd w' base r A' c' mp p/\Mod (RdS r A) w w'/\Moved w A A'
theorem RdTo.step {w w1 w2:World}{base r:Nat}{A A1:Option Addr}{mp:Value}{p:Ps}(h:RdTo w1 base r A1 mp p w2)(hm:Mod (RdS r A) w w1)(hv:Moved w A A1):RdTo w base r A mp p w2:=by
 obtain⟨A2,c2,h2,hm2,hv2⟩:=h;refine⟨A2,c2,h2,hm.trans hm2 (fun i hi=>?_),hv.trans hv2 hm.size⟩;rcases hi with rfl | hi
 ·exact .inl (.inl rfl)
 ·rcases hv.rows i hi with h | h
  ·exact .inl (.inr h)
  ·exact .inr h
theorem Rd.nrow {w:World}{base r:Nat}{A:Option Addr}{c:Nat}{mp:Value}{p:Ps}(h:Rd w base r A c mp p):¬aQx A r:=fun hr=>by
 have:=(h.own.rows r hr).1;have:=h.lt;omega
theorem dQF (l:List Nat):(bQj l).length<=l.length:=(List.dropWhile_suffix _).sublist.length_le
theorem rQ7 {l:List Nat}(h:∀x∈l,x<256):∀x∈bQj l,x<256:=fun x hx=>h x ((List.dropWhile_suffix _).subset hx)
theorem fQw (sym:List Nat)(p:Ps):bQ7 sym p=(sym.isPrefixOf (bQj p.r),{p with r:=if sym.isPrefixOf (bQj p.r)then(bQj p.r).drop sym.length else bQj p.r}):=by
 unfold bQ7;cases sym.isPrefixOf (bQj p.r)<;>rfl
theorem gQc (base r:Nat)(A:Option Addr)(c:Nat)(mp:Value)(p:Ps)(sym:List Nat)(w:World)(h:Rd w base r A c mp p)(hs:∀x∈sym,x<256):
  Fn Tryz.prog 142 [.pointer (some ⟨r,0,none⟩),.string (aQh sym)] w (fun v w'=>v= .bool (bQ7 sym p).1/\Rd w' base r A c mp (bQ7 sym p).2/\Mod (·=r) w w'):=by
 have hl:=h.lim;have htl:=dQF p.r;have ht8:=rQ7 h.b8;refine aQf (c:=yQt) aQb Tryz.func142 rfl rfl rfl ?_;refine aQe h.blk rfl ?_;refine call (mQf p.r w h.b8 (by omega)) ?_;rintro v w1 ⟨rfl,hE1⟩;refine aQn (h.blk.ext hE1) (by simp) (fun w2 hm2 hB2=>?_);refine aQe hB2 rfl ?_;refine call (kQP (bQj p.r) sym w2 ht8 hs) ?_;rintro v w3 ⟨rfl,rfl⟩;have hM:∀w3,Mod (·=r) w2 w3->Mod (·=r) w w3:=fun w3 hm3=>((Mod.of_ext (·=r) hE1).trans hm2 (fun i hi=>.inl hi)).trans hm3 (fun i hi=>.inl hi)
 rw[fQw];unfold vQ1;cases hp:sym.isPrefixOf (bQj p.r)with
 | true=>
  refine aQn hB2 (by simp) (fun w3 hm3 hB3=>?_);have hmm:=hM w3 hm3;have hlen:((bQj p.r).drop sym.length).length<=p.r.length:=by rw[List.length_drop];omega
  exact⟨rfl,⟨hB3,h.own.mod hmm (fun i hi e=>by subst e;exact h.nrow hi),h.lt,Nat.le_trans h.top hmm.size,fun x hx=>ht8 x (List.mem_of_mem_drop hx),by show p.f.length+((bQj p.r).drop sym.length).length<=_;omega⟩,hmm⟩
 | false=>
  refine aQn hB2 (by simp) (fun w3 hm3 hB3=>?_);have hmm:=hM w3 hm3;exact⟨rfl,⟨hB3,h.own.mod hmm (fun i hi e=>by subst e;exact h.nrow hi),h.lt,Nat.le_trans h.top hmm.size,ht8,by show p.f.length+(bQj p.r).length<=_;omega⟩,hmm⟩
theorem hQr (base r:Nat)(A:Option Addr)(c:Nat)(mp:Value)(p:Ps)(x:Fz)(w:World)(h:Rd w base r A c mp p)(hl:p.f.length+p.r.length+1<=1000000000000):
  Fn Tryz.prog 226 [.pointer (some ⟨r,0,none⟩),.agg x.cells.toArray] w (fun v w'=>v= .int .i64 (p.f.length:Nat)/\RdTo w base r A mp (gQ1 x p).2 w'):=by
 refine aQf (c:=zQh) aQb Tryz.func226 rfl rfl rfl ?_;refine new (fun w1 hE1 hz1 hB1=>?_);have h1:=h.ext hE1;have hrows:=h.own.rows;have hC0:Mod (aQx A) w1 w1.drew:=Mod.of_ext _ (Ext.drew w1);refine aQm aQb (Mod (aQx A) w1) 8 [(true,0),(true,1),(true,2),(true,3),(true,4),(true,5),(false,6),(false,7)] (by kernel_rfl) hC0 ?_;refine aQy (v:=.slice A p.f.length c) (fun w' hw'=>by rw[(h1.blk.mod hw' h.nrow).cell];rfl) ?_;have hn1:¬aQx A w.heap.size:=fun hr=>by have:=(hrows _ hr).2;omega
 refine aQw (vs:=x.cells) rfl (fun w' hw' j v hj=>by rw[(hB1.mod hw' hn1).cell];exact hj) ?_;refine aQl aQb [x.cells] rfl rfl rfl rfl rfl ⟨rfl,rfl,⟨⟩⟩ rfl (fun cs h=>by simp only[List.mem_singleton] at h;subst h;rfl) rfl (by decide) (by decide) ?_;intro w2 hE2 hz2 hB2;have hE12:=(Ext.drew w1).trans hE2;have h2:=h1.ext hE12;refine⟨Mod.of_ext _ hE12,?_⟩;have hs2:Sl w2 4 (some ⟨w1.drew.heap.size,0,none⟩) 1 1 x.cells:=Sl.own (sz:=4) (n:=1) hB2 (Nat.le_refl _) (by decide) (by simp[Fz.cells]);refine bQf aQb rfl rfl rfl rfl rfl (by decide) rfl rfl ⟨_,rfl⟩ rfl rfl h2.own hs2 (by intro u hu;simp[Fz.cells] at hu;rcases hu with rfl | rfl | rfl | rfl<;>rfl) (by unfold maxLen;omega) (by show _*32<=_;omega) h2.top ?_;intro A' c' w3 hm3 hown3 hmv3;have hM13:Mod (aQx A) w1 w3:=(Mod.of_ext (aQx A) hE12).trans hm3 (fun i hi=>.inl hi);refine⟨hM13,?_⟩;have hB3:=h1.blk.mod hM13 h.nrow;refine aQn hB3 (by simp) (fun w4 hm4 hB4=>?_);refine aQe hB4 rfl ?_;have hz:=hE12.size;have hrows3:∀k,aQx A' k->base<=k:=fun k hk=>(hown3.rows k hk).1
 have hM4:Mod (RdS r A) w w4:=((Mod.of_ext (RdS r A) hE1).trans hM13 (fun i hi=>.inl (.inr hi))).trans hm4 (fun i hi=>.inl (.inl hi));refine aQa ((p.f.length:Nat):Int) (by omega) (by omega) ?_;refine⟨rfl,A',c',⟨?_,?_,h.lt,Nat.le_trans h.top hM4.size,h.b8,?_⟩,hM4,hmv3.back (Nat.le_trans hE1.size hz)⟩
 ·have e:(gQ1 x p).2.f.length=p.f.length+1:=by simp[gQ1]
  rw[e];exact hB4
 ·have e:(gQ1 x p).2.f.length=p.f.length+1:=by simp[gQ1]
  rw[e,show fzV (gQ1 x p).2.f=fzV p.f++x.cells from nQm _ _];exact hown3.mod hm4 (fun k hk e=>by have:=hrows3 k hk;have:=h.lt;omega)
 ·have e:(gQ1 x p).2.f.length=p.f.length+1:=by simp[gQ1]
  rw[e];show p.f.length+1+p.r.length<=_;omega
end
section
open Go Go.RowKit
theorem dQ3 {c:Cx}{o:Oper}{S:Env}{w:World}{K:Env->World->Prop}{Q:cQB}{t:Nat}{v:Value}{x:Operand}(ho:o.op= .panic x)(hx:S.ev x=some (.iface t v))
  (k:Q (.panic [{v:=.iface t v,recovered:=false}]) S w):cQv c o S w K Q:=by
 unfold cQv;intro a hf;have e1:=hf.ev hx;unfold Oper.wp;have:(execOp a.eval o).run c.g.P w= .halt (.panic (.iface t v)) w:=by
  simp only[execOp,ho,e1];simp[Instr.panic,goPanic]
 rw[this];exact⟨S,hf,k⟩
def vQ2:List PanicEntry:=[{v:=.iface 34 (.int .i64 31),recovered:=false}]
def PanTo (w:World)(r:Nat)(A:Option Addr)(ch:List PanicEntry)(w':World):Prop:=ch=vQ2/\Mod (RdS r A) w w'
theorem RdS.trans {w w1 w2:World}{r:Nat}{A A1:Option Addr}(hm:Mod (RdS r A) w w1)(hv:Moved w A A1)(h:Mod (RdS r A1) w1 w2):Mod (RdS r A) w w2:=
 hm.trans h (fun i hi=>by
  rcases hi with rfl | hi
  ·exact .inl (.inl rfl)
  ·rcases hv.rows i hi with h | h
   ·exact .inl (.inr h)
   ·exact .inr h)
theorem PanTo.step {w w1 w2:World}{r:Nat}{A A1:Option Addr}{ch:List PanicEntry}(h:PanTo w1 r A1 ch w2)(hm:Mod (RdS r A) w w1)(hv:Moved w A A1):PanTo w r A ch w2:=⟨h.1,RdS.trans hm hv h.2⟩
def Lim (opd:Ps->Option (Nat×Ps)):Prop:=∀p a p',opd p=some (a,p')->p'.f.length+p'.r.length<=p.f.length+p.r.length/\p'.r.length<p.r.length
theorem dQh (sym:List Nat)(p p1:Ps)(b:Bool)(h:bQ7 sym p=(b,p1)):p1.f=p.f/\p1.u=p.u/\p1.r.length<=p.r.length/\(b=true->p1.r.length+sym.length<=p.r.length):=by
 rw[fQw] at h;have ht:=dQF p.r;cases h;refine⟨rfl,rfl,?_,fun hb=>?_⟩
 ·show List.length (if _ then _ else _)<=_;split
  ·rw[List.length_drop];omega
  ·exact ht
 ·show List.length (if _ then _ else _)+_<=_;rw[if_pos hb,List.length_drop];have:=(List.isPrefixOf_iff_prefix.1 hb).length_le;omega
theorem kQS {sym:List Nat}{op:Int}{opd:Ps->Option (Nat×Ps)}(hs:0<sym.length)(hl:Lim opd):∀(m a:Nat)(p:Ps)(b:Nat)(p':Ps),gQQ sym op opd m a p=some (b,p')->p'.f.length+p'.r.length<=p.f.length+p.r.length/\p'.r.length<=p.r.length
 | 0,a,p,b,p',h=>by cases h
 | m+1,a,p,b,p',h=>by
  unfold gQQ at h;cases hk:bQ7 sym p with
  | mk t p1=>
   obtain⟨h1,h2,h3,h4⟩:=dQh sym p p1 t hk;rw[hk] at h;cases t with
   | false=>cases h;rw[h1];omega
   | true=>
    simp only at h;cases ho:opd p1 with
    | none=>rw[ho] at h;cases h
    | some q=>
     obtain⟨d,p2⟩:=q;rw[ho] at h;simp only at h;obtain⟨h5,h6⟩:=hl p1 d p2 ho;have:=kQS hs hl m _ _ b p' h;simp only[List.length_append,List.length_cons,List.length_nil] at this;have:=h4 rfl;rw[h1] at h5;omega
theorem gQd {sym:List Nat}{op:Int}{opd:Ps->Option (Nat×Ps)}(hs:0<sym.length)(hl:Lim opd):Lim (bQG sym op opd):=by
 intro p b p' h;unfold bQG at h;cases ho:opd p with
 | none=>rw[ho] at h;cases h
 | some q=>
  obtain⟨a,p1⟩:=q;rw[ho] at h;simp only at h;have h1:=hl p a p1 ho;have h2:=kQS hs hl _ _ _ b p' h;omega
structure OpdC (L base r:Nat) (mp:Value) (fid:Nat) (args:List Value) (G:World->Option Addr->Prop) (opd:Ps->Option (Nat×Ps)):Prop where
 run:∀w A c p,Rd w base r A c mp p->G w A->p.r.length<L->FnP Tryz.prog fid args w (fun v w'=>∃(a:Nat) (p':Ps),opd p=some (a,p')/\v= .int .i64 (a:Nat)/\RdTo w base r A mp p' w') (fun ch w'=>opd p=none/\PanTo w r A ch w')
 stay:∀w w' A A',G w A->Mod (RdS r A) w w'->Moved w A A'->G w' A'
 lim:Lim opd
structure Est where
 a:Nat
 p:Ps
 A:Option Addr
 c:Nat
theorem kQT (L base r:Nat)(A:Option Addr)(c:Nat)(mp:Value)(p:Ps)(sym:List Nat)(op:Int)(G:World->Option Addr->Prop)(opd:Ps->Option (Nat×Ps))(w:World)
  (h:Rd w base r A c mp p) (hG:G w A) (hs:∀x∈sym,x<256) (hs0:0<sym.length) (hL:p.r.length<L) (H:OpdC L base r mp 198 [.pointer (some ⟨r,0,none⟩)] G opd):
  FnP Tryz.prog 196 [.pointer (some ⟨r,0,none⟩),.string (aQh sym),.int .i64 op,.func (.func 198) #[.pointer (some ⟨r,0,none⟩)] #[]] w
   (fun v w'=>∃(a:Nat) (p':Ps),bQG sym op opd p=some (a,p')/\v= .int .i64 (a:Nat)/\RdTo w base r A mp p' w') (fun ch w'=>bQG sym op opd p=none/\PanTo w r A ch w'):=by
 refine aQT (c:={xQV with cuts:=[]}) aQb Tryz.func196 rfl rfl rfl ?_;refine aQX (H.run w A c p h hG hL) ?_ ?_
 rotate_left
 ·rintro ch w1 ⟨ho,hp⟩;refine⟨?_,hp⟩;unfold bQG;rw[ho]
 rintro v w1 ⟨a,p1,ho,rfl,A1,c1,h1,hm1,hv1⟩;obtain⟨hl1,hl2⟩:=H.lim p a p1 ho;have hch:bQG sym op opd p=gQQ sym op opd (p1.r.length+1) a p1:=by unfold bQG;rw[ho]
 refine loop aQb [9] (fun s:Est=>[.int .i64 s.a]) (fun s w'=>Rd w' base r s.A s.c mp s.p/\G w' s.A/\s.p.r.length<L/\Mod (RdS r A) w w'/\Moved w A s.A/\∃m,s.p.r.length<m/\gQQ sym op opd m s.a s.p=bQG sym op opd p) (fun s _=>s.p.r.length) ⟨a,p1,A1,c1⟩ rfl ⟨h1,H.stay w w1 A A1 hG hm1 hv1,by show p1.r.length<L;omega,hm1,hv1,_,Nat.lt_succ_self _,hch.symm⟩ ?_;rintro⟨d,q,A2,c2⟩ w2 ⟨h2,hG2,hL2,hm2,hv2,m,hlm,hmm⟩;simp only at h2 hG2 hL2 hm2 hv2 hlm hmm;refine call (gQc base r A2 c2 mp q sym w2 h2 hs) ?_;rintro v w3 ⟨rfl,h3,hm3⟩;cases m with
 | zero=>omega
 | succ m=>
 unfold gQQ at hmm;have hm3':Mod (RdS r A2) w2 w3:=hm3.mono (fun i hi=>.inl (.inl hi));have hm03:=RdS.trans hm2 hv2 hm3';cases hk:bQ7 sym q with
 | mk t q1=>
  obtain⟨k1,k2,k3,k4⟩:=dQh sym q q1 t hk;rw[hk] at h3 hmm;simp only at h3;cases t with
  | false=>
   refine aQN rfl ?_;exact⟨d,q1,hmm.symm,rfl,A2,c2,h3,hm03,hv2⟩
  | true=>
   refine aQM rfl ?_;simp only at hmm;have k5:=k4 rfl;have hG3:=H.stay w2 w3 A2 A2 hG2 hm3' (Moved.refl _ _);refine aQX (H.run w3 A2 c2 q1 h3 hG3 (by omega)) ?_ ?_
   rotate_left
   ·rintro ch w4 ⟨ho2,hp⟩;rw[ho2] at hmm;exact⟨hmm.symm,hp.step hm03 hv2⟩
   rintro v w4 ⟨b,q2,ho2,rfl,A4,c4,h4,hm4,hv4⟩;obtain⟨l1,l2⟩:=H.lim q1 b q2 ho2;rw[ho2] at hmm;simp only at hmm;have hlq:=h2.lim;rw[k1] at l1;have hG4:=H.stay w3 w4 A2 A4 hG3 hm4 hv4;have hm04:=RdS.trans hm03 hv2 hm4;have hv04:=hv2.trans hv4 hm03.size;refine call (hQr base r A4 c4 mp q2 ⟨op,0,d,b⟩ w4 h4 (by omega)) ?_;rintro v w5 ⟨rfl,A5,c5,h5,hm5,hv5⟩;refine⟨⟨q2.f.length,(gQ1 ⟨op,0,d,b⟩ q2).2,A5,c5⟩,rfl,⟨h5,H.stay w4 w5 A4 A5 hG4 hm5 hv5,?_,RdS.trans hm04 hv04 hm5,hv04.trans hv5 hm04.size,m,?_,hmm⟩,?_⟩
   ·show q2.r.length<L;omega
   ·show q2.r.length<m;omega
   ·show q2.r.length<q.r.length;omega
theorem kQU (L base r:Nat)(A:Option Addr)(c:Nat)(mp:Value)(p:Ps)(sym:List Nat)(op:Int)(x:Nat)(G:World->Option Addr->Prop)(opd:Ps->Option (Nat×Ps))(w:World)
  (h:Rd w base r A c mp p) (hG:G w A) (hs:∀x∈sym,x<256) (hs0:0<sym.length) (hL:p.r.length<L) (H:OpdC L base r mp 197 [.pointer (some ⟨x,0,none⟩)] G opd):
  FnP Tryz.prog 196 [.pointer (some ⟨r,0,none⟩),.string (aQh sym),.int .i64 op,.func (.func 197) #[] #[.pointer (some ⟨x,0,none⟩)]] w
   (fun v w'=>∃(a:Nat) (p':Ps),bQG sym op opd p=some (a,p')/\v= .int .i64 (a:Nat)/\RdTo w base r A mp p' w') (fun ch w'=>bQG sym op opd p=none/\PanTo w r A ch w'):=by
 refine aQT (c:={xQV with cuts:=[]}) aQb Tryz.func196 rfl rfl rfl ?_;refine aQX (H.run w A c p h hG hL) ?_ ?_
 rotate_left
 ·rintro ch w1 ⟨ho,hp⟩;refine⟨?_,hp⟩;unfold bQG;rw[ho]
 rintro v w1 ⟨a,p1,ho,rfl,A1,c1,h1,hm1,hv1⟩;obtain⟨hl1,hl2⟩:=H.lim p a p1 ho;have hch:bQG sym op opd p=gQQ sym op opd (p1.r.length+1) a p1:=by unfold bQG;rw[ho]
 refine loop aQb [9] (fun s:Est=>[.int .i64 s.a]) (fun s w'=>Rd w' base r s.A s.c mp s.p/\G w' s.A/\s.p.r.length<L/\Mod (RdS r A) w w'/\Moved w A s.A/\∃m,s.p.r.length<m/\gQQ sym op opd m s.a s.p=bQG sym op opd p) (fun s _=>s.p.r.length) ⟨a,p1,A1,c1⟩ rfl ⟨h1,H.stay w w1 A A1 hG hm1 hv1,by show p1.r.length<L;omega,hm1,hv1,_,Nat.lt_succ_self _,hch.symm⟩ ?_;rintro⟨d,q,A2,c2⟩ w2 ⟨h2,hG2,hL2,hm2,hv2,m,hlm,hmm⟩;simp only at h2 hG2 hL2 hm2 hv2 hlm hmm;refine call (gQc base r A2 c2 mp q sym w2 h2 hs) ?_;rintro v w3 ⟨rfl,h3,hm3⟩;cases m with
 | zero=>omega
 | succ m=>
 unfold gQQ at hmm;have hm3':Mod (RdS r A2) w2 w3:=hm3.mono (fun i hi=>.inl (.inl hi));have hm03:=RdS.trans hm2 hv2 hm3';cases hk:bQ7 sym q with
 | mk t q1=>
  obtain⟨k1,k2,k3,k4⟩:=dQh sym q q1 t hk;rw[hk] at h3 hmm;simp only at h3;cases t with
  | false=>
   refine aQN rfl ?_;exact⟨d,q1,hmm.symm,rfl,A2,c2,h3,hm03,hv2⟩
  | true=>
   refine aQM rfl ?_;simp only at hmm;have k5:=k4 rfl;have hG3:=H.stay w2 w3 A2 A2 hG2 hm3' (Moved.refl _ _);refine aQX (H.run w3 A2 c2 q1 h3 hG3 (by omega)) ?_ ?_
   rotate_left
   ·rintro ch w4 ⟨ho2,hp⟩;rw[ho2] at hmm;exact⟨hmm.symm,hp.step hm03 hv2⟩
   rintro v w4 ⟨b,q2,ho2,rfl,A4,c4,h4,hm4,hv4⟩;obtain⟨l1,l2⟩:=H.lim q1 b q2 ho2;rw[ho2] at hmm;simp only at hmm;have hlq:=h2.lim;rw[k1] at l1;have hG4:=H.stay w3 w4 A2 A4 hG3 hm4 hv4;have hm04:=RdS.trans hm03 hv2 hm4;have hv04:=hv2.trans hv4 hm03.size;refine call (hQr base r A4 c4 mp q2 ⟨op,0,d,b⟩ w4 h4 (by omega)) ?_;rintro v w5 ⟨rfl,A5,c5,h5,hm5,hv5⟩;refine⟨⟨q2.f.length,(gQ1 ⟨op,0,d,b⟩ q2).2,A5,c5⟩,rfl,⟨h5,H.stay w4 w5 A4 A5 hG4 hm5 hv5,?_,RdS.trans hm04 hv04 hm5,hv04.trans hv5 hm04.size,m,?_,hmm⟩,?_⟩
   ·show q2.r.length<L;omega
   ·show q2.r.length<m;omega
   ·show q2.r.length<q.r.length;omega
end
section
open Go Go.RowKit
theorem aQ1 {p:Prop}{v v':Value}{K:Value->Prop}(hp:p)(h:v=v')(k:K v'):rQN p v K:=by unfold rQN;exact⟨hp,by rw[h];exact k⟩
theorem MapAt.mod {α:Type}{kv:α->Value}{S:Nat->Prop}{w w':World}{r:Nat}{m:List (α×Value)}(h:MapAt kv w r m)(k:Mod S w w')(hn:¬S r):MapAt kv w' r m:=by
 obtain⟨bs,ck,hl,hb⟩:=h.ex;exact⟨bs,ck,hl,(k.block r (Array.getElem?_eq_some_iff.1 hb).1 hn).trans hb⟩
theorem cQr {α:Type} [DecidableEq α]{kv:α->Value}{c:Cx}{o:Oper}{S:Env}{w:World}{K:Env->World->Prop}{Q:cQB}{t ke e:Nat}{r rk re:TyRow}{x y:Operand}{q:Nat}{m:List (α×Value)}{a:α}{v:Value}{b:Bool}(hg:c.g.Ok)
  (ho:o.op= .lookup t x y true) (hr:aQA c.g.tys t=some r) (hd:r.d= .map ke e) (hrk:aQA c.g.tys ke=some rk) (hre:aQA c.g.tys e=some re) (hk:KeyV rk.d kv)
  (hx:S.ev x=some (.map (some q))) (hy:S.ev y=some (kv a)) (hm:MapAt kv w q m) (hv:(aQS a m).getD re.z=v) (hb:(aQS a m).isSome=b) (k:bQq c S o.dst (.v (.tuple #[v,.bool b])) (fun S=>K S w)):cQv c o S w K Q:=by
 subst hv;subst hb;exact kQN hg ho hr hd hrk hre hk hx hy hm k
section
variable (ix:List Nat->Option Nat) (n:Nat)
theorem jQs {p p1:Ps}(h:bQ7 [33] p=(true,p1)):mQc ix (n+1) p=match mQc ix n p1 with
  | none=>none
  | some (a,p2)=>some (gQ1 ⟨3,0,a,0⟩ p2):=by rw[mQc,h]<;>rfl
theorem jQt {p p1 p2:Ps}(h:bQ7 [33] p=(false,p1))(h2:bQ7 [40] p1=(true,p2)):mQc ix (n+1) p=match eQr ix n p2 with
  | none=>none
  | some (a,p3)=>match bQ7 [41] p3 with
   | (true,p4)=>some (a,p4)
   | (false,_)=>none:=by rw[mQc,h];simp only;rw[h2];rfl
theorem mQh {p p1 p2:Ps}(h:bQ7 [33] p=(false,p1))(h2:bQ7 [40] p1=(false,p2)):mQc ix (n+1) p=if cQH p2.r=0 then none else
   if p2.r.take (cQH p2.r)=dQE then some (gQ1 ⟨1,0,0,0⟩ {p2 with r:=p2.r.drop (cQH p2.r)})else if p2.r.take (cQH p2.r)=cQ0 then some (gQ1 ⟨0,0,0,0⟩ {p2 with r:=p2.r.drop (cQH p2.r)})else
    some (gQ1 ⟨2,((ix (p2.r.take (cQH p2.r))).getD 0:Nat),0,0⟩ {p2 with r:=p2.r.drop (cQH p2.r),u:=p2.u||(ix (p2.r.take (cQH p2.r))).isNone}):=by
 rw[mQc,h];simp only;rw[h2];rfl
end
theorem jQu (ix:List Nat->Option Nat):∀n,Lim (mQc ix n)
 | 0=>fun p a p' h=>by cases h
 | n+1=>fun p a p' h=>by
  have ih:=jQu ix n;cases hk:bQ7 [33] p with
  | mk t p1=>
   obtain⟨k1,_,k3,k4⟩:=dQh _ p p1 t hk;cases t with
   | true=>
    rw[jQs ix n hk] at h;cases ho:mQc ix n p1 with
    | none=>rw[ho] at h;cases h
    | some q=>
     obtain⟨d,p2⟩:=q;rw[ho] at h;cases h;have:=ih p1 d p2 ho;have:=k4 rfl;rw[k1] at*;simp only[List.length_append,List.length_cons,List.length_nil] at*;omega
   | false=>
    cases hk2:bQ7 [40] p1 with
    | mk t2 p2=>
     obtain⟨j1,_,j3,j4⟩:=dQh _ p1 p2 t2 hk2;cases t2 with
     | true=>
      rw[jQt ix n hk hk2] at h;cases ho:eQr ix n p2 with
      | none=>rw[ho] at h;cases h
      | some q=>
       obtain⟨d,p3⟩:=q;rw[ho] at h;simp only at h;have hw:Lim (eQr ix n):=gQd (by decide) (gQd (by decide) ih);have:=hw p2 d p3 ho;cases hk3:bQ7 [41] p3 with
       | mk t3 p4=>
        obtain⟨i1,_,i3,i4⟩:=dQh _ p3 p4 t3 hk3;rw[hk3] at h;cases t3 with
        | false=>cases h
        | true=>
         cases h;have:=j4 rfl;have:=i4 rfl;rw[i1];rw[j1,k1] at*;omega
     | false=>
      rw[mQh ix n hk hk2] at h;split at h
      ·cases h
      rename_i hn;have hle:=nQl p2.r;have key:(p2.r.drop (cQH p2.r)).length+1<=p2.r.length:=by rw[List.length_drop];omega
      rw[j1,k1] at*;split at h
      ·cases h;simp only[List.length_append,List.length_cons,List.length_nil];rw[j1,k1];omega
      split at h
      ·cases h;simp only[List.length_append,List.length_cons,List.length_nil];rw[j1,k1];omega
      ·cases h;simp only[List.length_append,List.length_cons,List.length_nil];rw[j1,k1];omega
def GM (r q:Nat)(m:List (ByteArray×Value))(w:World)(A:Option Addr):Prop:=MapAt gQ2 w q m/\q≠r/\¬aQx A q
theorem GM.stay {r q:Nat}{m:List (ByteArray×Value)}{w w':World}{A A':Option Addr}(h:GM r q m w A)(hm:Mod (RdS r A) w w')(hv:Moved w A A'):GM r q m w' A':=
 ⟨h.1.mod hm (fun e=>e.elim h.2.1 h.2.2),h.2.1,fun hr=>(hv.rows q hr).elim h.2.2 (fun hle=>by have:=h.1.lt;omega)⟩
def GB (r q x:Nat)(m:List (ByteArray×Value))(w:World)(A:Option Addr):Prop:=GM r q m w A/\Blk w x 220 [.pointer (some ⟨r,0,none⟩)]/\x≠r/\¬aQx A x
theorem GB.stay {r q x:Nat}{m:List (ByteArray×Value)}{w w':World}{A A':Option Addr}(h:GB r q x m w A)(hm:Mod (RdS r A) w w')(hv:Moved w A A'):GB r q x m w' A':=
 ⟨h.1.stay hm hv,h.2.1.mod hm (fun e=>e.elim h.2.2.1 h.2.2.2),h.2.2.1,fun hr=>(hv.rows x hr).elim h.2.2.2 (fun hle=>by have:=h.2.1.lt;omega)⟩
theorem rQ8 {L base r q x:Nat}{m:List (ByteArray×Value)}{mp:Value}{opd:Ps->Option (Nat×Ps)}(H:OpdC L base r mp 198 [.pointer (some ⟨r,0,none⟩)] (GM r q m) opd):
  OpdC L base r mp 197 [.pointer (some ⟨x,0,none⟩)] (GB r q x m) (bQG [38,38] 4 opd):=by
 refine⟨fun w A c p h hG hL=>?_,fun w w' A A' h hm hv=>h.stay hm hv,gQd (by decide) H.lim⟩;refine aQT (c:={yQ0 with cuts:=[]}) aQb Tryz.func197 rfl rfl rfl ?_;refine aQg hG.2.1 rfl ?_;refine aQg hG.2.1 rfl ?_;refine aQX (kQT L base r A c mp p [38,38] 4 (GM r q m) opd w h hG.1 (by decide) (by decide) hL H) ?_ ?_
 ·rintro v w1 ⟨a,p',h1,rfl,h2⟩;exact⟨a,p',h1,rfl,h2⟩
 ·rintro ch w1 h1;exact h1
theorem nQn (L base r:Nat)(A:Option Addr)(c:Nat)(p:Ps)(q:Nat)(m:List (ByteArray×Value))(mp:Value)(opd:Ps->Option (Nat×Ps))(w:World)(h:Rd w base r A c mp p)(hG:GM r q m w A)(hL:p.r.length<L)
  (H:OpdC L base r mp 198 [.pointer (some ⟨r,0,none⟩)] (GM r q m) opd):
  FnP Tryz.prog 141 [.pointer (some ⟨r,0,none⟩)] w (fun v w'=>∃(a:Nat) (p':Ps),bQG [124,124] 5 (bQG [38,38] 4 opd) p=some (a,p')/\v= .int .i64 (a:Nat)/\RdTo w base r A mp p' w') (fun ch w'=>bQG [124,124] 5 (bQG [38,38] 4 opd) p=none/\PanTo w r A ch w'):=by
 refine aQT (c:={yQs with cuts:=[]}) aQb Tryz.func141 rfl rfl rfl ?_;refine new (fun w1 hE1 hz1 hB1=>?_);refine aQg hB1 rfl ?_;have hlt:=h.lt;have htop:=h.top;have hM1:Mod (RdS r A) w w1:=Mod.of_ext _ hE1;have hn:¬aQx A w.heap.size:=fun hr=>by have:=(h.own.rows _ hr).2;omega
 refine aQX (kQU L base r A c mp p [124,124] 5 w.heap.size (GB r q w.heap.size m) (bQG [38,38] 4 opd) w1 (h.ext hE1) ⟨hG.stay hM1 (Moved.refl _ _),hB1,by omega,hn⟩ (by decide) (by decide) hL (rQ8 H)) ?_ ?_
 ·rintro v w2 ⟨a,p',h1,rfl,h2⟩;exact⟨a,p',h1,rfl,h2.step hM1 (Moved.refl _ _)⟩
 ·rintro ch w2 ⟨h1,h2⟩;exact⟨h1,h2.step hM1 (Moved.refl _ _)⟩
end
section
open Go Go.RowKit
def xQX (ix:List Nat->Option Nat)(m:List (ByteArray×Value)):Prop:=∀l:List Nat,(∀x∈l,x<256)->aQS (aQh l) m=(ix l).map (fun v:Nat=>Value.int .i64 v)
theorem iQG (ix:List Nat->Option Nat)(base r q:Nat)(m:List (ByteArray×Value))(hix:xQX ix m):∀n,OpdC n base r (.map (some q)) 198 [.pointer (some ⟨r,0,none⟩)] (GM r q m) (mQc ix n)
 | 0=>⟨fun w A c p _ _ h=>absurd h (by omega),fun w w' A A' h hm hv=>h.stay hm hv,jQu ix 0⟩
 | n+1=>by
  have ih:=iQG ix base r q m hix n;refine⟨fun w A c p h hG hL=>?_,fun w w' A A' h hm hv=>h.stay hm hv,jQu ix (n+1)⟩;refine aQT (c:={yQ1 with cuts:=[]}) aQb Tryz.func198 rfl rfl rfl ?_;refine call (gQc base r A c _ p [33] w h (by decide)) ?_;rintro v w1 ⟨rfl,h1,hm1⟩;have hm1':Mod (RdS r A) w w1:=hm1.mono (fun i hi=>.inl (.inl hi));have hG1:=hG.stay hm1' (Moved.refl _ _);cases hk:bQ7 [33] p with
  | mk t p1=>
   obtain⟨k1,_,k3,k4⟩:=dQh _ p p1 t hk;rw[hk] at h1;simp only at h1;cases t with
   | true=>
    refine aQM rfl ?_;have hl:=k4 rfl;simp only[List.length_cons,List.length_nil] at hl;have hfac:=jQs ix n hk;refine aQX (ih.run w1 A c p1 h1 hG1 (by omega)) ?_ ?_
    rotate_left
    ·rintro ch w2 ⟨ho,hp⟩;rw[ho] at hfac;exact⟨hfac,hp.step hm1' (Moved.refl _ _)⟩
    rintro v w2 ⟨a,p2,ho,rfl,A2,c2,h2,hm2,hv2⟩;rw[ho] at hfac;have hl2:=(ih.lim p1 a p2 ho).1;have hl0:=h.lim;rw[k1] at hl2;refine call (hQr base r A2 c2 _ p2 ⟨3,0,a,0⟩ w2 h2 (by omega)) ?_;rintro v w3 ⟨rfl,h3⟩;exact⟨p2.f.length,_,hfac,rfl,(h3.step hm2 hv2).step hm1' (Moved.refl _ _)⟩
   | false=>
    refine aQN rfl ?_;refine call (gQc base r A c _ p1 [40] w1 h1 (by decide)) ?_;rintro v w2 ⟨rfl,h2,hm2⟩;have hm2':Mod (RdS r A) w1 w2:=hm2.mono (fun i hi=>.inl (.inl hi));have hm02:=RdS.trans hm1' (Moved.refl _ _) hm2';have hG2:=hG1.stay hm2' (Moved.refl _ _);cases hk2:bQ7 [40] p1 with
    | mk t2 p2=>
     obtain⟨j1,_,j3,j4⟩:=dQh _ p1 p2 t2 hk2;rw[hk2] at h2;simp only at h2;cases t2 with
     | true=>
      refine aQM rfl ?_;have hl:=j4 rfl;simp only[List.length_cons,List.length_nil] at hl;have hfac:=jQt ix n hk hk2;refine aQX (nQn n base r A c p2 q m _ (mQc ix n) w2 h2 hG2 (by omega) ih) ?_ ?_
      rotate_left
      ·rintro ch w3 ⟨ho,hp⟩;rw[show eQr ix n p2=none from ho] at hfac;exact⟨hfac,hp.step hm02 (Moved.refl _ _)⟩
      rintro v w3 ⟨a,p3,ho,rfl,A3,c3,h3,hm3,hv3⟩;rw[show eQr ix n p2=some (a,p3) from ho] at hfac;have hm03:=RdS.trans hm02 (Moved.refl _ _) hm3;have hv03:=hv3.back hm02.size;simp only at hfac;refine call (gQc base r A3 c3 _ p3 [41] w3 h3 (by decide)) ?_;rintro v w4 ⟨rfl,h4,hm4⟩;have hm4':Mod (RdS r A3) w3 w4:=hm4.mono (fun i hi=>.inl (.inl hi));have hm04:=RdS.trans hm03 hv03 hm4';cases hk3:bQ7 [41] p3 with
      | mk t3 p4=>
       rw[hk3] at h4 hfac;simp only at h4;cases t3 with
       | true=>
        refine aQN rfl ?_;exact⟨a,p4,hfac,rfl,A3,c3,h4,hm04,hv03⟩
       | false=>
        refine aQM rfl ?_;exact dQ3 rfl rfl ⟨hfac,rfl,hm04⟩
     | false=>
      refine aQN rfl ?_;have hfac:=mQh ix n hk hk2;have hlp:=h2.lim;have h8:=h2.b8;have hM:∀w',Ext w2 w'->Mod (RdS r A) w w':=fun w' hE=>RdS.trans hm02 (Moved.refl _ _) (Mod.of_ext _ hE)
      refine aQe h2.blk rfl ?_;refine call (fQv p2.r w2 h8 (by omega)) ?_;rintro v w3 ⟨rfl,hE3⟩;have h3:=h2.ext hE3;have hG3:=hG2.stay (Mod.of_ext _ hE3) (Moved.refl _ _);have hm03:=hM w3 hE3;have hle:=nQl p2.r;by_cases hn:cQH p2.r=0
      ·refine aQZ (by omega) ?_;rw[if_pos hn] at hfac;exact dQ3 rfl rfl ⟨hfac,rfl,hm03⟩
      refine aQu (by omega) ?_;rw[if_neg hn] at hfac;generalize hd:cQH p2.r=d at*;refine aQe h3.blk rfl ?_;refine aQ1 (v':=.string (aQh (p2.r.take d))) ⟨by omega,by omega,by rw[aQj];omega⟩ ?_ ?_
      ·simp only[Int.toNat_natCast,Int.toNat_zero,aQt,List.drop_zero]
      refine aQe h3.blk rfl ?_;refine aQ1 (v':=.string (aQh (p2.r.drop d))) ⟨by omega,by rw[aQj];omega,by omega⟩ ?_ ?_
      ·simp only[Int.toNat_natCast,aQt,aQj,List.take_length]
      refine aQn h3.blk (by simp) (fun w4 hm4 hB4=>?_);have hm4':Mod (RdS r A) w3 w4:=hm4.mono (fun i hi=>.inl (.inl hi));have hm04:=RdS.trans hm03 (Moved.refl _ _) hm4';have hG4:=hG3.stay hm4' (Moved.refl _ _);have hdl:(p2.r.drop d).length+d=p2.r.length:=by rw[List.length_drop];omega
      have h4:Rd w4 base r A c (.map (some q)) {p2 with r:=p2.r.drop d}:=⟨hB4,h3.own.mod hm4 (fun i hi e=>by subst e;exact h3.nrow hi),h3.lt,Nat.le_trans h3.top hm4.size,B8.drop h8 d,by show p2.f.length+(p2.r.drop d).length<=_;omega⟩
      have hw8:=B8.take h8 d;generalize hwd:p2.r.take d=word at*;have e1:((aQh word=(⟨#[116,114,117,101]⟩:ByteArray))↔word=dQE):=⟨fun h=>aQD hw8 (by decide) h,fun h=>by rw[h];rfl⟩
      have e2:((aQh word=(⟨#[102,97,108,115,101]⟩:ByteArray))↔word=cQ0):=⟨fun h=>aQD hw8 (by decide) h,fun h=>by rw[h];rfl⟩
      by_cases h6:word=dQE
      ·rw[if_pos h6] at hfac;refine aQO (e1.2 h6) ?_;refine call (hQr base r A c _ _ ⟨1,0,0,0⟩ w4 h4 (by show p2.f.length+(p2.r.drop d).length+1<=_;omega)) ?_;rintro v w5 ⟨rfl,h5⟩;exact⟨_,_,hfac,rfl,h5.step hm04 (Moved.refl _ _)⟩
      rw[if_neg h6] at hfac;refine aQB (fun h=>h6 (e1.1 h)) ?_;by_cases h7:word=cQ0
      ·rw[if_pos h7] at hfac;refine aQO (e2.2 h7) ?_;refine call (hQr base r A c _ _ ⟨0,0,0,0⟩ w4 h4 (by show p2.f.length+(p2.r.drop d).length+1<=_;omega)) ?_;rintro v w5 ⟨rfl,h5⟩;exact⟨_,_,hfac,rfl,h5.step hm04 (Moved.refl _ _)⟩
      rw[if_neg h7] at hfac;refine aQB (fun h=>h7 (e2.1 h)) ?_;refine aQg h4.blk rfl ?_;have hlook:=hix word hw8;refine cQr (kv:=gQ2) (a:=aQh word) (v:=.int .i64 ((ix word).getD 0:Nat)) (b:=(ix word).isSome) aQb rfl rfl rfl rfl rfl zQF rfl rfl hG4.1 (by rw[hlook];cases ix word<;>rfl) (by rw[hlook];cases ix word<;>rfl) ?_;refine aQe h4.blk rfl ?_;have fin:∀w5 u,Mod (·=r) w4 w5->Blk w5 r 222 [.map (some q),.string (aQh (p2.r.drop d)),.slice A p2.f.length c,.bool u]->u=(p2.u||(ix word).isNone)->Rd w5 base r A c (.map (some q)) {p2 with r:=p2.r.drop d,u:=p2.u||(ix word).isNone}/\Mod (RdS r A) w w5:=fun w5 u hm5 hB5 hu=>by
       subst hu;exact⟨⟨hB5,h4.own.mod hm5 (fun i hi e=>by subst e;exact h4.nrow hi),h4.lt,Nat.le_trans h4.top hm5.size,h4.b8,h4.lim⟩,RdS.trans hm04 (Moved.refl _ _) (hm5.mono (fun i hi=>.inl (.inl hi)))⟩
      refine wif (fun hu=>?_) (fun hu=>?_)
      ·refine aQn h4.blk (by simp) (fun w5 hm5 hB5=>?_);obtain⟨h5,hm05⟩:=fin w5 true hm5 hB5 (by rw[show p2.u=true from hu];rfl);refine call (hQr base r A c _ _ ⟨2,((ix word).getD 0:Nat),0,0⟩ w5 h5 (by show p2.f.length+(p2.r.drop d).length+1<=_;omega)) ?_;rintro v w6 ⟨rfl,h6⟩;exact⟨_,_,hfac,rfl,h6.step hm05 (Moved.refl _ _)⟩
      ·refine aQn h4.blk (by simp) (fun w5 hm5 hB5=>?_);obtain⟨h5,hm05⟩:=fin w5 (!(ix word).isSome) hm5 hB5 (by rw[show p2.u=false from hu];cases ix word<;>rfl);refine call (hQr base r A c _ _ ⟨2,((ix word).getD 0:Nat),0,0⟩ w5 h5 (by show p2.f.length+(p2.r.drop d).length+1<=_;omega)) ?_;rintro v w6 ⟨rfl,h6⟩;exact⟨_,_,hfac,rfl,h6.step hm05 (Moved.refl _ _)⟩
end
section
open Go Go.RowKit
abbrev pQu:=Exit->Act->World->Prop
def pQv (P:Program):List Code->pQu->Act->World->Prop
 | [],G,a,w=>G .normal a w
 | y::ys,G,a,w=>y.wp P (fun e a w=>match e with
  | .normal=>pQv P ys G a w
  | e=>G e a w) a w
@[irreducible] def AtG (c:Cx) (l:List Code) (S:Env) (w:World) (G:pQu):Prop:=∀a,Fits c.N S a->pQv c.g.P l G a w
@[irreducible] def iQH (c:Cx) (S:Env) (w:World) (e:Exit) (G:pQu):Prop:=∀a,Fits c.N S a->G e a w
section
variable {c:Cx} {S:Env} {w:World} {G:pQu}
theorem cQN (h:iQH c S w .normal G):AtG c [] S w G:=by unfold AtG;unfold iQH at h;exact h
theorem aQL {x y:Code}{l:List Code}(h:AtG c (x::y::l) S w G):AtG c (.seq x y::l) S w G:=by
 unfold AtG at*;intro a hf;have h1:=h a hf;unfold pQv at h1;unfold pQv;refine wp_seq (wp_mono h1 (fun e a w hq=>?_));cases e<;>first | exact hq | (unfold pQv at hq;exact hq)
theorem aQv (hg:c.g.Ok){x:Code}{l:List Code}(h:fQ4 c x S w (fun e S w=>match e with
  | .normal=>AtG c l S w G
  | e=>iQH c S w e G)):AtG c (x::l) S w G:=by
 unfold AtG;intro a hf;unfold pQv;refine wp_mono (bQN hg x S w _ a h hf) (fun e a w ⟨S',hf',hq⟩=>?_);cases e with
 | normal=>simp only at hq;unfold AtG at hq;exact hq a hf'
 | exit i=>simp only at hq;unfold iQH at hq;exact hq a hf'
 | goto i=>simp only at hq;unfold iQH at hq;exact hq a hf'
 | ret=>simp only at hq;unfold iQH at hq;exact hq a hf'
 | panic i=>simp only at hq;unfold iQH at hq;exact hq a hf'
 | outgrown=>simp only at hq;unfold iQH at hq;exact hq a hf'
theorem xQq {t:Nat}{x y:Code}{l:List Code}{b:Bool}(ht:S.get t=some (.bool b))(hb:b=true)(h:AtG c (x::l) S w G):AtG c (.cond (.tmp t) x y::l) S w G:=by
 subst hb;unfold AtG at*;intro a hf;have h1:=h a hf;unfold pQv at*;have:=hf.get ht;exact wp_cond_true (by simp[Act.eval,this]) h1
theorem xQr {t:Nat}{x y:Code}{l:List Code}{b:Bool}(ht:S.get t=some (.bool b))(hb:b=false)(h:AtG c (y::l) S w G):AtG c (.cond (.tmp t) x y::l) S w G:=by
 subst hb;unfold AtG at*;intro a hf;have h1:=h a hf;unfold pQv at*;have:=hf.get ht;exact wp_cond_false (by simp[Act.eval,this]) h1
theorem eQs (hg:c.g.Ok){id:Nat}{ops:Array Oper}{l:List Code}{o:Oper}{f:Operand}{xs:Array Operand}{ts:Array TypeId}(hops:ops.toList=ops.toList.dropLast++ [o])(ho:o.op= .defer ⟨.value f,xs,ts⟩)(hgd:o.guard=none)(hdst:o.dst=none)
  (h:dQa {c with named:=1000000} ops.toList ops.toList.dropLast S w (fun S w=>∃fv cap first asx,S.ev f=some (.func fv first cap)/\evL S xs.toList=some asx/\AtG {c with N:=⟨c.N.n,⟨.fn fv cap,first++asx.toArray⟩::c.N.ds⟩} l S w G) (fun e S w=>iQH c S w e G)):AtG c (.region id ops false::l) S w G:=by
 unfold AtG;intro a hf;unfold pQv;refine wp_region_list ?_;have h1:=bQI (c:={c with named:=1000000}) hg ops.toList ops.toList.dropLast S w a h hf;have key:∀(Q:pQu) (m1 m2:List Oper) (a:Act) (w:World),wpList c.g.P ops (fun e a w=>match e with
   | .normal=>wpList c.g.P ops Q m2 a w
   | e=>Q e a w) m1 a w->wpList c.g.P ops Q (m1++m2) a w:=by
  intro Q m1;induction m1 with
  | nil=>intro m2 a w h;exact h
  | cons o1 m1 ih=>
   intro m2 a w h;rw[List.cons_append];unfold wpList at h ⊢;split
   ·rename_i hw;rw[if_pos hw] at h;rcases h with h | ⟨h1,a0,w0,h2⟩
    ·refine .inl ?_;have h2:=Oper.wp_mono (K':=wpList c.g.P ops Q (m1++m2)) (fun a w=>ih m2 a w) h;unfold Oper.wp at h2 ⊢;generalize (execOp a.eval o1).run c.g.P w=r at*;cases r with
     | ok n w'=>cases n<;>simp only[Oper.upon] at h2 ⊢ <;> exact h2
     | halt x w'=>cases x<;>simp only[Oper.upon] at h2 ⊢ <;> exact h2
    ·exact .inr ⟨h1,a0,w0,h2⟩
   ·rename_i hw;rw[if_neg hw] at h;exact ih m2 _ _ h
 rw[hops];refine key _ ops.toList.dropLast [o] a w ?_;have e0:ops.toList.toArray=ops:=by simp
 rw[e0] at h1;refine bQF (fun e a w hq=>?_) h1;cases e with
 | normal=>
  obtain⟨S',hf',fv,cap,first,asx,hfv,has,hq⟩:=hq;show wpList _ _ _ [o] _ _;unfold wpList;rw[if_pos (by simp[Region.wanted,hgd])];refine .inl ?_;have hev:=hf'.ev hfv;have hxs:(xs.map a.eval)=asx.toArray:=by
   apply Array.ext';rw[Array.toList_map];exact gQW (ρ:=a.eval) (fun x v h=>hf'.ev h) _ _ has
  unfold Oper.wp;have hrun:(execOp a.eval o).run c.g.P w= .ok (.defer ⟨.fn fv cap,first++asx.toArray⟩) w:=by
   simp only[execOp,ho,resolve,hev,hxs];simp[Deferred.ofValue]
  rw[hrun,Oper.upon_defer];unfold wpList;unfold AtG at hq;refine hq _ ⟨?_,?_,?_⟩
  ·rw[hdst];exact hf'.size
  ·rw[hdst];show _::a.defers=_;rw[hf'.defers]
  ·rw[hdst];exact hf'.has
 | exit i=>obtain⟨S',hf',hq⟩:=hq;unfold iQH at hq;exact hq a hf'
 | goto i=>obtain⟨S',hf',hq⟩:=hq;unfold iQH at hq;exact hq a hf'
 | ret=>obtain⟨S',hf',hq⟩:=hq;unfold iQH at hq;exact hq a hf'
 | panic i=>obtain⟨S',hf',hq⟩:=hq;unfold iQH at hq;exact hq a hf'
 | outgrown=>obtain⟨S',hf',hq⟩:=hq;unfold iQH at hq;exact hq a hf'
end
def vQJ (R:Value->World->Prop):Ending->World->Prop
 | .returned v,w=>R v w
 | _,_=>False
theorem hQs {c:Cx}(hg:c.g.Ok){f:FuncId}{fn:Func}{x:Code}{args:List Value}{w:World}{R:Value->World->Prop}(hf:c.g.P.funcs[f]? =some fn)(hb:fn.body=some x)(hN:⟨fn.ntmps,[]⟩=c.N)
  (hl:Nat.ble args.length c.N.n=true) (h:rQX [0,1,2,3,4,5,6,7,8,9,10,11,12,13,14,15] args [] (fun S=>AtG c [x] S w (bodyPostD c.g.P fn (vQJ R)))):Fn c.g.P f args w R:=by
 unfold Fn;have _:=hg;obtain⟨S,hS,hx⟩:=eQk _ args [] 0 args (fun j t ht=>by
  match j,ht with
  | 0,ht | 1,ht | 2,ht | 3,ht | 4,ht | 5,ht | 6,ht | 7,ht | 8,ht | 9,ht | 10,ht | 11,ht | 12,ht | 13,ht | 14,ht | 15,ht=>simp at ht;omega
  | j+16,ht=>simp at ht) (by simp) (fun k x hk=>by simp[Env.ent] at hk) h
 have hn:fn.ntmps=c.N.n:=congrArg Slots.n hN;have hfit:=bQK (N:=c.N.n) args (Nat.le_of_ble_eq_true hl) S hS;rw[<-hn,hN] at hfit;unfold AtG at hx;have h1:=hx _ hfit;refine(calls_of_wp_defers hf hb (R:=vQJ R) ?_).mono (fun e w' he=>by cases e<;>exact he);unfold pQv at h1;refine wp_mono h1 (fun e a w hq=>?_);cases e<;>first | exact hq | (unfold pQv at hq;exact hq)
section
variable {c:Cx} {S:Env} {w:World}
theorem rQO (hg:c.g.Ok){fn:Func}{R:Value->World->Prop}{e:Exit}(hN:c.N.ds=[])(he:e= .ret∨e= .normal)(h:nQh c S w R fn.results.toList []):iQH c S w e (bodyPostD c.g.P fn (vQJ R)):=by
 unfold iQH;intro a hf;obtain⟨v,h1,h2⟩:=bQx hg hf h;have hd:a.defers=[]:=by rw[hf.defers,hN]
 rcases he with rfl | rfl <;>
 ·unfold bodyPostD;simp only;rw[hd];exact⟨v,h1,h2⟩
theorem tQc (hg:c.g.Ok){fn:Func}{R:Value->World->Prop}{u:FrameMode}{a:Act}{F:FuncId}{asx cap:Array Value}(hN:c.N.ds=[⟨.fn (.func F) cap,asx⟩])(hF:pQd F c.g.fns=true)(hu:u≠ .run)(hf:Fits c.N S a){args:Array Value}(hA:asx++cap=args)
  (h:CallsD c.g.P F args u w (fun e u' w'=>∃v,e= .returned v/\settle u'= .returning/\nQh c S w' R fn.results.toList [])):Leaves c.g.P fn a.tmps (vQJ R) a.defers u w:=by
 subst hA;rw[hf.defers,hN];refine leaves_cons (f:=F) (args:=asx++cap) hu ?_ ?_
 ·have hc:=hg.fns F (fQn hF);simp only[invoke];rw[dQf hc]
 ·refine h.mono (fun e u' w' he=>?_);obtain⟨v,rfl,hs,hk⟩:=he;simp only;rw[hs];obtain⟨v,h1,h2⟩:=bQx hg hf hk;exact⟨v,h1,h2⟩
theorem pQf (hg:c.g.Ok){fn:Func}{R:Value->World->Prop}{e:Exit}{F:FuncId}{asx cap:Array Value}(hN:c.N.ds=[⟨.fn (.func F) cap,asx⟩])(hF:pQd F c.g.fns=true)(he:e= .ret∨e= .normal){args:Array Value}(hA:asx++cap=args)
  (h:CallsD c.g.P F args .returning w (fun e u' w'=>∃v,e= .returned v/\settle u'= .returning/\nQh c S w' R fn.results.toList [])):iQH c S w e (bodyPostD c.g.P fn (vQJ R)):=by
 unfold iQH;intro a hf;have:=tQc hg hN hF (by simp) hf hA h;rcases he with rfl | rfl<;>exact this
theorem eQe (hg:c.g.Ok){fn:Func}{R:Value->World->Prop}{ch:List PanicEntry}{F:FuncId}{asx cap:Array Value}(hN:c.N.ds=[⟨.fn (.func F) cap,asx⟩])(hF:pQd F c.g.fns=true){args:Array Value}(hA:asx++cap=args)
  (h:CallsD c.g.P F args (.panicking ch) w (fun e u' w'=>∃v,e= .returned v/\settle u'= .returning/\nQh c S w' R fn.results.toList [])):iQH c S w (.panic ch) (bodyPostD c.g.P fn (vQJ R)):=by
 unfold iQH;intro a hf;exact tQc hg hN hF (by simp) hf hA h
end
theorem iQn {c:Cx}(hg:c.g.Ok){f:FuncId}{fn:Func}{x:Code}{args:List Value}{w:World}{R:Value->World->Prop}(u:FrameMode)(hf:c.g.P.funcs[f]? =some fn)(hb:fn.body=some x)(hN:⟨fn.ntmps,[]⟩=c.N)
  (hl:Nat.ble args.length c.N.n=true) (h:rQX [0,1,2,3,4,5,6,7,8,9,10,11,12,13,14,15] args [] (fun S=>fQ4 c x S w (Fin c fn.results.toList R))):CallsD c.g.P f args.toArray u w (fun e u' w'=>u'=u/\∃v,e= .returned v/\R v w'):=by
 obtain⟨S,hS,hx⟩:=eQk _ args [] 0 args (fun j t ht=>by
  match j,ht with
  | 0,ht | 1,ht | 2,ht | 3,ht | 4,ht | 5,ht | 6,ht | 7,ht | 8,ht | 9,ht | 10,ht | 11,ht | 12,ht | 13,ht | 14,ht | 15,ht=>simp at ht;omega
  | j+16,ht=>simp at ht) (by simp) (fun k x hk=>by simp[Env.ent] at hk) h
 refine callsD_of_wp hf hb ?_;have hn:fn.ntmps=c.N.n:=congrArg Slots.n hN;have hfit:=bQK (N:=c.N.n) args (Nat.le_of_ble_eq_true hl) S hS;rw[<-hn,hN] at hfit;refine wp_mono (bQN hg x S w _ _ hx hfit) (fun e a w' hq=>?_);obtain⟨S',hf',hq⟩:=hq;have hd':a.defers=[]:=by rw[hf'.defers,<-hN]
 cases e with
 | normal=>obtain⟨v,h1,h2⟩:=bQx hg hf' hq;exact⟨hd',v,h1,v,rfl,h2⟩
 | ret=>obtain⟨v,h1,h2⟩:=bQx hg hf' hq;exact⟨hd',v,h1,v,rfl,h2⟩
 | exit i=>exact hq.elim
 | goto l=>exact hq.elim
 | panic ch=>exact hq.elim
 | outgrown=>exact hq.elim
end
section
open Go Go.RowKit
theorem eQt {c:Cx}(hg:c.g.Ok){o:Oper}{S:Env}{w:World}{K:Env->World->Prop}{Q:cQB}{x:Operand}{tx t:Nat}{k:IntKind}{v:Value}{r:TyRow}(ho:o.op= .typeAssert x tx t true)(hr:aQA c.g.tys t=some r)(hd:r.d= .int k)(hx:S.ev x=some (.iface t v))
  (kk:bQq c S o.dst (.v (.tuple #[v,.bool true])) (fun S=>K S w)):cQv c o S w K Q:=by
 have hr':=(hg.row hr).1;rw[hd] at hr';refine aQ9 (w':=w) (v:=.tuple #[v,.bool true]) (fun a hf=>?_) kk;have e1:=hf.ev hx;simp only[execOp,ho,e1];simp[Instr.typeAssert,run_underlying hr']
theorem pQw {P:Program}{t:TypeId}{ms:Array (String×TypeId)}{w:World}(hu:P.underlying t=some (.interface ms))(n:Nat):(Op.equalIn (n+1) t .nilIface .nilIface).run P w= .ok true w:=by simp[Op.equalIn,run_underlying hu]
theorem iQI {P:Program}{o1 o2:Oper}{Q:Exit->Act->List Frame->World->Prop}{a:Act}{cs cs':List Frame}{w:World}{d1 d2:Nat}{v:Value}(h1:o1.op= .call ⟨.builtin .recover, #[], #[]⟩)(h1d:o1.dst=some d1)(h1g:o1.guard=none)(h2:o2.op= .assign (.tmp d1))(h2d:o2.dst=some d2)(h2g:o2.guard=none)
  (hsz:d1<a.tmps.size) (hrec:recoverD cs=some (v,cs')∨(recoverD cs=none/\v= .nilIface/\cs'=cs)) (h:Q .normal ((a.put (some d1) v).put (some d2) v) cs' w):wpOpsS P #[o1,o2] Q (List.range 2) a cs w:=by
 have e1:∀ρ,(execOp ρ o1).run P w= .ok .recover w:=fun ρ=>by
  simp only[execOp,h1,resolve,invoke,builtin];simp
 have e2:(execOp (a.put (some d1) v).eval o2).run P w= .ok (.value v) w:=by
  simp only[execOp,h2];simp[Act.eval,Act.put,hsz]
 show wpOpsS P #[o1,o2] Q [0,1] a cs w;have key:wpOpsS P #[o1,o2] Q [1] (a.put (some d1) v) cs' w:=by
  unfold wpOpsS;simp only[List.getElem?_toArray,List.getElem?_cons_succ,List.getElem?_cons_zero];rw[if_pos (by simp[Region.wanted,h2g]),e2];simp only[Oper.upon,h2d];unfold wpOpsS;exact h
 unfold wpOpsS;simp only[List.getElem?_toArray,List.getElem?_cons_zero];rw[if_pos (by simp[Region.wanted,h1g]),e1];rcases hrec with hr | ⟨hr,rfl,rfl⟩
 ·simp only[hr,h1d];exact key
 ·simp only[hr,h1d];exact key
theorem dQi {c:Cx}(hg:c.g.Ok){x:Code}{fn:Func}{c₀:Frame}{cs:List Frame}{R:Ending->FrameMode->World->Prop}{S:Env}{a:Act}{w:World}{u':FrameMode}(hN:c.N.ds=[])(hf:Fits c.N S a)
  (h:fQ4 c x S w (Fin c fn.results.toList (fun v w'=>R (.returned v) u' w'))):x.wpS c.g.P (bodyPostS c.g.P fn c₀ cs R) a ({c₀ with mode:=u'}::cs) w:=by
 refine wpS_of_wp (wp_mono (bQN hg x S w _ a h hf) (fun e a' w' hq=>?_));obtain⟨S',hf',hq⟩:=hq;have hd':a'.defers=[]:=by rw[hf'.defers,hN]
 cases e with
 | normal=>obtain⟨v,h1,h2⟩:=bQx hg hf' hq;exact⟨hd',u',rfl,v,h1,h2⟩
 | ret=>obtain⟨v,h1,h2⟩:=bQx hg hf' hq;exact⟨hd',u',rfl,v,h1,h2⟩
 | exit i=>exact hq.elim
 | goto l=>exact hq.elim
 | panic ch=>exact hq.elim
 | outgrown=>exact hq.elim
def vQ3 (f e:Nat)(k:Int)(w w':World):Prop:=Blk w' f 149 [.slice none 0 0]/\Blk w' e 34 [.int .i64 k]/\Mod (fun i=>i=f∨i=e) w w'
theorem nQo (f e:Nat)(k:Int)(w:World)(v1 v2:Value)(hne:f≠e)(hf:Blk w f 149 [v1])(he:Blk w e 34 [v2]):
  CallsD Tryz.prog 140 #[.pointer (some ⟨f,0,none⟩),.pointer (some ⟨e,0,none⟩)] (.panicking [{v:=.iface 34 (.int .i64 k),recovered:=false}]) w
   (fun en u' w'=>∃v,en= .returned v/\settle u'= .returning/\vQ3 f e k w w'):=by
 refine callsD_of_wpS Tryz.func140 rfl fun c₀ cs hu=>?_
 have hfit:=bQK (N:=wQ8.N.n) [.pointer (some ⟨f,0,none⟩),.pointer (some ⟨e,0,none⟩)] (Nat.le_of_ble_eq_true rfl) [(0,.v (.pointer (some ⟨f,0,none⟩))),(1,.v (.pointer (some ⟨e,0,none⟩)))] (by
  intro k x hk
  match k,hk with
  | 0,hk=>cases hk;rfl
  | 1,hk=>cases hk;rfl
  | k+2,hk=>exact nomatch (show(none:Option Ent)=some x from hk))
 have hf5:=hfit.put (d:=5) (by decide) (.v (.iface 34 (.int .i64 k)));have hf2:=hf5.put (d:=2) (by decide) (.v (.iface 34 (.int .i64 k)));refine wpS_seq (wpS_region ?_);refine iQI (cs':={c₀ with mode:=.panicking [{v:=.iface 34 (.int .i64 k),recovered:=true}]}::cs) (v:=.iface 34 (.int .i64 k)) rfl rfl rfl rfl rfl rfl (by simp) (.inl (by simp[recoverD,hu])) ?_;refine dQi (c:=wQ8) aQb rfl hf2 ?_;refine aQM rfl ?_;refine eQt aQb rfl rfl rfl rfl ?_;refine aQN rfl ?_;refine aQC hf (by simp) (fun w1 hm1 hB1=>?_);refine aQC (he.mod hm1 (fun h=>hne h.symm)) (by simp) (fun w2 hm2 hB2=>?_);exact⟨_,rfl,rfl,hB1.mod hm2 hne,hB2,(hm1.mono (fun i hi=>.inl (.inl hi))).trans hm2 (fun i hi=>.inl (.inr hi))⟩
theorem oQx (f e:Nat)(w:World):
  CallsD Tryz.prog 140 #[.pointer (some ⟨f,0,none⟩),.pointer (some ⟨e,0,none⟩)] .returning w
   (fun en u' w'=>∃v,en= .returned v/\settle u'= .returning/\w=w'):=by
 refine callsD_of_wpS Tryz.func140 rfl fun c₀ cs hu=>?_
 have hfit:=bQK (N:=wQ8.N.n) [.pointer (some ⟨f,0,none⟩),.pointer (some ⟨e,0,none⟩)] (Nat.le_of_ble_eq_true rfl) [(0,.v (.pointer (some ⟨f,0,none⟩))),(1,.v (.pointer (some ⟨e,0,none⟩)))] (by
  intro k x hk
  match k,hk with
  | 0,hk=>cases hk;rfl
  | 1,hk=>cases hk;rfl
  | k+2,hk=>exact nomatch (show(none:Option Ent)=some x from hk))
 have hf5:=hfit.put (d:=5) (by decide) (.v .nilIface);have hf2:=hf5.put (d:=2) (by decide) (.v .nilIface);refine wpS_seq (wpS_region ?_);refine iQI (cs':={c₀ with mode:=.returning}::cs) (v:=.nilIface) rfl rfl rfl rfl rfl rfl (by simp) (.inr ⟨by simp[recoverD,hu],rfl,by rw[<-hu]⟩) ?_;refine dQi (c:=wQ8) aQb rfl hf2 ?_;refine aQ9 (w':=w) (v:=.bool false) (fun a hf=>?_) ?_
 ·have e1:=hf.ev (show Env.ev _ (.tmp 6)=some .nilIface from rfl);have hu:=Tryz.underlying20;have e2:(Op.equal 20 .nilIface .nilIface).run Tryz.prog w= .ok true w:=pQw hu 9999;have e3:binOp .neq 20 .nilIface .nilIface=(do pure (.bool (!(<-Op.equal 20 .nilIface .nilIface)))):=rfl;simp only[execOp,e1,eqGuard];simp[Act.eval,e3,show gx.P=Tryz.prog from rfl,e2]
 refine aQN rfl ?_;exact⟨_,rfl,rfl,rfl⟩
end
section
open Go Go.RowKit
def ixR (l:List Nat):List (List Nat)->Nat->Option Nat->Option Nat
 | [],_,acc=>acc
 | s::names,i,acc=>ixR l names (i+1) (if s=l then some i else acc)
def ixN (names:List (List Nat))(l:List Nat):Option Nat:=ixR l names 0 none
theorem tQd (l:List Nat)(hl:∀x∈l,x<256):∀(names:List (List Nat))(i:Nat)(acc:Option Nat)(m:List (ByteArray×Value)),aQ2 names->aQS (aQh l) m=acc.map (fun v:Nat=>Value.int .i64 v)->
  aQS (aQh l) (dQb names i m)=(ixR l names i acc).map (fun v:Nat=>Value.int .i64 v)
 | [],i,acc,m,_,h=>h
 | s::names,i,acc,m,hn,h=>by
  simp only[dQb,ixR];refine tQd l hl names (i+1) _ _ (fun t ht=>hn t (by simp[ht])) ?_;rw[bQe];by_cases hs:s=l
  ·subst hs;simp
  ·rw[if_neg (fun e=>hs (aQD hl (hn s (by simp)).1 e).symm),if_neg hs];exact h
theorem pQx {names:List (List Nat)}(hn:aQ2 names):xQX (ixN names) (dQb names 0 []):=fun l hl=>tQd l hl names 0 none [] hn rfl
def dQj (names:List (List Nat))(s:List Nat):List Fz×Int:=if aQV names then
  match eQr (ixN names) (s.length+1) ⟨s,[],false⟩with
  | none=>([],31)
  | some (_,p)=>if bQj p.r≠ [] then([],31)else if p.u then([],3)else if 512<p.f.length then([],2)else(p.f,0)
 else([],1)
def uQd (w:World)(r:List Fz×Int)(v:Value)(w':World):Prop:=∃F m cF,v= .tuple #[.slice F m cF,.int .i64 r.2]/\Ext w w'/\SlS Fz.cells 4 w' F m cF r.1
theorem pQy (p:Ps):bQ7 [] p=(true,{p with r:=bQj p.r}):=by rw[fQw];rfl
theorem nQp (names:List (List Nat))(A:Option Addr)(n c:Nat)(s:List Nat)(w:World)(h:Sl w 1 A n c (aQ6 names))(hb:aQ2 names)(hs:∀x∈s,x<256)(hl:s.length<=1000000000000):
  Fn Tryz.prog 89 [.slice A n c,.string (aQh s)] w (uQd w (dQj names s)):=by
 refine hQs (c:={c89 with cuts:=[]}) aQb Tryz.func89 rfl rfl rfl ?_;refine aQL (aQv aQb ?_);refine new (fun w1 hE1 hz1 hB1=>?_);refine new (fun w2 hE2 hz2 hB2=>?_);have hE02:=hE1.trans hE2;refine aQL (aQv aQb ?_);refine call (gQb names A n c w2 (h.ext hE02) hb) ?_;rintro v w3 ⟨v1,rfl,hE3,hmap⟩;have hE03:=hE02.trans hE3;have hBf:=(hB1.ext hE2).ext hE3;have hBe:=hB2.ext hE3;refine aQL (aQv aQb ?_);cases hok:aQV names with
 | false=>
  refine aQM rfl ?_;refine aQC hBf (by simp[bQd]) (fun w4 hm4 hB4=>?_);have hne:w1.heap.size≠w.heap.size:=by omega
  refine aQC (hBe.mod hm4 hne) (by simp[bQd]) (fun w5 hm5 hB5=>?_);refine rQO aQb rfl (.inl rfl) ?_;refine aQg (hB4.mod hm5 hne.symm) rfl ?_;refine aQg hB5 rfl ?_;have hE5:=hm5.ext (hm4.ext hE03 (fun i hi=>by omega)) (fun i hi=>by omega);refine⟨none,0,0,?_,hE5,?_⟩
  ·unfold dQj;rw[hok];rfl
  ·unfold dQj;rw[hok];exact SlS.nil _
 | true=>
  refine aQN rfl ?_;obtain⟨q,rfl,hq,hmq⟩:=hmap hok;refine aQL (eQs aQb rfl rfl rfl rfl ⟨_,_,_,_,rfl,rfl,?_⟩);refine aQL (aQv aQb ?_);refine new (fun w4 hE4 hz4 hB4=>?_);have hE04:=hE03.trans hE4;have hz3:=hE3.size;have hR:Rd w4 w4.heap.size w3.heap.size none 0 (.map (some q)) ⟨s,[],false⟩:=⟨hB4,Own.nil _ _ _ _,by omega,Nat.le_refl _,hs,by simpa using hl⟩
  have hG:GM w3.heap.size q (dQb names 0 []) w4 none:=⟨hmq.ext hE4,by have:=hmq.lt;omega,fun⟨_,e,_⟩=>by cases e⟩
  have hne:w.heap.size≠w1.heap.size:=by omega
  have hnr:∀i,i<w3.heap.size->¬RdS w3.heap.size none i:=fun i hi e=>by
   rcases e with rfl | ⟨_,e,_⟩
   ·omega
   ·cases e
  have keep:∀w',Mod (RdS w3.heap.size none) w4 w'->Ext w w'/\Blk w' w.heap.size 149 [.slice none 0 0]/\Blk w' w1.heap.size 34 [.int .i64 0]:=fun w' hm=>by
   refine⟨hm.ext hE04 (fun i hi=>?_),(hBf.ext hE4).mod hm (hnr _ (by omega)),(hBe.ext hE4).mod hm (hnr _ (by omega))⟩;rcases hi with rfl | ⟨_,e,_⟩
   ·omega
   ·cases e
  have pan:∀k w' w'',Ext w w'->vQ3 w.heap.size w1.heap.size k w' w''->dQj names s=([],k)->uQd w (dQj names s) (.tuple #[.slice none 0 0,.int .i64 k]) w'':=fun k w' w'' hE hR hp=>by
   rw[hp];refine⟨none,0,0,rfl,hR.2.2.ext hE (fun i hi=>by rcases hi with rfl | rfl<;>omega),SlS.nil _⟩
  have hpp:dQj names s=match eQr (ixN names) (s.length+1) ⟨s,[],false⟩with
   | none=>([],31)
   | some (_,p)=>if bQj p.r≠ [] then([],31)else if p.u then([],3)else if 512<p.f.length then([],2)else(p.f,0):=by unfold dQj;rw[if_pos hok]
  refine aQL (aQv aQb ?_);refine aQX (nQn (s.length+1) _ _ none 0 _ q _ _ _ w4 hR hG (Nat.lt_succ_self _) (iQG (ixN names) _ _ q _ (pQx hb) (s.length+1))) ?_ ?_
  rotate_left
  ·rintro ch w5 ⟨ho,rfl,hm5⟩;obtain⟨hE5,hf5,he5⟩:=keep w5 hm5;refine eQe aQb rfl rfl (args:= #[.pointer (some ⟨w.heap.size,0,none⟩),.pointer (some ⟨w1.heap.size,0,none⟩)]) (by simp) ((nQo _ _ 31 w5 _ _ hne hf5 he5).mono ?_);rintro e u' w6 ⟨v,rfl,hs6,hR6⟩;refine⟨v,rfl,hs6,?_⟩;refine aQg hR6.1 rfl ?_;refine aQg hR6.2.1 rfl ?_;exact pan 31 w5 w6 hE5 hR6 (by rw[hpp];unfold eQr;rw[ho])
  rintro v w5 ⟨a,p,ho,rfl,A5,c5,h5,hm5,hv5⟩;refine aQL (aQv aQb ?_);refine call (gQc _ _ A5 c5 _ p [] w5 h5 (by simp)) ?_;rintro v w6 ⟨rfl,h6,hm6⟩;rw[pQy] at h6;simp only at h6;have hm06:Mod (RdS w3.heap.size none) w4 w6:=hm5.trans hm6 (fun i hi=>.inl (.inl hi));obtain⟨hE6,hf6,he6⟩:=keep w6 hm06;have hpq:dQj names s=if bQj p.r≠ [] then([],31)else if p.u then([],3)else if 512<p.f.length then([],2)else(p.f,0):=by rw[hpp];unfold eQr;rw[ho]
  have e0:((aQh (bQj p.r)=(⟨#[]⟩:ByteArray))↔bQj p.r=[]):=⟨fun h=>aQD h6.b8 (by simp) h,fun h=>by rw[h];rfl⟩
  refine aQL (aQv aQb ?_);refine aQe h6.blk rfl ?_;by_cases ht:¬bQj p.r=[]
  ·refine aQM (by rw[decide_eq_false (fun h=>ht (e0.1 h))];rfl) ?_;refine dQ3 rfl rfl ?_;refine eQe aQb rfl rfl (args:= #[.pointer (some ⟨w.heap.size,0,none⟩),.pointer (some ⟨w1.heap.size,0,none⟩)]) (by simp) ((nQo _ _ 31 w6 _ _ hne hf6 he6).mono ?_);rintro e u' w7 ⟨v,rfl,hs7,hR7⟩;refine⟨v,rfl,hs7,?_⟩;refine aQg hR7.1 rfl ?_;refine aQg hR7.2.1 rfl ?_;exact pan 31 w6 w7 hE6 hR7 (by rw[hpq,if_pos ht])
  replace ht:=Decidable.not_not.1 ht;refine aQN (by rw[decide_eq_true (e0.2 ht)];rfl) ?_;rw[if_neg (fun h=>h ht)] at hpq;refine aQe h6.blk rfl ?_;refine wif (fun hu=>?_) (fun hu=>?_)
  ·refine dQ3 rfl rfl ?_;refine eQe aQb rfl rfl (args:= #[.pointer (some ⟨w.heap.size,0,none⟩),.pointer (some ⟨w1.heap.size,0,none⟩)]) (by simp) ((nQo _ _ 3 w6 _ _ hne hf6 he6).mono ?_);rintro e u' w7 ⟨v,rfl,hs7,hR7⟩;refine⟨v,rfl,hs7,?_⟩;refine aQg hR7.1 rfl ?_;refine aQg hR7.2.1 rfl ?_;exact pan 3 w6 w7 hE6 hR7 (by rw[hpq,if_pos hu])
  rw[if_neg (by rw[show p.u=false from hu];decide)] at hpq;refine aQe h6.blk rfl ?_;refine aQq (fun hl=>?_) (fun hl=>?_)
  ·refine dQ3 rfl rfl ?_;refine eQe aQb rfl rfl (args:= #[.pointer (some ⟨w.heap.size,0,none⟩),.pointer (some ⟨w1.heap.size,0,none⟩)]) (by simp) ((nQo _ _ 2 w6 _ _ hne hf6 he6).mono ?_);rintro e u' w7 ⟨v,rfl,hs7,hR7⟩;refine⟨v,rfl,hs7,?_⟩;refine aQg hR7.1 rfl ?_;refine aQg hR7.2.1 rfl ?_;exact pan 2 w6 w7 hE6 hR7 (by rw[hpq,if_pos (show 512<p.f.length by simp only at hl;omega)])
  have hl':¬512<p.f.length:=fun h=>hl (by simp only;omega)
  rw[if_neg hl'] at hpq;refine aQL (aQv aQb ?_);refine aQe h6.blk rfl ?_;refine aQC hf6 (by simp) (fun w7 hm7 hB7=>?_);refine aQC (he6.mod hm7 hne.symm) (by simp) (fun w8 hm8 hB8=>?_);refine aQv aQb ?_;refine pQf aQb rfl rfl (.inl rfl) (args:= #[.pointer (some ⟨w.heap.size,0,none⟩),.pointer (some ⟨w1.heap.size,0,none⟩)]) (by simp) ((oQx _ _ w8).mono ?_);rintro e u' _ ⟨v,rfl,hs9,rfl⟩;refine⟨v,rfl,hs9,?_⟩;refine aQg (hB7.mod hm8 hne) rfl ?_;refine aQg hB8 rfl ?_;rw[hpq];have hM:Mod (fun i=>i=w.heap.size∨i=w1.heap.size) w6 w8:=(hm7.mono (fun i hi=>.inl (.inl hi))).trans hm8 (fun i hi=>.inl (.inr hi));refine⟨A5,p.f.length,c5,rfl,hM.ext hE6 (fun i hi=>by rcases hi with rfl | rfl<;>omega),?_,rfl⟩;have hrow:∀i,aQx A5 i->w4.heap.size<=i:=fun i hi=>(h6.own.rows i hi).1
  exact(h6.own.mod hM (fun i hi e=>by have:=hrow i hi;rcases e with rfl | rfl<;>omega)).sl
end
end
section
section
open Go Go.RowKit
def fAr (o:Int):Int:=if o=0∨o=1∨o=2 then 0 else if o=3 then 1 else if o=4∨o=5 then 2 else -1
theorem dQG (o:Int):((o=0∨o=1∨o=2)/\fAr o=0)∨(o=3/\fAr o=1)∨((o=4∨o=5)/\fAr o=2)∨(fAr o= -1/\o≠0/\o≠1/\o≠2/\o≠3/\o≠4/\o≠5):=by
 unfold fAr;split
 ·left;omega
 ·split
  ·right;left;omega
  ·split
   ·right;right;left;omega
   ·right;right;right;omega
def fzP (x:Fz)(i:Nat):Prop:=0<=fAr x.o/\(if x.o=2 then 0<=x.v/\x.v<64 else x.v=0)/\(if 0<fAr x.o then 0<=x.a/\x.a<i else x.a=0)/\(if 1<fAr x.o then 0<=x.b/\x.b<i else x.b=0)
instance (x:Fz) (i:Nat):Decidable (fzP x i):=by unfold fzP;infer_instance
def bQz (x:Fz):Fz:=⟨x.o,if x.o=2 then x.v else 0,if 0<fAr x.o then x.a else 0,if 1<fAr x.o then x.b else 0⟩
theorem eq4 (a b c d a' b' c' d':Int):(a==a'&&(b==b'&&(c==c'&&(d==d'&&true))))=decide (a=a'/\b=b'/\c=c'/\d=d'):=by
 rw[Bool.eq_iff_iff];simp only[Bool.and_eq_true,beq_iff_eq,decide_eq_true_eq,and_true]
theorem nQq (x:Fz):(x.o=(bQz x).o/\x.v=(bQz x).v/\x.a=(bQz x).a/\x.b=(bQz x).b)↔((x.o≠2->x.v=0)/\(fAr x.o<=0->x.a=0)/\(fAr x.o<=1->x.b=0)):=by
 unfold bQz;simp only;constructor
 ·rintro⟨_,h1,h2,h3⟩;split at h1<;>split at h2<;>split at h3<;>omega
 ·rintro⟨h1,h2,h3⟩;refine⟨trivial,?_,?_,?_⟩<;>split<;>omega
theorem rQ9 (x:Fz)(i:Nat)(w:World):Fn Tryz.prog 223 [.agg x.cells.toArray,.int .i64 i] w (fun v w'=>v= .int .i64 (if fzP x i then fAr x.o else -1)/\Ext w w'):=by
 refine aQf (c:={zQf with cuts:=[3]}) aQb Tryz.func223 rfl rfl rfl ?_;refine new (fun w1 hE1 hz1 hB1=>?_);refine aQg hB1 rfl ?_;refine new (fun w2 hE2 hz2 hB2=>?_);refine aQc hB2 rfl (sc rfl) (fun w3 hg3 _ hB3=>?_);have hm3:Mod (·=w1.heap.size) w2 w3:=zQE hg3 rfl
 replace hB3:Blk w3 w1.heap.size 280 [.int .i64 x.o,.int .i64 0,.int .i64 0,.int .i64 0]:=hB3;have hX3:=(hB1.ext hE2).mod hm3 (by omega);have hE3:Ext w w3:=hm3.ext (hE1.trans hE2) (fun i hi=>by omega);refine iQl [] aQb [6] (fun k:Int=>[.int .i64 k]) (fun k w'=>Ext w w'/\Blk w' w.heap.size 280 x.cells/\Blk w' w1.heap.size 280 (bQz x).cells/\k=fAr x.o/\0<=fAr x.o/\(x.o=2->0<=x.v/\x.v<64)) ?_ ?_
 ·refine aQg hX3 rfl ?_;refine aQP (fun h=>?_) (fun h=>?_)
  ·refine⟨_,rfl,hE3,hX3,?_,?_,?_,?_⟩
   ·rw[show(bQz x).cells=[.int .i64 x.o,.int .i64 0,.int .i64 0,.int .i64 0] from by simp[bQz,Fz.cells,h,fAr]];exact hB3
   ·rw[h];rfl
   ·rw[h];decide
   ·intro h2;omega
  refine aQP (fun h1=>?_) (fun h1=>?_)
  ·refine⟨_,rfl,hE3,hX3,?_,?_,?_,?_⟩
   ·rw[show(bQz x).cells=[.int .i64 x.o,.int .i64 0,.int .i64 0,.int .i64 0] from by simp[bQz,Fz.cells,h1,fAr]];exact hB3
   ·rw[h1];rfl
   ·rw[h1];decide
   ·intro h2;omega
  refine aQP (fun h2=>?_) (fun h2=>?_)
  ·refine aQe hX3 rfl ?_;refine aQn hB3 (by simp) (fun w4 hm4 hB4=>?_);have hX4:=hX3.mod hm4 (by omega);have hE4:=hm4.ext hE3 (fun i hi=>by omega);refine aQe hX4 rfl ?_;refine aQq (fun h3=>?_) (fun h3=>?_)
   ·exact⟨by rw[if_neg (fun hf=>by have:=hf.2.1;rw[if_pos h2] at this;omega)],hE4⟩
   refine aQe hX4 rfl ?_;refine aQq (fun h4=>?_) (fun h4=>?_)
   ·exact⟨by rw[if_neg (fun hf=>by have:=hf.2.1;rw[if_pos h2] at this;omega)],hE4⟩
   refine⟨_,rfl,hE4,hX4,?_,?_,?_,?_⟩
   ·rw[show(bQz x).cells=[.int .i64 x.o,.int .i64 x.v,.int .i64 0,.int .i64 0] from by simp[bQz,Fz.cells,h2,fAr]];exact hB4
   ·rw[h2];rfl
   ·rw[h2];decide
   ·intro _;omega
  refine aQP (fun h3=>?_) (fun h3=>?_)
  ·refine aQe hX3 rfl ?_;refine aQn hB3 (by simp) (fun w4 hm4 hB4=>?_);have hX4:=hX3.mod hm4 (by omega);have hE4:=hm4.ext hE3 (fun i hi=>by omega);refine⟨_,rfl,hE4,hX4,?_,?_,?_,?_⟩
   ·rw[show(bQz x).cells=[.int .i64 x.o,.int .i64 0,.int .i64 x.a,.int .i64 0] from by simp[bQz,Fz.cells,h3,fAr]];exact hB4
   ·rw[h3];rfl
   ·rw[h3];decide
   ·intro _;omega
  have two:(x.o=4∨x.o=5)->∀w4,Mod (·=w1.heap.size) w3 w4->Blk w4 w1.heap.size 280 [.int .i64 x.o,.int .i64 0,.int .i64 x.a,.int .i64 x.b]->Ext w w4/\Blk w4 w.heap.size 280 x.cells/\Blk w4 w1.heap.size 280 (bQz x).cells/\(2:Int)=fAr x.o/\0<=fAr x.o/\(x.o=2->0<=x.v/\x.v<64):=fun ho w4 hm4 hB4=>by
   have e:fAr x.o=2:=by rcases ho with h | h<;>rw[h]<;>rfl
   refine⟨hm4.ext hE3 (fun i hi=>by omega),hX3.mod hm4 (by omega),?_,e.symm,by omega,by omega⟩;rw[show(bQz x).cells=[.int .i64 x.o,.int .i64 0,.int .i64 x.a,.int .i64 x.b] from by simp[bQz,Fz.cells,h2,e]];exact hB4
  refine aQP (fun h4=>?_) (fun h4=>?_)
  ·refine aQe hX3 rfl ?_;refine aQn hB3 (by simp) (fun w4 hm4 hB4=>?_);have hX4:=hX3.mod hm4 (by omega);refine aQe hX4 rfl ?_;refine aQn hB4 (by simp) (fun w5 hm5 hB5=>?_);exact⟨_,rfl,two (.inl h4) w5 (hm4.trans hm5 (fun i hi=>.inl hi)) hB5⟩
  refine aQP (fun h5=>?_) (fun h5=>?_)
  ·refine aQe hX3 rfl ?_;refine aQn hB3 (by simp) (fun w4 hm4 hB4=>?_);have hX4:=hX3.mod hm4 (by omega);refine aQe hX4 rfl ?_;refine aQn hB4 (by simp) (fun w5 hm5 hB5=>?_);exact⟨_,rfl,two (.inr h5) w5 (hm4.trans hm5 (fun i hi=>.inl hi)) hB5⟩
  ·have hm1:fAr x.o= -1:=by rcases dQG x.o with h | h | h | h<;>omega
   exact⟨by rw[if_neg (fun hf=>by have:=hf.1;omega)],hE3⟩
 rintro k w4 ⟨hE4,hX4,hP4,rfl,h0,hv⟩;have no:¬fzP x i->∀w',Ext w w'->(Value.int .i64 (-1))= .int .i64 (if fzP x i then fAr x.o else -1)/\Ext w w':=fun h w' hE=>⟨by rw[if_neg h],hE⟩
 have yes:fzP x i->∀w',Ext w w'->(Value.int .i64 (fAr x.o))= .int .i64 (if fzP x i then fAr x.o else -1)/\Ext w w':=fun h w' hE=>⟨by rw[if_pos h],hE⟩
 have hcs:=dQG x.o;refine aQd hX4 rfl ?_;refine aQd hP4 rfl ?_;by_cases hp:x.o=(bQz x).o/\x.v=(bQz x).v/\x.a=(bQz x).a/\x.b=(bQz x).b
 rotate_left
 ·refine aQM (by rw[eq4,decide_eq_false hp];rfl) ?_;refine no (fun hf=>hp ((nQq x).2 ?_)) _ hE4;obtain⟨f1,f2,f3,f4⟩:=hf;split at f2<;>split at f3<;>split at f4<;>omega
 refine aQN (by rw[eq4,decide_eq_true hp];rfl) ?_;have hq:=(nQq x).1 hp;have bad:(x.a<0∨x.b<0∨(0<fAr x.o/\(i<=x.a∨i<=x.b)))->¬fzP x i:=fun hb hf=>by
  obtain⟨f1,f2,f3,f4⟩:=hf;split at f3<;>split at f4<;>omega
 refine aQe hX4 rfl ?_;refine aQq (fun h1=>?_) (fun h1=>?_)
 ·exact no (bad (.inl h1)) _ hE4
 refine aQe hX4 rfl ?_;refine aQq (fun h2=>?_) (fun h2=>?_)
 ·exact no (bad (.inr (.inl h2))) _ hE4
 refine aQq (fun h3=>?_) (fun h3=>?_)
 ·refine aQe hX4 rfl ?_;refine aQe hX4 rfl ?_;refine norm (m:=max x.a x.b) (by rw[Int.max_def];split<;>split<;>omega) ?_;refine aQq (fun h4=>?_) (fun h4=>?_)
  ·refine no (bad (.inr (.inr ⟨h3,?_⟩))) _ hE4;rw[Int.max_def] at h4;split at h4<;>omega
  ·rw[Int.max_def] at h4;refine yes ⟨h0,?_,?_,?_⟩ _ hE4
   ·split
    ·rename_i h;exact hv h
    ·rename_i h;exact hq.1 h
   ·rw[if_pos h3];split at h4<;>omega
   ·split
    ·split at h4<;>omega
    ·exact hq.2.2 (by omega)
 ·refine yes ⟨h0,?_,?_,?_⟩ _ hE4
  ·split
   ·rename_i h;exact hv h
   ·rename_i h;exact hq.1 h
  ·rw[if_neg h3];exact hq.2.1 (by omega)
  ·rw[if_neg (by omega)];exact hq.2.2 (by omega)
end
section
open Go Go.RowKit
def eQu (l:List Bool):List Value:=l.map .bool
theorem iQJ {l:List Bool}{j:Nat}{b:Bool}(h:l[j]? =some b):(eQu l)[j]? =some (.bool b):=by simp[eQu,h]
theorem jQv (l:List Bool):(eQu l).length=l.length:=by simp[eQu]
theorem oQy (l:List Bool)(i:Nat)(b:Bool):eQu (l.set i b)=(eQu l).set i (.bool b):=by simp[eQu,List.map_set]
def dQc (x:Fz):List Nat:=if fAr x.o=2 then [x.a.toNat,x.b.toNat] else if fAr x.o=1 then [x.a.toNat] else []
def bQV (f:List Fz):List Nat:=f.flatMap dQc
def FV (f:List Fz):Prop:=f.length<=512/\0<f.length/\(∀i x,f[i]? =some x->fzP x i)/\∀i,i+1<f.length->(bQV f).count i=1
open Classical in
noncomputable def vQK (f:List Fz):Int:=if FV f then 0 else 30
theorem jQw {f:List Fz}(h:FV f):vQK f=0:=if_pos h
theorem jQx {f:List Fz}(h:¬FV f):vQK f=30:=if_neg h
theorem pQz {f:List Fz}:vQK f=0↔FV f:=by
 constructor
 ·intro h;unfold vQK at h;split at h
  ·assumption
  ·cases h
 ·exact jQw
theorem oQz (d:List Fz){i:Nat}{x:Fz}(h:d[i]? =some x):bQV (d.take (i+1))=bQV (d.take i)++dQc x:=by
 simp[bQV,List.take_add_one,h]
theorem sQa {x:Fz}{i:Nat}(h:fzP x i):∀j∈dQc x,j<i:=by
 intro j hj;obtain⟨_,_,h3,h4⟩:=h;unfold dQc at hj;split at hj
 ·rename_i h2;rw[if_pos (by omega)] at h3 h4;simp at hj;omega
 ·split at hj
  ·rename_i h2;rw[if_pos (by omega)] at h3;simp at hj;omega
  ·simp at hj
theorem sQb {d:List Fz}{i:Nat}(h:∀j x,j<i->d[j]? =some x->fzP x j):∀j∈bQV (d.take i),j+1<i:=by
 intro j hj;simp only[bQV,List.mem_flatMap] at hj;obtain⟨x,hx,hk⟩:=hj;obtain⟨m,hm,hx'⟩:=List.mem_iff_getElem.1 hx;have hlen:m<i:=by simp at hm;omega
 have hx2:d[m]? =some x:=by
  rw[List.getElem_take] at hx';rw[<-hx'];exact List.getElem?_eq_getElem _
 have:=sQa (h m x hlen hx2) j hk;omega
def gQe (l:List Nat)(n:Nat):List Bool:=(List.range n).map fun j=>decide (j∈l)
theorem kQV (l:List Nat)(n j:Nat)(hj:j<n):(gQe l n)[j]? =some (decide (j∈l)):=by simp[gQe,hj]
theorem pQA (l:List Nat)(n:Nat):(gQe l n).length=n:=by simp[gQe]
theorem pQB (l:List Nat)(n k:Nat):(gQe l n).set k true=gQe (l++ [k]) n:=by
 unfold gQe;apply List.ext_getElem
 ·simp
 ·intro i h1 h2;simp at h1;simp only[List.getElem_set,List.getElem_map,List.getElem_range,List.mem_append,List.mem_singleton];split
  ·rename_i h;subst h;simp
  ·rename_i h;have:¬i=k:=fun e=>h e.symm
   simp[this]
theorem pQC (n:Nat):gQe [] n=List.replicate n false:=by
 apply List.ext_getElem
 ·simp[gQe]
 ·intro i h1 h2;simp[gQe]
theorem vQ4 {d:List Fz}{s:Nat}{x:Fz}(hx:d[s]? =some x)(h:¬fzP x s):¬FV d:=fun hv=>h (hv.2.2.1 s x hx)
theorem uQe {d:List Fz}{s:Nat}(hnd:∀j x,j<s->d[j]? =some x->fzP x j)(hs:s<=d.length)(h:¬(bQV (d.take s)).Nodup):¬FV d:=fun hv=>by
 apply h;rw[List.nodup_iff_count];intro a;by_cases ha:a∈bQV (d.take s)
 ·have h1:=sQb hnd a ha;have h2:=hv.2.2.2 a (by omega);rw[<-h2];have hsub:(bQV (d.take s)).Sublist (bQV d):=by
   have:bQV d=bQV (d.take s)++bQV (d.drop s):=by
    unfold bQV;rw[<-List.flatMap_append,List.take_append_drop]
   rw[this];exact List.sublist_append_left _ _
  exact hsub.count_le a
 ·rw[List.count_eq_zero.2 ha];omega
theorem xQs {d:List Fz}(h1:d.length<=512)(h2:0<d.length)(hnd:∀j x,j<d.length->d[j]? =some x->fzP x j)(hn:(bQV d).Nodup)(hu:∀j,j+1<d.length->j∈bQV d):FV d:=
 ⟨h1,h2,fun i x hx=>hnd i x (List.getElem?_eq_some_iff.1 hx).1 hx,fun i hi=>by
  have h3:=List.nodup_iff_count.1 hn i;have h4:=List.count_pos_iff.2 (hu i hi);omega⟩
theorem vQ5 {w:World}{t:TypeId}{cs cs':List Value}{K:Addr->World->Prop}(h:cs=cs')(k:∀w1,Ext w w1->w1.heap.size=w.heap.size+1->Blk w1 w.heap.size t cs'->K ⟨w.heap.size,0,none⟩ w1):New w t cs K:=by
 subst h;exact new k
abbrev SF (w:World)(A:Option Addr)(n c:Nat)(f:List Fz):Prop:=SlS Fz.cells 4 w A n c f
def sQc (x:Fz):List Int:=[x.a,x.b].take (fAr x.o).toNat
theorem pQD {x:Fz}{i:Nat}(h:fzP x i):(sQc x).length=(fAr x.o).toNat/\∀j:Nat,∀a:Int,(sQc x)[j]? =some a->0<=a/\a<i/\(dQc x)[j]? =some a.toNat:=by
 obtain⟨h1,_,h3,h4⟩:=h;unfold sQc dQc;rcases dQG x.o with⟨_,e⟩ | ⟨_,e⟩ | ⟨_,e⟩ | ⟨e,_⟩
 ·rw[e];simp
 ·rw[e] at h3 ⊢;simp at h3;simp;intro j a ha;cases j with
  | zero=>simp at ha;subst ha;simp;omega
  | succ j=>simp at ha
 ·rw[e] at h3 h4 ⊢;simp at h3 h4;simp;intro j a ha
  match j,ha with
  | 0,ha=>simp at ha;subst ha;simp;omega
  | 1,ha=>simp at ha;subst ha;simp;omega
  | j+2,ha=>simp at ha
 ·rw[e] at h1;omega
theorem pQE (x:Fz)(_:0<=fAr x.o):(dQc x).length=(fAr x.o).toNat:=by
 unfold dQc;rcases dQG x.o with⟨_,e⟩ | ⟨_,e⟩ | ⟨_,e⟩ | ⟨e,_⟩<;>rw[e]<;>first | rfl | omega
end
section
open Go Go.RowKit
theorem nQr (A:Option Addr)(n c:Nat)(f:List Fz)(w:World)(h:SF w A n c f):
  Fn Tryz.prog 193 [.slice A n c] w (fun v w'=>v= .int .i64 (vQK f)/\Ext w w'):=by
 have hlen:=h.2;refine aQf (c:={yQX with cuts:=[4]}) aQb Tryz.func193 rfl rfl rfl ?_;refine aQP (fun h1=>?_) (fun h1=>?_)
 ·exact⟨by rw[jQx (fun hv=>by have:=hv.2.1;omega)],Ext.refl w⟩
 refine aQq (fun h2=>?_) (fun h2=>?_)
 ·exact⟨by rw[jQx (fun hv=>by have:=hv.1;omega)],Ext.refl w⟩
 refine vQ5 (cs':=eQu (List.replicate 512 false)) (by kernel_rfl) (fun w1 hE1 hz1 hB1=>?_);rw[<-pQC] at hB1;refine iQl [] aQb [] (fun _:Unit=>[]) (fun _ w'=>Ext w w'/\Blk w' w.heap.size 297 (eQu (gQe (bQV f) 512))/\(∀j x,j<n->f[j]? =some x->fzP x j)/\(bQV f).Nodup) ?_ ?_
 ·refine loop aQb [20] (fun s:Nat=>[.int .i64 s]) (fun s w'=>Ext w w'/\Blk w' w.heap.size 297 (eQu (gQe (bQV (f.take s)) 512))/\s<=n/\(∀j x,j<s->f[j]? =some x->fzP x j)/\(bQV (f.take s)).Nodup) (fun s _=>n-s) 0 rfl ⟨hE1,hB1,Nat.zero_le _,fun j x hj=>absurd hj (by omega),by simp[bQV]⟩ ?_;rintro s w2 ⟨hE2,hU2,hs,hnd,hnn⟩;refine aQq (fun h3=>?_) (fun h3=>?_)
  ·refine aQp nQj (h.ext hE2) rfl (by omega) (fun p x hx hc=>?_);refine aQK (vs:=x.cells) rfl hc ?_;refine new (fun w3 hE3 hz3 hB3=>?_);refine aQc hB3 rfl (sc rfl) (fun w4 hg4 hz4 hB4=>?_);have hE24:Ext w2 w4:=aQJ hE3 hB3 hg4;have hE4:=hE2.trans hE24;have hU4:=hU2.ext hE24;refine aQd hB4 rfl ?_;refine call (rQ9 x s w4) ?_;rintro v w5 ⟨rfl,hE5⟩;have hB5:=hB4.ext hE5;have bad:¬(fzP x s/\(bQV (f.take (s+1))).Nodup)->vQK f=30:=fun hno=>by
    refine jQx ?_;by_cases hx1:fzP x s
    ·refine uQe (s:=s+1) (fun j y hj hy=>?_) (by omega) (fun h=>hno ⟨hx1,h⟩);by_cases hjs:j<s
     ·exact hnd j y hjs hy
     ·have:j=s:=by omega
      subst this;rw[Option.some.inj (hy.symm.trans hx)];exact hx1
    ·exact vQ4 hx hx1
   by_cases hxp:¬fzP x s
   ·refine aQO (by rw[if_neg hxp];decide) ?_;exact⟨by rw[bad (fun hh=>hxp hh.1)],hE4.trans hE5⟩
   replace hxp:=Decidable.not_not.1 hxp;have h0:=hxp.1;have e5:(if fzP x s then fAr x.o else -1)=((fAr x.o).toNat:Int):=by rw[if_pos hxp];omega
   rw[e5];refine aQB (by omega) ?_;refine aQe hB5 rfl ?_;refine aQe hB5 rfl ?_;refine dQB aQb rfl rfl rfl rfl rfl rfl rfl rfl rfl rfl (fun w6 hE6 hz6 hB6=>?_);have har:(fAr x.o).toNat<=2:=by rcases dQG x.o with h | h | h | h<;>omega
   refine bQ1 aQb rfl rfl rfl rfl rfl rfl har ?_;have hE56:=hE5.trans hE6;have hU6:=hU4.ext hE56;have hE06:=hE4.trans hE56;obtain⟨ol,ok⟩:=pQD hxp;have hfl:=pQE x h0;have hsl:Sl w6 1 (some ⟨w5.heap.size,0,none⟩) (fAr x.o).toNat 2 ((sQc x).map (Value.int .i64)):=by
    have:=Sl.own (sz:=1) (n:=(fAr x.o).toNat) (c:=2) hB6 har (by decide) (by simpa using har);rw[Nat.mul_one] at this;simpa [sQc,List.map_take] using this
   have hkz:bQV (f.take (s+1))=bQV (f.take s)++dQc x:=oQz f hx;refine loop aQb [38] (fun t:Nat=>[.int .i64 t]) (fun t w'=>Mod (·=w.heap.size) w6 w'/\Blk w' w.heap.size 297 (eQu (gQe (bQV (f.take s)++(dQc x).take t) 512))/\t<=(fAr x.o).toNat/\(bQV (f.take s)++(dQc x).take t).Nodup) (fun t _=>(fAr x.o).toNat-t) 0 rfl ⟨Mod.refl _ _,by simpa using hU6,Nat.zero_le _,by simpa using hnn⟩ ?_;rintro t w7 ⟨hm7,hU7,ht,hn7⟩;have hE7:Ext w w7:=hm7.ext hE06 (fun i hi=>by omega);refine aQq (fun h7=>?_) (fun h7=>?_)
   ·have htl:t<(sQc x).length:=by omega
    have hot:(sQc x)[t]? =some (sQc x)[t]:=List.getElem?_eq_getElem htl;generalize (sQc x)[t]=a at hot;obtain⟨a0,ai,ak⟩:=ok t a hot;refine aQ3 hsl (by omega) (fun ad u hA hu hcell=>?_);simp only[List.getElem?_map,hot,Option.map_some] at hu;cases hu;have hcell7:w7.cell? (ad.add t)=some (.int .i64 a):=World.grownBy.cell (hm7.grown (row:=some w.heap.size) (fun i hi=>by rw[hi])) hcell (by
     rw[cQG];cases hA;intro e;have:=(Option.some.inj e)
     have:=hE4.size;have:=hE5.size;have:=hE1.size;have:=hU2.lt;simp only at*;omega)
    refine load hcell7 ?_;have hal:a.toNat<512:=by omega
    refine jQk (j:=a.toNat) (by omega) hal ?_;refine aQe hU7 (iQJ (kQV _ _ _ hal)) ?_;have htk:(dQc x).take (t+1)=(dQc x).take t++ [a.toNat]:=by rw[List.take_add_one,ak];rfl
    refine aQq (fun h8=>?_) (fun h8=>?_)
    ·refine⟨?_,hE7⟩;rw[bad];rintro⟨_,hnd2⟩;rw[hkz] at hnd2;have hsub:(bQV (f.take s)++(dQc x).take (t+1)).Nodup:=hnd2.sublist ((List.Sublist.refl _).append (List.take_sublist _ _));rw[htk,<-List.append_assoc,List.nodup_append] at hsub;exact hsub.2.2 _ h8 _ (by simp) rfl
    ·refine jQk (j:=a.toNat) (by omega) hal ?_;refine aQn hU7 (by rw[jQv,pQA];exact hal) (fun w8 hm8 hB8=>?_);rw[<-oQy,pQB,List.append_assoc,<-htk] at hB8;refine aQa ((t+1:Nat):Int) (by omega) (by omega) ?_;refine⟨t+1,rfl,⟨hm7.trans hm8 (fun i hi=>.inl hi),hB8,by omega,?_⟩,by show(fAr x.o).toNat-(t+1)<(fAr x.o).toNat-t;omega⟩;rw[htk,<-List.append_assoc,List.nodup_append];refine⟨hn7,by simp,fun u hu v hv e=>?_⟩;simp only[List.mem_singleton] at hv;subst hv;subst e;exact h8 hu
   ·have e:(dQc x).take t=dQc x:=List.take_of_length_le (by omega);rw[e,<-hkz] at hU7 hn7;refine aQa ((s+1:Nat):Int) (by omega) (by omega) ?_;refine⟨s+1,rfl,⟨hE7,hU7,by omega,fun j y hj hy=>?_,hn7⟩,by show n-(s+1)<n-s;omega⟩;by_cases hjs:j<s
    ·exact hnd j y hjs hy
    ·have:j=s:=by omega
     subst this;rw[Option.some.inj (hy.symm.trans hx)];exact hxp
  ·have:s=n:=by omega
   subst this;rw[List.take_of_length_le (by omega)] at hU2 hnn;exact⟨(),rfl,hE2,hU2,hnd,hnn⟩
 rintro⟨⟩ w2 ⟨hE2,hU2,hnd,hnn⟩;refine aQa ((n-1:Nat):Int) (by omega) (by omega) ?_;refine bQ1 aQb rfl rfl rfl rfl rfl rfl (by have:=h.1.le;omega) ?_;refine loop aQb [55] (fun s:Nat=>[.int .i64 s]) (fun s w'=>w2=w'/\s<=n-1/\∀j,j<s->j∈bQV f) (fun s _=>n-s) 0 rfl ⟨rfl,Nat.zero_le _,fun j hj=>absurd hj (by omega)⟩ ?_;rintro s _ ⟨rfl,hs,hu⟩;refine aQq (fun h3=>?_) (fun h3=>?_)
 ·refine index (by omega) ?_;refine aQe hU2 (iQJ (kQV _ _ s (by omega))) ?_;refine eQl (aQq (fun hm=>?_) (fun hm=>?_))
  ·refine aQa ((s+1:Nat):Int) (by omega) (by omega) ?_;refine⟨s+1,rfl,⟨rfl,by omega,fun j hj=>?_⟩,by show n-(s+1)<n-s;omega⟩;by_cases hjs:j<s
   ·exact hu j hjs
   ·have:j=s:=by omega
    rw[this];exact hm
  ·refine⟨?_,hE2⟩;rw[jQx (fun hv=>?_)];have:=hv.2.2.2 s (by omega);rw[List.count_eq_zero.2 hm] at this;cases this
 ·exact⟨by rw[jQw (xQs (by omega) (by omega) (fun j x hj hx=>hnd j x (by omega) hx) hnn (fun j hj=>hu j (by omega)))],hE2⟩
end
end
section
section
open Go Go.RowKit
inductive Fm where
 | c (b:Bool)
 | v (n:Nat)
 | not (a:Fm)
 | and (a b:Fm)
 | or (a b:Fm)
deriving DecidableEq
def RepF (f:List Fz):Fm->Nat->Prop
 | .c b,i=>f[i]? =some ⟨if b then 1 else 0,0,0,0⟩
 | .v n,i=>f[i]? =some ⟨2,(n:Nat),0,0⟩
 | .not a,i=>∃j:Nat,j<i/\f[i]? =some ⟨3,0,(j:Nat),0⟩/\RepF f a j
 | .and a b,i=>∃j k:Nat,j<i/\k<i/\f[i]? =some ⟨4,0,(j:Nat),(k:Nat)⟩/\RepF f a j/\RepF f b k
 | .or a b,i=>∃j k:Nat,j<i/\k<i/\f[i]? =some ⟨5,0,(j:Nat),(k:Nat)⟩/\RepF f a j/\RepF f b k
theorem uQf {x:Fz}{i:Nat}(h:fzP x i):(x=⟨0,0,0,0⟩)∨(x=⟨1,0,0,0⟩)∨(∃n:Nat,n<64/\x=⟨2,n,0,0⟩)∨(∃j:Nat,j<i/\x=⟨3,0,j,0⟩)∨(∃j k:Nat,j<i/\k<i/\(x=⟨4,0,j,k⟩∨x=⟨5,0,j,k⟩)):=by
 obtain⟨o,v,a,b⟩:=x;obtain⟨h1,h2,h3,h4⟩:=h;simp only at h1 h2 h3 h4;rcases dQG o with⟨ho,e⟩ | ⟨ho,e⟩ | ⟨ho,e⟩ | ⟨e,_⟩
 ·rw[if_neg (by omega)] at h3 h4;subst h3;subst h4;rcases ho with rfl | rfl | rfl
  ·rw[if_neg (by omega)] at h2;subst h2;exact .inl rfl
  ·rw[if_neg (by omega)] at h2;subst h2;exact .inr (.inl rfl)
  ·rw[if_pos rfl] at h2;refine .inr (.inr (.inl ⟨v.toNat,by omega,?_⟩));rw[Int.toNat_of_nonneg h2.1]
 ·rw[if_pos (by omega)] at h3;rw[if_neg (by omega)] at h4 h2;subst ho;subst h4;subst h2;refine .inr (.inr (.inr (.inl ⟨a.toNat,by omega,?_⟩)));rw[Int.toNat_of_nonneg h3.1]
 ·rw[if_pos (by omega)] at h3 h4;rw[if_neg (by omega)] at h2;subst h2;refine .inr (.inr (.inr (.inr ⟨a.toNat,b.toNat,by omega,by omega,?_⟩)));rw[Int.toNat_of_nonneg h3.1,Int.toNat_of_nonneg h4.1];rcases ho with rfl | rfl
  ·exact .inl rfl
  ·exact .inr rfl
 ·omega
theorem tQe {f:List Fz}(h:∀i x,f[i]? =some x->fzP x i):∀i,i<f.length->∃t,RepF f t i:=by
 intro i;induction i using Nat.strongRecOn with
 | _ i ih=>
  intro hi;have hx:=List.getElem?_eq_getElem hi;rcases uQf (h i _ hx)with e | e | ⟨n,_,e⟩ | ⟨j,hj,e⟩ | ⟨j,k,hj,hk,e⟩
  ·exact⟨.c false,by rw[e] at hx;exact hx⟩
  ·exact⟨.c true,by rw[e] at hx;exact hx⟩
  ·exact⟨.v n,by rw[e] at hx;exact hx⟩
  ·obtain⟨a,ha⟩:=ih j hj (by omega);exact⟨.not a,j,hj,by rw[e] at hx;exact hx,ha⟩
  ·obtain⟨a,ha⟩:=ih j hj (by omega);obtain⟨b,hb⟩:=ih k hk (by omega);rcases e with e | e
   ·exact⟨.and a b,j,k,hj,hk,by rw[e] at hx;exact hx,ha,hb⟩
   ·exact⟨.or a b,j,k,hj,hk,by rw[e] at hx;exact hx,ha,hb⟩
theorem RepF.lt {f:List Fz}:∀{t:Fm}{i:Nat},RepF f t i->i<f.length
 | .c _,_,h=>(List.getElem?_eq_some_iff.1 h).1
 | .v _,_,h=>(List.getElem?_eq_some_iff.1 h).1
 | .not _,_,⟨_,_,h,_⟩=>(List.getElem?_eq_some_iff.1 h).1
 | .and _ _,_,⟨_,_,_,_,h,_⟩=>(List.getElem?_eq_some_iff.1 h).1
 | .or _ _,_,⟨_,_,_,_,h,_⟩=>(List.getElem?_eq_some_iff.1 h).1
def cQ9:Fm->Nat
 | .or _ _=>0
 | .and _ _=>1
 | _=>2
def hQt (b:Bool)(s:List Nat):List Nat:=if b then 40::s++ [41] else s
def prC (nm:List (List Nat)):Fm->List Nat
 | .c b=>if b then dQE else cQ0
 | .v n=>nm[n]?.getD []
 | .not a=>33::hQt (decide (cQ9 a<2)) (prC nm a)
 | .and a b=>hQt (decide (cQ9 a<1)) (prC nm a)++ [32,38,38,32]++hQt (decide (cQ9 b<2)) (prC nm b)
 | .or a b=>hQt (decide (cQ9 a<0)) (prC nm a)++ [32,124,124,32]++hQt (decide (cQ9 b<1)) (prC nm b)
def prF (nm:List (List Nat))(least:Nat)(t:Fm):List Nat:=hQt (decide (cQ9 t<least)) (prC nm t)
def VarsIn (n:Nat):Fm->Prop
 | .c _=>True
 | .v k=>k<n
 | .not a=>VarsIn n a
 | .and a b=>VarsIn n a/\VarsIn n b
 | .or a b=>VarsIn n a/\VarsIn n b
theorem mQi (o:Int)(w:World):Fn Tryz.prog 224 [.int .i64 o] w (fun v w'=>v= .int .i64 (if o=5 then 0 else if o=4 then 1 else 2)/\w=w'):=by
 refine aQf (c:=zQg) aQb Tryz.func224 rfl rfl rfl ?_;refine aQP (fun h=>?_) (fun h=>?_)
 ·exact⟨by rw[if_pos h],rfl⟩
 refine aQP (fun h1=>?_) (fun h1=>?_)
 ·exact⟨by rw[if_neg h,if_pos h1],rfl⟩
 ·exact⟨by rw[if_neg h,if_neg h1],rfl⟩
theorem cQW (u:FrameMode)(base g t:Nat)(rest:List Value)(A:Option Addr)(c:Nat)(out:List Nat)(b:Nat)(w:World)(hl:mQb t (rest.length+2))(hb:Bld w base g t rest A c out)(hs:out.length+1<=140737488355328):
  CallsD Tryz.prog 225 [.pointer (some ⟨g,0,none⟩),.int .u8 b].toArray u w (fun e u' w'=>u'=u/\∃v,e= .returned v/\(fun _ w'=>∃A' c',Bld w' base g t rest A' c' (out++ [b])/\Mod (BldS g A) w w'/\Moved w A A') v w'):=by
 refine iQn (c:=xQW) aQb u Tryz.func225 rfl rfl rfl ?_;obtain⟨pa,hpa,hB⟩:=hb.blk;refine call (eQo g t pa _ rest w hl hpa hB) ?_;rintro v w1 ⟨hm1,hB1⟩;have hrows:=hb.own.rows;have hg1:=hb.g1;have htop:=hb.top;have hn:¬aQx A g:=fun h=>by have:=(hrows g h).1;omega
 have hown1:=hb.own.mod hm1 (fun k hk e=>hn (e▸hk));refine aQe hB1 rfl ?_;refine kQL aQb rfl rfl rfl rfl rfl rfl rfl rfl ?_;intro w7 hE7 hsz7 hB7;have hs7:Sl w7 1 (some ⟨w1.heap.size,0,none⟩) 1 1 [.int .u8 (b:Int)]:=Sl.own' hB7 rfl (by simp[maxLen]);have hsz1:=hm1.size;have hsz7':=hE7.size;refine bQf aQb rfl rfl rfl rfl rfl (by decide) rfl rfl ⟨_,rfl⟩ rfl rfl (hown1.ext hE7) hs7 (by simp[aQ8]) (by unfold maxLen;omega) (by show _*1<=_;omega) (by omega) ?_;intro A' c' w2 hm2 hown2 hmv2;refine aQn ((hB1.ext hE7).mod hm2 hn) (by simp) (fun w3 hm3 hB3=>?_);have hrows2:=hown2.rows;refine⟨A',c',⟨hg1,by have:=hm2.size;have:=hm3.size;omega,⟨_,.inr rfl,by rw[List.length_append];exact hB3⟩,?_⟩,?_,hmv2.back (by omega)⟩
 ·rw[List.length_append,cQS];exact hown2.mod hm3 (fun k hk e=>by have:=(hrows2 k hk).1;omega)
 ·exact(((hm1.mono (S':=BldS g A) (fun i hi=>.inl (.inl hi))).trans (Mod.of_ext (fun _=>False) hE7) (fun i hi=>hi.elim)).trans hm2 (fun i hi=>.inl (.inr hi))).trans hm3 (fun i hi=>.inl (.inl hi))
end
section
open Go Go.RowKit
theorem gQf (a b:Value):(#[]++ [a,b].toArray)++ #[]=[a,b].toArray:=by simp
theorem cQk:mQb 109 2:=by unfold mQb;kernel_rfl
def Wr (base g:Nat)(W:World)(A1:Option Addr)(out xs:List Nat)(w':World):Prop:=∃A' c',Bld w' base g 109 [] A' c' (out++xs)/\Mod (BldS g A1) W w'/\Moved W A1 A'
theorem Wr.trans {base g:Nat}{W w1 w2:World}{A1 A':Option Addr}{out xs ys:List Nat}(hm:Mod (BldS g A1) W w1)(hv:Moved W A1 A')(k:Wr base g w1 A' (out++xs) ys w2):Wr base g W A1 out (xs++ys) w2:=by
 obtain⟨A2,c2,hb2,hm2,hv2⟩:=k;exact⟨A2,c2,by rw[<-List.append_assoc];exact hb2,hm.trans hm2 (BldS.moved hv),hv.trans hv2 hm.size⟩
theorem Wr.pre {base g:Nat}{w w2 w':World}{A:Option Addr}{out xs:List Nat}(h:Wr base g w2 A out xs w')(hE:Ext w w2):Wr base g w A out xs w':=by
 obtain⟨A2,c2,hb2,hm2,hv2⟩:=h;exact⟨A2,c2,hb2,(Mod.of_ext _ hE).trans hm2 (fun i hi=>.inl hi),hv2.back hE.size⟩
theorem BldS.kept {base g:Nat}{w0 W:World}{A:Option Addr}{c:Nat}{out:List Nat}(h:Bld W base g 109 [] A c out)(hg:w0.heap.size<=g):∀i,BldS g A i->w0.heap.size<=i:=fun i hi=>by
 have:=h.g1;rcases hi with rfl | hi
 ·exact hg
 ·have:=(h.own.rows i hi).1;omega
def szF:Fm->Nat
 | .c _=>1
 | .v _=>1
 | .not a=>szF a+1
 | .and a b=>szF a+szF b+1
 | .or a b=>szF a+szF b+1
def opF:Fm->Int
 | .c b=>if b then 1 else 0
 | .v _=>2
 | .not _=>3
 | .and _ _=>4
 | .or _ _=>5
theorem uQg (t:Fm):(if opF t=5 then(0:Int)else if opF t=4 then 1 else 2)=(cQ9 t:Nat):=by
 cases t with
 | c b=>cases b<;>rfl
 | _=>rfl
theorem RepF.node {f:List Fz}{t:Fm}{i:Nat}(h:RepF f t i):∃x,f[i]? =some x/\x.o=opF t:=by
 cases t with
 | c b=>exact⟨_,h,rfl⟩
 | v n=>exact⟨_,h,rfl⟩
 | not a=>obtain⟨j,_,h,_⟩:=h;exact⟨_,h,rfl⟩
 | and a b=>obtain⟨j,k,_,_,h,_⟩:=h;exact⟨_,h,rfl⟩
 | or a b=>obtain⟨j,k,_,_,h,_⟩:=h;exact⟨_,h,rfl⟩
def nQs (base g:Nat)(w0:World)(NA:Option Addr)(nn nc:Nat)(nm:List (List Nat))(FA:Option Addr)(nf cf:Nat)(f:List Fz)(t:Fm):Prop:=
 ∀(i least:Nat) (A:Option Addr) (c:Nat) (out:List Nat) (w:World),Ext w0 w->Bld w base g 109 [] A c out->RepF f t i->VarsIn nn t->out.length+(prF nm least t).length<=140737488355328->least<=2->
  Fn Tryz.prog 194 [.pointer (some ⟨g,0,none⟩),.slice NA nn nc,.slice FA nf cf,.int .i64 i,.int .i64 least] w (fun _ w'=>Wr base g w A out (prF nm least t) w')
theorem oQA (base g:Nat)(w0:World)(NA:Option Addr)(nn nc:Nat)(nm:List (List Nat))(FA:Option Addr)(nf cf:Nat)(f:List Fz)(hN:Sl w0 1 NA nn nc (aQ6 nm))(hnb:aQ2 nm)(hF:SF w0 FA nf cf f)(hg0:w0.heap.size<=g)(t:Fm)(ih:∀u:Fm,szF u<szF t->nQs base g w0 NA nn nc nm FA nf cf f u):nQs base g w0 NA nn nc nm FA nf cf f t:=by
 intro i least A c out w hE hb hr hv hl hle;have hfl:=hF.2;have hnl:nm.length=nn:=by have:=hN.len;rw[aQQ] at this;omega
 have hi:=hr.lt;obtain⟨x,hx,hxo⟩:=hr.node;refine hQs (c:={yQY with cuts:=[]}) aQb Tryz.func194 rfl rfl rfl ?_;refine aQL (aQv aQb ?_);refine aQp nQj (hF.ext hE) rfl (by omega) (fun p y hy hc=>?_);have hyx:y=x:=Option.some.inj (hy.symm.trans hx);subst hyx;refine aQK (vs:=y.cells) rfl hc ?_;refine new (fun w1 hE1 hz1 hB1=>?_);refine aQc hB1 rfl (sc rfl) (fun w2 hg2 hz2 hX2=>?_);have hE12:Ext w w2:=aQJ hE1 hB1 hg2;have hE02:=hE.trans hE12;have hb2:=hb.grow hE12;have htop:=hb.top;have hg1:=hb.g1;have hbn:¬BldS g A w.heap.size:=fun e=>by
  rcases e with e | e
  ·omega
  ·have:=(hb.own.rows _ e).2;omega
 refine aQL (aQv aQb ?_);refine aQg hX2 rfl ?_;refine call (mQi y.o w2) ?_;rintro v _ ⟨rfl,rfl⟩;rw[hxo,uQg];have hpl:(prF nm least t).length=(prC nm t).length+(if cQ9 t<least then 2 else 0):=by
  unfold prF hQt;split
  ·rename_i h;rw[if_pos (by simpa using h)];simp
  ·rename_i h;rw[if_neg (by simpa using h)];rfl
 have hw0:∀A' c' out' W w',Bld W base g 109 [] A' c' out'->Mod (BldS g A') W w'->Ext w0 W->Ext w0 w':=fun A' c' out' W w' hb hm hE=>hm.ext hE (BldS.kept hb hg0)
 refine aQL ?_;refine aQL (aQv aQb ?_);by_cases hd:cQ9 t<least
 ·rw[if_pos hd] at hpl;have hpf:prF nm least t=[40]++(prC nm t++ [41]):=by unfold prF hQt;rw[if_pos (by simpa using hd)];simp
  refine xQq rfl (decide_eq_true (by omega)) (aQL (aQv aQb ?_));refine call (eQp base g _ [] _ _ _ 40 w2 cQk hb2 (by omega)) ?_;rintro v w3 ⟨A3,c3,hb3,hm3,hv3⟩;generalize ho1:out++ [40]=oo at hb3;have hX3:=hX2.mod hm3 hbn;have hE03:=hw0 _ _ _ _ _ hb2 hm3 hE02;have hbn3:¬BldS g A3 w.heap.size:=fun e=>(BldS.moved hv3 _ e).elim hbn (fun h=>by omega)
  refine eQs aQb rfl rfl rfl rfl ⟨_,_,_,_,rfl,rfl,?_⟩;have hl1:oo.length+(prC nm t).length<=140737488355327:=by rw[<-ho1,List.length_append];simp only[List.length_cons,List.length_nil];omega
  have hl2:=hl1
  replace hl1:oo.length+(prC nm t).length<=140737488355328:=by omega
  have hkeep:∀w',Mod (BldS g A3) w3 w'->Blk w' w.heap.size 280 y.cells/\Ext w0 w':=fun w' hm=>⟨hX3.mod hm hbn3,hw0 _ _ _ _ _ hb3 hm hE03⟩
  refine aQL (aQv aQb ?_);refine aQg hX3 rfl ?_;refine aQv aQb ?_;rw[hxo] at*;cases t with
  | c b=>
   cases b with
   | false=>
    refine aQZ rfl ?_;refine call (aQ0 base g _ [] _ _ _ _ w3 cQk hb3 (by have:(prC nm (.c false)).length=5:=rfl;rw[this] at hl1;exact hl1)) ?_;rintro v w9 h9
    replace h9:Wr base g w3 A3 _ (prC nm (.c false)) w9:=h9;obtain⟨A9,c9,hb9,hm9,hv9⟩:=h9;refine cQN (pQf aQb rfl rfl (.inr rfl) (gQf _ _) ((cQW .returning base g _ [] A9 c9 _ 41 w9 cQk hb9 (by rw[List.length_append];omega)).mono ?_));rintro e u' w10 ⟨rfl,v,rfl,h10⟩;refine⟨v,rfl,rfl,?_⟩;show Wr base g w A out (prF nm least _) w10;rw[hpf];exact Wr.pre (Wr.trans hm3 hv3 (by rw[ho1];exact Wr.trans hm9 hv9 h10)) hE12
   | true=>
    refine aQu (by decide) ?_;refine aQZ rfl ?_;refine call (aQ0 base g _ [] _ _ _ _ w3 cQk hb3 (by have:(prC nm (.c true)).length=4:=rfl;rw[this] at hl1;exact hl1)) ?_;rintro v w9 h9
    replace h9:Wr base g w3 A3 _ (prC nm (.c true)) w9:=h9;obtain⟨A9,c9,hb9,hm9,hv9⟩:=h9;refine cQN (pQf aQb rfl rfl (.inr rfl) (gQf _ _) ((cQW .returning base g _ [] A9 c9 _ 41 w9 cQk hb9 (by rw[List.length_append];omega)).mono ?_));rintro e u' w10 ⟨rfl,v,rfl,h10⟩;refine⟨v,rfl,rfl,?_⟩;show Wr base g w A out (prF nm least _) w10;rw[hpf];exact Wr.pre (Wr.trans hm3 hv3 (by rw[ho1];exact Wr.trans hm9 hv9 h10)) hE12
  | v n=>
   have hy:y=⟨2,(n:Nat),0,0⟩:=Option.some.inj (hx.symm.trans hr);subst hy;refine aQu (by show(2:Int)≠_;decide) ?_;refine aQu (by show(2:Int)≠_;decide) ?_;refine aQZ rfl ?_;refine aQe hX3 rfl ?_;have hn:n<nn:=hv;have hgn:nm[n]? =some nm[n]:=List.getElem?_eq_getElem (by omega);have hpn:prC nm (.v n)=nm[n]:=by show nm[n]?.getD []=_;rw[hgn];rfl
   rw[hpn] at hl1;generalize nm[n]=s at*;refine aQ3 (hN.ext hE03) (by omega) (fun ad u hA hu hcell=>?_);rw[cQI hgn] at hu;cases hu;refine load hcell ?_;refine call (aQ0 base g _ [] _ _ _ _ w3 cQk hb3 (by rw[aQj];exact hl1)) ?_;rintro v w9 h9;rw[aQG (hnb s (List.mem_of_getElem? hgn)).1] at h9;rw[<-hpn] at h9;obtain⟨A9,c9,hb9,hm9,hv9⟩:=h9;refine cQN (pQf aQb rfl rfl (.inr rfl) (gQf _ _) ((cQW .returning base g _ [] A9 c9 _ 41 w9 cQk hb9 (by rw[List.length_append];omega)).mono ?_));rintro e u' w10 ⟨rfl,v,rfl,h10⟩;refine⟨v,rfl,rfl,?_⟩;show Wr base g w A out (prF nm least _) w10;rw[hpf];exact Wr.pre (Wr.trans hm3 hv3 (by rw[ho1];exact Wr.trans hm9 hv9 h10)) hE12
  | not a=>
   obtain⟨j,hj,hy,hra⟩:=hr;have hy:=Option.some.inj (hx.symm.trans hy);subst hy;refine aQu (by show(3:Int)≠_;decide) ?_;refine aQu (by show(3:Int)≠_;decide) ?_;refine aQu (by show(3:Int)≠_;decide) ?_;refine aQZ rfl ?_;have hpa:prC nm (.not a)=[33]++prF nm 2 a:=rfl;rw[hpa,List.length_append] at hl1;simp only[List.length_cons,List.length_nil] at hl1;refine call (eQp base g _ [] _ _ _ 33 w3 cQk hb3 (by omega)) ?_;rintro v w7 ⟨A7,c7,hb7,hm7,hv7⟩;obtain⟨hX7,hE7⟩:=hkeep w7 hm7;refine aQe hX7 rfl ?_;refine call (ih a (by simp only[szF];omega) j 2 A7 c7 _ w7 hE7 hb7 hra hv (by rw[List.length_append];simp only[List.length_cons,List.length_nil];omega) (Nat.le_refl _)) ?_;rintro v w9 h9
   replace h9:=Wr.trans hm7 hv7 h9;rw[<-hpa] at h9;obtain⟨A9,c9,hb9,hm9,hv9⟩:=h9;refine cQN (pQf aQb rfl rfl (.inr rfl) (gQf _ _) ((cQW .returning base g _ [] A9 c9 _ 41 w9 cQk hb9 (by rw[List.length_append];omega)).mono ?_));rintro e u' w10 ⟨rfl,v,rfl,h10⟩;refine⟨v,rfl,rfl,?_⟩;show Wr base g w A out (prF nm least _) w10;rw[hpf];exact Wr.pre (Wr.trans hm3 hv3 (by rw[ho1];exact Wr.trans hm9 hv9 h10)) hE12
  | and a b=>
   obtain⟨j,k,hj,hk,hy,hra,hrb⟩:=hr;have hy:=Option.some.inj (hx.symm.trans hy);subst hy;refine aQu (by show(4:Int)≠_;decide) ?_;refine aQu (by show(4:Int)≠_;decide) ?_;refine aQu (by show(4:Int)≠_;decide) ?_;refine aQu (by show(4:Int)≠_;decide) ?_;have hpa:prC nm (.and a b)=(prF nm 1 a++ [32,38,38,32])++prF nm 2 b:=rfl;rw[hpa,List.length_append,List.length_append] at hl1;simp only[List.length_cons,List.length_nil] at hl1;refine aQe hX3 rfl ?_;refine call (ih a (by simp only[szF];omega) j 1 _ _ _ w3 hE03 hb3 hra hv.1 (by omega) (by omega)) ?_;rintro v w7 ⟨A7,c7,hb7,hm7,hv7⟩;refine dQB aQb rfl rfl rfl rfl rfl rfl rfl rfl rfl rfl (fun w8 hE8 hz8 hB8=>?_);refine index (j:=1) (by decide) ?_;refine aQe hB8 rfl ?_;have hm8:=hm7.trans (Mod.of_ext (BldS g A7) hE8) (BldS.moved hv7);refine call (aQ0 base g _ [] _ _ _ _ w8 cQk (hb7.grow hE8) (by rw[List.length_append,show(⟨#[32,38,38,32]⟩:ByteArray).size=4 from rfl];omega)) ?_;rintro v w5 h5
   replace h5:=Wr.trans hm8 hv7 (show Wr base g w8 A7 _ [32,38,38,32] w5 from (by obtain⟨A5,c5,hb5,hm5,hv5⟩:=h5;exact⟨A5,c5,hb5,hm5,hv5⟩));obtain⟨A5,c5,hb5,hm5,hv5⟩:=h5;obtain⟨hX5,hE5⟩:=hkeep w5 hm5;refine aQe hX5 rfl ?_;refine aQa 2 (by show(1:Int)+1=2;decide) (by decide) ?_;refine call (ih b (by simp only[szF];omega) k 2 A5 c5 _ w5 hE5 hb5 hrb hv.2 (by rw[List.length_append,List.length_append];simp only[List.length_cons,List.length_nil];omega) (by omega)) ?_;rintro v w9 h9
   replace h9:=Wr.trans hm5 hv5 h9;rw[<-hpa] at h9;obtain⟨A9,c9,hb9,hm9,hv9⟩:=h9;refine cQN (pQf aQb rfl rfl (.inr rfl) (gQf _ _) ((cQW .returning base g _ [] A9 c9 _ 41 w9 cQk hb9 (by rw[List.length_append];omega)).mono ?_));rintro e u' w10 ⟨rfl,v,rfl,h10⟩;refine⟨v,rfl,rfl,?_⟩;show Wr base g w A out (prF nm least _) w10;rw[hpf];exact Wr.pre (Wr.trans hm3 hv3 (by rw[ho1];exact Wr.trans hm9 hv9 h10)) hE12
  | or a b=>
   obtain⟨j,k,hj,hk,hy,hra,hrb⟩:=hr;have hy:=Option.some.inj (hx.symm.trans hy);subst hy;refine aQu (by show(5:Int)≠_;decide) ?_;refine aQu (by show(5:Int)≠_;decide) ?_;refine aQu (by show(5:Int)≠_;decide) ?_;refine aQu (by show(5:Int)≠_;decide) ?_;have hpa:prC nm (.or a b)=(prF nm 0 a++ [32,124,124,32])++prF nm 1 b:=rfl;rw[hpa,List.length_append,List.length_append] at hl1;simp only[List.length_cons,List.length_nil] at hl1;refine aQe hX3 rfl ?_;refine call (ih a (by simp only[szF];omega) j 0 _ _ _ w3 hE03 hb3 hra hv.1 (by omega) (by omega)) ?_;rintro v w7 ⟨A7,c7,hb7,hm7,hv7⟩;refine dQB aQb rfl rfl rfl rfl rfl rfl rfl rfl rfl rfl (fun w8 hE8 hz8 hB8=>?_);refine index (j:=0) (by decide) ?_;refine aQe hB8 rfl ?_;have hm8:=hm7.trans (Mod.of_ext (BldS g A7) hE8) (BldS.moved hv7);refine call (aQ0 base g _ [] _ _ _ _ w8 cQk (hb7.grow hE8) (by rw[List.length_append,show(⟨#[32,124,124,32]⟩:ByteArray).size=4 from rfl];omega)) ?_;rintro v w5 h5
   replace h5:=Wr.trans hm8 hv7 (show Wr base g w8 A7 _ [32,124,124,32] w5 from (by obtain⟨A5,c5,hb5,hm5,hv5⟩:=h5;exact⟨A5,c5,hb5,hm5,hv5⟩));obtain⟨A5,c5,hb5,hm5,hv5⟩:=h5;obtain⟨hX5,hE5⟩:=hkeep w5 hm5;refine aQe hX5 rfl ?_;refine aQa 1 (by show(0:Int)+1=1;decide) (by decide) ?_;refine call (ih b (by simp only[szF];omega) k 1 A5 c5 _ w5 hE5 hb5 hrb hv.2 (by rw[List.length_append,List.length_append];simp only[List.length_cons,List.length_nil];omega) (by omega)) ?_;rintro v w9 h9
   replace h9:=Wr.trans hm5 hv5 h9;rw[<-hpa] at h9;obtain⟨A9,c9,hb9,hm9,hv9⟩:=h9;refine cQN (pQf aQb rfl rfl (.inr rfl) (gQf _ _) ((cQW .returning base g _ [] A9 c9 _ 41 w9 cQk hb9 (by rw[List.length_append];omega)).mono ?_));rintro e u' w10 ⟨rfl,v,rfl,h10⟩;refine⟨v,rfl,rfl,?_⟩;show Wr base g w A out (prF nm least _) w10;rw[hpf];exact Wr.pre (Wr.trans hm3 hv3 (by rw[ho1];exact Wr.trans hm9 hv9 h10)) hE12
 ·rw[if_neg hd] at hpl;have hpf:prF nm least t=prC nm t:=by unfold prF hQt;rw[if_neg (by simpa using hd)]
  refine xQr rfl (decide_eq_false (by omega)) (aQv aQb ?_);have hl1:out.length+(prC nm t).length<=140737488355328:=by omega
  have hkeep:∀w',Mod (BldS g A) w2 w'->Blk w' w.heap.size 280 y.cells/\Ext w0 w':=fun w' hm=>⟨hX2.mod hm hbn,hw0 _ _ _ _ _ hb2 hm hE02⟩
  refine aQL (aQv aQb ?_);refine aQg hX2 rfl ?_;refine aQv aQb ?_;rw[hxo] at*;cases t with
  | c b=>
   cases b with
   | false=>
    refine aQZ rfl ?_;refine call (aQ0 base g _ [] _ _ _ _ w2 cQk hb2 (by have:(prC nm (.c false)).length=5:=rfl;rw[this] at hl1;exact hl1)) ?_;rintro v w9 h9
    replace h9:Wr base g w2 A _ (prC nm (.c false)) w9:=h9;refine cQN (rQO aQb rfl (.inr rfl) ?_);show Wr base g w A out (prF nm least _) w9;rw[hpf];exact Wr.pre h9 hE12
   | true=>
    refine aQu (by decide) ?_;refine aQZ rfl ?_;refine call (aQ0 base g _ [] _ _ _ _ w2 cQk hb2 (by have:(prC nm (.c true)).length=4:=rfl;rw[this] at hl1;exact hl1)) ?_;rintro v w9 h9
    replace h9:Wr base g w2 A _ (prC nm (.c true)) w9:=h9;refine cQN (rQO aQb rfl (.inr rfl) ?_);show Wr base g w A out (prF nm least _) w9;rw[hpf];exact Wr.pre h9 hE12
  | v n=>
   have hy:y=⟨2,(n:Nat),0,0⟩:=Option.some.inj (hx.symm.trans hr);subst hy;refine aQu (by show(2:Int)≠_;decide) ?_;refine aQu (by show(2:Int)≠_;decide) ?_;refine aQZ rfl ?_;refine aQe hX2 rfl ?_;have hn:n<nn:=hv;have hgn:nm[n]? =some nm[n]:=List.getElem?_eq_getElem (by omega);have hpn:prC nm (.v n)=nm[n]:=by show nm[n]?.getD []=_;rw[hgn];rfl
   rw[hpn] at hl1;generalize nm[n]=s at*;refine aQ3 (hN.ext hE02) (by omega) (fun ad u hA hu hcell=>?_);rw[cQI hgn] at hu;cases hu;refine load hcell ?_;refine call (aQ0 base g _ [] _ _ _ _ w2 cQk hb2 (by rw[aQj];exact hl1)) ?_;rintro v w9 h9;rw[aQG (hnb s (List.mem_of_getElem? hgn)).1] at h9;rw[<-hpn] at h9;refine cQN (rQO aQb rfl (.inr rfl) ?_);show Wr base g w A out (prF nm least _) w9;rw[hpf];exact Wr.pre h9 hE12
  | not a=>
   obtain⟨j,hj,hy,hra⟩:=hr;have hy:=Option.some.inj (hx.symm.trans hy);subst hy;refine aQu (by show(3:Int)≠_;decide) ?_;refine aQu (by show(3:Int)≠_;decide) ?_;refine aQu (by show(3:Int)≠_;decide) ?_;refine aQZ rfl ?_;have hpa:prC nm (.not a)=[33]++prF nm 2 a:=rfl;rw[hpa,List.length_append] at hl1;simp only[List.length_cons,List.length_nil] at hl1;refine call (eQp base g _ [] _ _ _ 33 w2 cQk hb2 (by omega)) ?_;rintro v w7 ⟨A7,c7,hb7,hm7,hv7⟩;obtain⟨hX7,hE7⟩:=hkeep w7 hm7;refine aQe hX7 rfl ?_;refine call (ih a (by simp only[szF];omega) j 2 A7 c7 _ w7 hE7 hb7 hra hv (by rw[List.length_append];simp only[List.length_cons,List.length_nil];omega) (Nat.le_refl _)) ?_;rintro v w9 h9
   replace h9:=Wr.trans hm7 hv7 h9;rw[<-hpa] at h9;refine cQN (rQO aQb rfl (.inr rfl) ?_);show Wr base g w A out (prF nm least _) w9;rw[hpf];exact Wr.pre h9 hE12
  | and a b=>
   obtain⟨j,k,hj,hk,hy,hra,hrb⟩:=hr;have hy:=Option.some.inj (hx.symm.trans hy);subst hy;refine aQu (by show(4:Int)≠_;decide) ?_;refine aQu (by show(4:Int)≠_;decide) ?_;refine aQu (by show(4:Int)≠_;decide) ?_;refine aQu (by show(4:Int)≠_;decide) ?_;have hpa:prC nm (.and a b)=(prF nm 1 a++ [32,38,38,32])++prF nm 2 b:=rfl;rw[hpa,List.length_append,List.length_append] at hl1;simp only[List.length_cons,List.length_nil] at hl1;refine aQe hX2 rfl ?_;refine call (ih a (by simp only[szF];omega) j 1 _ _ _ w2 hE02 hb2 hra hv.1 (by omega) (by omega)) ?_;rintro v w7 ⟨A7,c7,hb7,hm7,hv7⟩;refine dQB aQb rfl rfl rfl rfl rfl rfl rfl rfl rfl rfl (fun w8 hE8 hz8 hB8=>?_);refine index (j:=1) (by decide) ?_;refine aQe hB8 rfl ?_;have hm8:=hm7.trans (Mod.of_ext (BldS g A7) hE8) (BldS.moved hv7);refine call (aQ0 base g _ [] _ _ _ _ w8 cQk (hb7.grow hE8) (by rw[List.length_append,show(⟨#[32,38,38,32]⟩:ByteArray).size=4 from rfl];omega)) ?_;rintro v w5 h5
   replace h5:=Wr.trans hm8 hv7 (show Wr base g w8 A7 _ [32,38,38,32] w5 from (by obtain⟨A5,c5,hb5,hm5,hv5⟩:=h5;exact⟨A5,c5,hb5,hm5,hv5⟩));obtain⟨A5,c5,hb5,hm5,hv5⟩:=h5;obtain⟨hX5,hE5⟩:=hkeep w5 hm5;refine aQe hX5 rfl ?_;refine aQa 2 (by show(1:Int)+1=2;decide) (by decide) ?_;refine call (ih b (by simp only[szF];omega) k 2 A5 c5 _ w5 hE5 hb5 hrb hv.2 (by rw[List.length_append,List.length_append];simp only[List.length_cons,List.length_nil];omega) (by omega)) ?_;rintro v w9 h9
   replace h9:=Wr.trans hm5 hv5 h9;rw[<-hpa] at h9;refine cQN (rQO aQb rfl (.inr rfl) ?_);show Wr base g w A out (prF nm least _) w9;rw[hpf];exact Wr.pre h9 hE12
  | or a b=>
   obtain⟨j,k,hj,hk,hy,hra,hrb⟩:=hr;have hy:=Option.some.inj (hx.symm.trans hy);subst hy;refine aQu (by show(5:Int)≠_;decide) ?_;refine aQu (by show(5:Int)≠_;decide) ?_;refine aQu (by show(5:Int)≠_;decide) ?_;refine aQu (by show(5:Int)≠_;decide) ?_;have hpa:prC nm (.or a b)=(prF nm 0 a++ [32,124,124,32])++prF nm 1 b:=rfl;rw[hpa,List.length_append,List.length_append] at hl1;simp only[List.length_cons,List.length_nil] at hl1;refine aQe hX2 rfl ?_;refine call (ih a (by simp only[szF];omega) j 0 _ _ _ w2 hE02 hb2 hra hv.1 (by omega) (by omega)) ?_;rintro v w7 ⟨A7,c7,hb7,hm7,hv7⟩;refine dQB aQb rfl rfl rfl rfl rfl rfl rfl rfl rfl rfl (fun w8 hE8 hz8 hB8=>?_);refine index (j:=0) (by decide) ?_;refine aQe hB8 rfl ?_;have hm8:=hm7.trans (Mod.of_ext (BldS g A7) hE8) (BldS.moved hv7);refine call (aQ0 base g _ [] _ _ _ _ w8 cQk (hb7.grow hE8) (by rw[List.length_append,show(⟨#[32,124,124,32]⟩:ByteArray).size=4 from rfl];omega)) ?_;rintro v w5 h5
   replace h5:=Wr.trans hm8 hv7 (show Wr base g w8 A7 _ [32,124,124,32] w5 from (by obtain⟨A5,c5,hb5,hm5,hv5⟩:=h5;exact⟨A5,c5,hb5,hm5,hv5⟩));obtain⟨A5,c5,hb5,hm5,hv5⟩:=h5;obtain⟨hX5,hE5⟩:=hkeep w5 hm5;refine aQe hX5 rfl ?_;refine aQa 1 (by show(0:Int)+1=1;decide) (by decide) ?_;refine call (ih b (by simp only[szF];omega) k 1 A5 c5 _ w5 hE5 hb5 hrb hv.2 (by rw[List.length_append,List.length_append];simp only[List.length_cons,List.length_nil];omega) (by omega)) ?_;rintro v w9 h9
   replace h9:=Wr.trans hm5 hv5 h9;rw[<-hpa] at h9;refine cQN (rQO aQb rfl (.inr rfl) ?_);show Wr base g w A out (prF nm least _) w9;rw[hpf];exact Wr.pre h9 hE12
theorem sQd (base g:Nat)(w0:World)(NA:Option Addr)(nn nc:Nat)(nm:List (List Nat))(FA:Option Addr)(nf cf:Nat)(f:List Fz)(hN:Sl w0 1 NA nn nc (aQ6 nm))(hnb:aQ2 nm)(hF:SF w0 FA nf cf f)(hg0:w0.heap.size<=g)(t:Fm):nQs base g w0 NA nn nc nm FA nf cf f t:=by
 have key:∀(n:Nat) (t:Fm),szF t<n->nQs base g w0 NA nn nc nm FA nf cf f t:=by
  intro n;induction n with
  | zero=>intro t h;omega
  | succ n ih=>intro t _;exact oQA base g w0 NA nn nc nm FA nf cf f hN hnb hF hg0 t (fun u hu=>ih u (by omega))
 exact key _ t (Nat.lt_succ_self _)
end
section
open Go Go.RowKit
theorem fQx {o v a b o' v' a' b':Int}(h:(⟨o,v,a,b⟩:Fz)=⟨o',v',a',b'⟩):o=o'/\v=v'/\a=a'/\b=b':=by cases h;exact⟨rfl,rfl,rfl,rfl⟩
theorem zQH {f:List Fz}:∀{t t':Fm}{i:Nat},RepF f t i->RepF f t' i->t=t':=by
 intro t;induction t with
 | c b=>
  intro t' i h h';obtain⟨x,hx,ho⟩:=RepF.node h;obtain⟨x',hx',ho'⟩:=RepF.node h';have e:=Option.some.inj (hx.symm.trans hx');rw[<-e,ho] at ho';cases t' with
  | c b'=>cases b<;>cases b'<;>first | rfl | (simp[opF] at ho')
  | v n=>cases b<;>simp[opF] at ho'
  | not a=>cases b<;>simp[opF] at ho'
  | and a c=>cases b<;>simp[opF] at ho'
  | or a c=>cases b<;>simp[opF] at ho'
 | v n=>
  intro t' i h h';obtain⟨x',hx',ho'⟩:=RepF.node h';have e:=Option.some.inj (hx'.symm.trans h);rw[e] at ho';cases t' with
  | c b'=>cases b'<;>simp[opF] at ho'
  | v n'=>
   have:=fQx (Option.some.inj (h.symm.trans h'));congr 1;omega
  | not a=>simp[opF] at ho'
  | and a c=>simp[opF] at ho'
  | or a c=>simp[opF] at ho'
 | not a iha=>
  intro t' i h h';obtain⟨j,hj,hx,ha⟩:=h;obtain⟨x',hx',ho'⟩:=RepF.node h';have e:=Option.some.inj (hx'.symm.trans hx);rw[e] at ho';cases t' with
  | c b'=>cases b'<;>simp[opF] at ho'
  | v n'=>simp[opF] at ho'
  | not a'=>
   obtain⟨j',hj',hx'',ha'⟩:=h';have:=fQx (Option.some.inj (hx.symm.trans hx''));have ej:j=j':=by omega
   subst ej;rw[iha ha ha']
  | and a c=>simp[opF] at ho'
  | or a c=>simp[opF] at ho'
 | and a b iha ihb=>
  intro t' i h h';obtain⟨j,k,hj,hk,hx,ha,hb⟩:=h;obtain⟨x',hx',ho'⟩:=RepF.node h';have e:=Option.some.inj (hx'.symm.trans hx);rw[e] at ho';cases t' with
  | c b'=>cases b'<;>simp[opF] at ho'
  | v n'=>simp[opF] at ho'
  | not a'=>simp[opF] at ho'
  | and a' b'=>
   obtain⟨j',k',hj',hk',hx'',ha',hb'⟩:=h';have:=fQx (Option.some.inj (hx.symm.trans hx''));have ej:j=j':=by omega
   have ek:k=k':=by omega
   subst ej;subst ek;rw[iha ha ha',ihb hb hb']
  | or a c=>simp[opF] at ho'
 | or a b iha ihb=>
  intro t' i h h';obtain⟨j,k,hj,hk,hx,ha,hb⟩:=h;obtain⟨x',hx',ho'⟩:=RepF.node h';have e:=Option.some.inj (hx'.symm.trans hx);rw[e] at ho';cases t' with
  | c b'=>cases b'<;>simp[opF] at ho'
  | v n'=>simp[opF] at ho'
  | not a'=>simp[opF] at ho'
  | and a c=>simp[opF] at ho'
  | or a' b'=>
   obtain⟨j',k',hj',hk',hx'',ha',hb'⟩:=h';have:=fQx (Option.some.inj (hx.symm.trans hx''));have ej:j=j':=by omega
   have ek:k=k':=by omega
   subst ej;subst ek;rw[iha ha ha',ihb hb hb']
open Classical in
noncomputable def eQd (f:List Fz):Fm:=if h:∃t,RepF f t (f.length-1)then h.choose else .c false
theorem hQu {f:List Fz}{t:Fm}(h:RepF f t (f.length-1)):eQd f=t:=by
 have hex:∃t,RepF f t (f.length-1):=⟨t,h⟩
 unfold eQd;rw[dif_pos hex];exact zQH hex.choose_spec h
theorem oQB {f:List Fz}(h:FV f):RepF f (eQd f) (f.length-1):=by
 obtain⟨t,ht⟩:=tQe h.2.2.1 (f.length-1) (by have:=h.2.1;omega);rw[hQu ht];exact ht
def gQG (n:Nat)(f:List Fz):Prop:=∀x∈f,x.o=2->x.v<n
theorem dQH {n:Nat}{f:List Fz}(h:gQG n f):∀{t:Fm}{i:Nat},RepF f t i->VarsIn n t
 | .c _,_,_=>trivial
 | .v k,_,hr=>by have:=h _ (List.mem_of_getElem? hr) rfl;simp only at this;show k<n;omega
 | .not a,_,⟨_,_,_,ha⟩=>show VarsIn n a from dQH h ha
 | .and a b,_,⟨_,_,_,_,_,ha,hb⟩=>⟨show VarsIn n a from dQH h ha,show VarsIn n b from dQH h hb⟩
 | .or a b,_,⟨_,_,_,_,_,ha,hb⟩=>⟨show VarsIn n a from dQH h ha,show VarsIn n b from dQH h hb⟩
open Classical in
noncomputable def fQy (names:List (List Nat))(f:List Fz):List Nat×Int:=if aQV names then if FV f/\gQG names.length f then(prF names 0 (eQd f),0)else([],30)else([],1)
theorem pQF {names:List (List Nat)}{f:List Fz}(h:aQV names=false):fQy names f=([],1):=by unfold fQy;rw[h];rfl
theorem kQW {names:List (List Nat)}{f:List Fz}(h:aQV names=true)(hv:FV f)(ho:gQG names.length f):fQy names f=(prF names 0 (eQd f),0):=by unfold fQy;rw[if_pos h,if_pos ⟨hv,ho⟩]
theorem iQK {names:List (List Nat)}{f:List Fz}(h:aQV names=true)(hv:¬(FV f/\gQG names.length f)):fQy names f=([],30):=by unfold fQy;rw[if_pos h,if_neg hv]
def tQf (w:World)(r:List Nat×Int)(v:Value)(w':World):Prop:=v= .tuple #[.string (aQh r.1),.int .i64 r.2]/\Ext w w'
theorem vQ6 {nm:List (List Nat)}(hn:aQ2 nm):∀(t:Fm),∀x∈prC nm t,x<256:=by
 have par:∀(b:Bool) (s:List Nat),(∀x∈s,x<256)->∀x∈hQt b s,x<256:=by
  intro b s h x hx;unfold hQt at hx;split at hx
  ·simp only[List.mem_append,List.mem_cons,List.not_mem_nil,or_false,List.cons_append] at hx;rcases hx with rfl | hx | rfl
   ·decide
   ·exact h x hx
   ·decide
  ·exact h x hx
 intro t;induction t with
 | c b=>
  cases b
  ·show∀x∈cQ0,x<256;decide
  ·show∀x∈dQE,x<256;decide
 | v n=>
  intro x hx;unfold prC at hx;cases h:nm[n]? with
  | none=>rw[h] at hx;cases hx
  | some s=>rw[h] at hx;exact(hn s (List.mem_of_getElem? h)).1 x hx
 | not a ih=>
  intro x hx;unfold prC at hx;simp only[List.mem_cons] at hx;rcases hx with rfl | hx
  ·decide
  ·exact par _ _ ih x hx
 | and a b iha ihb=>
  intro x hx;unfold prC at hx;simp only[List.mem_append,List.mem_cons,List.not_mem_nil,or_false] at hx;rcases hx with(hx | hx) | hx
  ·exact par _ _ iha x hx
  ·omega
  ·exact par _ _ ihb x hx
 | or a b iha ihb=>
  intro x hx;unfold prC at hx;simp only[List.mem_append,List.mem_cons,List.not_mem_nil,or_false] at hx;rcases hx with(hx | hx) | hx
  ·exact par _ _ iha x hx
  ·omega
  ·exact par _ _ ihb x hx
theorem sQe (names:List (List Nat))(A FA:Option Addr)(n c nf cf:Nat)(f:List Fz)(w:World)(h:Sl w 1 A n c (aQ6 names))(hb:aQ2 names)(hF:SF w FA nf cf f)(hl:FV f->gQG names.length f->(prF names 0 (eQd f)).length<=140737488355328):
  Fn Tryz.prog 134 [.slice A n c,.slice FA nf cf] w (tQf w (fQy names f)):=by
 have hfl:=hF.2;have hnl:names.length=n:=by have:=h.len;rw[aQQ] at this;omega
 refine aQf (c:={yQm with cuts:=[6]}) aQb Tryz.func134 rfl rfl rfl ?_;refine call (gQb names A n c w h hb) ?_;rintro v w1 ⟨v1,rfl,hE1,_⟩;cases hok:aQV names with
 | false=>
  refine aQM rfl ?_;exact⟨by rw[pQF hok];rfl,hE1⟩
 | true=>
  refine aQN rfl ?_;refine call (nQr FA nf cf f w1 (hF.ext hE1)) ?_;rintro v w2 ⟨rfl,hE2⟩;have hE02:=hE1.trans hE2;refine cQj (fun h1=>?_) (fun h1=>?_)
  ·exact⟨by rw[iQK hok (fun hh=>h1 (jQw hh.1))];rfl,hE02⟩
  have hv:=pQz.1 h1;refine iQl [] aQb [] (fun _:Unit=>[]) (fun _ w'=>Ext w w'/\gQG names.length f) ?_ ?_
  ·refine loop aQb [23] (fun s:Nat=>[.int .i64 s]) (fun s w'=>Ext w w'/\s<=nf/\∀j x,j<s->f[j]? =some x->x.o=2->x.v<n) (fun s _=>nf-s) 0 rfl ⟨hE02,Nat.zero_le _,fun j x hj=>absurd hj (by omega)⟩ ?_;rintro s w3 ⟨hE3,hs,hall⟩;refine aQq (fun h3=>?_) (fun h3=>?_)
   ·refine aQp nQj (hF.ext hE3) rfl (by omega) (fun p x hx hc=>?_);refine aQK (vs:=x.cells) rfl hc ?_;refine new (fun w4 hE4 hz4 hB4=>?_);refine aQc hB4 rfl (sc rfl) (fun w5 hg5 hz5 hB5=>?_);have hE35:Ext w3 w5:=aQJ hE4 hB4 hg5;have hE5:=hE3.trans hE35;have next:(x.o=2->x.v<n)->∀j y,j<s+1->f[j]? =some y->y.o=2->y.v<n:=fun hq j y hj hy ho=>by
     by_cases hjs:j<s
     ·exact hall j y hjs hy ho
     ·have:j=s:=by omega
      subst this;have e:=Option.some.inj (hy.symm.trans hx);subst e;exact hq ho
    refine aQg hB5 rfl ?_;refine aQP (fun h4=>?_) (fun h4=>?_)
    ·refine aQe hB5 rfl ?_;refine aQq (fun h5=>?_) (fun h5=>?_)
     ·refine⟨?_,hE5⟩;rw[iQK hok (fun hh=>by have:=hh.2 x (List.mem_of_getElem? hx) h4;omega)];rfl
     ·refine aQa ((s+1:Nat):Int) (by omega) (by have:=hv.1;omega) ?_;exact⟨s+1,rfl,⟨hE5,by omega,next (fun _=>by omega)⟩,by show nf-(s+1)<nf-s;omega⟩
    ·refine aQa ((s+1:Nat):Int) (by omega) (by have:=hv.1;omega) ?_;exact⟨s+1,rfl,⟨hE5,by omega,next (fun ho=>absurd ho h4)⟩,by show nf-(s+1)<nf-s;omega⟩
   ·refine⟨(),rfl,hE3,fun x hx ho=>?_⟩;obtain⟨j,hj,rfl⟩:=List.mem_iff_getElem.1 hx;rw[hnl];exact hall j _ (by omega) (List.getElem?_eq_getElem hj) ho
  rintro⟨⟩ w3 ⟨hE3,hvo⟩;have ht:=oQB hv;have hpos:=hv.2.1;refine new (fun w4 hE4 hz4 hB4=>?_);have hb4:Bld w4 w4.heap.size w3.heap.size 109 [] none 0 []:=⟨by omega,Nat.le_refl _,⟨_,.inl rfl,hB4⟩,Own.nil _ _ _ _⟩
  refine aQa ((nf-1:Nat):Int) (by omega) (by have:=hv.1;omega) ?_;have hll:=hl hv hvo;rw[hfl] at ht;refine call (sQd w4.heap.size w3.heap.size w3 A n c names FA nf cf f (h.ext hE3) hb (hF.ext hE3) (Nat.le_refl _) (eQd f) (nf-1) 0 none 0 [] w4 hE4 hb4 ht (by rw[<-hnl];exact dQH hvo ht) (by rw[List.length_nil];omega) (by omega)) ?_;rintro v w5 ⟨A5,c5,hb5,hm5,hv5⟩;rw[List.nil_append] at hb5;have hE5:Ext w w5:=hm5.ext (hE3.trans hE4) (fun i hi=>by
   rcases hi with rfl | ⟨_,e,_⟩
   ·exact hE3.size
   ·cases e)
  have h8:∀x∈prF names 0 (eQd f),x<256:=by
   unfold prF hQt;rw[if_neg (by simp)];exact vQ6 hb _
  refine call (kQO w4.heap.size w3.heap.size _ [] A5 c5 _ w5 hb5 h8 hll) ?_;rintro v w6 ⟨rfl,hm6⟩;refine⟨by rw[kQW hok hv hvo],hm6.ext hE5 (fun i hi=>?_)⟩;have:=(hb5.own.rows i hi).1;have:=hE3.size;omega
end
end
section
section
open Go Go.RowKit
structure Br where
 v:Int
 l:Int
 h:Int
deriving DecidableEq
def Br.cells (x:Br):List Value:=[.int .i64 x.v,.int .i64 x.l,.int .i64 x.h]
theorem cQl (x:Br):x.cells.length=3:=rfl
abbrev SB (w:World)(A:Option Addr)(n c:Nat)(d:List Br):Prop:=SlS Br.cells 3 w A n c d
def dgV (A:Option Addr)(n c:Nat)(r:Int):Value:=.agg #[.slice A n c,.int .i64 r]
def aQz (d:List Br)(n:Int):Int:=if n<2 then 64 else(d[(n-2).toNat]?.map (·.v)).getD 64
def vis (nd:List Br):Nat->Int->List Br×List Nat->Int×(List Br×List Nat)
 | 0,n,st=>(n,st)
 | m+1,n,st=>if n<2 then(n,st)else
   if 0<st.2[(n-2).toNat]?.getD 0 then((st.2[(n-2).toNat]?.getD 0:Nat),st)else
    match nd[(n-2).toNat]? with
    | none=>(n,st)
    | some x=>
     let a:=vis nd m x.l st
     let b:=vis nd m x.h a.2
     (((b.2.1.length+2:Nat):Int),(b.2.1++ [⟨x.v,a.1,b.1⟩],b.2.2.set (n-2).toNat (b.2.1.length+2)))
def bQh (nd:List Br)(r:Int):List Br×Int:=let a:=vis nd (r.toNat+1) r ([],List.replicate nd.length 0);(a.2.1,a.1)
def WfB (nd:List Br):Prop:=∀(j:Nat)(x:Br),nd[j]? =some x->0<=x.l/\x.l<j+2/\0<=x.h/\x.h<j+2
def pQG (nd:List Br)(j:Nat)(b:Br):Prop:=0<=b.v/\b.v<=63/\0<=b.l/\b.l<j+2/\0<=b.h/\b.h<j+2/\b.l≠b.h/\b∉nd.take j/\b.v<aQz nd b.l/\b.v<aQz nd b.h
def VD (nd:List Br)(r:Int):Prop:=(∀(j:Nat)(b:Br),nd[j]? =some b->pQG nd j b)/\0<=r/\r<nd.length+2/\bQh nd r=(nd,r)
open Classical in
noncomputable def bQS (nd:List Br)(r:Int):Int:=if 4096<nd.length then 2 else if VD nd r then 0 else 20
theorem oQC {nd:List Br}{r:Int}(h:4096<nd.length):bQS nd r=2:=if_pos h
theorem mQj {nd:List Br}{r:Int}(h:¬4096<nd.length)(k:VD nd r):bQS nd r=0:=(if_neg h).trans (if_pos k)
theorem jQy {nd:List Br}{r:Int}(h:¬4096<nd.length)(k:¬VD nd r):bQS nd r=20:=(if_neg h).trans (if_neg k)
theorem bQC {nd:List Br}{r:Int}:bQS nd r=0↔¬4096<nd.length/\VD nd r:=by
 constructor
 ·intro h;unfold bQS at h;split at h
  ·cases h
  ·split at h
   ·exact⟨by assumption,by assumption⟩
   ·cases h
 ·exact fun h=>mQj h.1 h.2
theorem VD.wf {nd:List Br}{r:Int}(h:VD nd r):WfB nd:=fun j x hx=>by
 obtain⟨_,_,h1,h2,h3,h4,_⟩:=h.1 j x hx;exact⟨h1,h2,h3,h4⟩
theorem bQT (A:Option Addr)(n c:Nat)(r m:Int)(nd:List Br)(w:World)(h:SB w A n c nd)(hm:m<n+2):
  Fn Tryz.prog 103 [dgV A n c r,.int .i64 m] w (fun v w'=>v= .int .i64 (aQz nd m)/\Ext w w'):=by
 have hlen:=h.2;refine aQf (c:={xQ5 with cuts:=[]}) aQb Tryz.func103 rfl rfl rfl ?_;refine new (fun w1 hE1 hz1 hB1=>?_);refine aQq (fun h1=>?_) (fun h1=>?_)
 ·exact⟨by unfold aQz;rw[if_pos h1],hE1⟩
 ·refine aQg hB1 rfl ?_;refine aQa (((m-2).toNat:Nat):Int) (by omega) (by have:=h.1.le;have:=h.1.cap;simp only[maxLen] at this;omega) ?_;refine aQp cQl (h.ext hE1) rfl (by omega) (fun p x hx hc=>?_);refine load (hc 0 _ rfl) ?_;exact⟨by unfold aQz;rw[if_neg h1,hx];rfl,hE1⟩
theorem eq3 (a b c a' b' c':Int):(a==a'&&(b==b'&&(c==c'&&true)))=decide (a=a'/\b=b'/\c=c'):=by
 rw[Bool.eq_iff_iff];simp only[Bool.and_eq_true,beq_iff_eq,decide_eq_true_eq,and_true]
theorem mQk {x y:Br}:x=y↔x.v=y.v/\x.l=y.l/\x.h=y.h:=by
 constructor
 ·rintro rfl;exact⟨rfl,rfl,rfl⟩
 ·obtain⟨a,b,c⟩:=x;obtain⟨d,e,f⟩:=y;rintro⟨rfl,rfl,rfl⟩;rfl
theorem uQh {α:Type}{l l':List α}{j:Nat}{x y:α}(hx:l[j]? =some x)(hy:l'[j]? =some y)(h:x≠y):l≠l':=fun e=>by subst e;exact h (Option.some.inj (hx.symm.trans hy))
theorem uQi {α:Type}{l l':List α}{n:Nat}(h1:l.length=n)(h2:l'.length=n)(h:∀j,j<n->l[j]? =l'[j]?):l=l':=by
 apply List.ext_getElem?;intro j;by_cases hj:j<n
 ·exact h j hj
 ·rw[List.getElem?_eq_none (by omega),List.getElem?_eq_none (by omega)]
theorem sQf (A B:Option Addr)(n c m e:Nat)(l l':List Br)(w:World)(h:SB w A n c l)(h':SB w B m e l'):
  Fn Tryz.prog 158 [.slice A n c,.slice B m e] w (fun v w'=>v= .bool (decide (l=l'))/\Ext w w'):=by
 have hl:=h.2;have hl':=h'.2;refine aQf (c:={yQG with cuts:=[]}) aQb Tryz.func158 rfl rfl rfl ?_;refine cQj (fun h1=>?_) (fun h1=>?_)
 ·exact⟨by rw[decide_eq_false (fun e=>by subst e;omega)],Ext.refl w⟩
 refine loop aQb [13] (fun s:Nat=>[.int .i64 s]) (fun s w'=>Ext w w'/\s<=n/\∀j,j<s->l[j]? =l'[j]?) (fun s _=>n-s) 0 rfl ⟨Ext.refl w,Nat.zero_le _,fun j hj=>absurd hj (by omega)⟩ ?_;rintro s w1 ⟨hE1,hs,hall⟩;refine aQq (fun h2=>?_) (fun h2=>?_)
 ·refine aQm aQb (Ext w1) 9 [(true,0),(true,1),(true,2),(true,3),(true,4),(true,5),(true,6),(true,7),(true,8)] (by kernel_rfl) (Ext.drew w1) ?_;refine aQp cQl (h.ext hE1) rfl (by omega) (fun p x hx hc=>?_);refine aQw (vs:=x.cells) rfl (fun w' hw' j v hj=>hw'.cell (hc j v hj)) ?_;refine aQp cQl (h'.ext hE1) rfl (by omega) (fun q y hy hc'=>?_);refine aQw (vs:=y.cells) rfl (fun w' hw' j v hj=>hw'.cell (hc' j v hj)) ?_;have hEd:=hE1.trans (Ext.drew w1);by_cases hxy:x=y
  ·refine aQN (by rw[eq3,decide_eq_true (mQk.1 hxy)];rfl) ?_;refine aQa ((s+1:Nat):Int) (by omega) (by have:=h.1.le;have:=h.1.cap;simp only[maxLen] at this;omega) ?_;refine⟨s+1,rfl,⟨hEd,by omega,fun j hj=>?_⟩,by show n-(s+1)<n-s;omega⟩;by_cases hjs:j<s
   ·exact hall j hjs
   ·have:j=s:=by omega
    subst this;rw[hx,hy,hxy]
  ·refine aQM (by rw[eq3,decide_eq_false (fun e=>hxy (mQk.2 e))];rfl) ?_;exact⟨by rw[decide_eq_false (uQh hx hy hxy)],hEd⟩
 ·exact⟨by rw[decide_eq_true (uQi hl (by omega) (fun j hj=>hall j (by omega)))],hE1⟩
theorem uQj (A B:Option Addr)(n c m e:Nat)(l l':List Br)(r r':Int)(w:World)(h:SB w A n c l)(h':SB w B m e l'):
  Fn Tryz.prog 105 [dgV A n c r,dgV B m e r'] w (fun v w'=>v= .bool (decide ((l,r)=(l',r')))/\Ext w w'):=by
 refine aQf (c:={xQ7 with cuts:=[]}) aQb Tryz.func105 rfl rfl rfl ?_;refine new (fun w1 hE1 hz1 hB1=>?_);refine new (fun w2 hE2 hz2 hB2=>?_);have hB12:=hB1.ext hE2;have hE02:=hE1.trans hE2;refine aQe hB12 rfl ?_;refine aQe hB2 rfl ?_;refine aQP (fun h1=>?_) (fun h1=>?_)
 ·refine aQg hB12 rfl ?_;refine aQg hB2 rfl ?_;refine call (sQf A B n c m e l l' w2 (h.ext hE02) (h'.ext hE02)) ?_;rintro v w3 ⟨rfl,hE3⟩;refine⟨?_,hE02.trans hE3⟩;congr 1;exact decide_eq_decide.2 ⟨fun e=>by rw[e,h1],fun e=>by cases e;rfl⟩
 ·exact⟨by rw[decide_eq_false (fun e=>h1 (by cases e;rfl))],hE02⟩
end
section
open Go Go.RowKit
theorem kQX {α:Type} [DecidableEq α]{kv:α->Value}{c:Cx}{o:Oper}{S:Env}{w:World}{K:Env->World->Prop}{Q:cQB}{t ke e:Nat}{r rk:TyRow}{x y:Operand}{q:Nat}{m:List (α×Value)}{a:α}{v:Value}{z:Operand}(hg:c.g.Ok)
  (ho:o.op= .insert t x y z) (hdst:o.dst=none) (hr:aQA c.g.tys t=some r) (hd:r.d= .map ke e) (hrk:aQA c.g.tys ke=some rk) (hk:KeyV rk.d kv)
  (hx:S.ev x=some (.map (some q))) (hy:S.ev y=some (kv a)) (hz:S.ev z=some v) (hm:MapAt kv w q m)
  (k:∀w1,w.grownBy w1 (some q)->w1.heap.size=w.heap.size->MapAt kv w1 q (aQs a v m)->K S w1):cQv c o S w K Q:=by
 have h:cQv c {o with op:=.mapUpdate t x y z} S w K Q:=bQt hg rfl hdst hr hd hrk hk hx hy hz hm k;unfold cQv at*;intro b hf;have h1:=h b hf;unfold Oper.wp at*;have e:(execOp b.eval o).run c.g.P w=(execOp b.eval {o with op:=.mapUpdate t x y z}).run c.g.P w:=by simp only[execOp,ho]
 rw[e];generalize (execOp b.eval {o with op:=.mapUpdate t x y z}).run c.g.P w=r at*;cases r with
 | ok n w'=>cases n<;>simp only[Oper.upon] at h1 ⊢ <;> exact h1
 | halt x w'=>cases x<;>simp only[Oper.upon] at h1 ⊢ <;> exact h1
theorem pQH {l:List Nat}{j v:Nat}(h:l[j]? =some 0)(hv:0<v):(l.set j v).count 0+1=l.count 0:=by
 induction l generalizing j with
 | nil=>simp at h
 | cons x l ih=>
  cases j with
  | zero=>
   simp at h;subst h;rw[List.set_cons_zero,List.count_cons_of_ne (by omega),List.count_cons_self]
  | succ j=>
   simp at h;have:=ih h;rw[List.set_cons_succ,List.count_cons,List.count_cons];omega
theorem fQz {nd:List Br}{m:Nat}{n:Int}{st:List Br×List Nat}(h:n<2):vis nd (m+1) n st=(n,st):=by rw[vis,if_pos h]
theorem dQ4 {nd:List Br}{m:Nat}{n:Int}{st:List Br×List Nat}(h:¬n<2)(k:0<st.2[(n-2).toNat]?.getD 0):vis nd (m+1) n st=(((st.2[(n-2).toNat]?.getD 0:Nat):Int),st):=by rw[vis,if_neg h,if_pos k]
theorem eQv {nd:List Br}{m:Nat}{n:Int}{st:List Br×List Nat}{x:Br}(h:¬n<2)(k:¬0<st.2[(n-2).toNat]?.getD 0)(hx:nd[(n-2).toNat]? =some x):
  vis nd (m+1) n st=((((vis nd m x.h (vis nd m x.l st).2).2.1.length+2:Nat):Int),((vis nd m x.h (vis nd m x.l st).2).2.1++ [⟨x.v,(vis nd m x.l st).1,(vis nd m x.h (vis nd m x.l st).2).1⟩],(vis nd m x.h (vis nd m x.l st).2).2.2.set (n-2).toNat ((vis nd m x.h (vis nd m x.l st).2).2.1.length+2))):=by
 rw[vis,if_neg h,if_neg k,hx]
structure VisF (nd:List Br) (n:Int) (st st':List Br×List Nat):Prop where
 len:st'.2.length=nd.length
 keep:∀k:Nat,n<(k:Int)+2->st'.2[k]? =st.2[k]?
 cnt:st'.1.length+st'.2.count 0<=st.1.length+st.2.count 0
 ge:st.1.length<=st'.1.length
theorem cQs {nd:List Br}(hw:WfB nd):∀(m:Nat)(n:Int)(st:List Br×List Nat),0<=n->n<m->n<nd.length+2->st.2.length=nd.length->VisF nd n st (vis nd m n st).2
 | 0,n,st,h0,hm,_,_=>by omega
 | m+1,n,st,h0,hm,hn,hl=>by
  by_cases h1:n<2
  ·rw[fQz h1];exact⟨hl,fun _ _=>rfl,Nat.le_refl _,Nat.le_refl _⟩
  by_cases h2:0<st.2[(n-2).toNat]?.getD 0
  ·rw[dQ4 h1 h2];exact⟨hl,fun _ _=>rfl,Nat.le_refl _,Nat.le_refl _⟩
  have hj:(n-2).toNat<nd.length:=by omega
  have hx:=List.getElem?_eq_getElem hj;obtain⟨w1,w2,w3,w4⟩:=hw _ _ hx;rw[eQv h1 h2 hx];have f1:=cQs hw m nd[(n-2).toNat].l st w1 (by omega) (by omega) hl;have f2:=cQs hw m nd[(n-2).toNat].h _ w3 (by omega) (by omega) f1.len;generalize (vis nd m nd[(n-2).toNat].l st)=a at*;generalize (vis nd m nd[(n-2).toNat].h a.2)=b at*;have hz:st.2[(n-2).toNat]? =some 0:=by
   have:st.2[(n-2).toNat]? =some st.2[(n-2).toNat]:=List.getElem?_eq_getElem (by omega);rw[this] at h2 ⊢;simp only[Option.getD_some] at h2;congr 1;omega
  have hz2:b.2.2[(n-2).toNat]? =some 0:=by rw[f2.keep _ (by omega),f1.keep _ (by omega),hz]
  have hc:=pQH (v:=b.2.1.length+2) hz2 (by omega);have c1:=f1.cnt;have c2:=f2.cnt;have g1:=f1.ge;have g2:=f2.ge;refine⟨by rw[List.length_set];exact f2.len,fun k hk=>?_,?_,?_⟩
  ·rw[List.getElem?_set_ne (by omega),f2.keep k (by omega),f1.keep k (by omega)]
  ·rw[List.length_append];simp only[List.length_cons,List.length_nil];omega
  ·rw[List.length_append];omega
abbrev kQY:Int->Value:=fun n=>.int .i64 n
def MapOk (num:List Nat)(m:List (Int×Value)):Prop:=∀n:Int,0<=n->aQS n m=if n<2 then some (.int .i64 n)else if 0<num[(n-2).toNat]?.getD 0 then some (.int .i64 (num[(n-2).toNat]?.getD 0:Nat))else none
theorem MapOk.set {num:List Nat}{m:List (Int×Value)}(h:MapOk num m){n:Int}(h2:¬n<2)(hl:(n-2).toNat<num.length){v:Nat}(hv:0<v):MapOk (num.set (n-2).toNat v) (aQs n (.int .i64 (v:Nat)) m):=by
 intro k hk;rw[bQe];by_cases e:k=n
 ·subst e;rw[if_pos rfl,if_neg h2,List.getElem?_set_self hl];simp only[Option.getD_some];rw[if_pos hv]
 ·rw[if_neg e,h k hk];by_cases hk2:k<2
  ·rw[if_pos hk2,if_pos hk2]
  ·rw[if_neg hk2,if_neg hk2,List.getElem?_set_ne (by omega)]
theorem oQD (n:Nat):MapOk (List.replicate n 0) (aQs 1 (.int .i64 1) (aQs 0 (.int .i64 0) [])):=by
 intro k hk;rw[bQe,bQe];by_cases h1:k=1
 ·subst h1;rfl
 ·rw[if_neg h1];by_cases h0:k=0
  ·subst h0;rfl
  ·rw[if_neg h0,if_neg (by omega),if_neg]
   ·rfl
   ·cases h:(List.replicate n 0)[(k-2).toNat]? with
    | none=>simp
    | some x=>
     have:=List.eq_of_mem_replicate (List.mem_of_getElem? h);rw[this];simp
end
section
open Go Go.RowKit
def brV (l:List Br):List Value:=l.flatMap Br.cells
theorem gQ3 (l:List Br)(x:Br):brV (l++ [x])=brV l++x.cells:=by simp[brV]
structure VP where
 mb:Nat
 q:Nat
 bb:Nat
 bp:Nat
 fb:Nat
 ob:Nat
def VP.ptr (i:Nat):Value:=.pointer (some ⟨i,0,none⟩)
def VP.clo (p:VP):Value:=.func (.func 157) #[] #[VP.ptr p.mb,VP.ptr p.bb,VP.ptr p.fb,VP.ptr p.ob]
structure VK (w:World) (base:Nat) (p:VP) (NA:Option Addr) (nn nc:Nat) (nd:List Br):Prop where
 mbx:Blk w p.mb 238 [.map (some p.q)]
 bbx:Blk w p.bb 174 [VP.ptr p.bp]
 bpx:∃kv,Blk w p.bp 177 [.slice NA nn nc,kv]
 fbx:Blk w p.fb 215 [p.clo]
 nds:SB w NA nn nc nd
 lt:p.q<base/\p.ob<base
 ne:p.q≠p.ob/\p.q≠p.mb/\p.q≠p.bb/\p.q≠p.bp/\p.q≠p.fb/\p.ob≠p.mb/\p.ob≠p.bb/\p.ob≠p.bp/\p.ob≠p.fb
 lt2:p.mb<base/\p.bb<base/\p.bp<base/\p.fb<base
 row:∀ad,NA=some ad->0<nn->ad.block<base/\ad.block≠p.q/\ad.block≠p.ob
def VS (p:VP)(A:Option Addr):Nat->Prop:=fun k=>k=p.q∨k=p.ob∨aQx A k
theorem VS.moved {w:World}{p:VP}{A A':Option Addr}(h:Moved w A A'):∀k,VS p A' k->VS p A k∨w.heap.size<=k:=by
 rintro k (rfl | rfl | hk)
 ·exact .inl (.inl rfl)
 ·exact .inl (.inr (.inl rfl))
 ·rcases h.rows k hk with h | h
  ·exact .inl (.inr (.inr h))
  ·exact .inr h
theorem Mod.cell {S:Nat->Prop}{w w':World}(k:Mod S w w'){a:Addr}{v:Value}(h:w.cell? a=some v)(hn:¬S a.block):w'.cell? a=some v:=by
 have hlt:=World.block_lt_of_cell? w a h;have e:=k.block a.block hlt hn;unfold World.cell? at h ⊢;rw[e];exact h
theorem Sl.modS {S:Nat->Prop}{w w':World}{sz n c:Nat}{A:Option Addr}{cs:List Value}(h:Sl w sz A n c cs)(k:Mod S w w')(hn:0<n->∀i,aQx A i->¬S i):Sl w' sz A n c cs:=
 ⟨h.len,h.le,h.cap,fun h0=>by
  obtain⟨ad,rfl,hc⟩:=h.at_ h0;exact⟨ad,rfl,fun j u hu=>k.cell (hc j u hu) (hn h0 _ ⟨ad,rfl,(cQG ad j).symm⟩)⟩⟩
theorem gQg {α:Type} [DecidableEq α]{kv:α->Value}{c:Cx}{o:Oper}{S:Env}{w:World}{K:Env->World->Prop}{Q:cQB}{t ke e:Nat}{r rk re:TyRow}{x y:Operand}{q:Nat}{m:List (α×Value)}{a:α}{v:Value}(hg:c.g.Ok)
  (ho:o.op= .lookup t x y false) (hr:aQA c.g.tys t=some r) (hd:r.d= .map ke e) (hrk:aQA c.g.tys ke=some rk) (hre:aQA c.g.tys e=some re) (hk:KeyV rk.d kv)
  (hx:S.ev x=some (.map (some q))) (hy:S.ev y=some (kv a)) (hm:MapAt kv w q m) (hv:(aQS a m).getD re.z=v) (k:bQq c S o.dst (.v v) (fun S=>K S w)):cQv c o S w K Q:=by
 subst hv;exact pQo hg ho hr hd hrk hre hk hx hy hm k
theorem VK.mod {w w':World}{base:Nat}{p:VP}{NA OA:Option Addr}{nn nc:Nat}{nd:List Br}(h:VK w base p NA nn nc nd)(hr:∀i,aQx OA i->base<=i)(hm:Mod (VS p OA) w w'):VK w' base p NA nn nc nd:=by
 obtain⟨n1,n2,n3,n4,n5,n6,n7,n8,n9⟩:=h.ne;obtain⟨l1,l2,l3,l4⟩:=h.lt2;have key:∀i,i<base->i≠p.q->i≠p.ob->¬VS p OA i:=fun i hi hq ho e=>by
  rcases e with e | e | e
  ·exact hq e
  ·exact ho e
  ·have:=hr i e;omega
 obtain⟨kv,hbp⟩:=h.bpx;refine⟨h.mbx.mod hm (key _ l1 n2.symm n6.symm),h.bbx.mod hm (key _ l2 n3.symm n7.symm),⟨kv,hbp.mod hm (key _ l3 n4.symm n8.symm)⟩,h.fbx.mod hm (key _ l4 n5.symm n9.symm),⟨h.nds.1.modS hm ?_,h.nds.2⟩,h.lt,h.ne,h.lt2,h.row⟩;rintro h0 i ⟨ad,rfl,rfl⟩;obtain⟨r1,r2,r3⟩:=h.row ad rfl h0;exact key _ r1 r2 r3
structure VSt (w:World) (base:Nat) (p:VP) (r0:Int) (OA:Option Addr) (oc:Nat) (st:List Br×List Nat):Prop where
 own:Own w base 105 3 OA st.1.length oc (brV st.1)
 obx:Blk w p.ob 32 [.slice OA st.1.length oc,.int .i64 r0]
 mp:∃mm,MapAt kQY w p.q mm/\MapOk st.2 mm
 top:base<=w.heap.size
theorem VSt.ext {w w':World}{base:Nat}{p:VP}{r0:Int}{OA:Option Addr}{oc:Nat}{st:List Br×List Nat}(h:VSt w base p r0 OA oc st)(k:Ext w w'):VSt w' base p r0 OA oc st:=
 ⟨h.own.ext k,h.obx.ext k,let ⟨mm,h1,h2⟩:=h.mp;⟨mm,h1.ext k,h2⟩,Nat.le_trans h.top k.size⟩
def VTo (w:World)(base:Nat)(p:VP)(r0:Int)(OA:Option Addr)(st:List Br×List Nat)(w':World):Prop:=∃OA' oc',VSt w' base p r0 OA' oc' st/\Mod (VS p OA) w w'/\Moved w OA OA'
theorem nQt (base:Nat)(p:VP)(r0:Int)(NA:Option Addr)(nn nc:Nat)(nd:List Br)(hwf:WfB nd)(hnn:nn<=1000000000000):∀(m:Nat)(n:Int)(st:List Br×List Nat)(OA:Option Addr)(oc:Nat)(w:World),
  VK w base p NA nn nc nd->VSt w base p r0 OA oc st->0<=n->n<m->n<nn+2->st.2.length=nn->st.1.length+st.2.count 0<=1000000000000->
  Fn Tryz.prog 157 [.int .i64 n,VP.ptr p.mb,VP.ptr p.bb,VP.ptr p.fb,VP.ptr p.ob] w (fun v w'=>v= .int .i64 (vis nd m n st).1/\VTo w base p r0 OA (vis nd m n st).2 w')
 | 0,n,st,OA,oc,w,_,_,h0,hm,_,_,_=>by omega
 | m+1,n,st,OA,oc,w,hK,hS,h0,hm,hn,hl,hc=>by
  have ih:=nQt base p r0 NA nn nc nd hwf hnn m;have hnl:nd.length=nn:=hK.nds.2;obtain⟨mm,hmp,hmo⟩:=hS.mp;have hrows:=hS.own.rows;have hqlt:=hmp.lt;have holt:=hS.obx.lt;refine aQf (c:={yQF with cuts:=[]}) aQb Tryz.func157 rfl rfl rfl ?_;refine aQg hK.mbx rfl ?_;have hlook:=hmo n h0;by_cases h1:n<2
  ·rw[if_pos h1] at hlook;refine cQr (kv:=kQY) (a:=n) (v:=.int .i64 n) (b:=true) aQb rfl rfl rfl rfl rfl (KeyV.int .i64) rfl rfl hmp (by rw[hlook];rfl) (by rw[hlook];rfl) ?_;refine aQM rfl ?_;refine⟨by rw[fQz h1],OA,oc,?_,Mod.refl _ _,Moved.refl _ _⟩;rw[fQz h1];exact hS
  rw[if_neg h1] at hlook;by_cases h2:0<st.2[(n-2).toNat]?.getD 0
  ·rw[if_pos h2] at hlook;refine cQr (kv:=kQY) (a:=n) (v:=.int .i64 (st.2[(n-2).toNat]?.getD 0:Nat)) (b:=true) aQb rfl rfl rfl rfl rfl (KeyV.int .i64) rfl rfl hmp (by rw[hlook];rfl) (by rw[hlook];rfl) ?_;refine aQM rfl ?_;refine⟨by rw[dQ4 h1 h2],OA,oc,?_,Mod.refl _ _,Moved.refl _ _⟩;rw[dQ4 h1 h2];exact hS
  rw[if_neg h2] at hlook;refine cQr (kv:=kQY) (a:=n) (v:=.int .i64 0) (b:=false) aQb rfl rfl rfl rfl rfl (KeyV.int .i64) rfl rfl hmp (by rw[hlook];rfl) (by rw[hlook];rfl) ?_;refine aQN rfl ?_;have hj:(n-2).toNat<nd.length:=by omega
  have hx:=List.getElem?_eq_getElem hj;generalize nd[(n-2).toNat]=x at hx;obtain⟨x1,x2,x3,x4⟩:=hwf _ _ hx;obtain⟨kv,hbp⟩:=hK.bpx;refine aQg hK.bbx rfl ?_;refine aQg hbp rfl ?_;refine aQa (((n-2).toNat:Nat):Int) (by omega) (by omega) ?_;refine aQp cQl hK.nds rfl (by omega) (fun ad y hy hcl=>?_);have hyx:y=x:=Option.some.inj (hy.symm.trans hx);subst hyx;refine aQK (vs:=y.cells) rfl hcl ?_;refine new (fun w1 hE1 hz1 hB1=>?_);refine aQc hB1 rfl (sc rfl) (fun w2 hg2 hz2 hX2=>?_);have hE2:Ext w w2:=aQJ hE1 hB1 hg2;have hM02:Mod (VS p OA) w w2:=Mod.of_ext _ hE2;have hK2:=hK.mod (fun i hi=>(hrows i hi).1) hM02;have hS2:=hS.ext hE2;have hbn:¬VS p OA w.heap.size:=fun e=>by
   rcases e with e | e | e
   ·omega
   ·omega
   ·have:=(hrows _ e).2;omega
  refine aQg hK2.fbx rfl ?_;refine aQe hX2 rfl ?_;have f1:=cQs hwf m y.l st x1 (by omega) (by omega) (by omega);refine call (ih y.l st OA oc w2 hK2 hS2 x1 (by omega) (by omega) hl hc) ?_;rintro v w3 ⟨rfl,OA3,oc3,hS3,hM3,hV3⟩;have hK3:=hK2.mod (fun i hi=>(hrows i hi).1) hM3;have hX3:=hX2.mod hM3 hbn;have hrows3:=hS3.own.rows;have hbn3:¬VS p OA3 w.heap.size:=fun e=>(VS.moved hV3 _ e).elim hbn (fun h=>by omega)
  refine aQg hK3.fbx rfl ?_;refine aQe hX3 rfl ?_;have f2:=cQs hwf m y.h _ x3 (by omega) (by omega) f1.len;have c1:=f1.cnt;have c2:=f2.cnt;refine call (ih y.h _ OA3 oc3 w3 hK3 hS3 x3 (by omega) (by omega) (by rw[f1.len];exact hnl) (by omega)) ?_;rintro v w4 ⟨rfl,OA4,oc4,hS4,hM4,hV4⟩;have hX4:=hX3.mod hM4 hbn3;have hrows4:=hS4.own.rows;have hM24:=hM3.trans hM4 (VS.moved hV3);have hV24:=hV3.trans hV4 hM3.size;have hM04:Mod (VS p OA) w w4:=hM02.trans hM24 (fun i hi=>.inl hi);have hV04:=hV24.back hE2.size;have hK4:=hK3.mod (fun i hi=>(hrows3 i hi).1) hM4;have hnew:=eQv (m:=m) h1 h2 hx;rw[hnew];generalize (vis nd m y.l st)=a at*;generalize (vis nd m y.h a.2)=b at*;have hnob:¬aQx OA4 p.ob:=fun e=>by have:=(hrows4 _ e).1;have:=hK.lt.2;omega
  have hnq:¬aQx OA4 p.q:=fun e=>by have:=(hrows4 _ e).1;have:=hK.lt.1;omega
  refine aQg hS4.obx rfl ?_;refine aQg hX4 rfl ?_;refine aQl aQb [(⟨y.v,a.1,b.1⟩:Br).cells] rfl rfl rfl rfl rfl ⟨rfl,rfl,⟨⟩⟩ rfl (fun cs h=>by simp only[List.mem_singleton] at h;subst h;rfl) rfl (by decide) (by decide) ?_;intro w5 hE5 hz5 hB5;have hS5:=hS4.ext hE5;have hs5:Sl w5 3 (some ⟨w4.heap.size,0,none⟩) 1 1 (⟨y.v,a.1,b.1⟩:Br).cells:=Sl.own (sz:=3) (n:=1) hB5 (Nat.le_refl _) (by decide) (by simp[Br.cells]);refine bQf aQb rfl rfl rfl rfl rfl (by decide) rfl rfl ⟨_,rfl⟩ rfl rfl hS5.own hs5 (by intro u hu;simp[Br.cells] at hu;rcases hu with rfl | rfl | rfl<;>rfl) (by unfold maxLen;omega) (by show _*24<=_;omega) hS5.top ?_;intro OA6 oc6 w6 hM6 hown6 hV6;refine aQC (hS5.obx.mod hM6 hnob) (by simp) (fun w7 hM7 hB7=>?_);have hM47:Mod (VS p OA4) w4 w7:=((Mod.of_ext (VS p OA4) hE5).trans hM6 (fun i hi=>.inl (.inr (.inr hi)))).trans hM7 (fun i hi=>.inl (.inr (.inl hi)));have hK7:=hK4.mod (fun i hi=>(hrows4 i hi).1) hM47;obtain⟨m4,hmp4,hmo4⟩:=hS4.mp;have hmp7:MapAt kQY w7 p.q m4:=((hmp4.ext hE5).mod hM6 hnq).mod hM7 hK.ne.1;have hlen:b.2.2.length=nd.length:=f2.len;refine aQg hK7.mbx rfl ?_;refine aQg hB7 rfl ?_;refine aQa ((b.2.1.length+2:Nat):Int) (by omega) (by omega) ?_;refine bQt (kv:=kQY) (a:=n) aQb rfl rfl rfl rfl rfl (KeyV.int .i64) rfl rfl rfl hmp7 (fun w8 hg8 _ hmp8=>?_);have hM8:Mod (·=p.q) w7 w8:=zQE hg8 rfl;have hmo8:=hmo4.set h1 (by omega) (v:=b.2.1.length+2) (by omega);have hlook8:aQS n (aQs n (.int .i64 ((b.2.1.length+2:Nat):Int)) m4)=some (.int .i64 ((b.2.1.length+2:Nat):Int)):=by rw[bQe,if_pos rfl]
  have hM48:Mod (VS p OA4) w4 w8:=hM47.trans hM8 (fun i hi=>.inl (.inl hi));have hK8:=hK4.mod (fun i hi=>(hrows4 i hi).1) hM48;refine aQg hK8.mbx rfl ?_;refine gQg (kv:=kQY) (a:=n) (v:=.int .i64 ((b.2.1.length+2:Nat):Int)) aQb rfl rfl rfl rfl rfl (KeyV.int .i64) rfl rfl hmp8 (by rw[hlook8];rfl) ?_;have hrows6:=hown6.rows;have el:(b.2.1++ [(⟨y.v,a.1,b.1⟩:Br)]).length=b.2.1.length+1:=by simp
  refine⟨rfl,OA6,oc6,⟨?_,?_,⟨_,hmp8,hmo8⟩,?_⟩,hM04.trans hM48 (VS.moved hV04),?_⟩
  ·rw[el,gQ3];refine(hown6.mod hM7 (fun i hi e=>?_)).mod hM8 (fun i hi e=>?_)
   ·have:=(hrows6 i hi).1;have:=hK.lt.2;omega
   ·have:=(hrows6 i hi).1;have:=hK.lt.1;omega
  ·rw[el];exact hB7.mod hM8 (fun e=>hK.ne.1 e.symm)
  ·have:=hS4.top;have:=hM48.size;omega
  ·exact hV04.trans (hV6.back hE5.size) hM04.size
end
section
open Go Go.RowKit
def pQI (w:World)(r:List Br×Int)(v:Value)(w':World):Prop:=∃A n c,v=dgV A n c r.2/\Ext w w'/\SB w' A n c r.1/\∀i,aQx A i->w.heap.size<=i
theorem gQh (bp:Nat)(kv:Value)(NA:Option Addr)(nn nc:Nat)(nd:List Br)(root:Int)(w:World)(hb:Blk w bp 177 [.slice NA nn nc,kv])(hN:SB w NA nn nc nd)(hwf:WfB nd)(hnn:nn<=1000000000000)(h0:0<=root)(hr:root<nn+2)
  (hrow:∀ad,NA=some ad->0<nn->ad.block<w.heap.size):
  Fn Tryz.prog 104 [.pointer (some ⟨bp,0,none⟩),.int .i64 root] w (pQI w (bQh nd root)):=by
 have hnl:nd.length=nn:=hN.2;have hbl:=hb.lt;refine aQf (c:={xQ6 with cuts:=[]}) aQb Tryz.func104 rfl rfl rfl ?_;refine new (fun w1 hE1 hz1 hB1=>?_);refine new (fun w2 hE2 hz2 hB2=>?_);refine new (fun w3 hE3 hz3 hB3=>?_);refine aQc hB3 rfl (sc rfl) (fun w4 hg4 hz4 hB4=>?_);have hM4:Mod (·=w2.heap.size) w3 w4:=zQE hg4 rfl;refine dQD aQb kQY rfl ?_;intro w5 hE5 hz5 hm5;refine kQX (kv:=kQY) (a:=0) aQb rfl rfl rfl rfl rfl (KeyV.int .i64) rfl rfl rfl hm5 (fun w6 hg6 hz6 hm6=>?_);refine kQX (kv:=kQY) (a:=1) aQb rfl rfl rfl rfl rfl (KeyV.int .i64) rfl rfl rfl hm6 (fun w7 hg7 hz7 hm7=>?_);have hM57:Mod (·=w4.heap.size) w5 w7:=(zQE (S:=(·=w4.heap.size)) hg6 rfl).trans (zQE (S:=(·=w4.heap.size)) hg7 rfl) (fun i hi=>.inl hi);refine new (fun w8 hE8 hz8 hB8=>?_);refine aQC hB8 (by simp[bQd]) (fun w9 hM9 hB9=>?_);refine new (fun w10 hE10 hz10 hB10=>?_);refine aQC hB10 (by simp[bQd]) (fun w11 hM11 hB11=>?_);have z9:=hM9.size;have z11:=hM11.size;have q1:Ext w w4:=hM4.ext ((hE1.trans hE2).trans hE3) (fun i hi=>by omega);have q2:Ext w4 w7:=hM57.ext hE5 (fun i hi=>by omega);have q3:Ext w7 w9:=hM9.ext hE8 (fun i hi=>by omega);have q4:Ext w9 w11:=hM11.ext hE10 (fun i hi=>by omega);have q04:Ext w w11:=((q1.trans q2).trans q3).trans q4
 let p:VP:=⟨w7.heap.size,w4.heap.size,w.heap.size,bp,w9.heap.size,w2.heap.size⟩
 have hB1':Blk w11 w.heap.size 174 [VP.ptr bp]:=(((hB1.ext (hE2.trans hE3)).mod hM4 (by omega)).ext q2).ext (q3.trans q4);have hB2':Blk w11 w1.heap.size 32 [.slice none 0 0,.int .i64 0]:=(((hB2.ext hE3).mod hM4 (by omega)).ext q2).ext (q3.trans q4);have hB4':Blk w11 w2.heap.size 32 [.slice none 0 0,.int .i64 0]:=(hB4.ext q2).ext (q3.trans q4);have hB9':Blk w11 w7.heap.size 238 [.map (some w4.heap.size)]:=hB9.ext q4;have hm7':MapAt kQY w11 w4.heap.size _:=((hm7.ext hE8).mod hM9 (by omega)).ext q4;have hK:VK w11 w11.heap.size p NA nn nc nd:=by
  refine⟨hB9',hB1',⟨kv,hb.ext q04⟩,hB11,hN.ext q04,⟨?_,?_⟩,⟨?_,?_,?_,?_,?_,?_,?_,?_,?_⟩,⟨?_,?_,?_,?_⟩,fun ad e hn=>?_⟩
  all_goals try (show(_:Nat)≠_;simp only[p];omega)
  all_goals try (show(_:Nat)<_;simp only[p];omega)
  have:=hrow ad e hn;refine⟨by omega,?_,?_⟩<;>(simp only[p];omega)
 have hS:VSt w11 w11.heap.size p 0 none 0 ([],List.replicate nd.length 0):=⟨Own.nil _ _ _ _,hB4',⟨_,hm7',oQD _⟩,Nat.le_refl _⟩
 refine aQg hB11 rfl ?_;refine call (nQt w11.heap.size p 0 NA nn nc nd hwf hnn (root.toNat+1) root ([],List.replicate nd.length 0) none 0 w11 hK hS h0 (by omega) hr (by simp[hnl]) (by simp;omega)) ?_;rintro v w12 ⟨rfl,OA,oc,hS12,hM12,hV12⟩;have hnr:∀i,i≠w4.heap.size->i≠w2.heap.size->¬VS p none i:=fun i h1 h2 e=>by
  rcases e with e | e | ⟨_,e,_⟩
  ·exact h1 e
  ·exact h2 e
  ·cases e
 have hR12:=hB2'.mod hM12 (hnr _ (by omega) (by omega));have hrows:=hS12.own.rows;refine aQn hS12.obx (by simp) (fun w13 hM13 hB13=>?_);have hR13:=hR12.mod hM13 (by show¬w1.heap.size=w2.heap.size;omega);refine aQd hB13 rfl ?_;refine aQc hR13 rfl (sc rfl) (fun w14 hg14 _ hB14=>?_);have hM14:Mod (·=w1.heap.size) w13 w14:=zQE hg14 rfl;refine aQd hB14 rfl ?_;have hE12:Ext w w12:=hM12.ext q04 (fun i hi=>by
  rcases hi with e | e | ⟨_,e,_⟩
  ·simp only[p] at e;omega
  ·simp only[p] at e;omega
  ·cases e)
 have hE14:Ext w w14:=hM14.ext (hM13.ext hE12 (fun i hi=>by have hi':i=w2.heap.size:=hi;omega)) (fun i hi=>by omega);refine⟨OA,_,oc,rfl,hE14,⟨?_,rfl⟩,fun i hi=>Nat.le_trans q04.size (hrows i hi).1⟩;have:∀i,aQx OA i->w11.heap.size<=i:=fun i hi=>(hrows i hi).1
 exact((hS12.own.mod hM13 (fun i hi e=>by have:=this i hi;have e':i=w2.heap.size:=e;omega)).mod hM14 (fun i hi e=>by have:=this i hi;omega)).sl
end
section
open Go Go.RowKit
theorem sQg {P:Program}{t:TypeId}{fs:Array Field}{ks:List Nat}{xs ys:Array Value}{b:Bool}{w:World}(hu:P.underlying t=some (.struct fs))(hh:P.stoodInHeld t=false)(hf:eQ7 P 0 fs.toList ks=true)(h:cQm ks xs.toList ys.toList=some b)(n:Nat):
  (Op.equalIn (n+2) t (.agg xs) (.agg ys)).run P w= .ok b w:=by
 have hf2:P.fieldsOf t=fs:=by simp[Program.fieldsOf,hu]
 rw[run_equalIn_struct w (n+1) t xs ys (by rw[hf2];exact hu) hh,hf2];exact dQw fs.toList ks 0 _ _ b hf h (fun j=>by simp) (fun j=>by simp) n w
theorem k3:fQ1 (Tryz.prog.underlying 3)<3:=by rw[Tryz.underlying3];decide
abbrev brK:Br->Value:=fun b=>.agg b.cells.toArray
theorem zQm (a b:Br)(n:Nat)(w:World):(Op.equalIn (n+2) 105 (brK a) (brK b)).run Tryz.prog w= .ok (decide (a=b)) w:=by
 refine sQg (ks:=[0,0,0]) Tryz.underlying105 (by kernel_rfl) (by kernel_rfl) ?_ n;rw[show cQm [0,0,0] a.cells.toArray.toList b.cells.toArray.toList=some (a.v==b.v&&(a.l==b.l&&(a.h==b.h&&true))) from rfl,eq3];congr 1;exact decide_eq_decide.2 mQk.symm
theorem uQk (b:Bool)(a:Br)(n:Nat)(w:World):(Instr.checkKey b (n+2) 105 (brK a)).run Tryz.prog w= .ok () w:=by
 simp[Instr.checkKey,run_underlying Tryz.underlying105,run_underlying Tryz.underlying3,brK,Br.cells,bQH k3 (cs:= #[Value.int IntKind.i64 a.v,Value.int IntKind.i64 a.l,Value.int IntKind.i64 a.h]) (n:=0) rfl,bQH k3 (cs:= #[Value.int IntKind.i64 a.v,Value.int IntKind.i64 a.l,Value.int IntKind.i64 a.h]) (n:=1) rfl,bQH k3 (cs:= #[Value.int IntKind.i64 a.v,Value.int IntKind.i64 a.l,Value.int IntKind.i64 a.h]) (n:=2) rfl]
theorem sQh:KeyQ Tryz.prog 105 brK:=
 KeyQ.asking Tryz.underlying105 (fun a b w=>zQm a b 9998 w) (fun b a w=>uQk b a 9998 w) (fun a=>by simp[Br.cells,Instr.sameBits])
theorem gQi {α:Type} [DecidableEq α]{kv:α->Value}{c:Cx}{o:Oper}{S:Env}{w:World}{K:Env->World->Prop}{Q:cQB}{t ke e:Nat}{r re:TyRow}{x y:Operand}{q:Nat}{m:List (α×Value)}{a:α}(hg:c.g.Ok)(ho:o.op= .lookup t x y false)(hr:aQA c.g.tys t=some r)(hd:r.d= .map ke e)(hre:aQA c.g.tys e=some re)(hk:KeyQ c.g.P ke kv)
  (hx:S.ev x=some (.map (some q))) (hy:S.ev y=some (kv a)) (hm:MapQ kv w q m) {v:Value} (hv:(aQS a m).getD re.z=v)
  (k:bQq c S o.dst (.v v) (fun S=>K S w)):cQv c o S w K Q:=by
 refine aQ9 (w':=w) (fun b hf=>?_) k;have e1:=hf.ev hx;have e2:=hf.ev hy;have:=hQq (w:=w) (a:=a) hg hr hd hre hk hm false;simp only[hv] at this;simp only[execOp,ho,e1,e2];simp only[Sem.run_bind,this,Result.andThen_ok];simp
theorem SB.lt {w:World}{A:Option Addr}{n c:Nat}{d:List Br}(h:SB w A n c d):∀ad,A=some ad->0<n->ad.block<w.heap.size:=by
 intro ad e hn;obtain⟨ad',e',hc⟩:=h.1.at_ hn;cases e.symm.trans e';have hl:=h.1.len;cases hcs:d.flatMap Br.cells with
 | nil=>rw[hcs] at hl;simp at hl;omega
 | cons u us=>
  rw[hcs] at hc;have:=World.block_lt_of_cell? w _ (hc 0 u rfl);rw[cQG] at this;exact this
end
section
open Go Go.RowKit
theorem dQI (A:Option Addr)(n c:Nat)(nd:List Br)(root:Int)(w:World)(h:SB w A n c nd):
  Fn Tryz.prog 52 [dgV A n c root] w (fun v w'=>v= .int .i64 (bQS nd root)/\Ext w w'):=by
 have hlen:=h.2;refine aQf (c:={c52 with cuts:=[4]}) aQb Tryz.func52 rfl rfl rfl ?_;refine new (fun w1 hE1 hz1 hB1=>?_);refine aQg hB1 rfl ?_;refine aQq (fun h1=>?_) (fun h1=>?_)
 ·exact⟨by rw[oQC (by omega)],hE1⟩
 have hsm:¬4096<nd.length:=by omega
 refine cQD aQb brK rfl ?_;intro w2 hE2 hz2 hm2;have hE02:=hE1.trans hE2;have hB2:=hB1.ext hE2;refine iQl [] aQb [] (fun _:Unit=>[]) (fun _ w'=>Mod (·=w1.heap.size) w2 w'/\∀(j:Nat) (b:Br),j<n->nd[j]? =some b->pQG nd j b) ?_ ?_
 ·refine aQg hB2 rfl ?_;refine loop aQb [15] (fun s:Nat=>[.int .i64 s]) (fun s w'=>Mod (·=w1.heap.size) w2 w'/\s<=n/\(∀(j:Nat) (b:Br),j<s->nd[j]? =some b->pQG nd j b)/\∃m,MapQ brK w' w1.heap.size m/\∀b,(aQS b m).getD (.bool false)= .bool (decide (b∈nd.take s))) (fun s _=>n-s) 0 rfl ⟨Mod.refl _ _,Nat.zero_le _,fun j b hj=>absurd hj (by omega),[],hm2,fun b=>by simp[aQS]⟩ ?_;rintro s w3 ⟨hM3,hs,hall,m,hm3,hmem⟩;have hE3:Ext w w3:=hM3.ext hE02 (fun i hi=>by have:=hE1.size;omega);have hB3:=hB2.mod hM3 (by omega);refine aQq (fun h2=>?_) (fun h2=>?_)
  ·refine aQp cQl (h.ext hE3) rfl (by omega) (fun p x hx hc=>?_);refine aQK (vs:=x.cells) rfl hc ?_;refine new (fun w4 hE4 hz4 hB4=>?_);refine aQc hB4 rfl (sc rfl) (fun w5 hg5 hz5 hX5=>?_);have hE35:Ext w3 w5:=aQJ hE4 hB4 hg5;have hE5:=hE3.trans hE35;have hm5:=hm3.ext hE35;have hB5:=hB3.ext hE35;have bad:¬pQG nd s x->∀w',Ext w w'->(Value.int .i64 20= .int .i64 (bQS nd root))/\Ext w w':=fun hno w' hE=>⟨by rw[jQy hsm (fun hv=>hno (hv.1 s x hx))],hE⟩
   refine aQg hX5 rfl ?_;refine aQq (fun c1=>?_) (fun c1=>?_)
   ·exact bad (fun hb=>by have:=hb.1;omega) _ hE5
   refine aQg hX5 rfl ?_;refine aQq (fun c2=>?_) (fun c2=>?_)
   ·exact bad (fun hb=>by have:=hb.2.1;omega) _ hE5
   refine aQe hX5 rfl ?_;refine aQq (fun c3=>?_) (fun c3=>?_)
   ·exact bad (fun hb=>by have:=hb.2.2.1;omega) _ hE5
   refine aQe hX5 rfl ?_;refine aQq (fun c4=>?_) (fun c4=>?_)
   ·exact bad (fun hb=>by have:=hb.2.2.2.2.1;omega) _ hE5
   refine aQe hX5 rfl ?_;refine aQa ((s:Int)+1) rfl (by omega) ?_;refine aQq (fun c5=>?_) (fun c5=>?_)
   ·exact bad (fun hb=>by have:=hb.2.2.2.1;omega) _ hE5
   refine aQe hX5 rfl ?_;refine aQa ((s:Int)+1) rfl (by omega) ?_;refine aQq (fun c6=>?_) (fun c6=>?_)
   ·exact bad (fun hb=>by have:=hb.2.2.2.2.2.1;omega) _ hE5
   refine aQe hX5 rfl ?_;refine aQe hX5 rfl ?_;refine aQP (fun c7=>?_) (fun c7=>?_)
   ·exact bad (fun hb=>hb.2.2.2.2.2.2.1 c7) _ hE5
   refine aQd hX5 rfl ?_;refine gQi (kv:=brK) (a:=x) aQb rfl rfl rfl rfl sQh rfl rfl hm5 (hmem x) ?_;refine aQq (fun c8=>?_) (fun c8=>?_)
   ·exact bad (fun hb=>hb.2.2.2.2.2.2.2.1 c8) _ hE5
   refine aQm aQb (Ext w5) 16 [(true,0),(true,1),(true,2),(true,4),(true,5),(false,3),(true,6),(true,7),(true,8),(true,9),(true,10),(true,12),(true,13),(false,11),(true,14),(true,15)] (by kernel_rfl) (Ext.drew w5) ?_;have qB:∀w',Ext w5 w'->∀(j:Nat) (v:Value),[Value.slice A n c,.int .i64 root][j]? =some v->w'.cell? ((⟨w.heap.size,0,none⟩:Addr).add j)=some v:=fun w' hw' j v hj=>by rw[(hB5.ext hw').cell];exact hj
   have qX:∀w',Ext w5 w'->∀(j:Nat) (v:Value),x.cells[j]? =some v->w'.cell? ((⟨w3.heap.size,0,none⟩:Addr).add j)=some v:=fun w' hw' j v hj=>by rw[(hX5.ext hw').cell];exact hj
   have qX0:∀w',Ext w5 w'->w'.cell? (⟨w3.heap.size,0,none⟩:Addr)=some (.int .i64 x.v):=fun w' hw'=>by have:=qX w' hw' 0 _ rfl;simpa [Addr.add] using this
   refine aQw (vs:=[.slice A n c,.int .i64 root]) rfl (fun w' hw' j v hj=>by have:=qB w' hw' j v hj;simpa [Addr.add] using this) ?_;refine aQy (v:=.int .i64 x.l) (fun w' hw'=>qX w' hw' 1 _ rfl) ?_;refine aQy (v:=.int .i64 x.v) (fun w' hw'=>qX0 w' hw') ?_;refine call (bQT A n c root x.l nd _ (h.ext (hE5.trans (Ext.drew w5))) (by omega)) ?_;rintro v w6 ⟨rfl,hE6⟩;have hE56:=(Ext.drew w5).trans hE6;refine⟨hE56,?_⟩;refine aQq (fun c9=>?_) (fun c9=>?_)
   ·exact bad (fun hb=>by have:=hb.2.2.2.2.2.2.2.2.1;omega) _ (hE5.trans hE56)
   refine aQw (vs:=[.slice A n c,.int .i64 root]) rfl (fun w' hw' j v hj=>by have:=qB w' hw' j v hj;simpa [Addr.add] using this) ?_;refine aQy (v:=.int .i64 x.h) (fun w' hw'=>qX w' hw' 2 _ rfl) ?_;refine aQy (v:=.int .i64 x.v) (fun w' hw'=>qX0 w' hw') ?_;refine call (bQT A n c root x.h nd _ (h.ext (hE5.trans hE56)) (by omega)) ?_;rintro v w7 ⟨rfl,hE7⟩;have hE57:=hE56.trans hE7;refine⟨hE57,?_⟩;refine aQq (fun c10=>?_) (fun c10=>?_)
   ·exact bad (fun hb=>by have:=hb.2.2.2.2.2.2.2.2.2;omega) _ (hE5.trans hE57)
   have hok:pQG nd s x:=⟨by omega,by omega,by omega,by omega,by omega,by omega,c7,c8,by omega,by omega⟩
   refine aQd (hX5.ext hE57) rfl ?_;refine bQ3 (kv:=brK) (a:=x) aQb rfl rfl rfl rfl sQh rfl rfl rfl (hm5.ext hE57) (fun w8 hM8 hz8 hm8=>?_);refine aQa ((s+1:Nat):Int) (by omega) (by omega) ?_;refine⟨s+1,rfl,⟨(hM3.trans (Mod.of_ext (·=w1.heap.size) (hE35.trans hE57)) (fun i hi=>.inl hi)).trans hM8 (fun i hi=>.inl hi),by omega,fun j b hj hb=>?_,_,hm8,fun b=>?_⟩,by show n-(s+1)<n-s;omega⟩
   ·by_cases hjs:j<s
    ·exact hall j b hjs hb
    ·have:j=s:=by omega
     subst this;rw[Option.some.inj (hb.symm.trans hx)];exact hok
   ·rw[bQe,List.take_add_one,hx];by_cases hbx:b=x
    ·subst hbx;simp
    ·rw[if_neg hbx,hmem b];simp[hbx]
  ·have:s=n:=by omega
   subst this;exact⟨(),rfl,hM3,hall⟩
 rintro⟨⟩ w3 ⟨hM3,hall⟩;have hE3:Ext w w3:=hM3.ext hE02 (fun i hi=>by have:=hE1.size;omega);have hB3:=hB2.mod hM3 (by omega);refine aQe hB3 rfl ?_;refine aQq (fun c1=>?_) (fun c1=>?_)
 ·exact⟨by rw[jQy hsm (fun hv=>by have:=hv.2.1;omega)],hE3⟩
 refine aQe hB3 rfl ?_;refine aQg hB3 rfl ?_;refine aQa ((n:Int)+1) rfl (by omega) ?_;refine aQq (fun c2=>?_) (fun c2=>?_)
 ·exact⟨by rw[jQy hsm (fun hv=>by have:=hv.2.2.1;omega)],hE3⟩
 have hwf:WfB nd:=fun j x hx=>by
  obtain⟨_,_,h1,h2,h3,h4,_⟩:=hall j x (by have:=(List.getElem?_eq_some_iff.1 hx).1;omega) hx;exact⟨h1,h2,h3,h4⟩
 refine aQg hB3 rfl ?_;refine new (fun w4 hE4 hz4 hB4=>?_);have hE04:=hE3.trans hE4;have hB34:=hB3.ext hE4;refine aQe hB34 rfl ?_;refine call (gQh w3.heap.size (.map none) A n c nd root w4 hB4 (h.ext hE04) hwf (by omega) (by omega) (by omega) (SB.lt (h.ext hE04))) ?_;rintro v w5 ⟨OA,m,oc,rfl,hE5,hO5,_⟩;refine new (fun w6 hE6 hz6 hB6=>?_);refine aQc hB6 rfl (sc rfl) (fun w7 hg7 hz7 hX7=>?_);have hE57:Ext w5 w7:=aQJ hE6 hB6 hg7;have hE07:=(hE04.trans hE5).trans hE57;refine aQd hX7 rfl ?_;refine aQd ((hB34.ext hE5).ext hE57) rfl ?_;refine call (uQj OA A m oc n c _ nd _ root w7 (hO5.ext hE57) (h.ext hE07)) ?_;rintro v w8 ⟨rfl,hE8⟩;have hE08:=hE07.trans hE8;refine eQl (aQq (fun c3=>?_) (fun c3=>?_))
 ·exact⟨by rw[mQj hsm ⟨fun j b hb=>hall j b (by have:=(List.getElem?_eq_some_iff.1 hb).1;omega) hb,by omega,by omega,c3⟩],hE08⟩
 ·exact⟨by rw[jQy hsm (fun hv=>c3 hv.2.2.2)],hE08⟩
end
end
section
section
open Go Go.RowKit
theorem Blk.cell0 {w:World}{g t:Nat}{cs:List Value}(h:Blk w g t cs):w.cell? ⟨g,0,none⟩=cs[0]? :=by have:=h.cell 0;simpa [Addr.add] using this
theorem eQw (A:Option Addr)(n c:Nat)(r m:Int)(nd:List Br)(w:World)(h:SB w A n c nd)(hm:m<n+2):
  Fn Tryz.prog 161 [dgV A n c r,.int .i64 m] w (fun v w'=>v= .int .i64 (aQz nd m)/\Ext w w'):=by
 have hlen:=h.2;refine aQf (c:={yQI with cuts:=[]}) aQb Tryz.func161 rfl rfl rfl ?_;refine new (fun w1 hE1 hz1 hB1=>?_);refine aQq (fun h1=>?_) (fun h1=>?_)
 ·exact⟨by unfold aQz;rw[if_pos h1],hE1⟩
 ·refine aQg hB1 rfl ?_;refine aQa (((m-2).toNat:Nat):Int) (by omega) (by have:=h.1.le;have:=h.1.cap;simp only[maxLen] at this;omega) ?_;refine aQp cQl (h.ext hE1) rfl (by omega) (fun p x hx hc=>?_);refine load (hc 0 _ rfl) ?_;exact⟨by unfold aQz;rw[if_neg h1,hx];rfl,hE1⟩
theorem vQL (A:Option Addr)(n c:Nat)(r:Int)(s:Nat)(nd:List Br)(x:Br)(w:World)(h:SB w A n c nd)(hx:nd[s]? =some x)(hcap:n<=1000000000000):
  Fn Tryz.prog 212 [dgV A n c r,.int .i64 s] w (fun v w'=>∃b,v= .bool b/\(b=true↔pQG nd s x)/\Ext w w'):=by
 have hlen:=h.2;have hs:s<nd.length:=(List.getElem?_eq_some_iff.1 hx).1;refine aQf (c:={zQa with cuts:=[]}) aQb Tryz.func212 rfl rfl rfl ?_;refine new (fun w1 hE1 hz1 hB1=>?_);refine aQg hB1 rfl ?_;refine aQp cQl (h.ext hE1) rfl (by omega) (fun p y hy hc=>?_);have hyx:y=x:=Option.some.inj (hy.symm.trans hx);subst hyx;refine aQK (vs:=y.cells) rfl hc ?_;refine new (fun w4 hE4 hz4 hB4=>?_);refine aQc hB4 rfl (sc rfl) (fun w5 hg5 hz5 hX5=>?_);have hE15:Ext w1 w5:=aQJ hE4 hB4 hg5;have hE5:=hE1.trans hE15;have hB5:=hB1.ext hE15;have bad:¬pQG nd s y->∀w',Ext w w'->∃b,(Value.bool false:Value)= .bool b/\(b=true↔pQG nd s y)/\Ext w w':=fun hno w' hE=>⟨false,rfl,by simp[hno],hE⟩
 refine aQg hX5 rfl ?_;refine aQq (fun c1=>?_) (fun c1=>?_)
 ·exact bad (fun hb=>by have:=hb.1;omega) _ hE5
 refine aQg hX5 rfl ?_;refine aQq (fun c2=>?_) (fun c2=>?_)
 ·exact bad (fun hb=>by have:=hb.2.1;omega) _ hE5
 refine aQe hX5 rfl ?_;refine aQq (fun c3=>?_) (fun c3=>?_)
 ·exact bad (fun hb=>by have:=hb.2.2.1;omega) _ hE5
 refine aQe hX5 rfl ?_;refine aQq (fun c4=>?_) (fun c4=>?_)
 ·exact bad (fun hb=>by have:=hb.2.2.2.2.1;omega) _ hE5
 refine aQe hX5 rfl ?_;refine aQa ((s:Int)+2) rfl (by omega) ?_;refine aQq (fun c5=>?_) (fun c5=>?_)
 ·exact bad (fun hb=>by have:=hb.2.2.2.1;omega) _ hE5
 refine aQe hX5 rfl ?_;refine aQa ((s:Int)+2) rfl (by omega) ?_;refine aQq (fun c6=>?_) (fun c6=>?_)
 ·exact bad (fun hb=>by have:=hb.2.2.2.2.2.1;omega) _ hE5
 refine aQe hX5 rfl ?_;refine aQe hX5 rfl ?_;refine aQP (fun c7=>?_) (fun c7=>?_)
 ·exact bad (fun hb=>hb.2.2.2.2.2.2.1 c7) _ hE5
 have qB:∀w',Ext w5 w'->∀(j:Nat) (v:Value),[Value.slice A n c,.int .i64 r][j]? =some v->w'.cell? ((⟨w.heap.size,0,none⟩:Addr).add j)=some v:=fun w' hw' j v hj=>by rw[(hB5.ext hw').cell];exact hj
 have qX:∀w',Ext w5 w'->∀(j:Nat) (v:Value),y.cells[j]? =some v->w'.cell? ((⟨w1.heap.size,0,none⟩:Addr).add j)=some v:=fun w' hw' j v hj=>by rw[(hX5.ext hw').cell];exact hj
 have qX0:∀w',Ext w5 w'->w'.cell? (⟨w1.heap.size,0,none⟩:Addr)=some (.int .i64 y.v):=fun w' hw'=>by rw[(hX5.ext hw').cell0];rfl
 refine aQm aQb (Ext w5) 16 [(true,0),(true,1),(true,2),(true,4),(true,5),(false,3),(true,6),(true,7),(true,8),(true,9),(true,10),(true,12),(true,13),(false,11),(true,14),(true,15)] (by kernel_rfl) (Ext.drew w5) ?_;refine aQw (vs:=[.slice A n c,.int .i64 r]) rfl (fun w' hw' j v hj=>by have:=qB w' hw' j v hj;simpa [Addr.add] using this) ?_;refine aQy (v:=.int .i64 y.l) (fun w' hw'=>qX w' hw' 1 _ rfl) ?_;refine aQy (v:=.int .i64 y.v) (fun w' hw'=>qX0 w' hw') ?_;refine call (eQw A n c r y.l nd _ (h.ext (hE5.trans (Ext.drew w5))) (by omega)) ?_;rintro v w6 ⟨rfl,hE6⟩;have hE56:=(Ext.drew w5).trans hE6;refine⟨hE56,?_⟩;refine aQq (fun c9=>?_) (fun c9=>?_)
 ·exact bad (fun hb=>by have:=hb.2.2.2.2.2.2.2.2.1;omega) _ (hE5.trans hE56)
 refine aQw (vs:=[.slice A n c,.int .i64 r]) rfl (fun w' hw' j v hj=>by have:=qB w' hw' j v hj;simpa [Addr.add] using this) ?_;refine aQy (v:=.int .i64 y.h) (fun w' hw'=>qX w' hw' 2 _ rfl) ?_;refine aQy (v:=.int .i64 y.v) (fun w' hw'=>qX0 w' hw') ?_;refine call (eQw A n c r y.h nd _ (h.ext (hE5.trans hE56)) (by omega)) ?_;rintro v w7 ⟨rfl,hE7⟩;have hE57:=hE56.trans hE7;refine⟨hE57,?_⟩;refine aQq (fun c10=>?_) (fun c10=>?_)
 ·exact bad (fun hb=>by have:=hb.2.2.2.2.2.2.2.2.2;omega) _ (hE5.trans hE57)
 have hE07:=hE5.trans hE57;refine loop aQb [6] (fun t:Nat=>[.int .i64 t]) (fun t w'=>Ext w7 w'/\t<=s/\y∉nd.take t) (fun t _=>s-t) 0 rfl ⟨Ext.refl w7,Nat.zero_le _,by simp⟩ ?_;rintro t w8 ⟨hE8,ht,hno⟩;have hB8:=(hB5.ext hE57).ext hE8;have hX8:=(hX5.ext hE57).ext hE8;have hE08:=hE07.trans hE8;refine aQq (fun h8=>?_) (fun h8=>?_)
 ·refine aQm aQb (Ext w8) 7 [(true,0),(true,1),(true,2),(true,3),(true,4),(true,5),(true,6)] (by kernel_rfl) (Ext.drew w8) ?_;refine aQy (v:=.slice A n c) (fun w' hw'=>by rw[(hB8.ext hw').cell];rfl) ?_;refine aQp cQl (h.ext hE08) rfl (by omega) (fun p z hz hc=>?_);refine aQw (vs:=z.cells) rfl (fun w' hw' j v hj=>hw'.cell (hc j v hj)) ?_;refine aQw (vs:=y.cells) rfl (fun w' hw' j v hj=>by have:=(hX8.ext hw').cell j;simp[Addr.add] at this;rw[<-hj];simpa [Addr.add] using this) ?_;have hEd:=hE8.trans (Ext.drew w8);by_cases hzy:z=y
  ·refine aQM (by rw[eq3,decide_eq_true (mQk.1 hzy)]) ?_;refine bad (fun hb=>hb.2.2.2.2.2.2.2.1 ?_) _ (hE07.trans hEd);subst hzy;exact List.mem_of_getElem? (i:=t) (by rw[List.getElem?_take_of_lt (by omega)];exact hz)
  ·refine aQN (by rw[eq3,decide_eq_false (fun e=>hzy (mQk.2 e))]) ?_;refine aQa ((t+1:Nat):Int) (by omega) (by omega) ?_;refine⟨t+1,rfl,⟨hEd,by omega,?_⟩,by show s-(t+1)<s-t;omega⟩;rw[List.take_add_one,hz];simp only[Option.toList_some,List.mem_append,List.mem_singleton,not_or];exact⟨hno,fun e=>hzy e.symm⟩
 ·have:t=s:=by omega
  subst this;exact⟨true,rfl,by simp only[true_iff];exact⟨by omega,by omega,by omega,by omega,by omega,by omega,c7,hno,by omega,by omega⟩,hE08⟩
end
section
open Go Go.RowKit
def jQz (l:List Nat):List Value:=l.map fun(x:Nat)=>.int .i64 (x:Int)
theorem kQZ {l:List Nat}{j x:Nat}(h:l[j]? =some x):(jQz l)[j]? =some (.int .i64 (x:Int)):=by simp[jQz,h]
theorem kQ0 (l:List Nat):(jQz l).length=l.length:=by simp[jQz]
theorem pQJ (l:List Nat)(i x:Nat):jQz (l.set i x)=(jQz l).set i (.int .i64 (x:Int)):=by simp[jQz,List.map_set]
def WS (x pg:Nat)(A:Option Addr):Nat->Prop:=fun k=>k=x∨k=pg∨aQx A k
theorem WS.moved {w:World}{x pg:Nat}{A A':Option Addr}(h:Moved w A A'):∀k,WS x pg A' k->WS x pg A k∨w.heap.size<=k:=by
 rintro k (rfl | rfl | hk)
 ·exact .inl (.inl rfl)
 ·exact .inl (.inr (.inl rfl))
 ·rcases h.rows k hk with h | h
  ·exact .inl (.inr (.inr h))
  ·exact .inr h
structure Wk (w:World) (base x pg:Nat) (NA:Option Addr) (nn nc:Nat) (nd:List Br) (OA:Option Addr) (oc:Nat) (st:List Br×List Nat):Prop where
 blk:Blk w x 249 [.slice NA nn nc,.slice (some ⟨pg,0,none⟩) nn nn,.slice OA st.1.length oc]
 num:Blk w pg 3 (jQz st.2)
 own:Own w base 105 3 OA st.1.length oc (brV st.1)
 lt:x<base/\pg<base/\x≠pg
 top:base<=w.heap.size
 nds:SB w NA nn nc nd
 row:∀ad,NA=some ad->0<nn->ad.block<base/\ad.block≠x/\ad.block≠pg
 len:st.2.length=nn
theorem Wk.ext {w w':World}{base x pg:Nat}{NA:Option Addr}{nn nc:Nat}{nd:List Br}{OA:Option Addr}{oc:Nat}{st:List Br×List Nat}(h:Wk w base x pg NA nn nc nd OA oc st)(k:Ext w w'):Wk w' base x pg NA nn nc nd OA oc st:=
 ⟨h.blk.ext k,h.num.ext k,h.own.ext k,h.lt,Nat.le_trans h.top k.size,h.nds.ext k,h.row,h.len⟩
theorem Wk.keep {w w':World}{base x pg:Nat}{NA:Option Addr}{nn nc:Nat}{nd:List Br}{OA:Option Addr}{oc:Nat}{st:List Br×List Nat}(h:Wk w base x pg NA nn nc nd OA oc st)(hm:Mod (WS x pg OA) w w'):SB w' NA nn nc nd:=by
 refine⟨h.nds.1.modS hm ?_,h.nds.2⟩;rintro h0 i ⟨ad,rfl,rfl⟩ hi;obtain⟨r1,r2,r3⟩:=h.row ad rfl h0;rcases hi with hi | hi | hi
 ·exact r2 hi
 ·exact r3 hi
 ·have:=(h.own.rows _ hi).1;omega
def WTo (w:World)(base x pg:Nat)(NA:Option Addr)(nn nc:Nat)(nd:List Br)(OA:Option Addr)(st:List Br×List Nat)(w':World):Prop:=∃OA' oc',Wk w' base x pg NA nn nc nd OA' oc' st/\Mod (WS x pg OA) w w'/\Moved w OA OA'
theorem kQ1 (base x pg:Nat)(NA:Option Addr)(nn nc:Nat)(nd:List Br)(hwf:WfB nd)(hnn:nn<=1000000000000):∀(m:Nat)(n:Int)(st:List Br×List Nat)(OA:Option Addr)(oc:Nat)(w:World),
  Wk w base x pg NA nn nc nd OA oc st->0<=n->n<m->n<nn+2->st.1.length+st.2.count 0<=1000000000000->
  Fn Tryz.prog 164 [.pointer (some ⟨x,0,none⟩),.int .i64 n] w (fun v w'=>v= .int .i64 (vis nd m n st).1/\WTo w base x pg NA nn nc nd OA (vis nd m n st).2 w')
 | 0,n,st,OA,oc,w,_,h0,hm,_,_=>by omega
 | m+1,n,st,OA,oc,w,hK,h0,hm,hn,hc=>by
  have ih:=kQ1 base x pg NA nn nc nd hwf hnn m;have hnl:nd.length=nn:=hK.nds.2;have hl:=hK.len;have hrows:=hK.own.rows;have hxlt:=hK.blk.lt;have hplt:=hK.num.lt;obtain⟨lx,lp,lxp⟩:=hK.lt;refine aQf (c:={yQL with cuts:=[]}) aQb Tryz.func164 rfl rfl rfl ?_;by_cases h1:n<2
  ·refine aQO h1 ?_;rw[fQz h1];exact⟨rfl,OA,oc,hK,Mod.refl _ _,Moved.refl _ _⟩
  refine aQB h1 ?_;have hj:(n-2).toNat<nn:=by omega
  have hz:st.2[(n-2).toNat]? =some st.2[(n-2).toNat]:=List.getElem?_eq_getElem (by omega);refine aQe hK.blk rfl ?_;refine aQa (((n-2).toNat:Nat):Int) (by omega) (by omega) ?_;refine index (by omega) ?_;refine aQe hK.num (kQZ hz) ?_;have hd:st.2[(n-2).toNat]?.getD 0=st.2[(n-2).toNat]:=by rw[hz];rfl
  by_cases h2:0<st.2[(n-2).toNat]?.getD 0
  ·rw[dQ4 h1 h2];rw[hd] at h2 ⊢;refine aQO (by omega) ?_;refine aQe hK.blk rfl ?_;refine aQa (((n-2).toNat:Nat):Int) (by omega) (by omega) ?_;refine index (by omega) ?_;refine aQe hK.num (kQZ hz) ?_;exact⟨rfl,OA,oc,hK,Mod.refl _ _,Moved.refl _ _⟩
  refine aQB (by rw[hd] at h2;omega) ?_;have hx:=List.getElem?_eq_getElem (show(n-2).toNat<nd.length by omega);generalize nd[(n-2).toNat]=b at hx;obtain⟨x1,x2,x3,x4⟩:=hwf _ _ hx;rw[eQv h1 h2 hx];refine aQg hK.blk rfl ?_;refine aQa (((n-2).toNat:Nat):Int) (by omega) (by omega) ?_;refine aQp cQl hK.nds rfl (by omega) (fun ad y hy hcl=>?_);have hyx:y=b:=Option.some.inj (hy.symm.trans hx);subst hyx;refine aQK (vs:=y.cells) rfl hcl ?_;refine new (fun w1 hE1 hz1 hB1=>?_);refine aQc hB1 rfl (sc rfl) (fun w2 hg2 hz2 hX2=>?_);have hE2:Ext w w2:=aQJ hE1 hB1 hg2;have hM02:Mod (WS x pg OA) w w2:=Mod.of_ext _ hE2;have hbn:¬WS x pg OA w.heap.size:=fun e=>by
   rcases e with e | e | e
   ·omega
   ·omega
   ·have:=(hrows _ e).2;omega
  refine aQe hX2 rfl ?_;have f1:=cQs hwf m y.l st x1 (by omega) (by omega) (by omega);refine call (ih y.l st OA oc w2 (hK.ext hE2) x1 (by omega) (by omega) hc) ?_;rintro v w3 ⟨rfl,OA3,oc3,hK3,hM3,hV3⟩;have hX3:=hX2.mod hM3 hbn;have hbn3:¬WS x pg OA3 w.heap.size:=fun e=>(WS.moved hV3 _ e).elim hbn (fun h=>by omega)
  refine aQe hX3 rfl ?_;have f2:=cQs hwf m y.h _ x3 (by omega) (by omega) f1.len;have c1:=f1.cnt;have c2:=f2.cnt;refine call (ih y.h _ OA3 oc3 w3 hK3 x3 (by omega) (by omega) (by omega)) ?_;rintro v w4 ⟨rfl,OA4,oc4,hK4,hM4,hV4⟩;have hX4:=hX3.mod hM4 hbn3;have hbn4:¬WS x pg OA4 w.heap.size:=fun e=>(WS.moved hV4 _ e).elim hbn3 (fun h=>by have:=hM3.size;omega)
  have hM24:=hM3.trans hM4 (WS.moved hV3);have hV24:=hV3.trans hV4 hM3.size;have hM04:Mod (WS x pg OA) w w4:=hM02.trans hM24 (fun i hi=>.inl hi);have hV04:=hV24.back hE2.size;generalize (vis nd m y.l st)=a at*;generalize (vis nd m y.h a.2)=b at*;have hrows4:=hK4.own.rows;have hnx:¬aQx OA4 x:=fun e=>by have:=(hrows4 _ e).1;omega
  have hnp:¬aQx OA4 pg:=fun e=>by have:=(hrows4 _ e).1;omega
  refine aQm aQb (Mod (aQx OA4) w4) 12 [(true,0),(true,1),(true,2),(true,3),(true,4),(true,5),(true,6),(true,7),(true,8),(true,9),(false,10),(false,11)] (by kernel_rfl) (Mod.of_ext _ (Ext.drew w4)) ?_;refine aQy (v:=.slice OA4 b.2.1.length oc4) (fun w' hw'=>by rw[(hK4.blk.mod hw' hnx).cell];rfl) ?_;refine aQy (v:=.int .i64 y.v) (fun w' hw'=>by rw[(hX4.mod hw' (fun e=>hbn4 (.inr (.inr e)))).cell];rfl) ?_;refine aQl aQb [(⟨y.v,a.1,b.1⟩:Br).cells] rfl rfl rfl rfl rfl ⟨rfl,rfl,⟨⟩⟩ rfl (fun cs h=>by simp only[List.mem_singleton] at h;subst h;rfl) rfl (by decide) (by decide) ?_;intro w5 hE5 hz5 hB5;have hE45:=(Ext.drew w4).trans hE5;have hK5:=hK4.ext hE45;refine⟨Mod.of_ext _ hE45,?_⟩;have hs5:Sl w5 3 (some ⟨w4.drew.heap.size,0,none⟩) 1 1 (⟨y.v,a.1,b.1⟩:Br).cells:=Sl.own (sz:=3) (n:=1) hB5 (Nat.le_refl _) (by decide) (by simp[Br.cells]);refine bQf aQb rfl rfl rfl rfl rfl (by decide) rfl rfl ⟨_,rfl⟩ rfl rfl hK5.own hs5 (by intro u hu;simp[Br.cells] at hu;rcases hu with rfl | rfl | rfl<;>rfl) (by unfold maxLen;omega) (by show _*24<=_;omega) hK5.top ?_;intro OA6 oc6 w6 hM6 hown6 hV6;have hM46:Mod (aQx OA4) w4 w6:=(Mod.of_ext (aQx OA4) hE45).trans hM6 (fun i hi=>.inl hi);refine⟨hM46,?_⟩;refine aQn (hK4.blk.mod hM46 hnx) (by simp) (fun w7 hM7 hB7=>?_);have hN7:=(hK4.num.mod hM46 hnp).mod hM7 (fun e=>lxp e.symm);have hlen:b.2.2.length=nn:=hK4.len;refine aQm aQb (Ext w7) 13 [(true,0),(true,1),(true,2),(true,3),(true,4),(true,5),(true,6),(true,7),(true,8),(true,9),(true,10),(true,11),(true,12)] (by kernel_rfl) (Ext.drew w7) ?_;refine aQy (v:=.slice (some ⟨pg,0,none⟩) nn nn) (fun w' hw'=>by rw[(hB7.ext hw').cell];rfl) ?_;refine aQa (((n-2).toNat:Nat):Int) (by omega) (by omega) ?_;refine aQy (v:=.slice OA6 (b.2.1.length+1) oc6) (fun w' hw'=>by rw[(hB7.ext hw').cell];rfl) ?_;refine aQa ((b.2.1.length+2:Nat):Int) (by omega) (by omega) ?_;refine index (by omega) ?_;refine aQn (hN7.ext (Ext.drew w7)) (by rw[kQ0];omega) (fun w8 hM8 hB8=>?_);rw[<-pQJ] at hB8;have hB8':=(hB7.ext (Ext.drew w7)).mod hM8 lxp;refine aQe hB8' rfl ?_;refine aQa ((b.2.1.length+2:Nat):Int) (by omega) (by omega) ?_;have hM48:Mod (WS x pg OA4) w4 w8:=(((hM46.mono (fun i hi=>.inl (.inr (.inr hi)))).trans hM7 (fun i hi=>.inl (.inl hi))).trans (Mod.of_ext (WS x pg OA4) (Ext.drew w7)) (fun i hi=>.inl hi)).trans hM8 (fun i hi=>.inl (.inr (.inl hi)));have hrows6:=hown6.rows;have el:(b.2.1++ [(⟨y.v,a.1,b.1⟩:Br)]).length=b.2.1.length+1:=by simp
  refine⟨rfl,OA6,oc6,⟨?_,?_,?_,hK.lt,?_,hK4.keep hM48,hK.row,?_⟩,hM04.trans hM48 (WS.moved hV04),?_⟩
  ·rw[el];exact hB8'
  ·exact hB8
  ·rw[el,gQ3];refine((hown6.mod hM7 (fun i hi e=>?_)).ext (Ext.drew w7)).mod hM8 (fun i hi e=>?_)
   ·have:=(hrows6 i hi).1;omega
   ·have:=(hrows6 i hi).1;omega
  ·have:=hK4.top;have:=hM48.size;omega
  ·rw[List.length_set];exact hlen
  ·exact hV04.trans (hV6.back hE45.size) hM04.size
theorem kQ2 (NA:Option Addr)(nn nc:Nat)(nd:List Br)(root:Int)(w:World)(hN:SB w NA nn nc nd)(hwf:WfB nd)(hnn:nn<=1000000000000)(h0:0<=root)(hr:root<nn+2):
  Fn Tryz.prog 108 [.slice NA nn nc,.int .i64 root] w (pQI w (bQh nd root)):=by
 have hnl:nd.length=nn:=hN.2;have hrow:=SB.lt hN;refine aQf (c:={xQ9 with cuts:=[]}) aQb Tryz.func108 rfl rfl rfl ?_;refine new (fun w1 hE1 hz1 hB1=>?_);refine jQh aQb rfl rfl rfl rfl rfl rfl rfl rfl (by show 8*nn<=_;omega) (by unfold maxLen;omega) (fun w2 hE2 hz2 hB2=>?_);refine new (fun w3 hE3 hz3 hB3=>?_);have hE03:=(hE1.trans hE2).trans hE3;have hW:Wk w3 w3.heap.size w2.heap.size w1.heap.size NA nn nc nd none 0 ([],List.replicate nd.length 0):=by
  refine⟨hB3,?_,Own.nil _ _ _ _,⟨by omega,by omega,by omega⟩,Nat.le_refl _,hN.ext hE03,fun ad e hn=>?_,by simp[hnl]⟩
  ·have:=hB2.ext hE3;rw[hnl];simpa [jQz] using this
  ·have:=hrow ad e hn;exact⟨by omega,by omega,by omega⟩
 refine call (kQ1 w3.heap.size w2.heap.size w1.heap.size NA nn nc nd hwf hnn (root.toNat+1) root _ none 0 w3 hW h0 (by omega) hr (by simp;omega)) ?_;rintro v w4 ⟨rfl,OA,oc,hK,hM4,hV4⟩;refine aQe hK.blk rfl ?_;have hR4:=((hB1.ext hE2).ext hE3).mod hM4 (fun e=>by
  rcases e with e | e | ⟨_,e,_⟩
  ·omega
  ·omega
  ·cases e)
 refine aQc hR4 rfl (sc rfl) (fun w5 hg5 _ hB5=>?_);have hM5:Mod (·=w.heap.size) w4 w5:=zQE hg5 rfl;refine aQd hB5 rfl ?_;have hE4:Ext w w4:=hM4.ext hE03 (fun i hi=>by
  rcases hi with e | e | ⟨_,e,_⟩
  ·omega
  ·omega
  ·cases e)
 exact⟨OA,_,oc,rfl,hM5.ext hE4 (fun i hi=>by omega),⟨(hK.own.mod hM5 (fun i hi e=>by have:=(hK.own.rows i hi).1;omega)).sl,rfl⟩,fun i hi=>Nat.le_trans hE03.size (hK.own.rows i hi).1⟩
end
section
open Go Go.RowKit
def bQp (b:Br):List Br->Option Nat
 | []=>none
 | x::l=>if x=b then some 0 else(bQp b l).map (·+1)
theorem hQv {b:Br}:∀{l:List Br}{s:Nat},(∀j,j<s->l[j]? ≠some b)->l[s]? =some b->bQp b l=some s
 | [],s,_,h=>by simp at h
 | x::l,0,_,h=>by simp at h;simp[bQp,h]
 | x::l,s+1,hn,h=>by
  have hx:x≠b:=fun e=>hn 0 (by omega) (by simp[e])
  have:=hQv (l:=l) (s:=s) (fun j hj=>by have:=hn (j+1) (by omega);simpa using this) (by simpa using h);simp[bQp,hx,this]
theorem hQw {b:Br}:∀{l:List Br},(∀j,j<l.length->l[j]? ≠some b)->bQp b l=none
 | [],_=>rfl
 | x::l,hn=>by
  have hx:x≠b:=fun e=>hn 0 (by simp) (by simp[e])
  have:=hQw (l:=l) (fun j hj=>by have:=hn (j+1) (by simpa using hj);simpa using this);simp[bQp,hx,this]
def bQu (b:Br)(l:List Br):List Br×Int:=if b.l=b.h then(l,b.l)else match bQp b l with
 | some i=>(l,((i+2:Nat):Int))
 | none=>(l++ [b],((l.length+2:Nat):Int))
theorem eQx (b:Br)(l:List Br):l.length<=(bQu b l).1.length:=by
 unfold bQu;split
 ·exact Nat.le_refl _
 ·split
  ·exact Nat.le_refl _
  ·simp
def dQk (op x y:Int):Int:=if op=0 then x*y else if op=1 then max x y else if op=3 then 1-x else if op=4 then(1-x)*y else(x+y) % 2
def aQk (d:List Br)(n v:Int):Int×Int:=if aQz d n≠v then(n,n)else match d[(n-2).toNat]? with
 | some b=>(b.l,b.h)
 | none=>(n,n)
abbrev Tr3:=Int×Int×Int
def at2 (a b:List Br)(op:Int):Nat->Int->Int->List Br×List Tr3->Int×(List Br×List Tr3)
 | 0,_,_,st=>(0,st)
 | m+1,x,y,st=>if x<2/\y<2 then(dQk op x y,st)else
   match st.2.find? (fun t=>decide (t.1=x/\t.2.1=y))with
   | some t=>(t.2.2,st)
   | none=>
    let v:=min (aQz a x) (aQz b y)
    let r0:=at2 a b op m (aQk a x v).1 (aQk b y v).1 st
    let r1:=at2 a b op m (aQk a x v).2 (aQk b y v).2 r0.2
    let u:=bQu ⟨v,r0.1,r1.1⟩ r1.2.1
    (u.2,(u.1,r1.2.2++ [(x,y,u.2)]))
theorem jQA {a b:List Br}{op:Int}{m:Nat}{x y:Int}{st:List Br×List Tr3}(h:x<2/\y<2):at2 a b op (m+1) x y st=(dQk op x y,st):=by rw[at2,if_pos h]
theorem jQB {a b:List Br}{op:Int}{m:Nat}{x y:Int}{st:List Br×List Tr3}{t:Tr3}(h:¬(x<2/\y<2))(k:st.2.find? (fun t=>decide (t.1=x/\t.2.1=y))=some t):at2 a b op (m+1) x y st=(t.2.2,st):=by rw[at2,if_neg h,k]
theorem jQC {a b:List Br}{op:Int}{m:Nat}{x y:Int}{st:List Br×List Tr3}(h:¬(x<2/\y<2))(k:st.2.find? (fun t=>decide (t.1=x/\t.2.1=y))=none)(v:Int)(hv:min (aQz a x) (aQz b y)=v):
  at2 a b op (m+1) x y st=((bQu ⟨v,(at2 a b op m (aQk a x v).1 (aQk b y v).1 st).1,(at2 a b op m (aQk a x v).2 (aQk b y v).2 (at2 a b op m (aQk a x v).1 (aQk b y v).1 st).2).1⟩ (at2 a b op m (aQk a x v).2 (aQk b y v).2 (at2 a b op m (aQk a x v).1 (aQk b y v).1 st).2).2.1).2,
   ((
    bQu ⟨v,(at2 a b op m (aQk a x v).1 (aQk b y v).1 st).1,(at2 a b op m (aQk a x v).2 (aQk b y v).2 (at2 a b op m (aQk a x v).1 (aQk b y v).1 st).2).1⟩ (at2 a b op m (aQk a x v).2 (aQk b y v).2 (at2 a b op m (aQk a x v).1 (aQk b y v).1 st).2).2.1).1,
    (at2 a b op m (aQk a x v).2 (aQk b y v).2 (at2 a b op m (aQk a x v).1 (aQk b y v).1 st).2).2.2++ [(x,y,(bQu ⟨v,(at2 a b op m (aQk a x v).1 (aQk b y v).1 st).1,(at2 a b op m (aQk a x v).2 (aQk b y v).2 (at2 a b op m (aQk a x v).1 (aQk b y v).1 st).2).1⟩ (at2 a b op m (aQk a x v).2 (aQk b y v).2 (at2 a b op m (aQk a x v).1 (aQk b y v).1 st).2).2.1).2)])):=by
 subst hv;rw[at2,if_neg h,k]
theorem dQl (a b:List Br)(op:Int):∀(m:Nat)(x y:Int)(st:List Br×List Tr3),st.1.length<=(at2 a b op m x y st).2.1.length/\st.2.length<=(at2 a b op m x y st).2.2.length
 | 0,x,y,st=>⟨Nat.le_refl _,Nat.le_refl _⟩
 | m+1,x,y,st=>by
  by_cases h:x<2/\y<2
  ·rw[jQA h];exact⟨Nat.le_refl _,Nat.le_refl _⟩
  cases k:st.2.find? (fun t=>decide (t.1=x/\t.2.1=y))with
  | some t=>rw[jQB h k];exact⟨Nat.le_refl _,Nat.le_refl _⟩
  | none=>
   rw[jQC h k _ rfl];have h1:=dQl a b op m (aQk a x (min (aQz a x) (aQz b y))).1 (aQk b y (min (aQz a x) (aQz b y))).1 st;have h2:=dQl a b op m (aQk a x (min (aQz a x) (aQz b y))).2 (aQk b y (min (aQz a x) (aQz b y))).2 (at2 a b op m (aQk a x (min (aQz a x) (aQz b y))).1 (aQk b y (min (aQz a x) (aQz b y))).1 st).2;refine⟨Nat.le_trans (Nat.le_trans h1.1 h2.1) (eQx _ _),?_⟩;simp only[List.length_append];omega
def DOk (nd:List Br):Prop:=WfB nd/\∀(j:Nat)(b:Br),nd[j]? =some b->0<=b.v/\b.v<=63
theorem VD.dok {nd:List Br}{r:Int}(h:VD nd r):DOk nd:=⟨h.wf,fun j b hb=>⟨(h.1 j b hb).1,(h.1 j b hb).2.1⟩⟩
theorem bQg {nd:List Br}(h:DOk nd){n v:Int}(h0:0<=n)(h64:v<64):0<=(aQk nd n v).1/\(aQk nd n v).1<=n/\0<=(aQk nd n v).2/\(aQk nd n v).2<=n/\(aQz nd n=v->(aQk nd n v).1<n/\(aQk nd n v).2<n):=by
 unfold aQk;split
 ·rename_i hv;exact⟨h0,Int.le_refl _,h0,Int.le_refl _,fun e=>absurd e hv⟩
 ·rename_i hv;have hv:=Decidable.not_not.1 hv;have h2n:¬n<2:=fun h2=>by
   unfold aQz at hv;rw[if_pos h2] at hv;omega
  cases hx:nd[(n-2).toNat]? with
  | none=>
   unfold aQz at hv;rw[if_neg h2n,hx] at hv;simp at hv;omega
  | some b=>
   obtain⟨h1,h2,h3,h4⟩:=h.1 _ _ hx;exact⟨h1,by simp only;omega,h3,by simp only;omega,fun _=>⟨by simp only;omega,by simp only;omega⟩⟩
theorem cQz {nd:List Br}(h:DOk nd){n:Int}(h2:¬n<2)(hn:n<nd.length+2):aQz nd n<64:=by
 unfold aQz;have hx:=List.getElem?_eq_getElem (show(n-2).toNat<nd.length by omega);rw[if_neg h2,hx];have:=(h.2 _ _ hx).2;simp only[Option.map_some,Option.getD_some];omega
theorem pQK (base:Nat)(A:Option Addr)(n c:Nat)(l:List Br)(b:Br)(w:World)(h:Own w base 105 3 A n c (brV l))(hn:l.length=n)(hb:base<=w.heap.size)(hl:n+1<=1000000000000):
  Fn Tryz.prog 163 [.slice A n c,.agg b.cells.toArray] w (fun v w'=>∃A' c',v= .tuple #[.slice A' (bQu b l).1.length c',.int .i64 (bQu b l).2]/\Own w' base 105 3 A' (bQu b l).1.length c' (brV (bQu b l).1)/\Mod (aQx A) w w'/\Moved w A A'):=by
 have hsb:SB w A n c l:=⟨h.sl,hn⟩
 refine aQf (c:={yQK with cuts:=[]}) aQb Tryz.func163 rfl rfl rfl ?_;refine new (fun w1 hE1 hz1 hB1=>?_);have hM1:Mod (aQx A) w w1:=Mod.of_ext _ hE1;refine aQe hB1 rfl ?_;refine aQe hB1 rfl ?_;refine aQP (fun h1=>?_) (fun h1=>?_)
 ·have e:bQu b l=(l,b.l):=by unfold bQu;rw[if_pos h1]
  rw[e];refine aQm aQb (Ext w1) 5 [(true,0),(true,1),(true,2),(true,3),(true,4)] (by kernel_rfl) (Ext.drew w1) ?_;refine aQy (v:=.int .i64 b.l) (fun w' hw'=>by rw[(hB1.ext hw').cell];rfl) ?_;have hEd:=hE1.trans (Ext.drew w1);rw[hn];exact⟨A,c,rfl,h.ext hEd,Mod.of_ext _ hEd,Moved.refl _ _⟩
 have e0:bQu b l=match bQp b l with
  | some i=>(l,((i+2:Nat):Int))
  | none=>(l++ [b],((l.length+2:Nat):Int)):=by unfold bQu;rw[if_neg h1]
 refine loop aQb [6] (fun s:Nat=>[.int .i64 s]) (fun s w'=>Ext w1 w'/\s<=n/\∀j,j<s->l[j]? ≠some b) (fun s _=>n-s) 0 rfl ⟨Ext.refl _,Nat.zero_le _,fun j hj=>absurd hj (by omega)⟩ ?_;rintro s w2 ⟨hE2,hs,hno⟩;have hE02:=hE1.trans hE2;have hB2:=hB1.ext hE2;refine aQq (fun h3=>?_) (fun h3=>?_)
 ·refine aQm aQb (Ext w2) 6 [(true,0),(true,1),(true,2),(true,3),(true,4),(true,5)] (by kernel_rfl) (Ext.drew w2) ?_;refine aQp cQl (hsb.ext hE02) rfl (by omega) (fun p z hz hc=>?_);refine aQw (vs:=z.cells) rfl (fun w' hw' j v hj=>hw'.cell (hc j v hj)) ?_;refine aQw (vs:=b.cells) rfl (fun w' hw' j v hj=>by rw[(hB2.ext hw').cell];exact hj) ?_;have hEd:=hE2.trans (Ext.drew w2);by_cases hzb:z=b
  ·refine aQM (by rw[eq3,decide_eq_true (mQk.1 hzb)]) ?_;subst hzb;rw[hQv hno hz] at e0;simp only at e0;rw[e0];refine aQa ((s+2:Nat):Int) (by omega) (by omega) ?_;rw[hn];exact⟨A,c,rfl,h.ext (hE1.trans hEd),Mod.of_ext _ (hE1.trans hEd),Moved.refl _ _⟩
  ·refine aQN (by rw[eq3,decide_eq_false (fun e=>hzb (mQk.2 e))]) ?_;refine aQa ((s+1:Nat):Int) (by omega) (by omega) ?_;refine⟨s+1,rfl,⟨hEd,by omega,fun j hj=>?_⟩,by show n-(s+1)<n-s;omega⟩;by_cases hjs:j<s
   ·exact hno j hjs
   ·have:j=s:=by omega
    subst this;rw[hz];exact fun e=>hzb (Option.some.inj e)
 ·have:s=n:=by omega
  subst this;rw[hQw (by rw[hn];exact hno)] at e0;simp only at e0;rw[e0];refine aQd hB2 rfl ?_;refine aQl aQb [b.cells] rfl rfl rfl rfl rfl ⟨rfl,rfl,⟨⟩⟩ rfl (fun cs h=>by simp only[List.mem_singleton] at h;subst h;rfl) rfl (by decide) (by decide) ?_;intro w3 hE3 hz3 hB3;have hE03:=hE02.trans hE3;have hs3:Sl w3 3 (some ⟨w2.heap.size,0,none⟩) 1 1 b.cells:=Sl.own (sz:=3) (n:=1) hB3 (Nat.le_refl _) (by decide) (by simp[Br.cells]);refine bQf aQb rfl rfl rfl rfl rfl (by decide) rfl rfl ⟨_,rfl⟩ rfl rfl (h.ext hE03) hs3 (by intro u hu;simp[Br.cells] at hu;rcases hu with rfl | rfl | rfl<;>rfl) (by unfold maxLen;omega) (by show _*24<=_;omega) (Nat.le_trans hb hE03.size) ?_;intro A' c' w4 hM4 hown4 hV4;refine aQa ((s+2:Nat):Int) (by omega) (by omega) ?_;have el:(l++ [b]).length=s+1:=by rw[List.length_append,hn];rfl
  rw[el,hn];refine⟨A',c',rfl,?_,(Mod.of_ext (aQx A) hE03).trans hM4 (fun i hi=>.inl hi),hV4.back hE03.size⟩;rw[gQ3];exact hown4
end
section
open Go Go.RowKit
theorem mQl (pb:Nat)(cs:List Value)(op x y:Int)(w:World)(h:Blk w pb 183 cs)(hc:cs[4]? =some (.int .i64 op))(x0:0<=x)(x1:x<2)(y0:0<=y)(y1:y<2)(ho:op≠3/\op≠4):
  Fn Tryz.prog 160 [.pointer (some ⟨pb,0,none⟩),.int .i64 x,.int .i64 y] w (fun v w'=>v= .int .i64 (dQk op x y)/\w=w'):=by
 refine aQf (c:={yQH with cuts:=[]}) aQb Tryz.func160 rfl rfl rfl ?_;refine aQe h hc ?_;refine aQP (fun c0=>?_) (fun c0=>?_)
 ·have:0<=x*y/\x*y<=1:=by
   rcases(by omega:x=0∨x=1)with rfl | rfl<;>rcases(by omega:y=0∨y=1)with rfl | rfl<;>decide
  refine aQa (x*y) rfl (by omega) ?_;exact⟨by unfold dQk;rw[if_pos c0],rfl⟩
 refine aQP (fun c1=>?_) (fun c1=>?_)
 ·refine norm (m:=max x y) (by rw[Int.max_def];split<;>split<;>omega) ?_;exact⟨by unfold dQk;rw[if_neg c0,if_pos c1],rfl⟩
 ·refine aQa (x+y) rfl (by omega) ?_;refine normIf (m:=(x+y) % 2) (by decide) (Int.tmod_eq_emod_of_nonneg (by omega)) ?_;exact⟨by unfold dQk;rw[if_neg c0,if_neg c1,if_neg ho.1,if_neg ho.2],rfl⟩
theorem nQu (A:Option Addr)(n c:Nat)(r m v:Int)(nd:List Br)(w:World)(h:SB w A n c nd)(hm:m<n+2)(h64:v<64):
  Fn Tryz.prog 162 [dgV A n c r,.int .i64 m,.int .i64 v] w (fun u w'=>u= .tuple #[.int .i64 (aQk nd m v).1,.int .i64 (aQk nd m v).2]/\Ext w w'):=by
 have hlen:=h.2;have hcap:n<=9223372036854775807:=by have:=h.1.le;have:=h.1.cap;simp only[maxLen] at this;omega
 refine aQf (c:={yQJ with cuts:=[]}) aQb Tryz.func162 rfl rfl rfl ?_;refine new (fun w1 hE1 hz1 hB1=>?_);refine aQd hB1 rfl ?_;refine call (eQw A n c r m nd w1 (h.ext hE1) hm) ?_;rintro u w2 ⟨rfl,hE2⟩;have hE02:=hE1.trans hE2;have hB2:=hB1.ext hE2;refine cQj (fun c1=>?_) (fun c1=>?_)
 ·exact⟨by unfold aQk;rw[if_pos c1],hE02⟩
 ·have h2n:¬m<2:=fun h2=>by
   unfold aQz at c1;rw[if_pos h2] at c1;omega
  have hx:=List.getElem?_eq_getElem (show(m-2).toNat<nd.length by omega);generalize nd[(m-2).toNat]=b at hx;have e:aQk nd m v=(b.l,b.h):=by unfold aQk;rw[if_neg (by omega),hx]
  rw[e];refine aQm aQb (Ext w2) 16 [(true,0),(true,1),(true,2),(true,3),(true,4),(true,5),(true,6),(true,7),(true,8),(true,9),(true,10),(true,11),(true,12),(true,13),(true,14),(true,15)] (by kernel_rfl) (Ext.drew w2) ?_;refine aQy (v:=.slice A n c) (fun w' hw'=>by rw[(hB2.ext hw').cell];rfl) ?_;refine aQa (((m-2).toNat:Nat):Int) (by omega) (by omega) ?_;refine aQp cQl (h.ext hE02) rfl (by omega) (fun p z hz hc=>?_);have hzb:z=b:=Option.some.inj (hz.symm.trans hx);subst hzb;refine aQy (v:=.int .i64 z.l) (fun w' hw'=>hw'.cell (hc 1 _ rfl)) ?_;refine aQy (v:=.slice A n c) (fun w' hw'=>by rw[(hB2.ext hw').cell];rfl) ?_;refine aQa (((m-2).toNat:Nat):Int) (by omega) (by omega) ?_;refine aQp cQl (h.ext hE02) rfl (by omega) (fun p' z' hz' hc'=>?_);have hzb':z'=z:=Option.some.inj (hz'.symm.trans hx);subst hzb';refine aQy (v:=.int .i64 z'.h) (fun w' hw'=>hw'.cell (hc' 2 _ rfl)) ?_;exact⟨rfl,hE02.trans (Ext.drew w2)⟩
def Tr3.cells (t:Tr3):List Value:=[.int .i64 t.1,.int .i64 t.2.1,.int .i64 t.2.2]
theorem pQL (t:Tr3):(Tr3.cells t).length=3:=rfl
def trV (l:List Tr3):List Value:=l.flatMap Tr3.cells
theorem sQi (l:List Tr3)(x:Tr3):trV (l++ [x])=trV l++Tr3.cells x:=by simp[trV]
def AS (pb:Nat)(NA SA:Option Addr):Nat->Prop:=fun k=>k=pb∨aQx NA k∨aQx SA k
theorem AS.moved {w:World}{pb:Nat}{NA NA' SA SA':Option Addr}(h:Moved w NA NA')(h':Moved w SA SA'):∀k,AS pb NA' SA' k->AS pb NA SA k∨w.heap.size<=k:=by
 rintro k (rfl | hk | hk)
 ·exact .inl (.inl rfl)
 ·rcases h.rows k hk with h | h
  ·exact .inl (.inr (.inl h))
  ·exact .inr h
 ·rcases h'.rows k hk with h | h
  ·exact .inl (.inr (.inr h))
  ·exact .inr h
structure AD where
 A:Option Addr
 n:Nat
 c:Nat
 a:List Br
 ra:Int
 B:Option Addr
 m:Nat
 d:Nat
 b:List Br
 rb:Int
 op:Int
structure Ap (w0 w:World) (base pb:Nat) (D:AD) (NA:Option Addr) (nc:Nat) (SA:Option Addr) (sc:Nat) (st:List Br×List Tr3):Prop where
 e0:Ext w0 w
 as_:SB w0 D.A D.n D.c D.a
 bs:SB w0 D.B D.m D.d D.b
 p0:w0.heap.size<=pb
 blk:Blk w pb 183 [.slice D.A D.n D.c,.int .i64 D.ra,.slice D.B D.m D.d,.int .i64 D.rb,.int .i64 D.op,.slice NA st.1.length nc,.slice SA st.2.length sc]
 nown:Own w base 105 3 NA st.1.length nc (brV st.1)
 sown:Own w base 242 3 SA st.2.length sc (trV st.2)
 apart:∀i,aQx NA i->¬aQx SA i
 lt:pb<base
 top:base<=w.heap.size
def ATo (w0 w:World)(base pb:Nat)(D:AD)(NA SA:Option Addr)(st:List Br×List Tr3)(w':World):Prop:=∃NA' nc' SA' sc',Ap w0 w' base pb D NA' nc' SA' sc' st/\Mod (AS pb NA SA) w w'/\Moved w NA NA'/\Moved w SA SA'
theorem Ap.grow {w0 w w':World}{base pb:Nat}{D:AD}{NA:Option Addr}{nc:Nat}{SA:Option Addr}{sc:Nat}{st:List Br×List Tr3}(h:Ap w0 w base pb D NA nc SA sc st)(k:Ext w w'):Ap w0 w' base pb D NA nc SA sc st:=
 ⟨h.e0.trans k,h.as_,h.bs,h.p0,h.blk.ext k,h.nown.ext k,h.sown.ext k,h.apart,h.lt,Nat.le_trans h.top k.size⟩
theorem Ap.kept {w0 w:World}{base pb:Nat}{D:AD}{NA:Option Addr}{nc:Nat}{SA:Option Addr}{sc:Nat}{st:List Br×List Tr3}(h:Ap w0 w base pb D NA nc SA sc st):∀i,AS pb NA SA i->w0.heap.size<=i:=by
 have:=h.p0;have:=h.lt;rintro i (rfl | hi | hi)
 ·omega
 ·have:=(h.nown.rows i hi).1;omega
 ·have:=(h.sown.rows i hi).1;omega
theorem uQl {l:List Tr3}{x y:Int}:∀{s:Nat}{t:Tr3},(∀j u,j<s->l[j]? =some u->¬(u.1=x/\u.2.1=y))->l[s]? =some t->t.1=x/\t.2.1=y->l.find? (fun t=>decide (t.1=x/\t.2.1=y))=some t:=by
 induction l with
 | nil=>intro s t _ h;simp at h
 | cons u l ih=>
  intro s t hn h ht;cases s with
  | zero=>simp at h;subst h;rw[List.find?_cons_of_pos (by simp[ht])]
  | succ s=>
   rw[List.find?_cons_of_neg (by have:=hn 0 u (by omega) rfl;simpa using this)];exact ih (s:=s) (fun j v hj hv=>hn (j+1) v (by omega) (by simpa using hv)) (by simpa using h) ht
theorem uQm {l:List Tr3}{x y:Int}(h:∀j u,j<l.length->l[j]? =some u->¬(u.1=x/\u.2.1=y)):l.find? (fun t=>decide (t.1=x/\t.2.1=y))=none:=by
 rw[List.find?_eq_none];intro u hu;obtain⟨j,hj,rfl⟩:=List.mem_iff_getElem.1 hu;simpa using h j _ hj (List.getElem?_eq_getElem hj)
end
section
open Go Go.RowKit
theorem vQ7 (w0:World)(base pb:Nat)(D:AD)(ha:DOk D.a)(hb:DOk D.b)(hlim:D.n<=1000000000000/\D.m<=1000000000000)(ho:D.op≠3/\D.op≠4):∀(m:Nat)(x y:Int)(st:List Br×List Tr3)(NA SA:Option Addr)(nc sc:Nat)(w:World),
  Ap w0 w base pb D NA nc SA sc st->0<=x->0<=y->x+y<m->x<D.n+2->y<D.m+2->(at2 D.a D.b D.op m x y st).2.1.length<=100000000000->(at2 D.a D.b D.op m x y st).2.2.length<=100000000000->
  Fn Tryz.prog 107 [.pointer (some ⟨pb,0,none⟩),.int .i64 x,.int .i64 y] w (fun v w'=>v= .int .i64 (at2 D.a D.b D.op m x y st).1/\ATo w0 w base pb D NA SA (at2 D.a D.b D.op m x y st).2 w')
 | 0,x,y,st,NA,SA,nc,sc,w,_,x0,y0,hm,_,_,_,_=>by omega
 | m+1,x,y,st,NA,SA,nc,sc,w,h,x0,y0,hm,hx,hy,hl1,hl2=>by
  have ih:=vQ7 w0 base pb D ha hb hlim ho m;have hmono:=dQl D.a D.b D.op (m+1) x y st;have hal:D.a.length=D.n:=h.as_.2;have hbl:D.b.length=D.m:=h.bs.2;refine aQf (c:={xQ8 with cuts:=[1]}) aQb Tryz.func107 rfl rfl rfl ?_;refine iQl [] aQb [] (fun _:Unit=>[]) (fun _ w'=>w=w'/\¬(x<2/\y<2)) ?_ ?_
  ·refine aQq (fun c1=>?_) (fun c1=>?_)
   ·refine aQq (fun c2=>?_) (fun c2=>?_)
    ·rw[jQA ⟨c1,c2⟩];refine call (mQl pb _ D.op x y w h.blk rfl x0 c1 y0 c2 ho) ?_;rintro v _ ⟨rfl,rfl⟩;exact⟨rfl,NA,nc,SA,sc,h,Mod.refl _ _,Moved.refl _ _,Moved.refl _ _⟩
    ·exact⟨(),rfl,rfl,fun hh=>c2 hh.2⟩
   ·exact⟨(),rfl,rfl,fun hh=>c1 hh.1⟩
  rintro⟨⟩ _ ⟨rfl,hxy⟩;have hseen:SlS Tr3.cells 3 w SA st.2.length sc st.2:=⟨h.sown.sl,rfl⟩
  refine loop aQb [7] (fun s:Nat=>[.int .i64 s]) (fun s w'=>w=w'/\s<=st.2.length/\∀(j:Nat) (u:Tr3),j<s->st.2[j]? =some u->¬(u.1=x/\u.2.1=y)) (fun s _=>st.2.length-s) 0 rfl ⟨rfl,Nat.zero_le _,fun j u hj=>absurd hj (by omega)⟩ ?_;rintro s _ ⟨rfl,hs,hno⟩;refine aQe h.blk rfl ?_;refine aQq (fun h3=>?_) (fun h3=>?_)
  ·have again:∀t:Tr3,st.2[s]? =some t->¬(t.1=x/\t.2.1=y)->∀(j:Nat) (u:Tr3),j<s+1->st.2[j]? =some u->¬(u.1=x/\u.2.1=y):=fun t ht hn j u hj hu=>by
    by_cases hjs:j<s
    ·exact hno j u hjs hu
    ·have:j=s:=by omega
     subst this;rw[Option.some.inj (hu.symm.trans ht)];exact hn
   refine aQe h.blk rfl ?_;refine aQp pQL hseen rfl (by omega) (fun p t ht hc=>?_);refine index (j:=0) (by decide) ?_;refine load (hc 0 _ rfl) ?_;refine aQP (fun e1=>?_) (fun e1=>?_)
   ·refine aQe h.blk rfl ?_;refine aQp pQL hseen rfl (by omega) (fun p' t' ht' hc'=>?_);have htt:t'=t:=Option.some.inj (ht'.symm.trans ht);subst htt;refine index (j:=1) (by decide) ?_;refine load (hc' 1 _ rfl) ?_;refine aQP (fun e2=>?_) (fun e2=>?_)
    ·refine aQe h.blk rfl ?_;refine aQp pQL hseen rfl (by omega) (fun p2 t2 ht2 hc2=>?_);have htt2:t2=t':=Option.some.inj (ht2.symm.trans ht);subst htt2;refine index (j:=2) (by decide) ?_;refine load (hc2 2 _ rfl) ?_;rw[jQB hxy (uQl hno ht ⟨e1,e2⟩)];exact⟨rfl,NA,nc,SA,sc,h,Mod.refl _ _,Moved.refl _ _,Moved.refl _ _⟩
    ·refine aQa ((s+1:Nat):Int) (by omega) (by omega) ?_;exact⟨s+1,rfl,⟨rfl,by omega,again t' ht (fun hh=>e2 hh.2)⟩,by show st.2.length-(s+1)<st.2.length-s;omega⟩
   ·refine aQa ((s+1:Nat):Int) (by omega) (by omega) ?_;exact⟨s+1,rfl,⟨rfl,by omega,again t ht (fun hh=>e1 hh.1)⟩,by show st.2.length-(s+1)<st.2.length-s;omega⟩
  have hss:s=st.2.length:=by omega
  subst hss;have hnone:=uQm hno;have hE0:=h.e0;refine aQm aQb (Ext w) 13 [(true,0),(true,1),(true,2),(true,3),(true,4),(true,6),(true,7),(true,8),(true,9),(true,10),(false,5),(false,11),(true,12)] (by kernel_rfl) (Ext.drew w) ?_;refine aQw (vs:=[.slice D.A D.n D.c,.int .i64 D.ra]) rfl (fun w' hw' j v hj=>by
   rw[add_add,(h.blk.ext hw').cell]
   match j,hj with
   | 0,hj=>exact hj
   | 1,hj=>exact hj) ?_
  refine aQw (vs:=[.slice D.B D.m D.d,.int .i64 D.rb]) rfl (fun w' hw' j v hj=>by
   rw[add_add,(h.blk.ext hw').cell]
   match j,hj with
   | 0,hj=>exact hj
   | 1,hj=>exact hj) ?_
  refine call (eQw D.A D.n D.c D.ra x D.a _ (h.as_.ext (hE0.trans (Ext.drew w))) hx) ?_;rintro v w1 ⟨rfl,hE1⟩;have hE01:=(Ext.drew w).trans hE1;refine⟨hE01,?_⟩;refine call (eQw D.B D.m D.d D.rb y D.b w1 (h.bs.ext (hE0.trans hE01)) hy) ?_;rintro v w2 ⟨rfl,hE2⟩;have hE02:=hE01.trans hE2;refine⟨hE02,?_⟩;refine norm (m:=min (aQz D.a x) (aQz D.b y)) (by rw[Int.min_def];split<;>split<;>omega) ?_;have hv64:min (aQz D.a x) (aQz D.b y)<64:=by
   by_cases c:x<2
   ·have:=cQz hb (n:=y) (fun c2=>hxy ⟨c,c2⟩) (by omega);rw[Int.min_def];split<;>omega
   ·have:=cQz ha (n:=x) c (by omega);rw[Int.min_def];split<;>omega
  have hvx:aQz D.a x=min (aQz D.a x) (aQz D.b y)∨aQz D.b y=min (aQz D.a x) (aQz D.b y):=by rw[Int.min_def];split<;>simp
  have hnew:=jQC (a:=D.a) (b:=D.b) (op:=D.op) (m:=m) hxy hnone _ rfl;rw[hnew] at hl1 hl2 ⊢;generalize min (aQz D.a x) (aQz D.b y)=v at*;obtain⟨s1,s2,s3,s4,s5⟩:=bQg ha (n:=x) x0 hv64;obtain⟨t1,t2,t3,t4,t5⟩:=bQg hb (n:=y) y0 hv64;have dec:(aQk D.a x v).1+(aQk D.b y v).1<m/\(aQk D.a x v).2+(aQk D.b y v).2<m:=by
   rcases hvx with e | e
   ·have:=s5 e;omega
   ·have:=t5 e;omega
  have h2:=h.grow hE02;refine aQK (vs:=[.slice D.A D.n D.c,.int .i64 D.ra]) rfl (fun j v hj=>by
   rw[add_add,h2.blk.cell]
   match j,hj with
   | 0,hj=>exact hj
   | 1,hj=>exact hj) ?_
  refine call (nQu D.A D.n D.c D.ra x v D.a w2 (h2.as_.ext h2.e0) hx hv64) ?_;rintro _ w3 ⟨rfl,hE3⟩;have h3':=h2.grow hE3;refine aQK (vs:=[.slice D.B D.m D.d,.int .i64 D.rb]) rfl (fun j v hj=>by
   rw[add_add,h3'.blk.cell]
   match j,hj with
   | 0,hj=>exact hj
   | 1,hj=>exact hj) ?_
  refine call (nQu D.B D.m D.d D.rb y v D.b w3 (h3'.bs.ext h3'.e0) hy hv64) ?_;rintro _ w4 ⟨rfl,hE4⟩;have hE04:=(hE02.trans hE3).trans hE4;have h4:=h3'.grow hE4;have mono1:=dQl D.a D.b D.op m (aQk D.a x v).1 (aQk D.b y v).1 st;have mono2:=dQl D.a D.b D.op m (aQk D.a x v).2 (aQk D.b y v).2 (at2 D.a D.b D.op m (aQk D.a x v).1 (aQk D.b y v).1 st).2;simp only[List.length_append,List.length_cons,List.length_nil] at hl1 hl2;have ulen:=eQx ⟨v,(at2 D.a D.b D.op m (aQk D.a x v).1 (aQk D.b y v).1 st).1,(at2 D.a D.b D.op m (aQk D.a x v).2 (aQk D.b y v).2 (at2 D.a D.b D.op m (aQk D.a x v).1 (aQk D.b y v).1 st).2).1⟩ (at2 D.a D.b D.op m (aQk D.a x v).2 (aQk D.b y v).2 (at2 D.a D.b D.op m (aQk D.a x v).1 (aQk D.b y v).1 st).2).2.1;refine call (ih _ _ st NA SA nc sc w4 h4 s1 t1 dec.1 (by omega) (by omega) (by omega) (by omega)) ?_;rintro _ w5 ⟨rfl,NA5,nc5,SA5,sc5,h5,hM5,hV5,hU5⟩;refine call (ih _ _ _ NA5 SA5 nc5 sc5 w5 h5 s3 t3 dec.2 (by omega) (by omega) (by omega) (by omega)) ?_;rintro _ w6 ⟨rfl,NA6,nc6,SA6,sc6,h6,hM6,hV6,hU6⟩;have hM46:=hM5.trans hM6 (AS.moved hV5 hU5);have hV46:=hV5.trans hV6 hM5.size;have hU46:=hU5.trans hU6 hM5.size;generalize (at2 D.a D.b D.op m (aQk D.a x v).1 (aQk D.b y v).1 st)=r0 at*;generalize (at2 D.a D.b D.op m (aQk D.a x v).2 (aQk D.b y v).2 r0.2)=r1 at*;have hnr6:=h6.nown.rows;have hsr6:=h6.sown.rows;have hlt6:=h6.lt;have htop6:=h6.top;refine aQe h6.blk rfl ?_;refine call (pQK base NA6 _ nc6 r1.2.1 ⟨v,r0.1,r1.1⟩ w6 h6.nown rfl h6.top (by omega)) ?_;rintro _ w7 ⟨NA7,nc7,rfl,hown7,hM7,hV7⟩;have hB7:=h6.blk.mod hM7 (fun e=>by have:=(hnr6 _ e).1;omega);have hS7:=h6.sown.mod hM7 (fun i hi e=>h6.apart i e hi);generalize bQu ⟨v,r0.1,r1.1⟩ r1.2.1=u at*;refine aQn hB7 (by simp) (fun w8 hM8 hB8=>?_);have hown8:=hown7.mod hM8 (fun i hi e=>by have:=(hown7.rows i hi).1;omega);have hS8:=hS7.mod hM8 (fun i hi e=>by have:=(hS7.rows i hi).1;omega);refine aQe hB8 rfl ?_;refine aQl aQb [Tr3.cells (x,y,u.2)] rfl rfl rfl rfl rfl ⟨rfl,rfl,⟨⟩⟩ rfl (fun cs h=>by simp only[List.mem_singleton] at h;subst h;rfl) rfl (by decide) (by decide) ?_;intro w9 hE9 hz9 hB9;have hs9:Sl w9 3 (some ⟨w8.heap.size,0,none⟩) 1 1 (Tr3.cells (x,y,u.2)):=Sl.own (sz:=3) (n:=1) hB9 (Nat.le_refl _) (by decide) (by simp[Tr3.cells]);have z7:=hM7.size;have z8:=hM8.size;have z9:=hE9.size;refine bQf aQb rfl rfl rfl rfl rfl (by decide) rfl rfl ⟨_,rfl⟩ rfl rfl (hS8.ext hE9) hs9 (by intro u hu;simp[Tr3.cells] at hu;rcases hu with rfl | rfl | rfl<;>rfl) (by unfold maxLen;omega) (by show _*24<=_;omega) (by omega) ?_;intro SA10 sc10 w10 hM10 hown10 hU10;have hsr8:=hS8.rows;refine aQn ((hB8.ext hE9).mod hM10 (fun e=>by have:=(hsr8 _ e).1;omega)) (by simp) (fun w11 hM11 hB11=>?_);have hap7:∀i,aQx NA7 i->¬aQx SA6 i:=fun i hi e=>by
   rcases hV7.rows i hi with hh | hh
   ·exact h6.apart i hh e
   ·have:=(hsr6 i e).2;omega
  have hap10:∀i,aQx NA7 i->¬aQx SA10 i:=fun i hi e=>by
   rcases hU10.rows i e with hh | hh
   ·exact hap7 i hi hh
   ·have:=(hown7.rows i hi).2;omega
  have hown11:=((hown8.ext hE9).mod hM10 (fun i hi e=>hap7 i hi e)).mod hM11 (fun i hi e=>by have:=(hown7.rows i hi).1;omega);have hS11:=hown10.mod hM11 (fun i hi e=>by have:=(hown10.rows i hi).1;omega);have hM611:Mod (AS pb NA6 SA6) w6 w11:=((((hM7.mono (fun i hi=>.inl (.inr (.inl hi)))).trans hM8 (fun i hi=>.inl (.inl hi))).trans (Mod.of_ext (AS pb NA6 SA6) hE9) (fun i hi=>.inl hi)).trans hM10 (fun i hi=>.inl (.inr (.inr hi)))).trans hM11 (fun i hi=>.inl (.inl hi));have hM4_11:=hM46.trans hM611 (AS.moved hV46 hU46);have el:(r1.2.2++ [((x,y,u.2):Tr3)]).length=r1.2.2.length+1:=by simp
  refine⟨rfl,NA7,nc7,SA10,sc10,⟨hM611.ext h6.e0 h6.kept,h.as_,h.bs,h.p0,?_,hown11,?_,hap10,h.lt,?_⟩,(Mod.of_ext (AS pb NA SA) hE04).trans hM4_11 (fun i hi=>.inl hi),?_,?_⟩
  ·show Blk w11 pb _ [_,_,_,_,_,_,.slice SA10 (r1.2.2++ [((x,y,u.2):Tr3)]).length sc10];rw[el];exact hB11
  ·show Own w11 base _ 3 SA10 (r1.2.2++ [((x,y,u.2):Tr3)]).length sc10 (trV (r1.2.2++ [((x,y,u.2):Tr3)]));rw[el,sQi];exact hS11
  ·have:=hM10.size;have:=hM11.size;omega
  ·exact(hV46.back hE04.size).trans hV7 (by have:=hE04.size;have:=hM46.size;omega)
  ·exact(hU46.back hE04.size).trans (hU10.back (by omega)) (by have:=hE04.size;have:=hM46.size;omega)
end
section
open Go Go.RowKit
def vQ8 (st:List Br×List Tr3):Prop:=WfB st.1/\∀t∈st.2,0<=t.2.2/\t.2.2<st.1.length+2
theorem pQM {b:Br}{l:List Br}(hw:WfB l)(h1:0<=b.l)(h2:b.l<l.length+2)(h3:0<=b.h)(h4:b.h<l.length+2):WfB (bQu b l).1/\0<=(bQu b l).2/\(bQu b l).2<(bQu b l).1.length+2:=by
 have idx:∀{l:List Br} {i:Nat},bQp b l=some i->i<l.length:=by
  intro l;induction l with
  | nil=>intro i h;cases h
  | cons x l ih=>
   intro i h;unfold bQp at h;split at h
   ·cases h;simp
   ·cases hf:bQp b l with
    | none=>rw[hf] at h;cases h
    | some k=>rw[hf] at h;cases h;have:=ih hf;simp;omega
 unfold bQu;split
 ·exact⟨hw,h1,h2⟩
 ·split
  ·rename_i i hi;have:=idx hi;exact⟨hw,by omega,by simp only;omega⟩
  ·refine⟨fun j x hx=>?_,by omega,by simp only[List.length_append,List.length_cons,List.length_nil];omega⟩;by_cases hj:j<l.length
   ·rw[List.getElem?_append_left hj] at hx;exact hw j x hx
   ·rw[List.getElem?_append_right (by omega)] at hx;have hj0:j-l.length=0:=by
     cases hk:j-l.length with
     | zero=>rfl
     | succ k=>rw[hk] at hx;simp at hx
    rw[hj0] at hx;simp at hx;subst hx;omega
theorem hQx {op x y:Int}(x0:0<=x)(x1:x<2)(y0:0<=y)(y1:y<2):0<=dQk op x y/\dQk op x y<2:=by
 unfold dQk;rcases(by omega:x=0∨x=1)with rfl | rfl<;>rcases(by omega:y=0∨y=1)with rfl | rfl<;>(split<;>first | decide | (split<;>first | decide | (split<;>first | decide | (split<;>decide))))
theorem hQy {a b:List Br}(ha:DOk a)(hb:DOk b)(op:Int):∀(m:Nat)(x y:Int)(st:List Br×List Tr3),vQ8 st->0<=x->0<=y->x<a.length+2->y<b.length+2->
  vQ8 (at2 a b op m x y st).2/\0<=(at2 a b op m x y st).1/\(at2 a b op m x y st).1<(at2 a b op m x y st).2.1.length+2
 | 0,x,y,st,h,_,_,_,_=>⟨h,Int.le_refl _,by show(0:Int)<st.1.length+2;omega⟩
 | m+1,x,y,st,h,x0,y0,hx,hy=>by
  by_cases hxy:x<2/\y<2
  ·rw[jQA hxy];have:=hQx (op:=op) x0 hxy.1 y0 hxy.2;exact⟨h,this.1,by simp only;omega⟩
  cases k:st.2.find? (fun t=>decide (t.1=x/\t.2.1=y))with
  | some t=>
   rw[jQB hxy k];have:=h.2 t (List.mem_of_find?_eq_some k);exact⟨h,this.1,this.2⟩
  | none=>
   have hv64:min (aQz a x) (aQz b y)<64:=by
    by_cases c:x<2
    ·have:=cQz hb (n:=y) (fun c2=>hxy ⟨c,c2⟩) (by omega);rw[Int.min_def];split<;>omega
    ·have:=cQz ha (n:=x) c (by omega);rw[Int.min_def];split<;>omega
   rw[jQC hxy k _ rfl];generalize min (aQz a x) (aQz b y)=v at*;obtain⟨s1,s2,s3,s4,s5⟩:=bQg ha (n:=x) x0 hv64;obtain⟨t1,t2,t3,t4,t5⟩:=bQg hb (n:=y) y0 hv64;have i1:=hQy ha hb op m (aQk a x v).1 (aQk b y v).1 st h s1 t1 (by omega) (by omega);have m2:=dQl a b op m (aQk a x v).2 (aQk b y v).2 (at2 a b op m (aQk a x v).1 (aQk b y v).1 st).2;generalize (at2 a b op m (aQk a x v).1 (aQk b y v).1 st)=r0 at*;have i2:=hQy ha hb op m (aQk a x v).2 (aQk b y v).2 r0.2 i1.1 s3 t3 (by omega) (by omega);generalize (at2 a b op m (aQk a x v).2 (aQk b y v).2 r0.2)=r1 at*;have hu:=pQM (b:=⟨v,r0.1,r1.1⟩) (l:=r1.2.1) i2.1.1 i1.2.1 (by have:=i1.2.2;simp only;omega) i2.2.1 i2.2.2;have hul:=eQx ⟨v,r0.1,r1.1⟩ r1.2.1;generalize bQu ⟨v,r0.1,r1.1⟩ r1.2.1=u at*;refine⟨⟨hu.1,fun t ht=>?_⟩,hu.2.1,hu.2.2⟩;simp only[List.mem_append,List.mem_singleton] at ht;rcases ht with ht | rfl
   ·have:=i2.1.2 t ht;exact⟨this.1,by simp only;omega⟩
   ·exact⟨hu.2.1,hu.2.2⟩
def sQj (a:List Br)(ra:Int)(b:List Br)(rb op:Int):Int×(List Br×List Tr3):=at2 a b op (ra.toNat+rb.toNat+1) ra rb ([],[])
def cQO (a:List Br)(ra:Int)(b:List Br)(rb op:Int):List Br×Int:=bQh (sQj a ra b rb op).2.1 (sQj a ra b rb op).1
def rQP (d:List Br×Int):(List Br×Int)×Int:=if 4096<d.1.length then(([],0),2)else(d,0)
noncomputable def opD (a:List Br)(ra:Int)(b:List Br)(rb op:Int):(List Br×Int)×Int:=if bQS a ra≠0 then(([],0),bQS a ra)else if bQS b rb≠0 then(([],0),bQS b rb)else rQP (cQO a ra b rb op)
def DgE (w:World)(r:(List Br×Int)×Int)(v:Value)(w':World):Prop:=∃A n c,v= .tuple #[dgV A n c r.1.2,.int .i64 r.2]/\Ext w w'/\SB w' A n c r.1.1/\∀i,aQx A i->w.heap.size<=i
theorem mQm (A:Option Addr)(n c:Nat)(a:List Br)(ra:Int)(B:Option Addr)(m d:Nat)(b:List Br)(rb op:Int)(w:World)(h:SB w A n c a)(h':SB w B m d b)(ha:DOk a)(hb:DOk b)(r0:0<=ra)(r1:ra<n+2)(s0:0<=rb)(s1:rb<m+2)(hn:n<=1000000000000)(hm:m<=1000000000000)
  (hl1:(sQj a ra b rb op).2.1.length<=100000000000) (hl2:(sQj a ra b rb op).2.2.length<=100000000000) (ho:op≠3/\op≠4):
  Fn Tryz.prog 58 [dgV A n c ra,dgV B m d rb,.int .i64 op] w (pQI w (cQO a ra b rb op)):=by
 have hal:=h.2;have hbl:=h'.2;refine aQf (c:={c58 with cuts:=[]}) aQb Tryz.func58 rfl rfl rfl ?_;refine new (fun w1 hE1 hz1 hB1=>?_);refine new (fun w2 hE2 hz2 hB2=>?_);refine new (fun w3 hE3 hz3 hB3=>?_);have hE03:=(hE1.trans hE2).trans hE3;have hB13:=(hB1.ext hE2).ext hE3;have hB23:=hB2.ext hE3;refine aQd hB13 rfl ?_;refine aQd hB23 rfl ?_;refine new (fun w4 hE4 hz4 hB4=>?_);have hE04:=hE03.trans hE4
 let D:AD:=⟨A,n,c,a,ra,B,m,d,b,rb,op⟩
 have hA:Ap w3 w4 w4.heap.size w3.heap.size D none 0 none 0 ([],[]):=⟨hE4,h.ext hE03,h'.ext hE03,Nat.le_refl _,hB4,Own.nil _ _ _ _,Own.nil _ _ _ _,(fun i hi=>by obtain⟨_,e,_⟩:=hi;cases e),(by omega),Nat.le_refl _⟩
 refine aQe (hB13.ext hE4) rfl ?_;refine aQe (hB23.ext hE4) rfl ?_;have inv:=hQy ha hb op (ra.toNat+rb.toNat+1) ra rb ([],[]) ⟨fun j x hx=>by simp at hx,fun t ht=>by simp at ht⟩ r0 s0 (by omega) (by omega);refine call (vQ7 w3 w4.heap.size w3.heap.size D ha hb ⟨hn,hm⟩ ho (ra.toNat+rb.toNat+1) ra rb ([],[]) none none 0 0 w4 hA r0 s0 (by omega) r1 s1 hl1 hl2) ?_;rintro v w5 ⟨rfl,NA,nc,SA,sc1,hA5,hM5,hV5,hU5⟩;have hE5:Ext w3 w5:=hA5.e0;have hE05:=hE03.trans hE5;refine aQe hA5.blk rfl ?_;refine call (kQ2 NA _ nc _ _ w5 ⟨hA5.nown.sl,rfl⟩ inv.1.1 (by have:(sQj a ra b rb op).2.1.length<=100000000000:=hl1;exact Nat.le_trans this (by decide)) inv.2.1 inv.2.2) ?_;rintro v w6 ⟨OA,k,oc,rfl,hE6,hO6,hR6⟩;refine aQc ((hB3.ext hE5).ext hE6) rfl (sc rfl) (fun w7 hg7 _ hB7=>?_);have hM7:Mod (·=w2.heap.size) w6 w7:=zQE hg7 rfl;refine aQd hB7 rfl ?_;have z5:=hE5.size;have nr:∀i,aQx OA i->¬i=w2.heap.size:=fun i hi e=>by have:=hR6 i hi;omega
 refine⟨OA,k,oc,rfl,hM7.ext (hE05.trans hE6) (fun i hi=>by have:=hE1.size;have:=hE2.size;omega),⟨hO6.1.modS hM7 (fun _ i hi=>nr i hi),hO6.2⟩,fun i hi=>by have:=hR6 i hi;have:=hE05.size;omega⟩
theorem uQn (k:Int)(w:World)(h0:0<=k)(h1:k<=63):Fn Tryz.prog 30 [.int .i64 k] w (DgE w (([⟨k,0,1⟩],2),0)):=by
 refine aQf (c:={c30 with cuts:=[]}) aQb Tryz.func30 rfl rfl rfl ?_;refine new (fun w1 hE1 hz1 hB1=>?_);refine aQB (by omega) ?_;refine aQB (by omega) ?_;refine aQl aQb [(⟨k,0,1⟩:Br).cells] rfl rfl rfl rfl rfl ⟨rfl,rfl,⟨⟩⟩ rfl (fun cs h=>by simp only[List.mem_singleton] at h;subst h;rfl) rfl (by decide) (by decide) ?_;intro w2 hE2 hz2 hB2;refine aQc (hB1.ext hE2) rfl (sc rfl) (fun w3 hg3 _ hB3=>?_);have hM3:Mod (·=w.heap.size) w2 w3:=zQE hg3 rfl;refine aQd hB3 rfl ?_;refine⟨some ⟨w1.heap.size,0,none⟩,1,1,rfl,hM3.ext (hE1.trans hE2) (fun i hi=>by omega),⟨Sl.own (sz:=3) (n:=1) (hB2.mod hM3 (by omega)) (Nat.le_refl _) (by decide) (by simp[Br.cells]),rfl⟩,fun i ⟨ad,e,hi⟩=>by cases e;simp only at hi;omega⟩
end
section
open Go Go.RowKit
structure DV where
 A:Option Addr
 n:Nat
 c:Nat
 nd:List Br
 r:Int
def DV.cells (x:DV):List Value:=[.slice x.A x.n x.c,.int .i64 x.r]
theorem dQm (x:DV):x.cells.length=2:=rfl
noncomputable def cQ1:List DV->Int
 | []=>0
 | x::l=>if bQS x.nd x.r≠0 then bQS x.nd x.r else cQ1 l
theorem oQE {l:List DV}:∀{s:Nat}{x:DV},(∀j y,j<s->l[j]? =some y->bQS y.nd y.r=0)->l[s]? =some x->bQS x.nd x.r≠0->cQ1 l=bQS x.nd x.r:=by
 induction l with
 | nil=>intro s x _ h;simp at h
 | cons y l ih=>
  intro s x hn h hx;cases s with
  | zero=>simp at h;subst h;rw[cQ1,if_pos hx]
  | succ s=>
   rw[cQ1,if_neg (fun hh=>hh (hn 0 y (by omega) rfl))];exact ih (s:=s) (fun j z hj hz=>hn (j+1) z (by omega) (by simpa using hz)) (by simpa using h) hx
theorem mQn {l:List DV}(h:∀j y,j<l.length->l[j]? =some y->bQS y.nd y.r=0):cQ1 l=0:=by
 induction l with
 | nil=>rfl
 | cons y l ih=>
  rw[cQ1,if_neg (fun hh=>hh (h 0 y (by simp) rfl))];exact ih (fun j z hj hz=>h (j+1) z (by simpa using hj) (by simpa using hz))
end
end
section
section
open Go Go.RowKit
def evD (nd:List Br):Nat->Int->(Nat->Bool)->Bool
 | 0,n,_=>decide (n=1)
 | m+1,n,e=>if n<2 then decide (n=1)else match nd[(n-2).toNat]? with
  | none=>false
  | some b=>if e b.v.toNat then evD nd m b.h e else evD nd m b.l e
def ev (nd:List Br)(n:Int)(e:Nat->Bool):Bool:=evD nd n.toNat n e
theorem fQA {nd:List Br}{m:Nat}{n:Int}{e:Nat->Bool}(h:n<2):evD nd m n e=decide (n=1):=by
 cases m with
 | zero=>rfl
 | succ m=>rw[evD,if_pos h]
theorem gQ4 {nd:List Br}(hw:WfB nd):∀(m m':Nat)(n:Int)(e:Nat->Bool),n<=m->n<=m'->evD nd m n e=evD nd m' n e
 | 0,m',n,e,h,_=>by rw[fQA (by omega),fQA (by omega)]
 | m+1,0,n,e,_,h=>by rw[fQA (by omega),fQA (by omega)]
 | m+1,m'+1,n,e,h,h'=>by
  by_cases hn:n<2
  ·rw[fQA hn,fQA hn]
  ·rw[evD,evD,if_neg hn,if_neg hn];cases hb:nd[(n-2).toNat]? with
   | none=>rfl
   | some b=>
    obtain⟨h1,h2,h3,h4⟩:=hw _ _ hb;simp only;rw[gQ4 hw m m' b.h e (by omega) (by omega),gQ4 hw m m' b.l e (by omega) (by omega)]
theorem bQP {nd:List Br}{n:Int}{e:Nat->Bool}(h:n<2):ev nd n e=decide (n=1):=fQA h
theorem eQX {nd:List Br}(hw:WfB nd){n:Int}{e:Nat->Bool}{b:Br}(h:¬n<2)(hb:nd[(n-2).toNat]? =some b):ev nd n e=if e b.v.toNat then ev nd b.h e else ev nd b.l e:=by
 obtain⟨h1,h2,h3,h4⟩:=hw _ _ hb;unfold ev;obtain⟨k,hk⟩:∃k,n.toNat=k+1:=⟨n.toNat-1,by omega⟩
 rw[hk,evD,if_neg h,hb];simp only;rw[gQ4 hw k b.h.toNat b.h e (by omega) (by omega),gQ4 hw k b.l.toNat b.l e (by omega) (by omega)]
def Rd0 (nd:List Br):Prop:=∀(j:Nat)(b:Br),nd[j]? =some b->pQG nd j b
theorem Rd0.wf {nd:List Br}(h:Rd0 nd):WfB nd:=fun j x hx=>by
 obtain⟨_,_,h1,h2,h3,h4,_⟩:=h j x hx;exact⟨h1,h2,h3,h4⟩
theorem VD.rd0 {nd:List Br}{r:Int}(h:VD nd r):Rd0 nd:=h.1
theorem bQU {nd:List Br}{n:Int}{b:Br}(h:¬n<2)(hb:nd[(n-2).toNat]? =some b):aQz nd n=b.v:=by unfold aQz;rw[if_neg h,hb];rfl
def upd (e:Nat->Bool)(v:Nat)(x:Bool):Nat->Bool:=fun k=>if k=v then x else e k
theorem iQL {nd:List Br}{n:Int}(h:¬n<2)(hn:n<nd.length+2):∃b,nd[(n-2).toNat]? =some b:=⟨_,List.getElem?_eq_getElem (by omega)⟩
theorem dQn {nd:List Br}(h:Rd0 nd)(v:Nat)(x:Bool)(e:Nat->Bool):∀(m:Nat)(n:Int),n.toNat<m->n<nd.length+2->(v:Int)<aQz nd n->ev nd n (upd e v x)=ev nd n e
 | 0,n,hm,_,_=>by omega
 | m+1,n,hm,hn,hv=>by
  by_cases h2:n<2
  ·rw[bQP h2,bQP h2]
  obtain⟨b,hb⟩:=iQL h2 hn;obtain⟨b1,b2,b3,b4,b5,b6,b7,b8,b9,b10⟩:=h _ _ hb;rw[bQU h2 hb] at hv;rw[eQX h.wf h2 hb,eQX h.wf h2 hb,dQn h v x e m b.h (by omega) (by omega) (by omega),dQn h v x e m b.l (by omega) (by omega) (by omega)];have:upd e v x b.v.toNat=e b.v.toNat:=by unfold upd;rw[if_neg (by omega)]
  rw[this]
def Eqv (nd:List Br)(n:Int)(nd':List Br)(n':Int):Prop:=∀e,ev nd n e=ev nd' n' e
theorem Eqv.symm {nd nd':List Br}{n n':Int}(h:Eqv nd n nd' n'):Eqv nd' n' nd n:=fun e=>(h e).symm
theorem Eqv.trans {nd nd' nd2:List Br}{n n' n2:Int}(h:Eqv nd n nd' n')(k:Eqv nd' n' nd2 n2):Eqv nd n nd2 n2:=fun e=>(h e).trans (k e)
def Inj (nd:List Br)(m:Nat):Prop:=∀(n n':Int),0<=n->0<=n'->n<m->n'<m->n<nd.length+2->n'<nd.length+2->Eqv nd n nd n'->n=n'
theorem pQN {nd:List Br}(h:Rd0 nd){n:Int}{b:Br}(h2:¬n<2)(hb:nd[(n-2).toNat]? =some b)(hn:n<nd.length+2)(e:Nat->Bool):ev nd n (upd e b.v.toNat true)=ev nd b.h e/\ev nd n (upd e b.v.toNat false)=ev nd b.l e:=by
 obtain⟨b1,b2,b3,b4,b5,b6,b7,b8,b9,b10⟩:=h _ _ hb;have e1:upd e b.v.toNat true b.v.toNat=true:=by unfold upd;rw[if_pos rfl]
 have e2:upd e b.v.toNat false b.v.toNat=false:=by unfold upd;rw[if_pos rfl]
 rw[eQX h.wf h2 hb,eQX h.wf h2 hb,e1,e2,if_pos rfl,if_neg (by decide)];exact⟨dQn h _ _ _ (b.h.toNat+1) _ (by omega) (by omega) (by omega),dQn h _ _ _ (b.l.toNat+1) _ (by omega) (by omega) (by omega)⟩
theorem dep {nd:List Br}(h:Rd0 nd){n:Int}{m:Nat}{b:Br}(hi:Inj nd m)(h2:¬n<2)(hb:nd[(n-2).toNat]? =some b)(hn:n<nd.length+2)(hm:n<=m):∃e,ev nd n (upd e b.v.toNat true)≠ev nd n (upd e b.v.toNat false):=by
 obtain⟨b1,b2,b3,b4,b5,b6,b7,b8,b9,b10⟩:=h _ _ hb;refine Classical.byContradiction (fun hne=>b7 ?_);refine hi b.l b.h b3 b5 (by omega) (by omega) (by omega) (by omega) (fun e=>?_);have:=pQN h h2 hb hn e;rw[<-this.1,<-this.2];refine Classical.byContradiction (fun hh=>hne ⟨e,fun h3=>hh h3.symm⟩)
theorem dQJ {nd nd':List Br}(h:Rd0 nd){n n':Int}{m:Nat}(hi:Inj nd m)(hm:n<=m)(hn:n<nd.length+2)(h2:n'<2)(k:Eqv nd n nd' n'):n<2:=by
 refine Classical.byContradiction (fun hh=>?_);obtain⟨b,hb⟩:=iQL hh hn;obtain⟨e,he⟩:=dep h hi hh hb hn hm;apply he;rw[k,k,bQP h2,bQP h2]
theorem gQj {nd nd':List Br}(h:Rd0 nd)(h':Rd0 nd'){n n':Int}{m:Nat}{b b':Br}(hi:Inj nd m)(hm:n<=m)(hn:n<nd.length+2)(hn':n'<nd'.length+2)(h2:¬n<2)(h2':¬n'<2)(hb:nd[(n-2).toNat]? =some b)(hb':nd'[(n'-2).toNat]? =some b')(k:Eqv nd n nd' n'):b'.v<=b.v:=by
 refine Classical.byContradiction (fun hh=>?_);obtain⟨e,he⟩:=dep h hi h2 hb hn hm;apply he;obtain⟨b1,_⟩:=h _ _ hb;rw[k,k,dQn h' _ _ _ (n'.toNat+1) _ (by omega) hn' (by rw[bQU h2' hb'];omega),dQn h' _ _ _ (n'.toNat+1) _ (by omega) hn' (by rw[bQU h2' hb'];omega)]
theorem nQv {nd nd':List Br}(h:Rd0 nd)(h':Rd0 nd'){n n':Int}{b b':Br}(hn:n<nd.length+2)(hn':n'<nd'.length+2)(h2:¬n<2)(h2':¬n'<2)(hb:nd[(n-2).toNat]? =some b)(hb':nd'[(n'-2).toNat]? =some b')(k:Eqv nd n nd' n')(hv:b.v=b'.v):Eqv nd b.l nd' b'.l/\Eqv nd b.h nd' b'.h:=by
 refine⟨fun e=>?_,fun e=>?_⟩
 ·rw[<-(pQN h h2 hb hn e).2,<-(pQN h' h2' hb' hn' e).2,k,hv]
 ·rw[<-(pQN h h2 hb hn e).1,<-(pQN h' h2' hb' hn' e).1,k,hv]
theorem gQk {nd:List Br}(h:Rd0 nd):∀m,Inj nd m
 | 0=>fun n n' h0 _ hm _ _ _ _=>by omega
 | m+1=>fun n n' h0 h0' hm hm' hn hn' k=>by
  have ih:=gQk h m;by_cases h2:n<2
  ·have h2':n'<2:=dQJ h ih (by omega) hn' h2 k.symm;have:=k (fun _=>true);rw[bQP h2,bQP h2',decide_eq_decide] at this;omega
  by_cases h2':n'<2
  ·exact absurd (dQJ h ih (by omega) hn h2' k) h2
  obtain⟨b,hb⟩:=iQL h2 hn;obtain⟨b',hb'⟩:=iQL h2' hn';have hv:b.v=b'.v:=Int.le_antisymm (gQj h h ih (by omega) hn' hn h2' h2 hb' hb k.symm) (gQj h h ih (by omega) hn hn' h2 h2' hb hb' k);obtain⟨k1,k2⟩:=nQv h h hn hn' h2 h2' hb hb' k hv;obtain⟨b1,b2,b3,b4,b5,b6,b7,b8,b9,b10⟩:=h _ _ hb;obtain⟨c1,c2,c3,c4,c5,c6,c7,c8,c9,c10⟩:=h _ _ hb';have el:=ih b.l b'.l b3 c3 (by omega) (by omega) (by omega) (by omega) k1;have eh:=ih b.h b'.h b5 c5 (by omega) (by omega) (by omega) (by omega) k2;have ebb:b=b':=by cases b;cases b';simp_all
  subst ebb;rcases Int.lt_trichotomy n n' with hlt | heq | hgt
  ·exact absurd (List.mem_of_getElem? (i:=(n-2).toNat) (by rw[List.getElem?_take_of_lt (by omega)];exact hb)) c8
  ·exact heq
  ·exact absurd (List.mem_of_getElem? (i:=(n'-2).toNat) (by rw[List.getElem?_take_of_lt (by omega)];exact hb')) b8
theorem inj {nd:List Br}(h:Rd0 nd){n n':Int}(h0:0<=n)(h0':0<=n')(hn:n<nd.length+2)(hn':n'<nd.length+2)(k:Eqv nd n nd n'):n=n':=
 gQk h (nd.length+2) n n' h0 h0' (by omega) (by omega) hn hn' k
structure Twin (nd nd':List Br) (st st':List Br×List Nat):Prop where
 out:st.1=st'.1
 len:st.2.length=nd.length
 len':st'.2.length=nd'.length
 num:∀(n n':Int),¬n<2->¬n'<2->n<nd.length+2->n'<nd'.length+2->Eqv nd n nd' n'->st.2[(n-2).toNat]? =st'.2[(n'-2).toNat]?
theorem hQz {nd nd':List Br}(h:Rd0 nd)(h':Rd0 nd'):∀(m m':Nat)(n n':Int)(st st':List Br×List Nat),0<=n->0<=n'->n<m->n'<m'->n<nd.length+2->n'<nd'.length+2->Eqv nd n nd' n'->Twin nd nd' st st'->
  (vis nd m n st).1=(vis nd' m' n' st').1/\Twin nd nd' (vis nd m n st).2 (vis nd' m' n' st').2
 | 0,m',n,n',st,st',h0,_,hm,_,_,_,_,_=>by omega
 | m+1,0,n,n',st,st',_,h0,_,hm,_,_,_,_=>by omega
 | m+1,m'+1,n,n',st,st',h0,h0',hm,hm',hn,hn',k,T=>by
  have I:=gQk h (nd.length+2);have I':=gQk h' (nd'.length+2);by_cases h2:n<2
  ·have h2':n'<2:=dQJ h' I' (by omega) hn' h2 k.symm;rw[fQz h2,fQz h2'];have:=k (fun _=>true);rw[bQP h2,bQP h2',decide_eq_decide] at this;exact⟨by simp only;omega,T⟩
  have h2':¬n'<2:=fun hh=>h2 (dQJ h I (by omega) hn hh k)
  obtain⟨b,hb⟩:=iQL h2 hn;obtain⟨b',hb'⟩:=iQL h2' hn';have hnum:=T.num n n' h2 h2' hn hn' k;by_cases h3:0<st.2[(n-2).toNat]?.getD 0
  ·rw[dQ4 h2 h3,dQ4 h2' (by rw[<-hnum];exact h3)];exact⟨by simp only;rw[hnum],T⟩
  have h3':¬0<st'.2[(n'-2).toNat]?.getD 0:=by rw[<-hnum];exact h3
  have hv:b.v=b'.v:=Int.le_antisymm (gQj h' h I' (by omega) hn' hn h2' h2 hb' hb k.symm) (gQj h h' I (by omega) hn hn' h2 h2' hb hb' k);obtain⟨k1,k2⟩:=nQv h h' hn hn' h2 h2' hb hb' k hv;obtain⟨b1,b2,b3,b4,b5,b6,b7,b8,b9,b10⟩:=h _ _ hb;obtain⟨c1,c2,c3,c4,c5,c6,c7,c8,c9,c10⟩:=h' _ _ hb';rw[eQv h2 h3 hb,eQv h2' h3' hb'];obtain⟨e1,T1⟩:=hQz h h' m m' b.l b'.l st st' b3 c3 (by omega) (by omega) (by omega) (by omega) k1 T;generalize (vis nd m b.l st)=p at*;generalize (vis nd' m' b'.l st')=p' at*;obtain⟨e2,T2⟩:=hQz h h' m m' b.h b'.h p.2 p'.2 b5 c5 (by omega) (by omega) (by omega) (by omega) k2 T1;generalize (vis nd m b.h p.2)=q at*;generalize (vis nd' m' b'.h p'.2)=q' at*;have hout:=T2.out;refine⟨by simp only;rw[hout],by simp only;rw[hout,hv,e1,e2],by rw[List.length_set];exact T2.len,by rw[List.length_set];exact T2.len',fun i i' j2 j2' hi hi' kk=>?_⟩;have l1:=T2.len;have l2:=T2.len';by_cases hin:i=n
  ·subst hin;have:i'=n':=inj h' (by omega) h0' hi' hn' (kk.symm.trans k);subst this;simp only;rw[List.getElem?_set_self (by omega),List.getElem?_set_self (by omega),hout]
  ·have hin':i'≠n':=fun e=>by
    subst e;exact hin (inj h (by omega) h0 hi hn (kk.trans k.symm))
   simp only;rw[List.getElem?_set_ne (by omega),List.getElem?_set_ne (by omega)];exact T2.num i i' j2 j2' hi hi' kk
theorem oQF (nd nd':List Br):Twin nd nd' ([],List.replicate nd.length 0) ([],List.replicate nd'.length 0):=
 ⟨rfl,by simp,by simp,fun n n' h2 h2' hn hn' _=>by simp only;rw[List.getElem?_replicate_of_lt (by omega),List.getElem?_replicate_of_lt (by omega)]⟩
theorem gQH {nd nd':List Br}(h:Rd0 nd)(h':Rd0 nd'){n n':Int}(h0:0<=n)(h0':0<=n')(hn:n<nd.length+2)(hn':n'<nd'.length+2)(k:Eqv nd n nd' n'):bQh nd n=bQh nd' n':=by
 obtain⟨e,T⟩:=hQz h h' (n.toNat+1) (n'.toNat+1) n n' _ _ h0 h0' (by omega) (by omega) hn hn' k (oQF nd nd');unfold bQh;simp only;rw[e,T.out]
theorem VD.eqv {nd nd':List Br}{r r':Int}(h:VD nd r)(h':VD nd' r')(k:Eqv nd r nd' r'):(nd,r)=(nd',r'):=by
 rw[<-h.2.2.2,<-h'.2.2.2];exact gQH h.1 h'.1 h.2.1 h'.2.1 h.2.2.1 h'.2.2.1 k
theorem mQo {nd:List Br}(hw:WfB nd)(l:List Br):∀(m:Nat)(n:Int)(e:Nat->Bool),n<nd.length+2->evD (nd++l) m n e=evD nd m n e
 | 0,n,e,_=>rfl
 | m+1,n,e,hn=>by
  by_cases h2:n<2
  ·rw[fQA h2,fQA h2]
  ·obtain⟨b,hb⟩:=iQL h2 hn;obtain⟨h1,h2',h3,h4⟩:=hw _ _ hb;rw[evD,evD,if_neg h2,if_neg h2,List.getElem?_append_left (by omega),hb];simp only;rw[mQo hw l m b.h e (by omega),mQo hw l m b.l e (by omega)]
theorem gQI {nd:List Br}(hw:WfB nd)(l:List Br){n:Int}(hn:n<nd.length+2)(e:Nat->Bool):ev (nd++l) n e=ev nd n e:=mQo hw l _ n e hn
theorem gQl {nd:List Br}(l:List Br){n:Int}(hn:n<nd.length+2):aQz (nd++l) n=aQz nd n:=by
 unfold aQz;by_cases h2:n<2
 ·rw[if_pos h2,if_pos h2]
 ·rw[if_neg h2,if_neg h2,List.getElem?_append_left (by omega)]
theorem cQ2 {nd:List Br}{n:Int}(h:n<2):aQz nd n=64:=if_pos h
theorem pQO {nd nd':List Br}(h:Rd0 nd)(h':Rd0 nd'){n n':Int}(hn:n<nd.length+2)(hn':n'<nd'.length+2)(k:Eqv nd n nd' n'):aQz nd n=aQz nd' n':=by
 have I:=gQk h (nd.length+2);have I':=gQk h' (nd'.length+2);by_cases h2:n<2
 ·rw[cQ2 h2,cQ2 (dQJ h' I' (by omega) hn' h2 k.symm)]
 have h2':¬n'<2:=fun hh=>h2 (dQJ h I (by omega) hn hh k)
 obtain⟨b,hb⟩:=iQL h2 hn;obtain⟨b',hb'⟩:=iQL h2' hn';rw[bQU h2 hb,bQU h2' hb'];exact Int.le_antisymm (gQj h' h I' (by omega) hn' hn h2' h2 hb' hb k.symm) (gQj h h' I (by omega) hn hn' h2 h2' hb hb' k)
theorem Rd0.snoc {nd:List Br}(h:Rd0 nd){b:Br}(hb:pQG (nd++ [b]) nd.length b):Rd0 (nd++ [b]):=by
 intro j x hx;by_cases hj:j<nd.length
 ·rw[List.getElem?_append_left hj] at hx;obtain⟨b1,b2,b3,b4,b5,b6,b7,b8,b9,b10⟩:=h _ _ hx;exact⟨b1,b2,b3,b4,b5,b6,b7,by rw[List.take_append_of_le_length (by omega)];exact b8,by rw[gQl _ (by omega)];exact b9,by rw[gQl _ (by omega)];exact b10⟩
 ·have hl:=(List.getElem?_eq_some_iff.1 hx).1;simp at hl;have:j=nd.length:=by omega
  subst this;rw[List.getElem?_append_right (Nat.le_refl _)] at hx;simp at hx;subst hx;exact hb
theorem pQP {nd:List Br}{b:Br}(b1:0<=b.v)(b2:b.v<=63)(b3:0<=b.l)(b4:b.l<nd.length+2)(b5:0<=b.h)(b6:b.h<nd.length+2)(b7:b.l≠b.h)(b8:b∉nd)(b9:b.v<aQz nd b.l)(b10:b.v<aQz nd b.h):pQG (nd++ [b]) nd.length b:=
 ⟨b1,b2,b3,b4,b5,b6,b7,by rw[List.take_append_of_le_length (Nat.le_refl _),List.take_length];exact b8,by rw[gQl _ b4];exact b9,by rw[gQl _ b6];exact b10⟩
structure Wi (nd:List Br) (st:List Br×List Nat):Prop where
 rd:Rd0 st.1
 len:st.2.length=nd.length
 num:∀k m:Nat,st.2[k]? =some m->0<m->2<=m/\m<st.1.length+2/\Eqv st.1 (m:Int) nd ((k:Int)+2)
 sur:∀j:Nat,j<st.1.length->∃k:Nat,st.2[k]? =some (j+2)
theorem Wi.start (nd:List Br):Wi nd ([],List.replicate nd.length 0):=
 ⟨fun j b hb=>by simp at hb,by simp,fun k m hk hm=>by
  have:=List.eq_of_mem_replicate (List.mem_of_getElem? hk);omega,fun j hj=>by simp at hj⟩
theorem mQp {nd:List Br}(h:Rd0 nd):∀(m:Nat)(n:Int)(st:List Br×List Nat),0<=n->n<m->n<nd.length+2->Wi nd st->
  Wi nd (vis nd m n st).2/\0<=(vis nd m n st).1/\(vis nd m n st).1<(vis nd m n st).2.1.length+2/\Eqv (vis nd m n st).2.1 (vis nd m n st).1 nd n/\∃l,(vis nd m n st).2.1=st.1++l
 | 0,n,st,h0,hm,_,_=>by omega
 | m+1,n,st,h0,hm,hn,W=>by
  by_cases h2:n<2
  ·rw[fQz h2];exact⟨W,h0,by simp only;omega,fun e=>by rw[bQP h2,bQP h2],[],by simp⟩
  have hlt:(n-2).toNat<st.2.length:=by have:=W.len;omega
  by_cases h3:0<st.2[(n-2).toNat]?.getD 0
  ·rw[dQ4 h2 h3];have hg:=List.getElem?_eq_getElem hlt;rw[hg] at h3 ⊢;simp only[Option.getD_some] at h3 ⊢;obtain⟨q1,q2,q3⟩:=W.num _ _ hg h3;have en:(((n-2).toNat:Nat):Int)+2=n:=by omega
   rw[en] at q3;exact⟨W,by omega,by omega,q3,[],by simp⟩
  obtain⟨b,hb⟩:=iQL h2 hn;obtain⟨b1,b2,b3,b4,b5,b6,b7,b8,b9,b10⟩:=h _ _ hb;have f1:=cQs h.wf m b.l st b3 (by omega) (by omega) W.len;rw[eQv h2 h3 hb];obtain⟨W1,p1,p2,p3,l1,p4⟩:=mQp h m b.l st b3 (by omega) (by omega) W;generalize (vis nd m b.l st)=p at*;have f2:=cQs h.wf m b.h p.2 b5 (by omega) (by omega) W1.len;obtain⟨W2,q1,q2,q3,l2,q4⟩:=mQp h m b.h p.2 b5 (by omega) (by omega) W1;generalize (vis nd m b.h p.2)=q at*;have hz:q.2.2[(n-2).toNat]? =some 0:=by
   rw[f2.keep _ (by omega),f1.keep _ (by omega)];have hg:=List.getElem?_eq_getElem hlt;rw[hg] at h3 ⊢;simp only[Option.getD_some] at h3;congr 1;omega
  have hR:=W2.rd;have p2':p.1<q.2.1.length+2:=by rw[q4,List.length_append];omega
  have p3':Eqv q.2.1 p.1 nd b.l:=fun e=>by rw[q4,gQI W1.rd.wf l2 p2];exact p3 e
  have hne:p.1≠q.1:=fun e=>b7 (inj h b3 b5 (by omega) (by omega) (p3'.symm.trans (by rw[e];exact q3)))
  have hl1:=pQO hR h p2' (by omega) p3';have hl2:=pQO hR h q2 (by omega) q3;have mean:∀nd2,Rd0 nd2->∀(i:Int),¬i<2->nd2[(i-2).toNat]? =some ⟨b.v,p.1,q.1⟩->(∀e,ev nd2 p.1 e=ev q.2.1 p.1 e)->(∀e,ev nd2 q.1 e=ev q.2.1 q.1 e)->Eqv nd2 i nd n:=fun nd2 hR2 i hi hx u1 u2 e=>by
   rw[eQX hR2.wf hi hx,eQX h.wf h2 hb];simp only;rw[u1,u2,p3' e,q3 e]
  have hnot:(⟨b.v,p.1,q.1⟩:Br)∉q.2.1:=fun hin=>by
   obtain⟨j,hj,hjx⟩:=List.mem_iff_getElem.1 hin;obtain⟨k,hk⟩:=W2.sur j hj;obtain⟨_,_,r3⟩:=W2.num k _ hk (by omega);have hm2:=mean q.2.1 hR ((j+2:Nat):Int) (by omega) (by rw[show(((j+2:Nat):Int)-2).toNat=j by omega,List.getElem?_eq_getElem hj,hjx]) (fun _=>rfl) (fun _=>rfl);have hk2:=(List.getElem?_eq_some_iff.1 hk).1;have hlen2:=W2.len;have:=inj h (n:=(k:Int)+2) (n':=n) (by omega) h0 (by omega) hn (r3.symm.trans hm2);have hkn:(n-2).toNat=k:=by omega
   rw[hkn,hk] at hz;cases hz
  have hR3:Rd0 (q.2.1++ [⟨b.v,p.1,q.1⟩]):=hR.snoc (pQP b1 b2 p1 p2' q1 q2 hne hnot (by rw[hl1];exact b9) (by rw[hl2];exact b10));have hnew:Eqv (q.2.1++ [⟨b.v,p.1,q.1⟩]) ((q.2.1.length+2:Nat):Int) nd n:=mean _ hR3 _ (by omega) (by
   rw[show(((q.2.1.length+2:Nat):Int)-2).toNat=q.2.1.length by omega,List.getElem?_append_right (Nat.le_refl _)];simp) (fun e=>gQI hR.wf _ p2' e) (fun e=>gQI hR.wf _ q2 e)
  refine⟨⟨hR3,by rw[List.length_set];exact W2.len,fun k mm hk hmm=>?_,fun j hj=>?_⟩,by omega,by simp only[List.length_append,List.length_cons,List.length_nil];omega,hnew,l1++(l2++ [⟨b.v,p.1,q.1⟩]),by simp only;rw[q4,p4];simp⟩
  ·simp only at hk ⊢;by_cases hkn:(n-2).toNat=k
   ·subst hkn;rw[List.getElem?_set_self (by have:=W2.len;omega)] at hk;cases hk;refine⟨by omega,by simp,?_⟩;rw[show(((n-2).toNat:Nat):Int)+2=n by omega];exact hnew
   ·rw[List.getElem?_set_ne hkn] at hk;obtain⟨r1,r2,r3⟩:=W2.num k mm hk hmm;exact⟨r1,by simp;omega,fun e=>by rw[gQI hR.wf _ (by omega)];exact r3 e⟩
  ·simp only[List.length_append,List.length_cons,List.length_nil] at hj;by_cases hjl:j<q.2.1.length
   ·obtain⟨k,hk⟩:=W2.sur j hjl;refine⟨k,?_⟩;simp only;rw[List.getElem?_set_ne (fun e=>by rw[e,hk] at hz;cases hz)];exact hk
   ·have:j=q.2.1.length:=by omega
    subst this;exact⟨(n-2).toNat,by simp only;rw[List.getElem?_set_self (by have:=W2.len;omega)]⟩
theorem mQq {nd:List Br}(h:Rd0 nd){r:Int}(h0:0<=r)(hr:r<nd.length+2):VD (bQh nd r).1 (bQh nd r).2/\Eqv (bQh nd r).1 (bQh nd r).2 nd r/\(bQh nd r).1.length<=nd.length:=by
 obtain⟨W,w1,w2,w3,_⟩:=mQp h (r.toNat+1) r _ h0 (by omega) hr (Wi.start nd);have f:=(cQs h.wf (r.toNat+1) r _ h0 (by omega) hr (Wi.start nd).len).cnt;have e1:(bQh nd r).1=(vis nd (r.toNat+1) r ([],List.replicate nd.length 0)).2.1:=rfl;have e2:(bQh nd r).2=(vis nd (r.toNat+1) r ([],List.replicate nd.length 0)).1:=rfl;rw[<-e1] at w3 w2 f;rw[<-e2] at w3 w2 w1;have hR:Rd0 (bQh nd r).1:=W.rd;refine⟨⟨hR,w1,w2,?_⟩,w3,?_⟩
 ·rw[gQH hR h w1 h0 w2 hr w3]
 ·have:=List.count_le_length (a:=0) (l:=List.replicate nd.length 0);simp at this f;omega
end
section
open Go Go.RowKit
theorem iQM {b:Br}:∀{l:List Br}{i:Nat},bQp b l=some i->l[i]? =some b
 | [],i,h=>by cases h
 | x::l,i,h=>by
  unfold bQp at h;split at h
  ·rename_i hx;cases h;simp[hx]
  ·cases hf:bQp b l with
   | none=>rw[hf] at h;cases h
   | some k=>rw[hf] at h;cases h;simpa using iQM hf
theorem iQN {b:Br}:∀{l:List Br},bQp b l=none->b∉l
 | [],_=>by simp
 | x::l,h=>by
  unfold bQp at h;split at h
  ·cases h
  ·rename_i hx;cases hf:bQp b l with
   | some k=>rw[hf] at h;cases h
   | none=>simp only[List.mem_cons,not_or];exact⟨fun e=>hx e.symm,iQN hf⟩
structure UniqOk (nd:List Br) (b:Br) (r:List Br×Int):Prop where
 rd:Rd0 r.1
 pos:0<=r.2
 lt:r.2<r.1.length+2
 mean:∀e,ev r.1 r.2 e=if e b.v.toNat then ev nd b.h e else ev nd b.l e
 lvl:b.v<=aQz r.1 r.2
 ext:∃l,r.1=nd++l
theorem pQQ {nd:List Br}(h:Rd0 nd){b:Br}(b1:0<=b.v)(b2:b.v<=63)(b3:0<=b.l)(b4:b.l<nd.length+2)(b5:0<=b.h)(b6:b.h<nd.length+2)(b9:b.v<aQz nd b.l)(b10:b.v<aQz nd b.h):UniqOk nd b (bQu b nd):=by
 unfold bQu;split
 ·rename_i he;exact⟨h,b3,b4,fun e=>by simp only;rw[<-he];split<;>rfl,by simp only;omega,[],by simp⟩
 ·rename_i hne;split
  ·rename_i i hi;have hx:=iQM hi;have hlt:=(List.getElem?_eq_some_iff.1 hx).1;have hx':nd[(((i+2:Nat):Int)-2).toNat]? =some b:=by rw[show(((i+2:Nat):Int)-2).toNat=i by omega];exact hx
   have h2:¬(((i+2:Nat):Int)<2):=by omega
   exact⟨h,by simp only;omega,by simp only;omega,fun e=>eQX h.wf h2 hx',by simp only;rw[bQU h2 hx'];exact Int.le_refl _,[],by simp⟩
  ·rename_i hn;have hok:=pQP b1 b2 b3 b4 b5 b6 hne (iQN hn) b9 b10;have hR:=h.snoc hok;have hx':(nd++ [b])[(((nd.length+2:Nat):Int)-2).toNat]? =some b:=by
    rw[show(((nd.length+2:Nat):Int)-2).toNat=nd.length by omega,List.getElem?_append_right (Nat.le_refl _)];simp
   have h2:¬(((nd.length+2:Nat):Int)<2):=by omega
   exact⟨hR,by simp only;omega,by simp only[List.length_append,List.length_cons,List.length_nil];omega,fun e=>by simp only;rw[eQX hR.wf h2 hx',gQI h.wf _ b6,gQI h.wf _ b4],by simp only;rw[bQU h2 hx'];exact Int.le_refl _,[b],rfl⟩
theorem Rd0.dok {nd:List Br}(h:Rd0 nd):DOk nd:=⟨h.wf,fun j b hb=>⟨(h j b hb).1,(h j b hb).2.1⟩⟩
theorem dQK {nd:List Br}(h:Rd0 nd){n v:Int}(_:0<=n)(hn:n<nd.length+2)(hv:v<=aQz nd n)(h64:v<64):
  (∀e,ev nd n e=if e v.toNat then ev nd (aQk nd n v).2 e else ev nd (aQk nd n v).1 e)/\v<aQz nd (aQk nd n v).1/\v<aQz nd (aQk nd n v).2/\(aQk nd n v).1<nd.length+2/\(aQk nd n v).2<nd.length+2:=by
 unfold aQk;split
 ·rename_i hne;exact⟨fun e=>by simp,by simp only;omega,by simp only;omega,hn,hn⟩
 ·rename_i he;have he:=Decidable.not_not.1 he;have h2:¬n<2:=fun hh=>by rw[cQ2 hh] at he;omega
  obtain⟨b,hb⟩:=iQL h2 hn;obtain⟨b1,b2,b3,b4,b5,b6,b7,b8,b9,b10⟩:=h _ _ hb;have hbv:=bQU h2 hb;simp only[hb];exact⟨fun e=>by rw[eQX h.wf h2 hb,show v=b.v by omega],by omega,by omega,by omega,by omega⟩
def opB (op:Int)(x y:Bool):Bool:=if op=0 then x&&y else if op=1 then x||y else if op=3 then !x else if op=4 then !x&&y else x !=y
theorem iQO {op x y:Int}(x0:0<=x)(x1:x<2)(y0:0<=y)(y1:y<2):decide (dQk op x y=1)=opB op (decide (x=1)) (decide (y=1)):=by
 unfold dQk opB;rcases(by omega:x=0∨x=1)with rfl | rfl<;>rcases(by omega:y=0∨y=1)with rfl | rfl<;>(split<;>first | rfl | (split<;>first | rfl | (split<;>first | rfl | (split<;>rfl))))
structure At2I (a b:List Br) (op:Int) (st:List Br×List Tr3):Prop where
 rd:Rd0 st.1
 seen:∀t∈st.2,0<=t.2.2/\t.2.2<st.1.length+2/\(∀e,ev st.1 t.2.2 e=opB op (ev a t.1 e) (ev b t.2.1 e))/\min (aQz a t.1) (aQz b t.2.1)<=aQz st.1 t.2.2
structure At2R (a b:List Br) (op:Int) (x y:Int) (st:List Br×List Tr3) (r:Int×(List Br×List Tr3)):Prop where
 inv:At2I a b op r.2
 pos:0<=r.1
 lt:r.1<r.2.1.length+2
 mean:∀e,ev r.2.1 r.1 e=opB op (ev a x e) (ev b y e)
 lvl:min (aQz a x) (aQz b y)<=aQz r.2.1 r.1
 ext:∃l,r.2.1=st.1++l
theorem At2I.ext {a b:List Br}{op:Int}{nd:List Br}{s:List Tr3}(h:At2I a b op (nd,s)){nd':List Br}(hr:Rd0 nd')(he:∃l,nd'=nd++l):At2I a b op (nd',s):=by
 obtain⟨l,rfl⟩:=he;refine⟨hr,fun t ht=>?_⟩;obtain⟨h1,h2,h3,h4⟩:=h.seen t ht;exact⟨h1,by simp only at h2 ⊢;rw[List.length_append];omega,fun e=>by rw[gQI h.rd.wf l h2];exact h3 e,by rw[gQl l h2];exact h4⟩
theorem jQD {a b:List Br}(ha:Rd0 a)(hb:Rd0 b)(op:Int):∀(m:Nat)(x y:Int)(st:List Br×List Tr3),At2I a b op st->0<=x->0<=y->x+y<m->x<a.length+2->y<b.length+2->At2R a b op x y st (at2 a b op m x y st)
 | 0,x,y,st,_,_,_,hm,_,_=>by omega
 | m+1,x,y,st,h,x0,y0,hm,hx,hy=>by
  by_cases hxy:x<2/\y<2
  ·rw[jQA hxy];have hc:=hQx (op:=op) x0 hxy.1 y0 hxy.2;refine⟨h,hc.1,by simp only;omega,fun e=>?_,?_,[],by simp⟩
   ·simp only;rw[bQP hc.2,bQP hxy.1,bQP hxy.2];exact iQO x0 hxy.1 y0 hxy.2
   ·simp only;rw[cQ2 hc.2,cQ2 hxy.1];omega
  cases k:st.2.find? (fun t=>decide (t.1=x/\t.2.1=y))with
  | some t=>
   rw[jQB hxy k];have hk:=List.find?_some k;simp only[decide_eq_true_eq] at hk;obtain⟨rfl,rfl⟩:=hk;obtain⟨h1,h2,h3,h4⟩:=h.seen t (List.mem_of_find?_eq_some k);exact⟨h,h1,h2,h3,h4,[],by simp⟩
  | none=>
   have hv64:min (aQz a x) (aQz b y)<64:=by
    by_cases c:x<2
    ·have:=cQz hb.dok (n:=y) (fun c2=>hxy ⟨c,c2⟩) (by omega);rw[Int.min_def];split<;>omega
    ·have:=cQz ha.dok (n:=x) c (by omega);rw[Int.min_def];split<;>omega
   have hv0:0<=min (aQz a x) (aQz b y):=by
    have pos:∀{d:List Br},Rd0 d->∀{n:Int},n<d.length+2->0<=aQz d n:=fun{d} hd {n} hn=>by
     by_cases h2:n<2
     ·rw[cQ2 h2];omega
     ·obtain⟨z,hz⟩:=iQL h2 hn;rw[bQU h2 hz];exact(hd _ _ hz).1
    have p1:=pos ha hx;have p2:=pos hb hy;rw[Int.min_def];split<;>omega
   rw[jQC hxy k _ rfl];have hvx:aQz a x=min (aQz a x) (aQz b y)∨aQz b y=min (aQz a x) (aQz b y):=by rw[Int.min_def];split<;>simp
   have hle1:min (aQz a x) (aQz b y)<=aQz a x:=Int.min_le_left _ _;have hle2:min (aQz a x) (aQz b y)<=aQz b y:=Int.min_le_right _ _;have hmin:At2I a b op st->min (aQz a x) (aQz b y)<=min (aQz a x) (aQz b y):=fun _=>Int.le_refl _
   generalize hv:min (aQz a x) (aQz b y)=v at*;obtain⟨s1,s2,s3,s4,s5⟩:=bQg ha.dok (n:=x) x0 hv64;obtain⟨t1,t2,t3,t4,t5⟩:=bQg hb.dok (n:=y) y0 hv64;obtain⟨u1,u2,u3,u4,u5⟩:=dQK ha x0 hx hle1 hv64;obtain⟨z1,z2,z3,z4,z5⟩:=dQK hb y0 hy hle2 hv64;have dec:(aQk a x v).1+(aQk b y v).1<m/\(aQk a x v).2+(aQk b y v).2<m:=by
    rcases hvx with e | e
    ·have:=s5 e;omega
    ·have:=t5 e;omega
   have i1:=jQD ha hb op m _ _ st h s1 t1 dec.1 u4 z4;generalize (at2 a b op m (aQk a x v).1 (aQk b y v).1 st)=r0 at*;have i2:=jQD ha hb op m _ _ r0.2 i1.inv s3 t3 dec.2 u5 z5;generalize (at2 a b op m (aQk a x v).2 (aQk b y v).2 r0.2)=r1 at*;obtain⟨l1,hl1⟩:=i1.ext;obtain⟨l2,hl2⟩:=i2.ext;have r0lt:r0.1<r1.2.1.length+2:=by rw[hl2,List.length_append];have:=i1.lt;omega
   have r0m:∀e,ev r1.2.1 r0.1 e=ev r0.2.1 r0.1 e:=fun e=>by rw[hl2,gQI i1.inv.rd.wf l2 i1.lt]
   have r0l:aQz r1.2.1 r0.1=aQz r0.2.1 r0.1:=by rw[hl2,gQl l2 i1.lt]
   have g1:v<aQz r1.2.1 r0.1:=by rw[r0l];have:=i1.lvl;rw[Int.min_def] at this;split at this<;>omega
   have g2:v<aQz r1.2.1 r1.1:=by have:=i2.lvl;rw[Int.min_def] at this;split at this<;>omega
   have U:=pQQ i2.inv.rd (b:=⟨v,r0.1,r1.1⟩) hv0 (by simp only;omega) i1.pos r0lt i2.pos i2.lt g1 g2;have hu3:=U.ext;have hI:=At2I.ext (s:=r1.2.2) i2.inv U.rd U.ext;generalize bQu ⟨v,r0.1,r1.1⟩ r1.2.1=u at*;have hm2:∀e,ev u.1 u.2 e=opB op (ev a x e) (ev b y e):=fun e=>by
    rw[U.mean e,u1 e,z1 e];simp only;split
    ·exact i2.mean e
    ·rw[r0m e];exact i1.mean e
   refine⟨⟨U.rd,fun t ht=>?_⟩,U.pos,U.lt,hm2,by rw[hv];exact U.lvl,?_⟩
   ·simp only[List.mem_append,List.mem_singleton] at ht;rcases ht with ht | rfl
    ·exact hI.seen t ht
    ·exact⟨U.pos,U.lt,hm2,by rw[hv];exact U.lvl⟩
   ·obtain⟨l3,hl3⟩:=hu3;exact⟨l1++(l2++l3),by simp only;rw[hl3,hl2,hl1];simp⟩
theorem nQw:∀(N:Nat)(l:List Nat),l.Nodup->(∀x∈l,x<N)->l.length<=N
 | 0,l,_,h=>by
  cases l with
  | nil=>simp
  | cons x l=>have:=h x (by simp);omega
 | N+1,l,hn,h=>by
  have h1:=nQw N (l.filter (fun x=>decide (x≠N))) (hn.filter _) (fun x hx=>by
   rw[List.mem_filter,decide_eq_true_eq] at hx;have:=h x hx.1;omega)
  have h2:l.length=(l.filter (fun x=>decide (x≠N))).length+l.count N:=by
   clear h h1 hn;induction l with
   | nil=>rfl
   | cons x l ih=>
    by_cases e:x=N
    ·subst e;rw[List.filter_cons_of_neg (by simp),List.count_cons_self,List.length_cons];omega
    ·rw[List.filter_cons_of_pos (by simpa using e),List.count_cons_of_ne e,List.length_cons,List.length_cons];omega
  have h3:=List.nodup_iff_count.1 hn N;omega
def xQt (M:Nat)(t:Tr3):Nat:=t.1.toNat*M+t.2.1.toNat
structure At2B (n m:Nat) (st:List Br×List Tr3):Prop where
 rng:∀t∈st.2,0<=t.1/\t.1<n/\0<=t.2.1/\t.2.1<m
 nod:(st.2.map (xQt m)).Nodup
 le:st.1.length<=st.2.length
theorem At2B.bound {n m:Nat}{st:List Br×List Tr3}(h:At2B n m st):st.2.length<=n*m/\st.1.length<=n*m:=by
 have:=nQw (n*m) _ h.nod (fun x hx=>by
  simp only[List.mem_map] at hx;obtain⟨t,ht,rfl⟩:=hx;obtain⟨h1,h2,h3,h4⟩:=h.rng t ht;unfold xQt;have:(t.1.toNat+1)*m<=n*m:=Nat.mul_le_mul_right _ (by omega);rw[Nat.add_mul] at this;omega)
 rw[List.length_map] at this;exact⟨this,Nat.le_trans h.le this⟩
theorem sQk {m:Nat}{x y x' y':Nat}(hy:y<m)(hy':y'<m)(h:x*m+y=x'*m+y'):x=x'/\y=y':=by
 have hx:x=x':=by
  have e1:(x*m+y)/m=x:=by rw[Nat.mul_comm,Nat.mul_add_div (by omega),Nat.div_eq_of_lt hy];rfl
  have e2:(x'*m+y')/m=x':=by rw[Nat.mul_comm,Nat.mul_add_div (by omega),Nat.div_eq_of_lt hy'];rfl
  rw[<-e1,<-e2,h]
 subst hx;exact⟨rfl,by omega⟩
theorem mQr {a b:List Br}(ha:DOk a)(hb:DOk b)(op:Int):∀(f:Nat)(x y:Int)(st:List Br×List Tr3),At2B (a.length+2) (b.length+2) st->0<=x->0<=y->x+y<f->x<a.length+2->y<b.length+2->
  At2B (a.length+2) (b.length+2) (at2 a b op f x y st).2/\(∀t∈(at2 a b op f x y st).2.2,t∈st.2∨t.1+t.2.1<=x+y)
 | 0,x,y,st,_,_,_,hm,_,_=>by omega
 | f+1,x,y,st,h,x0,y0,hm,hx,hy=>by
  by_cases hxy:x<2/\y<2
  ·rw[jQA hxy];exact⟨h,fun t ht=>.inl ht⟩
  cases k:st.2.find? (fun t=>decide (t.1=x/\t.2.1=y))with
  | some t=>rw[jQB hxy k];exact⟨h,fun t ht=>.inl ht⟩
  | none=>
   have hv64:min (aQz a x) (aQz b y)<64:=by
    by_cases c:x<2
    ·have:=cQz hb (n:=y) (fun c2=>hxy ⟨c,c2⟩) (by omega);rw[Int.min_def];split<;>omega
    ·have:=cQz ha (n:=x) c (by omega);rw[Int.min_def];split<;>omega
   rw[jQC hxy k _ rfl];have hvx:aQz a x=min (aQz a x) (aQz b y)∨aQz b y=min (aQz a x) (aQz b y):=by rw[Int.min_def];split<;>simp
   generalize min (aQz a x) (aQz b y)=v at*;obtain⟨s1,s2,s3,s4,s5⟩:=bQg ha (n:=x) x0 hv64;obtain⟨t1,t2,t3,t4,t5⟩:=bQg hb (n:=y) y0 hv64;have dec:(aQk a x v).1+(aQk b y v).1<x+y/\(aQk a x v).2+(aQk b y v).2<x+y:=by
    rcases hvx with e | e
    ·have:=s5 e;omega
    ·have:=t5 e;omega
   obtain⟨i1,j1⟩:=mQr ha hb op f _ _ st h s1 t1 (by omega) (by omega) (by omega);generalize (at2 a b op f (aQk a x v).1 (aQk b y v).1 st)=r0 at*;obtain⟨i2,j2⟩:=mQr ha hb op f _ _ r0.2 i1 s3 t3 (by omega) (by omega) (by omega);generalize (at2 a b op f (aQk a x v).2 (aQk b y v).2 r0.2)=r1 at*;have ul:(bQu ⟨v,r0.1,r1.1⟩ r1.2.1).1.length<=r1.2.1.length+1:=by
    unfold bQu;split
    ·exact Nat.le_succ _
    ·split
     ·exact Nat.le_succ _
     ·simp
   have hnot:∀t∈r1.2.2,¬(t.1=x/\t.2.1=y):=fun t ht hh=>by
    rcases j2 t ht with h1 | h1
    ·rcases j1 t h1 with h2 | h2
     ·have:=List.find?_eq_none.1 k t h2;simp at this;exact this hh.1 hh.2
     ·omega
    ·omega
   refine⟨⟨fun t ht=>?_,?_,?_⟩,fun t ht=>?_⟩
   ·simp only[List.mem_append,List.mem_singleton] at ht;rcases ht with ht | rfl
    ·exact i2.rng t ht
    ·exact⟨x0,by simp only;omega,y0,by simp only;omega⟩
   ·simp only[List.map_append,List.map_cons,List.map_nil];rw[List.nodup_append];refine⟨i2.nod,by simp,fun p hp q hq e=>?_⟩;simp only[List.mem_singleton] at hq;subst hq;subst e;simp only[List.mem_map] at hp;obtain⟨t,ht,hk⟩:=hp;obtain⟨r1',r2',r3',r4'⟩:=i2.rng t ht;unfold xQt at hk;have:=sQk (m:=b.length+2) (by omega) (by simp only;omega) hk;simp only at this;exact hnot t ht ⟨by omega,by omega⟩
   ·simp only[List.length_append,List.length_cons,List.length_nil];have:=i2.le;omega
   ·simp only[List.mem_append,List.mem_singleton] at ht;rcases ht with ht | rfl
    ·rcases j2 t ht with h1 | h1
     ·rcases j1 t h1 with h2 | h2
      ·exact .inl h2
      ·exact .inr (by omega)
     ·exact .inr (by omega)
    ·exact .inr (by simp only;omega)
theorem jQE {a b:List Br}{ra rb:Int}(ha:VD a ra)(hb:VD b rb)(op:Int):(sQj a ra b rb op).2.2.length<=(a.length+2)*(b.length+2)/\(sQj a ra b rb op).2.1.length<=(a.length+2)*(b.length+2):=
 (mQr ha.dok hb.dok op (ra.toNat+rb.toNat+1) ra rb ([],[]) ⟨fun t ht=>by simp at ht,by simp,Nat.le_refl _⟩ ha.2.1 hb.2.1 (by have:=ha.2.1;have:=hb.2.1;omega) ha.2.2.1 hb.2.2.1).1.bound
theorem uQo {a b:List Br}{ra rb:Int}(ha:VD a ra)(hb:VD b rb)(op:Int):VD (cQO a ra b rb op).1 (cQO a ra b rb op).2/\∀e,ev (cQO a ra b rb op).1 (cQO a ra b rb op).2 e=opB op (ev a ra e) (ev b rb e):=by
 have R:=jQD ha.rd0 hb.rd0 op (ra.toNat+rb.toNat+1) ra rb ([],[]) ⟨fun j x hx=>by simp at hx,fun t ht=>by simp at ht⟩ ha.2.1 hb.2.1 (by have:=ha.2.1;have:=hb.2.1;omega) ha.2.2.1 hb.2.2.1;obtain⟨n1,n2,n3⟩:=mQq R.inv.rd R.pos R.lt;exact⟨n1,fun e=>(n2 e).trans (R.mean e)⟩
end
end
section
section
open Go Go.RowKit
def gQ5:Nat->List Nat->List (List Nat)×Bool
 | 0,_=>([],true)
 | _+1,[]=>([],true)
 | n+1,b::l=>
  if b=32∨b=9 then gQ5 n l
  else if b=40∨b=41∨b=33 then([b]::(gQ5 n l).1,(gQ5 n l).2)
  else if(b=38∨b=124)/\l.head? =some b then([b,b]::(gQ5 n l.tail).1,(gQ5 n l.tail).2)
  else if eQq b then((b::l).takeWhile cQq::(gQ5 n ((b::l).dropWhile cQq)).1,(gQ5 n ((b::l).dropWhile cQq)).2)
  else([],false)
def cQe (l:List Nat):List (List Nat)×Bool:=gQ5 l.length l
theorem eQN {b:Nat}(h:eQq b=true):cQq b=true:=by unfold cQq;rw[h];rfl
theorem gQ6 {b:Nat}{l:List Nat}(h:eQq b=true):(b::l).dropWhile cQq=l.dropWhile cQq:=by rw[List.dropWhile_cons,if_pos (eQN h)]
theorem cQT (p:Nat->Bool)(l:List Nat):(l.dropWhile p).length<=l.length:=(List.dropWhile_suffix p).length_le
theorem eQy:∀(n m:Nat)(l:List Nat),l.length<=n->l.length<=m->gQ5 n l=gQ5 m l
 | n,m,[],_,_=>by cases n<;>cases m<;>rfl
 | 0,_,b::l,h,_=>by simp at h
 | _+1,0,b::l,_,h=>by simp at h
 | n+1,m+1,b::l,h,h'=>by
  simp only[List.length_cons] at h h';have e1:=eQy n m l (by omega) (by omega);have e2:=eQy n m l.tail (by rw[List.length_tail];omega) (by rw[List.length_tail];omega);have hd:=cQT cQq l;have e3:=eQy n m (l.dropWhile cQq) (by omega) (by omega);simp only[gQ5];split
  ·exact e1
  ·split
   ·rw[e1]
   ·split
    ·rw[e2]
    ·split
     ·rename_i hl;rw[gQ6 hl,e3]
     ·rfl
theorem fQB:cQe []=([],true):=rfl
theorem hQA {b:Nat}{l:List Nat}(h:b=32∨b=9):cQe (b::l)=cQe l:=by
 show gQ5 (l.length+1) (b::l)=_;rw[gQ5,if_pos h];rfl
theorem dQo {b:Nat}{l:List Nat}(h:b=40∨b=41∨b=33):cQe (b::l)=([b]::(cQe l).1,(cQe l).2):=by
 show gQ5 (l.length+1) (b::l)=_;rw[gQ5,if_neg (by omega),if_pos h];rfl
theorem dQ5 {b:Nat}{l:List Nat}(h:b=38∨b=124):cQe (b::b::l)=([b,b]::(cQe l).1,(cQe l).2):=by
 show gQ5 ((b::l).length+1) (b::b::l)=_;rw[gQ5,if_neg (by omega),if_neg (by omega),if_pos ⟨h,rfl⟩];have:=eQy (b::l).length l.length l (by simp) (Nat.le_refl _);rw[show(b::l).tail=l from rfl,this];rfl
theorem hQB {b:Nat}{l:List Nat}(h:eQq b=true):cQe (b::l)=((b::l).takeWhile cQq::(cQe ((b::l).dropWhile cQq)).1,(cQe ((b::l).dropWhile cQq)).2):=by
 have hb:b=95∨(97<=b/\b<=122)∨(65<=b/\b<=90):=by unfold eQq at h;simp at h;omega
 show gQ5 (l.length+1) (b::l)=_;rw[gQ5,if_neg (by omega),if_neg (by omega),if_neg (by omega),if_pos h,gQ6 h];have:=eQy l.length (l.dropWhile cQq).length (l.dropWhile cQq) (cQT _ _) (Nat.le_refl _);rw[this]<;>rfl
theorem gQ7 {b:Nat}{l:List Nat}(h1:¬(b=32∨b=9))(h2:¬(b=40∨b=41∨b=33))(h3:¬((b=38∨b=124)/\l.head? =some b))(h4:eQq b=false):cQe (b::l)=([],false):=by
 show gQ5 (l.length+1) (b::l)=_;rw[gQ5,if_neg h1,if_neg h2,if_neg h3,if_neg (by rw[h4];decide)]
theorem cQ3 (l:List Nat):cQe (bQj l)=cQe l:=by
 induction l with
 | nil=>rfl
 | cons b l ih=>
  unfold bQj at*;rw[List.dropWhile_cons];split
  ·rename_i h;rw[ih,hQA];simpa using h
  ·rfl
theorem eQz {l:List Nat}{b:Nat}{r:List Nat}(h:bQj l=b::r):¬(b=32∨b=9):=by
 unfold bQj at h;induction l with
 | nil=>cases h
 | cons x l ih=>
  rw[List.dropWhile_cons] at h;split at h
  ·exact ih h
  ·rename_i hx;cases h;simpa using hx
theorem jQF {b:Nat}(hb:b=40∨b=41∨b=33)(p:Ps):match bQ7 [b] p with
  | (true,p')=>cQe p.r=([b]::(cQe p'.r).1,(cQe p'.r).2)/\p'.f=p.f/\p'.u=p.u/\p'.r.length<p.r.length
  | (false,p')=>(cQe p.r).1.head? ≠some [b]/\p'={p with r:=bQj p.r}:=by
 have hl:=cQ3 p.r;have htl:=dQF p.r;rw[fQw];cases ht:bQj p.r with
 | nil=>
  rw[ht] at hl;simp only[List.isPrefixOf];refine⟨?_,by simp⟩;rw[<-hl];simp[fQB]
 | cons x r=>
  have hx:=eQz ht;rw[ht] at hl htl;by_cases hxb:x=b
  ·subst hxb;simp only[List.isPrefixOf,beq_self_eq_true,Bool.true_and];refine⟨by rw[<-hl,dQo hb];simp,trivial,trivial,by simp at htl ⊢;omega⟩
  ·have: [b].isPrefixOf (x::r)=false:=by simp[List.isPrefixOf,Ne.symm hxb]
   rw[this];simp only;refine⟨fun h=>?_,by simp⟩;rw[<-hl] at h;by_cases h2:x=40∨x=41∨x=33
   ·rw[dQo h2] at h;simp at h;exact hxb h
   ·by_cases h3:(x=38∨x=124)/\r.head? =some x
    ·cases r with
     | nil=>simp at h3
     | cons y r=>
      simp at h3;obtain⟨h3,rfl⟩:=h3;rw[dQ5 h3] at h;simp at h
    ·by_cases h4:eQq x=true
     ·rw[hQB h4,List.takeWhile_cons,if_pos (eQN h4)] at h;simp at h;exact hxb h.1
     ·rw[gQ7 hx h2 h3 (by simpa using h4)] at h;simp at h
theorem gQ8 {b:Nat}(hb:b=38∨b=124)(p:Ps):match bQ7 [b,b] p with
  | (true,p')=>cQe p.r=([b,b]::(cQe p'.r).1,(cQe p'.r).2)/\p'.f=p.f/\p'.u=p.u/\p'.r.length<p.r.length
  | (false,p')=>(cQe p.r).1.head? ≠some [b,b]/\p'={p with r:=bQj p.r}:=by
 have hl:=cQ3 p.r;have htl:=dQF p.r;rw[fQw];cases ht:bQj p.r with
 | nil=>
  rw[ht] at hl;simp only[List.isPrefixOf];refine⟨?_,by simp⟩;rw[<-hl];simp[fQB]
 | cons x r=>
  have hx:=eQz ht;rw[ht] at hl htl;by_cases hxb:x=b/\r.head? =some b
  ·obtain⟨rfl,hr⟩:=hxb;cases r with
   | nil=>simp at hr
   | cons y r=>
    simp at hr;subst hr;simp only[List.isPrefixOf,beq_self_eq_true,Bool.true_and];refine⟨by rw[<-hl,dQ5 hb];simp,trivial,trivial,by simp at htl ⊢;omega⟩
  ·have: [b,b].isPrefixOf (x::r)=false:=by
    rw[<-Bool.not_eq_true];intro h;cases r with
    | nil=>simp[List.isPrefixOf] at h
    | cons y r=>simp[List.isPrefixOf] at h;exact hxb ⟨h.1.symm,by simp[h.2]⟩
   rw[this];simp only;refine⟨fun h=>?_,by simp⟩;rw[<-hl] at h;by_cases h2:x=40∨x=41∨x=33
   ·rw[dQo h2] at h;simp at h
   ·by_cases h3:(x=38∨x=124)/\r.head? =some x
    ·cases r with
     | nil=>simp at h3
     | cons y r=>
      simp at h3;obtain⟨h3,rfl⟩:=h3;rw[dQ5 h3] at h;simp at h;exact hxb ⟨h,by simp[h]⟩
    ·by_cases h4:eQq x=true
     ·have hid:cQq b=false:=by rcases hb with rfl | rfl<;>decide
      rw[hQB h4,List.takeWhile_cons,if_pos (eQN h4)] at h;simp at h;have hi:=eQN h4;rw[h.1,hid] at hi;cases hi
     ·rw[gQ7 hx h2 h3 (by simpa using h4)] at h;simp at h
def cQ4 (op:List Nat)(mk:Fm->Fm->Fm)(opd:List (List Nat)->Option (Fm×Bool×List (List Nat))):Nat->Fm->Bool->List (List Nat)->Option (Fm×Bool×List (List Nat))
 | 0,_,_,_=>none
 | m+1,a,u,ts=>if ts.head? =some op then
   match opd ts.tail with
   | none=>none
   | some (b,v,ts')=>cQ4 op mk opd m (mk a b) (u||v) ts'
  else some (a,u,ts)
def bQ5 (op:List Nat)(mk:Fm->Fm->Fm)(opd:List (List Nat)->Option (Fm×Bool×List (List Nat)))(ts:List (List Nat)):Option (Fm×Bool×List (List Nat)):=match opd ts with
 | none=>none
 | some (a,u,ts')=>cQ4 op mk opd (ts'.length+1) a u ts'
def pQR (t:List Nat):Bool:=match t with
 | []=>false
 | b::_=>eQq b
def jQG (ix:List Nat->Option Nat)(t:List Nat):Fm×Bool:=if t=dQE then(.c true,false)else if t=cQ0 then(.c false,false)else(.v ((ix t).getD 0),(ix t).isNone)
def fQm (ix:List Nat->Option Nat):Nat->List (List Nat)->Option (Fm×Bool×List (List Nat))
 | 0,_=>none
 | _+1,[]=>none
 | n+1,t::ts=>if t=[33] then
   match fQm ix n ts with
   | none=>none
   | some (a,u,ts')=>some (.not a,u,ts')
  else if t=[40] then
   match bQ5 [124,124] .or (bQ5 [38,38] .and (fQm ix n)) ts with
   | none=>none
   | some (a,u,ts')=>if ts'.head? =some [41] then some (a,u,ts'.tail)else none
  else if pQR t then some ((jQG ix t).1,(jQG ix t).2,ts)else none
def iQP (ix:List Nat->Option Nat)(n:Nat)(ts:List (List Nat)):Option (Fm×Bool×List (List Nat)):=bQ5 [124,124] .or (bQ5 [38,38] .and (fQm ix n)) ts
def aQ4:Fm->Nat->List Fz
 | .c b,_=>[⟨if b then 1 else 0,0,0,0⟩]
 | .v n,_=>[⟨2,(n:Nat),0,0⟩]
 | .not a,k=>aQ4 a k++ [⟨3,0,((k+szF a-1:Nat):Int),0⟩]
 | .and a b,k=>aQ4 a k++aQ4 b (k+szF a)++ [⟨4,0,((k+szF a-1:Nat):Int),((k+szF a+szF b-1:Nat):Int)⟩]
 | .or a b,k=>aQ4 a k++aQ4 b (k+szF a)++ [⟨5,0,((k+szF a-1:Nat):Int),((k+szF a+szF b-1:Nat):Int)⟩]
theorem aQE:∀(t:Fm)(k:Nat),(aQ4 t k).length=szF t
 | .c _,_=>rfl
 | .v _,_=>rfl
 | .not a,k=>by simp[aQ4,szF,aQE a k]
 | .and a b,k=>by simp[aQ4,szF,aQE a k,aQE b,Nat.add_assoc]
 | .or a b,k=>by simp[aQ4,szF,aQE a k,aQE b,Nat.add_assoc]
theorem bQl:∀t:Fm,0<szF t
 | .c _=>Nat.one_pos
 | .v _=>Nat.one_pos
 | .not _=>Nat.succ_pos _
 | .and _ _=>Nat.succ_pos _
 | .or _ _=>Nat.succ_pos _
def Cor (p:Ps)(r:Option (Nat×Ps))(rt:Option (Fm×Bool×List (List Nat))):Prop:=match rt with
 | none=>r=none
 | some (t,u,ts)=>∃p',r=some (p.f.length+szF t-1,p')/\p'.f=p.f++aQ4 t p.f.length/\p'.u=(p.u||u)/\cQe p'.r=(ts,(cQe p.r).2)/\p'.r.length<p.r.length
def vQ9 (opd:Ps->Option (Nat×Ps))(opt:List (List Nat)->Option (Fm×Bool×List (List Nat))):Prop:=∀p,Cor p (opd p) (opt (cQe p.r).1)
def sQl (opt:List (List Nat)->Option (Fm×Bool×List (List Nat))):Prop:=∀ts t u ts',opt ts=some (t,u,ts')->ts'.length<ts.length
theorem nQx {op:List Nat}{o:Int}{mk:Fm->Fm->Fm}{opd:Ps->Option (Nat×Ps)}{opt:List (List Nat)->Option (Fm×Bool×List (List Nat))}
  (hsk:∀p,match bQ7 op p with
   | (true,p')=>cQe p.r=(op::(cQe p'.r).1,(cQe p'.r).2)/\p'.f=p.f/\p'.u=p.u/\p'.r.length<p.r.length
   | (false,p')=>(cQe p.r).1.head? ≠some op/\p'={p with r:=bQj p.r})
  (hmk:∀a b k,aQ4 (mk a b) k=aQ4 a k++aQ4 b (k+szF a)++ [⟨o,0,((k+szF a-1:Nat):Int),((k+szF a+szF b-1:Nat):Int)⟩]) (hsz:∀a b,szF (mk a b)=szF a+szF b+1) (H:vQ9 opd opt) (hl:sQl opt):
  ∀(m m':Nat) (a:Fm) (u:Bool) (p0 p:Ps),p.f=p0.f++aQ4 a p0.f.length->p.u=(p0.u||u)->(cQe p.r).2=(cQe p0.r).2->p.r.length<p0.r.length->p.r.length<m->(cQe p.r).1.length<m'->
   Cor p0 (gQQ op o opd m (p0.f.length+szF a-1) p) (cQ4 op mk opt m' a u (cQe p.r).1)
 | 0,m',a,u,p0,p,_,_,_,_,h,_=>by omega
 | m+1,0,a,u,p0,p,_,_,_,_,_,h=>by omega
 | m+1,m'+1,a,u,p0,p,hf,hu,hl2,hr,hm,hm'=>by
  have hs:=hsk p;unfold gQQ cQ4;cases hsp:bQ7 op p with
  | mk b p1=>
  rw[hsp] at hs;cases b with
  | false=>
   obtain⟨h1,rfl⟩:=hs;rw[if_neg h1];refine⟨_,rfl,hf,hu,?_,?_⟩
   ·simp only;rw[cQ3,<-hl2]
   ·have:=dQF p.r;simp only;omega
  | true=>
   obtain⟨h1,h2,h3,h4⟩:=hs;have hh:=congrArg Prod.fst h1;have hh2:=congrArg Prod.snd h1;simp only at hh hh2;rw[hh,List.head?_cons,if_pos rfl,List.tail_cons];simp only;have hc:=H p1;cases ho:opt (cQe p1.r).1 with
   | none=>
    rw[ho] at hc;simp only[Cor] at hc ⊢;rw[hc]
   | some q=>
    obtain⟨t,v,ts⟩:=q;rw[ho] at hc;obtain⟨p2,e1,e2,e3,e4,e5⟩:=hc;rw[e1];simp only;have hlt:=hl _ _ _ _ ho;have pa:=bQl a;have pt:=bQl t;rw[hf] at h2;have hfl:p1.f.length=p0.f.length+szF a:=by rw[h2,List.length_append,aQE]
    have ih:=nQx hsk hmk hsz H hl m m' (mk a t) (u||v) p0 {p2 with f:=p2.f++ [⟨o,0,((p0.f.length+szF a-1:Nat):Int),((p1.f.length+szF t-1:Nat):Int)⟩]}
     (by simp only;rw[e2,h2,hmk,List.length_append,aQE];simp) (by simp only;rw[e3,h3,hu,Bool.or_assoc]) (by simp only;rw[e4,<-hh2,hl2]) (by simp only;omega) (by simp only;omega)
     (by simp only;rw[e4];simp only;rw[hh] at hm';simp only[List.length_cons] at hm';omega)
    simp only[e4] at ih;have hx:p2.f.length=p0.f.length+szF (mk a t)-1:=by rw[e2,List.length_append,aQE,hfl,hsz];omega
    rw[hx];exact ih
theorem fQC {op:List Nat}{o:Int}{mk:Fm->Fm->Fm}{opd:Ps->Option (Nat×Ps)}{opt:List (List Nat)->Option (Fm×Bool×List (List Nat))}
  (hsk:∀p,match bQ7 op p with
   | (true,p')=>cQe p.r=(op::(cQe p'.r).1,(cQe p'.r).2)/\p'.f=p.f/\p'.u=p.u/\p'.r.length<p.r.length
   | (false,p')=>(cQe p.r).1.head? ≠some op/\p'={p with r:=bQj p.r})
  (hmk:∀a b k,aQ4 (mk a b) k=aQ4 a k++aQ4 b (k+szF a)++ [⟨o,0,((k+szF a-1:Nat):Int),((k+szF a+szF b-1:Nat):Int)⟩]) (hsz:∀a b,szF (mk a b)=szF a+szF b+1) (H:vQ9 opd opt) (hl:sQl opt):vQ9 (bQG op o opd) (bQ5 op mk opt):=fun p=>by
 have hc:=H p;unfold bQG bQ5;cases ho:opt (cQe p.r).1 with
 | none=>
  rw[ho] at hc;simp only[Cor] at hc ⊢;rw[hc]
 | some q=>
  obtain⟨t,v,ts⟩:=q;rw[ho] at hc;obtain⟨p2,e1,e2,e3,e4,e5⟩:=hc;rw[e1];simp only;have:=nQx hsk hmk hsz H hl (p2.r.length+1) (ts.length+1) t v p p2 e2 e3 (by rw[e4]) e5 (by omega) (by rw[e4];exact Nat.lt_succ_self _);rw[e4] at this;exact this
theorem kQ3 {op:List Nat}{mk:Fm->Fm->Fm}{opt:List (List Nat)->Option (Fm×Bool×List (List Nat))}(hl:sQl opt):∀(m:Nat)(a:Fm)(u:Bool)(ts:List (List Nat))(t:Fm)(v:Bool)(ts':List (List Nat)),cQ4 op mk opt m a u ts=some (t,v,ts')->ts'.length<=ts.length
 | 0,a,u,ts,t,v,ts',h=>by cases h
 | m+1,a,u,ts,t,v,ts',h=>by
  unfold cQ4 at h;split at h
  ·cases ho:opt ts.tail with
   | none=>rw[ho] at h;cases h
   | some q=>
    obtain⟨b,v2,ts2⟩:=q;rw[ho] at h;have h1:=kQ3 hl m _ _ _ _ _ _ h;have h2:=hl _ _ _ _ ho;rw[List.length_tail] at h2;omega
  ·cases h;exact Nat.le_refl _
theorem dQL {op:List Nat}{mk:Fm->Fm->Fm}{opt:List (List Nat)->Option (Fm×Bool×List (List Nat))}(hl:sQl opt):sQl (bQ5 op mk opt):=fun ts t u ts' h=>by
 unfold bQ5 at h;cases ho:opt ts with
 | none=>rw[ho] at h;cases h
 | some q=>
  obtain⟨b,v2,ts2⟩:=q;rw[ho] at h;have h1:=kQ3 hl _ _ _ _ _ _ _ h;have h2:=hl _ _ _ _ ho;omega
theorem eQO (ix:List Nat->Option Nat):∀n,sQl (fQm ix n)
 | 0=>fun ts t u ts' h=>by cases h
 | n+1=>fun ts t u ts' h=>by
  have ih:=eQO ix n;cases ts with
  | nil=>cases h
  | cons x ts=>
   unfold fQm at h;split at h
   ·cases ho:fQm ix n ts with
    | none=>rw[ho] at h;cases h
    | some q=>
     obtain⟨b,v2,ts2⟩:=q;rw[ho] at h;have:=ih _ _ _ _ ho;cases h;simp;omega
   ·split at h
    ·cases ho:bQ5 [124,124] .or (bQ5 [38,38] .and (fQm ix n)) ts with
     | none=>rw[ho] at h;cases h
     | some q=>
      obtain⟨b,v2,ts2⟩:=q;rw[ho] at h;have:=dQL (op:=[124,124]) (mk:=.or) (dQL (op:=[38,38]) (mk:=.and) ih) _ _ _ _ ho;simp only at h;split at h
      ·cases h;simp[List.length_tail];omega
      ·cases h
    ·split at h
     ·cases h;simp
     ·cases h
theorem uQp (p:Nat->Bool)(l:List Nat):l.take (l.takeWhile p).length=l.takeWhile p:=by
 induction l with
 | nil=>rfl
 | cons x l ih=>
  rw[List.takeWhile_cons];split
  ·rw[List.length_cons,List.take_succ_cons,ih]
  ·rfl
theorem uQq (p:Nat->Bool)(l:List Nat):l.drop (l.takeWhile p).length=l.dropWhile p:=by
 induction l with
 | nil=>rfl
 | cons x l ih=>
  rw[List.takeWhile_cons,List.dropWhile_cons];split
  ·rw[List.length_cons,List.drop_succ_cons,ih]
  ·rfl
theorem pQS (l:List Nat):bQj (bQj l)=bQj l:=by
 cases h:bQj l with
 | nil=>rfl
 | cons b r=>
  have:=eQz h;unfold bQj;rw[List.dropWhile_cons,if_neg (by simpa using this)]
theorem kQ4 {x:Nat}{r:List Nat}(h:cQH (x::r)≠0):eQq x=true/\cQH (x::r)=((x::r).takeWhile cQq).length:=by
 have e:cQH (x::r)=if iQm x then 0 else((x::r).takeWhile cQq).length:=rfl
 rw[e] at h ⊢;split at h
 ·exact absurd rfl h
 ·rename_i hd;rw[if_neg hd];refine⟨?_,rfl⟩;rw[List.takeWhile_cons] at h;split at h
  ·rename_i hi;unfold cQq at hi;rw[Bool.or_eq_true] at hi;exact hi.resolve_right hd
  ·exact absurd rfl h
theorem pQT {x:Nat}{r:List Nat}(h:cQH (x::r)=0):eQq x=false:=by
 have e:cQH (x::r)=if iQm x then 0 else((x::r).takeWhile cQq).length:=rfl
 rw[e] at h;rw[<-Bool.not_eq_true];intro hl;have hb:x=95∨(97<=x/\x<=122)∨(65<=x/\x<=90):=by unfold eQq at hl;simp at hl;omega
 rw[if_neg (by unfold iQm;simp;omega),List.takeWhile_cons,if_pos (eQN hl)] at h;simp at h
theorem sQm {x:Nat}{r:List Nat}(h:eQq x=true):pQR ((x::r).takeWhile cQq)=true:=by
 rw[List.takeWhile_cons,if_pos (eQN h)];exact h
theorem pQU (ix:List Nat->Option Nat):∀n,vQ9 (mQc ix n) (fQm ix n)
 | 0=>fun p=>rfl
 | n+1=>fun p=>by
  have ih:=pQU ix n;have hlim:=eQO ix n;have s1:=jQF (b:=33) (by omega) p;cases hk:bQ7 [33] p with
  | mk b p1=>
  rw[hk] at s1;cases b with
  | true=>
   obtain⟨h1,h2,h3,h4⟩:=s1;rw[jQs ix n hk,h1];have hc:=ih p1;unfold fQm;rw[if_pos rfl];cases ho:fQm ix n (cQe p1.r).1 with
   | none=>
    rw[ho] at hc;simp only[Cor] at hc ⊢;rw[hc]
   | some q=>
    obtain⟨t,v,ts⟩:=q;rw[ho] at hc;obtain⟨p2,e1,e2,e3,e4,e5⟩:=hc;rw[e1];have pt:=bQl t;refine⟨(gQ1 ⟨3,0,((p1.f.length+szF t-1:Nat):Int),0⟩ p2).2,?_,?_,?_,?_,?_⟩
    ·simp only[gQ1];rw[e2,List.length_append,aQE,h2];rfl
    ·simp only[gQ1];rw[e2,h2];simp[aQ4]
    ·simp only[gQ1];rw[e3,h3]
    ·simp only[gQ1];rw[e4,h1]
    ·simp only[gQ1];omega
  | false=>
   obtain⟨h1,rfl⟩:=s1;have s2:=jQF (b:=40) (by omega) {p with r:=bQj p.r};cases hk2:bQ7 [40] {p with r:=bQj p.r}with
   | mk b p2=>
   rw[hk2] at s2;have htl:=dQF p.r;cases b with
   | true=>
    obtain⟨h5,h6,h7,h8⟩:=s2;simp only[cQ3] at h5 h6 h7 h8;rw[jQt ix n hk hk2,h5];have hc:=fQC (op:=[124,124]) (o:=5) (mk:=.or) (fun p=>gQ8 (by omega) p) (fun a b k=>rfl) (fun a b=>rfl) (fQC (op:=[38,38]) (o:=4) (mk:=.and) (fun p=>gQ8 (by omega) p) (fun a b k=>rfl) (fun a b=>rfl) ih hlim) (dQL hlim) p2;unfold fQm;rw[if_neg (by decide),if_pos rfl];unfold eQr;cases ho:bQ5 [124,124] Fm.or (bQ5 [38,38] Fm.and (fQm ix n)) (cQe p2.r).1 with
    | none=>
     rw[ho] at hc;simp only[Cor] at hc ⊢;rw[hc]
    | some q=>
     obtain⟨t,v,ts⟩:=q;rw[ho] at hc;obtain⟨p3,e1,e2,e3,e4,e5⟩:=hc;rw[e1];simp only;have s3:=jQF (b:=41) (by omega) p3;cases hk3:bQ7 [41] p3 with
     | mk b p4=>
     rw[hk3] at s3;cases b with
     | true=>
      obtain⟨g1,g2,g3,g4⟩:=s3;have ht:=congrArg Prod.fst (e4.symm.trans g1);have ht2:=congrArg Prod.snd (e4.symm.trans g1);simp only at ht ht2;rw[ht,List.head?_cons,if_pos rfl,List.tail_cons];refine⟨_,by rw[h6],by rw[g2,e2,h6],by rw[g3,e3,h7],?_,?_⟩
      ·rw[h5];simp only;rw[ht2]
      ·omega
     | false=>
      obtain⟨g1,rfl⟩:=s3;rw[e4] at g1;simp only at g1;rw[if_neg g1];rfl
   | false=>
    obtain⟨h5,rfl⟩:=s2;simp only[cQ3] at h5;rw[mQh ix n hk hk2];simp only[pQS];have hl:=cQ3 p.r;cases ht:bQj p.r with
    | nil=>
     rw[ht,fQB] at hl;rw[<-hl];rfl
    | cons x r=>
     have hx:=eQz ht;rw[ht] at hl htl;rw[<-hl] at h1 h5 ⊢;by_cases hid:cQH (x::r)=0
     ·rw[if_pos hid];have h4:=pQT hid;have:fQm ix (n+1) (cQe (x::r)).1=none:=by
       by_cases h2:x=40∨x=41∨x=33
       ·rw[dQo h2] at h1 h5 ⊢;simp only[List.head?_cons,ne_eq,Option.some.injEq,List.cons.injEq,and_true] at h1 h5;have:x=41:=by omega
        subst this;rfl
       ·by_cases h3:(x=38∨x=124)/\r.head? =some x
        ·cases r with
         | nil=>simp at h3
         | cons y r=>
          simp at h3;obtain⟨h3,rfl⟩:=h3;rw[dQ5 h3];rcases h3 with rfl | rfl<;>rfl
        ·rw[gQ7 hx h2 h3 h4];rfl
      rw[this]<;>rfl
     ·rw[if_neg hid];obtain⟨hl1,hl2⟩:=kQ4 hid;rw[hl2,uQp,uQq];have hlex:=hQB (l:=r) hl1;rw[hlex] at h1 h5 hl ⊢;simp only[List.head?_cons,ne_eq,Option.some.injEq] at h1 h5;unfold fQm;rw[if_neg h1,if_neg h5,if_pos (sQm hl1)];have hlen:((x::r).dropWhile cQq).length<p.r.length:=by
       rw[gQ6 hl1];have:=cQT cQq r;simp only[List.length_cons] at htl;omega
      unfold jQG;by_cases ht1:(x::r).takeWhile cQq=dQE
      ·rw[if_pos ht1,if_pos ht1];exact⟨_,rfl,rfl,by simp,by simp only;rw[<-hl],hlen⟩
      ·rw[if_neg ht1,if_neg ht1];by_cases ht2:(x::r).takeWhile cQq=cQ0
       ·rw[if_pos ht2,if_pos ht2];exact⟨_,rfl,rfl,by simp,by simp only;rw[<-hl],hlen⟩
       ·rw[if_neg ht2,if_neg ht2];exact⟨_,rfl,rfl,rfl,by simp only;rw[<-hl],hlen⟩
theorem pQV (ix:List Nat->Option Nat)(n:Nat):vQ9 (eQr ix n) (iQP ix n):=
 fQC (op:=[124,124]) (o:=5) (mk:=.or) (fun p=>gQ8 (by omega) p) (fun _ _ _=>rfl) (fun _ _=>rfl) (fQC (op:=[38,38]) (o:=4) (mk:=.and) (fun p=>gQ8 (by omega) p) (fun _ _ _=>rfl) (fun _ _=>rfl) (pQU ix n) (eQO ix n)) (dQL (eQO ix n))
theorem oQG (l:List Nat):bQj l=[]↔cQe l=([],true):=by
 rw[<-cQ3 l];cases h:bQj l with
 | nil=>simp[fQB]
 | cons x r=>
  have hx:=eQz h;simp only[reduceCtorEq,false_iff];intro e;by_cases h2:x=40∨x=41∨x=33
  ·rw[dQo h2] at e;simp at e
  ·by_cases h3:(x=38∨x=124)/\r.head? =some x
   ·cases r with
    | nil=>simp at h3
    | cons y r=>
     simp at h3;obtain⟨h3,rfl⟩:=h3;rw[dQ5 h3] at e;simp at e
   ·by_cases h4:eQq x=true
    ·rw[hQB h4] at e;simp at e
    ·rw[gQ7 hx h2 h3 (by simpa using h4)] at e;simp at e
def nQy (names:List (List Nat))(s:List Nat):List Fz×Int:=if aQV names then
  if(cQe s).2 then match iQP (ixN names) (s.length+1) (cQe s).1 with
   | none=>([],31)
   | some (t,u,ts)=>if ts≠ [] then([],31)else if u then([],3)else if 512<szF t then([],2)else(aQ4 t 0,0)
  else([],31)
 else([],1)
theorem kQ5 (names:List (List Nat))(s:List Nat):dQj names s=nQy names s:=by
 unfold dQj nQy;by_cases hn:aQV names=true
 ·rw[if_pos hn,if_pos hn];have hc:=pQV (ixN names) (s.length+1) ⟨s,[],false⟩;simp only at hc;cases ho:iQP (ixN names) (s.length+1) (cQe s).1 with
  | none=>
   rw[ho] at hc;simp only[Cor] at hc;rw[hc];simp
  | some q=>
   obtain⟨t,v,ts⟩:=q;rw[ho] at hc;obtain⟨p2,e1,e2,e3,e4,e5⟩:=hc;rw[e1];simp only at e2 e3 e4 ⊢;simp only[List.nil_append,List.length_nil,Bool.false_or] at e2 e3;have he:=oQG p2.r;rw[e4] at he;by_cases hf:(cQe s).2=true
   ·rw[if_pos hf];rw[hf] at he;simp only[Prod.mk.injEq,and_true] at he;rw[e3,e2,aQE];by_cases hts:ts=[]
    ·rw[if_neg (fun h=>h (he.2 hts)),if_neg (c:=ts≠ []) (fun h=>h hts)]
    ·rw[if_pos (fun h=>hts (he.1 h)),if_pos hts]
   ·rw[if_neg hf,if_pos (fun h=>hf (by have:=congrArg Prod.snd (he.1 h);simpa using this))]
 ·rw[if_neg hn,if_neg hn]
end
section
open Go Go.RowKit
def gQR (b:Bool)(ts:List (List Nat)):List (List Nat):=if b then [40]::ts++ [[41]] else ts
def tkC (nm:List (List Nat)):Fm->List (List Nat)
 | .c b=>[if b then dQE else cQ0]
 | .v n=>[nm[n]?.getD []]
 | .not a=>[33]::gQR (decide (cQ9 a<2)) (tkC nm a)
 | .and a b=>gQR (decide (cQ9 a<1)) (tkC nm a)++ [38,38]::gQR (decide (cQ9 b<2)) (tkC nm b)
 | .or a b=>tkC nm a++ [124,124]::gQR (decide (cQ9 b<1)) (tkC nm b)
theorem uQr (nm:List (List Nat)):∀t:Fm,0<(tkC nm t).length
 | .c _=>Nat.one_pos
 | .v _=>Nat.one_pos
 | .not _=>Nat.succ_pos _
 | .and _ _=>by simp only[tkC,List.length_append,List.length_cons];omega
 | .or _ _=>by simp only[tkC,List.length_append,List.length_cons];omega
def Stop (l:List Nat):Prop:=∀b r,l=b::r->cQq b=false
theorem Stop.nil:Stop []:=fun _ _ h=>by cases h
theorem Stop.cons {b:Nat}{r:List Nat}(h:cQq b=false):Stop (b::r):=fun _ _ e=>by cases e;exact h
def kQ6 (w:List Nat):Prop:=(∃b r,w=b::r/\eQq b=true)/\∀x∈w,cQq x=true
theorem uQs {w rest:List Nat}(h:∀x∈w,cQq x=true)(hs:Stop rest):(w++rest).takeWhile cQq=w/\(w++rest).dropWhile cQq=rest:=by
 induction w with
 | nil=>
  cases rest with
  | nil=>exact⟨rfl,rfl⟩
  | cons b r=>
   have:=hs b r rfl;rw[List.nil_append,List.takeWhile_cons,List.dropWhile_cons,if_neg (by rw[this];decide),if_neg (by rw[this];decide)];exact⟨rfl,rfl⟩
 | cons x w ih=>
  obtain⟨h1,h2⟩:=ih (fun y hy=>h y (by simp[hy]));have hx:=h x (by simp);rw[List.cons_append,List.takeWhile_cons,List.dropWhile_cons,if_pos hx,if_pos hx,h1,h2];exact⟨rfl,rfl⟩
theorem sQn {w rest:List Nat}(h:kQ6 w)(hs:Stop rest):cQe (w++rest)=(w::(cQe rest).1,(cQe rest).2):=by
 obtain⟨⟨b,r,rfl,hb⟩,hall⟩:=h;obtain⟨h1,h2⟩:=uQs hall hs;rw[List.cons_append] at h1 h2 ⊢;rw[hQB hb,h1,h2]
theorem kQ7 {w:List Nat}(h:kQ6 w):pQR w=true:=by
 obtain⟨⟨b,r,rfl,hb⟩,_⟩:=h;exact hb
theorem fQb {s:List Nat}(h:cQy s=true):kQ6 s/\s≠dQE/\s≠cQ0:=by
 unfold cQy at h;rw[decide_eq_true_eq] at h;obtain⟨h1,h2,h3,h4⟩:=h;cases s with
 | nil=>exact absurd rfl h1
 | cons b r=>
  obtain⟨hl,he⟩:=kQ4 (x:=b) (r:=r) (by rw[h2];simp);rw[he] at h2;refine⟨⟨⟨b,r,rfl,hl⟩,fun x hx=>?_⟩,h3,h4⟩;have:(b::r).takeWhile cQq=b::r:=(List.takeWhile_prefix cQq).eq_of_length h2;rw[<-this] at hx;exact(List.all_eq_true.1 (List.all_takeWhile (p:=cQq) (l:=b::r))) x hx
theorem kQ8:kQ6 dQE:=⟨⟨116,_,rfl,by decide⟩,by decide⟩
theorem iQQ:kQ6 cQ0:=⟨⟨102,_,rfl,by decide⟩,by decide⟩
structure NmOk (nm:List (List Nat)) (ix:List Nat->Option Nat):Prop where
 word:∀k,k<nm.length->cQy (nm[k]?.getD [])=true
 ix:∀k,k<nm.length->ix (nm[k]?.getD [])=some k
def LexS (s:List Nat)(ts:List (List Nat)):Prop:=∀rest,Stop rest->cQe (s++rest)=(ts++(cQe rest).1,(cQe rest).2)
theorem LexS.par {s:List Nat}{ts:List (List Nat)}(h:LexS s ts)(b:Bool):LexS (hQt b s) (gQR b ts):=by
 cases b with
 | false=>exact h
 | true=>
  intro rest hs;show cQe (40::s++ [41]++rest)=_;rw[List.cons_append,List.cons_append,dQo (by omega),List.append_assoc,List.singleton_append,h (41::rest) (Stop.cons (by decide)),dQo (by omega)];simp[gQR]
theorem LexS.word {w:List Nat}(h:kQ6 w):LexS w [w]:=fun _ hs=>sQn h hs
theorem dQM {nm:List (List Nat)}{ix:List Nat->Option Nat}(hn:NmOk nm ix):∀(t:Fm),VarsIn nm.length t->LexS (prC nm t) (tkC nm t)
 | .c b,_=>by
  cases b with
  | true=>exact LexS.word kQ8
  | false=>exact LexS.word iQQ
 | .v n,h=>LexS.word (fQb (hn.word n h)).1
 | .not a,h=>by
  have ih:=(dQM hn a h).par (decide (cQ9 a<2));intro rest hs;show cQe (33::hQt _ _++rest)=_;rw[List.cons_append,dQo (by omega),ih rest hs];rfl
 | .and a b,h=>by
  have iha:=(dQM hn a h.1).par (decide (cQ9 a<1));have ihb:=(dQM hn b h.2).par (decide (cQ9 b<2));intro rest hs;show cQe (hQt _ _++ [32,38,38,32]++hQt _ _++rest)=_;rw[List.append_assoc,List.append_assoc,show [32,38,38,32]++(hQt (decide (cQ9 b<2)) (prC nm b)++rest)=32::38::38::32::(hQt (decide (cQ9 b<2)) (prC nm b)++rest) from rfl];rw[iha _ (Stop.cons (b:=32) (by decide)),hQA (by omega),dQ5 (by omega),hQA (by omega),ihb rest hs];simp[tkC]
 | .or a b,h=>by
  have iha:=dQM hn a h.1;have ihb:=(dQM hn b h.2).par (decide (cQ9 b<1));intro rest hs;show cQe (hQt (decide (cQ9 a<0)) _++ [32,124,124,32]++hQt _ _++rest)=_;rw[show decide (cQ9 a<0)=false from decide_eq_false (by omega)];show cQe (prC nm a++ [32,124,124,32]++hQt _ _++rest)=_;rw[List.append_assoc,List.append_assoc,show [32,124,124,32]++(hQt (decide (cQ9 b<1)) (prC nm b)++rest)=32::124::124::32::(hQt (decide (cQ9 b<1)) (prC nm b)++rest) from rfl];rw[iha _ (Stop.cons (b:=32) (by decide)),hQA (by omega),dQ5 (by omega),hQA (by omega),ihb rest hs];simp[tkC]
theorem uQt {nm:List (List Nat)}{ix:List Nat->Option Nat}(hn:NmOk nm ix)(t:Fm)(h:VarsIn nm.length t):cQe (prF nm 0 t)=(tkC nm t,true):=by
 have:=dQM hn t h [] Stop.nil;unfold prF;rw[show decide (cQ9 t<0)=false from decide_eq_false (by omega)];simp only[List.append_nil,fQB] at this;exact this
theorem iQR {op:List Nat}{mk:Fm->Fm->Fm}{opt:List (List Nat)->Option (Fm×Bool×List (List Nat))}(hl:sQl opt):∀(m m':Nat)(a:Fm)(u:Bool)(ts:List (List Nat)),ts.length<m->ts.length<m'->cQ4 op mk opt m a u ts=cQ4 op mk opt m' a u ts
 | 0,_,_,_,_,h,_=>by omega
 | _+1,0,_,_,_,_,h=>by omega
 | m+1,m'+1,a,u,ts,h,h'=>by
  unfold cQ4;split
  ·cases ho:opt ts.tail with
   | none=>rfl
   | some q=>
    obtain⟨b,v,ts'⟩:=q;have:=hl _ _ _ _ ho;rw[List.length_tail] at this;exact iQR hl m m' _ _ ts' (by omega) (by omega)
  ·rfl
theorem eQP {op:List Nat}{mk:Fm->Fm->Fm}{opt:List (List Nat)->Option (Fm×Bool×List (List Nat))}{m:Nat}{a:Fm}{u:Bool}{ts:List (List Nat)}(h:ts.head? ≠some op):cQ4 op mk opt (m+1) a u ts=some (a,u,ts):=by
 unfold cQ4;rw[if_neg h]
theorem nQz {op:List Nat}{mk:Fm->Fm->Fm}{opt:List (List Nat)->Option (Fm×Bool×List (List Nat))}(hl:sQl opt){m:Nat}{a b:Fm}{u v:Bool}{ts ts':List (List Nat)}(h:opt ts=some (b,v,ts')):cQ4 op mk opt ((op::ts).length+m) a u (op::ts)=cQ4 op mk opt (ts'.length+1) (mk a b) (u||v) ts':=by
 have:=hl _ _ _ _ h;have e:cQ4 op mk opt ((ts.length+m)+1) a u (op::ts)=cQ4 op mk opt (ts.length+m) (mk a b) (u||v) ts':=by
  rw[cQ4,List.head?_cons,if_pos rfl,List.tail_cons,h]
 rw[List.length_cons,show ts.length+1+m=(ts.length+m)+1 by omega,e];exact iQR hl _ _ _ _ _ (by omega) (by omega)
theorem uQu (ix:List Nat->Option Nat)(b:Bool):jQG ix (if b then dQE else cQ0)=(.c b,false):=by cases b<;>rfl
theorem uQv {nm:List (List Nat)}{ix:List Nat->Option Nat}(hn:NmOk nm ix){n:Nat}(h:n<nm.length):jQG ix (nm[n]?.getD [])=(.v n,false):=by
 obtain⟨_,h1,h2⟩:=fQb (hn.word n h);unfold jQG;rw[if_neg h1,if_neg h2,hn.ix n h];rfl
theorem uQw {w:List Nat}(h:kQ6 w):w≠ [33]/\w≠ [40]/\w≠ [41]/\w≠ [38,38]/\w≠ [124,124]:=by
 obtain⟨⟨b,r,rfl,hb⟩,_⟩:=h;refine⟨?_,?_,?_,?_,?_⟩<;>(intro e;cases e;exact absurd hb (by decide))
theorem kQ9 {ix:List Nat->Option Nat}{n:Nat}{w:List Nat}{rest:List (List Nat)}(h:kQ6 w):fQm ix (n+1) (w::rest)=some ((jQG ix w).1,(jQG ix w).2,rest):=by
 have:=uQw h;unfold fQm;rw[if_neg this.1,if_neg this.2.1,if_pos (kQ7 h)]
abbrev vQM (ix:List Nat->Option Nat)(n:Nat):=bQ5 [38,38] Fm.and (fQm ix n)
abbrev orT (ix:List Nat->Option Nat)(n:Nat):=bQ5 [124,124] Fm.or (vQM ix n)
theorem sQo (ix:List Nat->Option Nat)(n:Nat):sQl (vQM ix n):=dQL (eQO ix n)
theorem lQa {op:List Nat}{mk:Fm->Fm->Fm}{opt:List (List Nat)->Option (Fm×Bool×List (List Nat))}{ts ts':List (List Nat)}{a:Fm}{u:Bool}(h:opt ts=some (a,u,ts')):bQ5 op mk opt ts=cQ4 op mk opt (ts'.length+1) a u ts':=by
 unfold bQ5;rw[h]
def uQx (nm:List (List Nat))(ix:List Nat->Option Nat)(n:Nat):Prop:=∀(t:Fm)(rest:List (List Nat)),VarsIn nm.length t->(gQR (decide (cQ9 t<2)) (tkC nm t)).length<=n->fQm ix n (gQR (decide (cQ9 t<2)) (tkC nm t)++rest)=some (t,false,rest)
theorem tQg {nm:List (List Nat)}{ix:List Nat->Option Nat}{n:Nat}(F:uQx nm ix n):∀(t:Fm)(rest:List (List Nat)),VarsIn nm.length t->(gQR (decide (cQ9 t<1)) (tkC nm t)).length<=n->
  vQM ix n (gQR (decide (cQ9 t<1)) (tkC nm t)++rest)=cQ4 [38,38] .and (fQm ix n) (rest.length+1) t false rest:=by
 intro t;have base:∀t,decide (cQ9 t<1)=decide (cQ9 t<2)->∀rest,VarsIn nm.length t->(gQR (decide (cQ9 t<1)) (tkC nm t)).length<=n->vQM ix n (gQR (decide (cQ9 t<1)) (tkC nm t)++rest)=cQ4 [38,38] .and (fQm ix n) (rest.length+1) t false rest:=by
  intro t e rest hv hl;rw[e] at hl ⊢;exact lQa (F t rest hv hl)
 induction t with
 | c b=>exact base _ rfl
 | v k=>exact base _ rfl
 | not a _=>exact base _ rfl
 | or a b _ _=>exact base _ rfl
 | and a b iha _=>
  intro rest hv hl;have e:gQR (decide (cQ9 (.and a b)<1)) (tkC nm (.and a b))=gQR (decide (cQ9 a<1)) (tkC nm a)++ [38,38]::gQR (decide (cQ9 b<2)) (tkC nm b):=rfl;rw[e,List.length_append,List.length_cons] at hl;rw[e,List.append_assoc,List.cons_append,iha _ hv.1 (by omega)];have hf:=F b rest hv.2 (by omega);exact nQz (eQO ix n) (m:=1) hf
theorem wQa {nm:List (List Nat)}{ix:List Nat->Option Nat}{n:Nat}(F:uQx nm ix n):∀(t:Fm)(rest:List (List Nat)),VarsIn nm.length t->(tkC nm t).length<=n->rest.head? ≠some [38,38]->
  orT ix n (tkC nm t++rest)=cQ4 [124,124] .or (vQM ix n) (rest.length+1) t false rest:=by
 intro t;have base:∀t,decide (cQ9 t<1)=false->∀rest,VarsIn nm.length t->(tkC nm t).length<=n->rest.head? ≠some [38,38]->orT ix n (tkC nm t++rest)=cQ4 [124,124] .or (vQM ix n) (rest.length+1) t false rest:=by
  intro t e rest hv hl hs;have:=tQg F t rest hv (by rw[e];exact hl);rw[e,eQP hs] at this;exact lQa this
 induction t with
 | c b=>exact base _ rfl
 | v k=>exact base _ rfl
 | not a _=>exact base _ rfl
 | and a b _ _=>exact base _ rfl
 | or a b iha _=>
  intro rest hv hl hs;have e:tkC nm (.or a b)=tkC nm a++ [124,124]::gQR (decide (cQ9 b<1)) (tkC nm b):=rfl;rw[e,List.length_append,List.length_cons] at hl;rw[e,List.append_assoc,List.cons_append,iha _ hv.1 (by omega) (by simp)];have hf:=tQg F b rest hv.2 (by omega);rw[eQP hs] at hf;exact nQz (sQo ix n) (m:=1) hf
theorem tQh {nm:List (List Nat)}{ix:List Nat->Option Nat}(hn:NmOk nm ix):∀n,uQx nm ix n
 | 0=>fun t rest hv hl=>by
  have:∀(b:Bool),0<(gQR b (tkC nm t)).length:=by
   intro b;have:=uQr nm t;cases b with
   | true=>simp[gQR]
   | false=>exact this
  have:=this (decide (cQ9 t<2));omega
 | n+1=>fun t rest hv hl=>by
  have F:=tQh hn n;by_cases h2:cQ9 t<2
  ·rw[decide_eq_true h2] at hl ⊢;have e:gQR true (tkC nm t)++rest=[40]::(tkC nm t++ [41]::rest):=by simp[gQR]
   have hl':(tkC nm t).length<=n:=by simp[gQR] at hl;omega
   rw[e];have ho:=wQa F t ([41]::rest) hv hl' (by simp);rw[eQP (by simp)] at ho;unfold fQm;have ho':bQ5 [124,124] Fm.or (bQ5 [38,38] Fm.and (fQm ix n)) (tkC nm t++ [41]::rest)=some (t,false,[41]::rest):=ho;rw[if_neg (by decide),if_pos rfl,ho'];simp
  ·rw[decide_eq_false h2] at hl ⊢;cases t with
   | c b=>
    show fQm ix (n+1) ((if b then dQE else cQ0)::rest)=_;rw[kQ9 (by cases b;exact iQQ;exact kQ8),uQu]
   | v k=>
    show fQm ix (n+1) (nm[k]?.getD []::rest)=_;rw[kQ9 (fQb (hn.word k hv)).1,uQv hn hv]
   | not a=>
    have hl':(gQR (decide (cQ9 a<2)) (tkC nm a)).length<=n:=by
     have:(gQR false (tkC nm (.not a))).length=(gQR (decide (cQ9 a<2)) (tkC nm a)).length+1:=rfl;omega
    show fQm ix (n+1) ([33]::(gQR (decide (cQ9 a<2)) (tkC nm a)++rest))=_;unfold fQm;rw[if_pos rfl,F a rest hv hl']
   | and a b=>exact absurd (show cQ9 (.and a b)<2 by simp[cQ9]) h2
   | or a b=>exact absurd (show cQ9 (.or a b)<2 by simp[cQ9]) h2
theorem mQs {nm:List (List Nat)}{ix:List Nat->Option Nat}(hn:NmOk nm ix)(t:Fm)(hv:VarsIn nm.length t){n:Nat}(hl:(tkC nm t).length<=n):iQP ix n (tkC nm t)=some (t,false,[]):=by
 have:=wQa (tQh hn n) t [] hv hl (by simp);rw[List.append_nil,eQP (by simp)] at this;exact this
theorem nQA:∀(n:Nat)(l:List Nat),(gQ5 n l).1.length<=l.length
 | 0,l=>Nat.zero_le _
 | n+1,[]=>Nat.zero_le _
 | n+1,b::l=>by
  have i1:=nQA n l;have i2:=nQA n l.tail;rw[List.length_tail] at i2;simp only[gQ5,List.length_cons];split
  ·omega
  ·split
   ·simp only[List.length_cons];omega
   ·split
    ·rename_i h;cases l with
     | nil=>simp at h
     | cons y l=>simp only[List.length_cons] at i2 ⊢;omega
    ·split
     ·rename_i h;have i3:=nQA n (l.dropWhile cQq);have:=cQT cQq l;rw[gQ6 h];simp only[List.length_cons];omega
     ·simp
theorem mQt {nm:List (List Nat)}(hn:aQV nm=true)(hi:NmOk nm (ixN nm))(t:Fm)(hv:VarsIn nm.length t)(hs:szF t<=512):dQj nm (prF nm 0 t)=(aQ4 t 0,0):=by
 rw[kQ5];unfold nQy;have hl:=uQt hi t hv;have hle:(tkC nm t).length<=(prF nm 0 t).length+1:=by
  have:=nQA (prF nm 0 t).length (prF nm 0 t);have e:gQ5 (prF nm 0 t).length (prF nm 0 t)=(tkC nm t,true):=hl;rw[e] at this;exact Nat.le_succ_of_le this
 rw[if_pos hn,hl];simp only;rw[if_pos trivial,mQs hi t hv hle];simp only;rw[if_neg (c:=([]:List (List Nat))≠ []) (fun h=>h rfl),if_neg (by decide),if_neg (by omega)]
end
section
open Go Go.RowKit
theorem pQW (a:ByteArray)(v:Value):∀m:List (ByteArray×Value),a∈m.map Prod.fst->(aQs a v m).map Prod.fst=m.map Prod.fst
 | [],h=>by simp at h
 | (b,u)::m,h=>by
  unfold aQs;by_cases e:a=b
  ·subst e;rw[if_pos rfl];rfl
  ·rw[if_neg e,List.map_cons,pQW a v m (by simp only[List.map_cons,List.mem_cons] at h;exact h.resolve_left e)];rfl
theorem jQH (a:ByteArray)(v:Value):∀m:List (ByteArray×Value),a∉m.map Prod.fst->(aQs a v m).map Prod.fst=m.map Prod.fst++ [a]
 | [],_=>rfl
 | (b,u)::m,h=>by
  simp only[List.map_cons,List.mem_cons,not_or] at h;unfold aQs;rw[if_neg h.1,List.map_cons,jQH a v m h.2];rfl
theorem tQi (a:ByteArray)(v:Value)(m:List (ByteArray×Value))(h:a∈m.map Prod.fst):(aQs a v m).length=m.length:=by
 have:=congrArg List.length (pQW a v m h);simpa using this
theorem pQX (a:ByteArray)(v:Value)(m:List (ByteArray×Value))(h:a∉m.map Prod.fst):(aQs a v m).length=m.length+1:=by
 have:=congrArg List.length (jQH a v m h);simpa using this
theorem nQB:∀(l:List (List Nat))(i:Nat)(m:List (ByteArray×Value)),(dQb l i m).length<=m.length+l.length
 | [],_,m=>Nat.le_refl _
 | s::l,i,m=>by
  have:=nQB l (i+1) (aQs (aQh s) (.int .i64 (i:Nat)) m);simp only[dQb,List.length_cons];by_cases h:aQh s∈m.map Prod.fst
  ·have:=tQi _ (.int .i64 (i:Nat)) m h;omega
  ·have:=pQX _ (.int .i64 (i:Nat)) m h;omega
theorem lQb:∀(l:List (List Nat))(i:Nat)(m:List (ByteArray×Value)),(∀s∈l,∀x∈s,x<256)->((dQb l i m).length=m.length+l.length↔l.Nodup/\∀s∈l,aQh s∉m.map Prod.fst)
 | [],_,m,_=>by simp[dQb]
 | s::l,i,m,hb=>by
  have hs:=hb s (by simp);have ih:=lQb l (i+1) (aQs (aQh s) (.int .i64 (i:Nat)) m) (fun t ht=>hb t (by simp[ht]));have hle:=nQB l (i+1) (aQs (aQh s) (.int .i64 (i:Nat)) m);simp only[dQb,List.length_cons];by_cases h:aQh s∈m.map Prod.fst
  ·have hl:=tQi _ (.int .i64 (i:Nat)) m h;constructor
   ·intro e;omega
   ·intro e;exact absurd h (e.2 s (by simp))
  ·have hl:=pQX _ (.int .i64 (i:Nat)) m h;have hk:=jQH _ (.int .i64 (i:Nat)) m h;rw[show m.length+(l.length+1)=(aQs (aQh s) (.int .i64 (i:Nat)) m).length+l.length by omega,ih,hk];simp only[List.nodup_cons,List.mem_append,not_or,List.mem_cons];constructor
   ·rintro⟨h1,h2⟩;refine⟨⟨fun hm=>(h2 s hm).2.1 rfl,h1⟩,fun t ht=>?_⟩;rcases ht with rfl | ht
    ·exact h
    ·exact(h2 t ht).1
   ·rintro⟨⟨h1,h2⟩,h3⟩;refine⟨h2,fun t ht=>⟨h3 t (.inr ht),fun e=>?_,by simp⟩⟩;have:=aQD (hb t (by simp[ht])) hs e;subst this;exact h1 ht
theorem iQS {names:List (List Nat)}(hb:aQ2 names):aQV names=true↔names.all cQy=true/\names.Nodup/\names.length<=64:=by
 have:=lQb names 0 [] (fun s hs=>(hb s hs).1);simp only[List.length_nil,Nat.zero_add,List.map_nil,List.not_mem_nil,not_false_eq_true,implies_true,and_true] at this;unfold aQV;rw[decide_eq_true_eq,this]
theorem tQj (l:List Nat):∀(names:List (List Nat))(i:Nat)(acc:Option Nat),l∉names->ixR l names i acc=acc
 | [],_,_,_=>rfl
 | s::names,i,acc,h=>by
  simp only[List.mem_cons,not_or] at h;rw[ixR,if_neg (fun e=>h.1 e.symm),tQj l names (i+1) acc h.2]
theorem tQk:∀(names:List (List Nat))(k i:Nat)(acc:Option Nat)(l:List Nat),names.Nodup->names[k]? =some l->ixR l names i acc=some (i+k)
 | [],k,i,acc,l,_,h=>by simp at h
 | s::names,0,i,acc,l,hn,h=>by
  simp at h;subst h;rw[ixR,if_pos rfl,tQj _ _ _ _ (List.nodup_cons.1 hn).1];rfl
 | s::names,k+1,i,acc,l,hn,h=>by
  have h':names[k]? =some l:=by simpa using h
  rw[ixR,tQk names k (i+1) _ l (List.nodup_cons.1 hn).2 h'];congr 1;omega
theorem uQy {names:List (List Nat)}(hb:aQ2 names)(h:aQV names=true):NmOk names (ixN names):=by
 obtain⟨h1,h2,h3⟩:=(iQS hb).1 h;refine⟨fun k hk=>?_,fun k hk=>?_⟩
 ·rw[List.getElem?_eq_getElem hk];exact List.all_eq_true.1 h1 _ (List.getElem_mem hk)
 ·rw[List.getElem?_eq_getElem hk];have:=tQk names k 0 none names[k] h2 (List.getElem?_eq_getElem hk);rw[Nat.zero_add] at this;exact this
theorem eQQ:∀(t:Fm)(pre suf:List Fz),RepF (pre++aQ4 t pre.length++suf) t (pre.length+szF t-1)
 | .c b,pre,suf=>by
  show(pre++ [_]++suf)[pre.length+1-1]? =_;simp
 | .v n,pre,suf=>by
  show(pre++ [_]++suf)[pre.length+1-1]? =_;simp
 | .not a,pre,suf=>by
  have pa:=bQl a;refine⟨pre.length+szF a-1,by simp only[szF];omega,?_,?_⟩
  ·simp only[szF,aQ4];rw[List.append_assoc,List.getElem?_append_right (by omega),List.append_assoc,List.getElem?_append_right (by rw[aQE];omega),aQE,show pre.length+(szF a+1)-1-pre.length-szF a=0 by omega];rfl
  ·have:=eQQ a pre ([⟨3,0,((pre.length+szF a-1:Nat):Int),0⟩]++suf);simpa [aQ4] using this
 | .and a b,pre,suf=>by
  have pa:=bQl a;have pb:=bQl b;refine⟨pre.length+szF a-1,pre.length+szF a+szF b-1,by simp only[szF];omega,by simp only[szF];omega,?_,?_,?_⟩
  ·simp only[szF,aQ4];rw[List.append_assoc,List.getElem?_append_right (by omega),List.append_assoc,List.getElem?_append_right (by rw[List.length_append,aQE,aQE];omega),List.length_append,aQE,aQE,show pre.length+(szF a+szF b+1)-1-pre.length-(szF a+szF b)=0 by omega];rfl
  ·have:=eQQ a pre (aQ4 b (pre.length+szF a)++ [⟨4,0,((pre.length+szF a-1:Nat):Int),((pre.length+szF a+szF b-1:Nat):Int)⟩]++suf);simpa [aQ4] using this
  ·have:=eQQ b (pre++aQ4 a pre.length) ([⟨4,0,((pre.length+szF a-1:Nat):Int),((pre.length+szF a+szF b-1:Nat):Int)⟩]++suf);rw[List.length_append,aQE] at this;simpa [aQ4] using this
 | .or a b,pre,suf=>by
  have pa:=bQl a;have pb:=bQl b;refine⟨pre.length+szF a-1,pre.length+szF a+szF b-1,by simp only[szF];omega,by simp only[szF];omega,?_,?_,?_⟩
  ·simp only[szF,aQ4];rw[List.append_assoc,List.getElem?_append_right (by omega),List.append_assoc,List.getElem?_append_right (by rw[List.length_append,aQE,aQE];omega),List.length_append,aQE,aQE,show pre.length+(szF a+szF b+1)-1-pre.length-(szF a+szF b)=0 by omega];rfl
  ·have:=eQQ a pre (aQ4 b (pre.length+szF a)++ [⟨5,0,((pre.length+szF a-1:Nat):Int),((pre.length+szF a+szF b-1:Nat):Int)⟩]++suf);simpa [aQ4] using this
  ·have:=eQQ b (pre++aQ4 a pre.length) ([⟨5,0,((pre.length+szF a-1:Nat):Int),((pre.length+szF a+szF b-1:Nat):Int)⟩]++suf);rw[List.length_append,aQE] at this;simpa [aQ4] using this
theorem fQc (t:Fm):eQd (aQ4 t 0)=t:=by
 refine hQu ?_;have:=eQQ t [] [];rw[aQE];simpa using this
theorem cQ5 {α:Type}{l m:List α}{i:Nat}{x:α}(h:(l++m)[i]? =some x):(i<l.length/\l[i]? =some x)∨(l.length<=i/\m[i-l.length]? =some x):=by
 by_cases hi:i<l.length
 ·rw[List.getElem?_append_left hi] at h;exact .inl ⟨hi,h⟩
 ·rw[List.getElem?_append_right (by omega)] at h;exact .inr ⟨by omega,h⟩
theorem cQt {α:Type}{y x:α}{i:Nat}(h: [y][i]? =some x):i=0/\x=y:=by
 cases i with
 | zero=>simp at h;exact⟨rfl,h.symm⟩
 | succ i=>simp at h
theorem uQz {j i:Nat}(h:j<i):fzP ⟨3,0,(j:Nat),0⟩ i:=by
 refine⟨show 0<=fAr 3 by decide,rfl,?_,rfl⟩;show if 0<fAr 3 then _ else _
 rw[if_pos (by decide)];simp only;omega
theorem uQA {j k i:Nat}(h:j<i)(h':k<i):fzP ⟨4,0,(j:Nat),(k:Nat)⟩ i:=by
 refine⟨show 0<=fAr 4 by decide,rfl,?_,?_⟩
 ·show if 0<fAr 4 then _ else _
  rw[if_pos (by decide)];simp only;omega
 ·show if 1<fAr 4 then _ else _
  rw[if_pos (by decide)];simp only;omega
theorem wQb {j k i:Nat}(h:j<i)(h':k<i):fzP ⟨5,0,(j:Nat),(k:Nat)⟩ i:=by
 refine⟨show 0<=fAr 5 by decide,rfl,?_,?_⟩
 ·show if 0<fAr 5 then _ else _
  rw[if_pos (by decide)];simp only;omega
 ·show if 1<fAr 5 then _ else _
  rw[if_pos (by decide)];simp only;omega
theorem dQN:∀(t:Fm)(k i:Nat)(x:Fz),VarsIn 64 t->(aQ4 t k)[i]? =some x->fzP x (k+i)
 | .c b,k,i,x,_,h=>by
  obtain⟨rfl,rfl⟩:=cQt h;cases b<;>exact⟨by decide,rfl,rfl,rfl⟩
 | .v n,k,i,x,hv,h=>by
  obtain⟨rfl,rfl⟩:=cQt h;refine⟨show 0<=fAr 2 by decide,?_,rfl,rfl⟩;have:n<64:=hv;rw[if_pos rfl];simp only;omega
 | .not a,k,i,x,hv,h=>by
  have pa:=bQl a;rcases cQ5 h with⟨hi,h⟩ | ⟨hi,h⟩
  ·exact dQN a k i x hv h
  ·rw[aQE] at hi h;obtain⟨e,rfl⟩:=cQt h;exact uQz (by omega)
 | .and a b,k,i,x,hv,h=>by
  have pa:=bQl a;have pb:=bQl b;rcases cQ5 h with⟨hi,h⟩ | ⟨hi,h⟩
  ·rcases cQ5 h with⟨hi,h⟩ | ⟨hi,h⟩
   ·exact dQN a k i x hv.1 h
   ·rw[aQE] at hi h;have:=dQN b (k+szF a) (i-szF a) x hv.2 h
    rwa [show k+szF a+(i-szF a)=k+i by omega] at this
  ·rw[List.length_append,aQE,aQE] at hi h;obtain⟨e,rfl⟩:=cQt h;exact uQA (by omega) (by omega)
 | .or a b,k,i,x,hv,h=>by
  have pa:=bQl a;have pb:=bQl b;rcases cQ5 h with⟨hi,h⟩ | ⟨hi,h⟩
  ·rcases cQ5 h with⟨hi,h⟩ | ⟨hi,h⟩
   ·exact dQN a k i x hv.1 h
   ·rw[aQE] at hi h;have:=dQN b (k+szF a) (i-szF a) x hv.2 h
    rwa [show k+szF a+(i-szF a)=k+i by omega] at this
  ·rw[List.length_append,aQE,aQE] at hi h;obtain⟨e,rfl⟩:=cQt h;exact wQb (by omega) (by omega)
theorem eQA (l m:List Fz):bQV (l++m)=bQV l++bQV m:=by simp[bQV]
theorem pQY (j:Nat):bQV [⟨3,0,(j:Nat),0⟩]=[j]:=by
 show dQc _++ []=_;unfold dQc;rw[show fAr (Fz.o ⟨3,0,(j:Nat),0⟩)=1 from rfl];simp
theorem pQZ (j k:Nat):bQV [⟨4,0,(j:Nat),(k:Nat)⟩]=[j,k]:=by
 show dQc _++ []=_;unfold dQc;rw[show fAr (Fz.o ⟨4,0,(j:Nat),(k:Nat)⟩)=2 from rfl];simp
theorem sQp (j k:Nat):bQV [⟨5,0,(j:Nat),(k:Nat)⟩]=[j,k]:=by
 show dQc _++ []=_;unfold dQc;rw[show fAr (Fz.o ⟨5,0,(j:Nat),(k:Nat)⟩)=2 from rfl];simp
theorem dQO:∀(t:Fm)(k j:Nat),(bQV (aQ4 t k)).count j=if k<=j/\j+1<k+szF t then 1 else 0
 | .c b,k,j=>by
  rw[if_neg (by simp only[szF];omega)];cases b<;>rfl
 | .v n,k,j=>by
  rw[if_neg (by simp only[szF];omega)];rfl
 | .not a,k,j=>by
  have pa:=bQl a;show _=if k<=j/\j+1<k+(szF a+1)then 1 else 0
  simp only[aQ4];rw[eQA,List.count_append,pQY,dQO a k j,List.count_singleton];simp only[beq_iff_eq];by_cases h1:k<=j/\j+1<k+szF a
  ·rw[if_pos h1,if_neg (by omega),if_pos (by omega)]
  ·rw[if_neg h1];by_cases h2:k+szF a-1=j
   ·rw[if_pos h2,if_pos (by omega)]
   ·rw[if_neg h2,if_neg (by omega)]
 | .and a b,k,j=>by
  have pa:=bQl a;have pb:=bQl b;show _=if k<=j/\j+1<k+(szF a+szF b+1)then 1 else 0
  simp only[aQ4];rw[eQA,eQA,List.count_append,List.count_append,pQZ,dQO a k j,dQO b _ j,List.count_cons,List.count_singleton];simp only[beq_iff_eq];by_cases h1:k<=j/\j+1<k+szF a
  ·rw[if_pos h1,if_neg (by omega),if_neg (by omega),if_neg (by omega),if_pos (by omega)]
  ·rw[if_neg h1];by_cases h2:k+szF a<=j/\j+1<k+szF a+szF b
   ·rw[if_pos h2,if_neg (by omega),if_neg (by omega),if_pos (by omega)]
   ·rw[if_neg h2];by_cases h3:k+szF a-1=j
    ·rw[if_neg (by omega),if_pos h3,if_pos (by omega)]
    ·rw[if_neg h3];by_cases h4:k+szF a+szF b-1=j
     ·rw[if_pos h4,if_pos (by omega)]
     ·rw[if_neg h4,if_neg (by omega)]
 | .or a b,k,j=>by
  have pa:=bQl a;have pb:=bQl b;show _=if k<=j/\j+1<k+(szF a+szF b+1)then 1 else 0
  simp only[aQ4];rw[eQA,eQA,List.count_append,List.count_append,sQp,dQO a k j,dQO b _ j,List.count_cons,List.count_singleton];simp only[beq_iff_eq];by_cases h1:k<=j/\j+1<k+szF a
  ·rw[if_pos h1,if_neg (by omega),if_neg (by omega),if_neg (by omega),if_pos (by omega)]
  ·rw[if_neg h1];by_cases h2:k+szF a<=j/\j+1<k+szF a+szF b
   ·rw[if_pos h2,if_neg (by omega),if_neg (by omega),if_pos (by omega)]
   ·rw[if_neg h2];by_cases h3:k+szF a-1=j
    ·rw[if_neg (by omega),if_pos h3,if_pos (by omega)]
    ·rw[if_neg h3];by_cases h4:k+szF a+szF b-1=j
     ·rw[if_pos h4,if_pos (by omega)]
     ·rw[if_neg h4,if_neg (by omega)]
theorem pQ0 {t:Fm}(hv:VarsIn 64 t)(hs:szF t<=512):FV (aQ4 t 0):=by
 refine⟨by rw[aQE];exact hs,by rw[aQE];exact bQl t,fun i x hx=>by have:=dQN t 0 i x hv hx;rwa [Nat.zero_add] at this,fun i hi=>?_⟩;rw[dQO,if_pos];rw[aQE] at hi;omega
instance decVars (n:Nat):∀t:Fm,Decidable (VarsIn n t)
 | .c _=>isTrue trivial
 | .v k=>inferInstanceAs (Decidable (k<n))
 | .not a=>decVars n a
 | .and a b=> @instDecidableAnd _ _ (decVars n a) (decVars n b)
 | .or a b=> @instDecidableAnd _ _ (decVars n a) (decVars n b)
theorem VarsIn.mono {n m:Nat}(h:n<=m):∀{t:Fm},VarsIn n t->VarsIn m t
 | .c _,_=>trivial
 | .v _,hv=>Nat.lt_of_lt_of_le hv h
 | .not a,hv=>VarsIn.mono (t:=a) h hv
 | .and _ _,hv=>⟨VarsIn.mono h hv.1,VarsIn.mono h hv.2⟩
 | .or _ _,hv=>⟨VarsIn.mono h hv.1,VarsIn.mono h hv.2⟩
theorem dQP:∀(t:Fm)(n k:Nat),VarsIn n t->gQG n (aQ4 t k)
 | .c b,n,k,_=>fun x hx ho=>by
  simp only[aQ4,List.mem_singleton] at hx;subst hx;cases b<;>simp at ho
 | .v j,n,k,hv=>fun x hx ho=>by
  simp only[aQ4,List.mem_singleton] at hx;subst hx;have:j<n:=hv;simp only;omega
 | .not a,n,k,hv=>fun x hx ho=>by
  simp only[aQ4,List.mem_append,List.mem_singleton] at hx;rcases hx with hx | rfl
  ·exact dQP a n k hv x hx ho
  ·simp at ho
 | .and a b,n,k,hv=>fun x hx ho=>by
  simp only[aQ4,List.mem_append,List.mem_singleton] at hx;rcases hx with(hx | hx) | rfl
  ·exact dQP a n k hv.1 x hx ho
  ·exact dQP b n _ hv.2 x hx ho
  ·simp at ho
 | .or a b,n,k,hv=>fun x hx ho=>by
  simp only[aQ4,List.mem_append,List.mem_singleton] at hx;rcases hx with(hx | hx) | rfl
  ·exact dQP a n k hv.1 x hx ho
  ·exact dQP b n _ hv.2 x hx ho
  ·simp at ho
end
end
section
section
open Go Go.RowKit
def dQy (x:Fz)(f:List Fz):Nat×List Fz:=if f.length<=512 then(f.length,f++ [x])else(f.length-1,f)
def cQa (bld:Int->List Fz->Nat×List Fz)(op v:Int)(pos:Bool)(num:Int)(f:List Fz):Nat×List Fz:=
 let p:=dQy ⟨2,v,0,0⟩ f
 let a:=if pos then p else dQy ⟨3,0,(p.1:Nat),0⟩ p.2
 if op=4/\num=1 then a else
  let c:=bld num a.2
  dQy ⟨op,0,(a.1:Nat),(c.1:Nat)⟩ c.2
def cQM (
     nd:List Br):Nat->Int->List Fz->Nat×List Fz
 | 0,_,f=>(0,f)
 | m+1,n,f=>if n<2∨512<f.length then dQy ⟨min n 1,0,0,0⟩ f else
   match nd[(n-2).toNat]? with
   | none=>(0,f)
   | some b=>
    if b.l=0 then cQa (cQM nd m) 4 b.v true b.h f else
    if b.h=0 then cQa (cQM nd m) 4 b.v false b.l f else
    if b.h=1 then cQa (cQM nd m) 5 b.v true b.l f else
    if b.l=1 then cQa (cQM nd m) 5 b.v false b.h f else
     let hi:=cQa (cQM nd m) 4 b.v true b.h f
     let lo:=cQa (cQM nd m) 4 b.v false b.l hi.2
     dQy ⟨5,0,(hi.1:Nat),(lo.1:Nat)⟩ lo.2
structure Cn (w:World) (base x:Nat) (NA:Option Addr) (nn nc:Nat) (nd:List Br) (root:Int) (A:Option Addr) (c:Nat) (f:List Fz):Prop where
 blk:Blk w x 277 [.slice NA nn nc,.int .i64 root,.slice A f.length c]
 own:Own w base 280 4 A f.length c (fzV f)
 lt:x<base
 top:base<=w.heap.size
 nds:SB w NA nn nc nd
 row:∀ad,NA=some ad->0<nn->ad.block<base/\ad.block≠x
 lim:f.length<=513
def CnTo (w:World)(base x:Nat)(NA:Option Addr)(nn nc:Nat)(nd:List Br)(root:Int)(A:Option Addr)(f:List Fz)(w':World):Prop:=∃A' c',Cn w' base x NA nn nc nd root A' c' f/\Mod (RdS x A) w w'/\Moved w A A'
section
variable {base x:Nat} {NA:Option Addr} {nn nc:Nat} {nd:List Br} {root:Int}
theorem Cn.ext {w w':World}{A:Option Addr}{c:Nat}{f:List Fz}(h:Cn w base x NA nn nc nd root A c f)(k:Ext w w'):Cn w' base x NA nn nc nd root A c f:=
 ⟨h.blk.ext k,h.own.ext k,h.lt,Nat.le_trans h.top k.size,h.nds.ext k,h.row,h.lim⟩
theorem CnTo.step {w w1 w2:World}{A A1:Option Addr}{f:List Fz}(h:CnTo w1 base x NA nn nc nd root A1 f w2)(hm:Mod (RdS x A) w w1)(hv:Moved w A A1):CnTo w base x NA nn nc nd root A f w2:=by
 obtain⟨A2,c2,h2,hm2,hv2⟩:=h;exact⟨A2,c2,h2,RdS.trans hm hv hm2,hv.trans hv2 hm.size⟩
theorem Cn.keep {w w':World}{A:Option Addr}{c:Nat}{f:List Fz}(h:Cn w base x NA nn nc nd root A c f)(hm:Mod (RdS x A) w w'):SB w' NA nn nc nd:=by
 refine⟨h.nds.1.modS hm ?_,h.nds.2⟩;rintro h0 i ⟨ad,rfl,rfl⟩ hi;obtain⟨r1,r2⟩:=h.row ad rfl h0;rcases hi with hi | hi
 ·exact r2 hi
 ·have:=(h.own.rows _ hi).1;omega
theorem fQd (A:Option Addr)(c:Nat)(f:List Fz)(z:Fz)(w:World)(h:Cn w base x NA nn nc nd root A c f):
  Fn Tryz.prog 221 [.pointer (some ⟨x,0,none⟩),.agg z.cells.toArray] w (fun v w'=>v= .int .i64 ((dQy z f).1:Nat)/\CnTo w base x NA nn nc nd root A (dQy z f).2 w'):=by
 refine aQf (c:={zQd with cuts:=[]}) aQb Tryz.func221 rfl rfl rfl ?_;refine new (fun w1 hE1 hz1 hB1=>?_);have h1:=h.ext hE1;have hlim:=h.lim;have hrows:=h.own.rows;have hlt:=h.lt;have htop:=h.top;have hnx:¬aQx A x:=fun hr=>by have:=(hrows x hr).1;omega
 refine aQe h1.blk rfl ?_;refine aQq (fun hl=>?_) (fun hl=>?_)
 ·have hle:f.length<=512:=by omega
  have e:dQy z f=(f.length,f++ [z]):=by unfold dQy;rw[if_pos hle]
  rw[e];refine aQm aQb (Mod (aQx A) w1) 8 [(true,0),(true,1),(true,2),(true,3),(true,4),(true,5),(false,6),(false,7)] (by kernel_rfl) (Mod.of_ext _ (Ext.drew w1)) ?_;refine aQy (v:=.slice A f.length c) (fun w' hw'=>by rw[(h1.blk.mod hw' hnx).cell];rfl) ?_;have hn1:¬aQx A w.heap.size:=fun hr=>by have:=(hrows _ hr).2;omega
  refine aQw (vs:=z.cells) rfl (fun w' hw' j v hj=>by rw[(hB1.mod hw' hn1).cell];exact hj) ?_;refine aQl aQb [z.cells] rfl rfl rfl rfl rfl ⟨rfl,rfl,⟨⟩⟩ rfl (fun cs h=>by simp only[List.mem_singleton] at h;subst h;rfl) rfl (by decide) (by decide) ?_;intro w2 hE2 hz2 hB2;have hE12:=(Ext.drew w1).trans hE2;have h2:=h1.ext hE12;refine⟨Mod.of_ext _ hE12,?_⟩;have hs2:Sl w2 4 (some ⟨w1.drew.heap.size,0,none⟩) 1 1 z.cells:=Sl.own (sz:=4) (n:=1) hB2 (Nat.le_refl _) (by decide) (by simp[Fz.cells]);refine bQf aQb rfl rfl rfl rfl rfl (by decide) rfl rfl ⟨_,rfl⟩ rfl rfl h2.own hs2 (by intro u hu;simp[Fz.cells] at hu;rcases hu with rfl | rfl | rfl | rfl<;>rfl) (by unfold maxLen;omega) (by show _*32<=_;omega) h2.top ?_;intro A' c' w3 hm3 hown3 hmv3;have hM13:Mod (aQx A) w1 w3:=(Mod.of_ext (aQx A) hE12).trans hm3 (fun i hi=>.inl hi);refine⟨hM13,?_⟩;refine aQn (h1.blk.mod hM13 hnx) (by simp) (fun w4 hm4 hB4=>?_);refine aQe hB4 rfl ?_;have hz:=hE12.size;have hM4:Mod (RdS x A) w w4:=((Mod.of_ext (RdS x A) hE1).trans hM13 (fun i hi=>.inl (.inr hi))).trans hm4 (fun i hi=>.inl (.inl hi));refine aQa ((f.length:Nat):Int) (by omega) (by omega) ?_;refine⟨rfl,A',c',⟨?_,?_,hlt,Nat.le_trans htop hM4.size,h.keep hM4,h.row,?_⟩,hM4,hmv3.back (Nat.le_trans hE1.size hz)⟩
  ·show Blk w4 x _ [_,_,.slice A' (f++ [z]).length c'];rw[List.length_append];exact hB4
  ·show Own w4 base _ 4 A' (f++ [z]).length c' (fzV (f++ [z]));rw[List.length_append,nQm];exact hown3.mod hm4 (fun k hk e=>by have:=(hown3.rows k hk).1;omega)
  ·show(f++ [z]).length<=513;rw[List.length_append];simp only[List.length_cons,List.length_nil];omega
 ·have hle:¬f.length<=512:=by omega
  have e:dQy z f=(f.length-1,f):=by unfold dQy;rw[if_neg hle]
  rw[e];refine aQe h1.blk rfl ?_;refine aQa ((f.length-1:Nat):Int) (by omega) (by omega) ?_;exact⟨rfl,A,c,h1,Mod.of_ext _ hE1,Moved.refl _ _⟩
def tQl (base x:Nat)(NA:Option Addr)(nn nc:Nat)(nd:List Br)(root:Int)(m:Nat):Prop:=∀(n:Int)(f:List Fz)(A:Option Addr)(c:Nat)(w:World),Cn w base x NA nn nc nd root A c f->0<=n->n<m->n<nn+2->
 Fn Tryz.prog 192 [.pointer (some ⟨x,0,none⟩),.int .i64 n] w (fun v w'=>v= .int .i64 ((cQM nd m n f).1:Nat)/\CnTo w base x NA nn nc nd root A (cQM nd m n f).2 w')
theorem gQm (m:Nat)(H:tQl base x NA nn nc nd root m)(op v:Int)(pos:Bool)(n:Int)(f:List Fz)(A:Option Addr)(c:Nat)(w:World)(h:Cn w base x NA nn nc nd root A c f)(h0:0<=n)(hm:n<m)(hn:n<nn+2):
  Fn Tryz.prog 222 [.pointer (some ⟨x,0,none⟩),.int .i64 op,.int .i64 v,.bool pos,.int .i64 n] w (fun u w'=>u= .int .i64 ((cQa (cQM nd m) op v pos n f).1:Nat)/\CnTo w base x NA nn nc nd root A (cQa (cQM nd m) op v pos n f).2 w'):=by
 refine aQf (c:={zQe with cuts:=[2]}) aQb Tryz.func222 rfl rfl rfl ?_;refine call (fQd A c f ⟨2,v,0,0⟩ w h) ?_;rintro _ w1 ⟨rfl,A1,c1,h1,hm1,hv1⟩;refine iQl [] aQb [11] (fun a:Nat=>[.int .i64 a]) (fun a w'=>a=(if pos then dQy ⟨2,v,0,0⟩ f else dQy ⟨3,0,((dQy ⟨2,v,0,0⟩ f).1:Nat),0⟩ (dQy ⟨2,v,0,0⟩ f).2).1/\CnTo w base x NA nn nc nd root A (if pos then dQy ⟨2,v,0,0⟩ f else dQy ⟨3,0,((dQy ⟨2,v,0,0⟩ f).1:Nat),0⟩ (dQy ⟨2,v,0,0⟩ f).2).2 w') ?_ ?_
 ·refine eQl (wif (fun hp=>?_) (fun hp=>?_))
  ·subst hp;exact⟨_,rfl,rfl,A1,c1,h1,hm1,hv1⟩
  ·subst hp;refine call (fQd A1 c1 _ ⟨3,0,((dQy ⟨2,v,0,0⟩ f).1:Nat),0⟩ w1 h1) ?_;rintro _ w2 ⟨rfl,h2⟩;exact⟨_,rfl,rfl,h2.step hm1 hv1⟩
 rintro a w2 ⟨ha,A2,c2,h2,hm2,hv2⟩;unfold cQa;generalize hq:(if pos then dQy ⟨2,v,0,0⟩ f else dQy ⟨3,0,((dQy ⟨2,v,0,0⟩ f).1:Nat),0⟩ (dQy ⟨2,v,0,0⟩ f).2)=q at*;subst ha;simp only[hq];by_cases hon:op=4/\n=1
 ·rw[if_pos hon];refine aQZ hon.1 ?_;refine aQZ hon.2 ?_;exact⟨rfl,A2,c2,h2,hm2,hv2⟩
 ·rw[if_neg hon];by_cases h4:op=4
  ·refine aQZ h4 ?_;refine aQu (fun h1=>hon ⟨h4,h1⟩) ?_;refine call (H n q.2 A2 c2 w2 h2 h0 hm hn) ?_;rintro _ w3 ⟨rfl,A3,c3,h3,hm3,hv3⟩;refine call (fQd A3 c3 _ ⟨op,0,(q.1:Nat),((cQM nd m n q.2).1:Nat)⟩ w3 h3) ?_;rintro _ w4 ⟨rfl,h4⟩;exact⟨rfl,(h4.step hm3 hv3).step hm2 hv2⟩
  ·refine aQu h4 ?_;refine call (H n q.2 A2 c2 w2 h2 h0 hm hn) ?_;rintro _ w3 ⟨rfl,A3,c3,h3,hm3,hv3⟩;refine call (fQd A3 c3 _ ⟨op,0,(q.1:Nat),((cQM nd m n q.2).1:Nat)⟩ w3 h3) ?_;rintro _ w4 ⟨rfl,h4⟩;exact⟨rfl,(h4.step hm3 hv3).step hm2 hv2⟩
theorem nQC (hwf:WfB nd):∀m,tQl base x NA nn nc nd root m
 | 0=>fun n f A c w _ h0 hm _=>by omega
 | m+1=>fun n f A c w h h0 hm hn=>by
  have ih:=nQC hwf m;have hlim:=h.lim;have hnl:nd.length=nn:=h.nds.2;refine aQf (c:={yQW with cuts:=[]}) aQb Tryz.func192 rfl rfl rfl ?_;by_cases h1:n<2
  ·have e:cQM nd (m+1) n f=dQy ⟨min n 1,0,0,0⟩ f:=by rw[cQM,if_pos (.inl h1)]
   rw[e];refine aQO h1 ?_;refine norm (m:=min n 1) (by rw[Int.min_def];split<;>split<;>omega) ?_;refine call (fQd A c f ⟨min n 1,0,0,0⟩ w h) ?_;rintro _ w1 ⟨rfl,h1⟩;exact⟨rfl,h1⟩
  refine aQB h1 ?_;refine aQe h.blk rfl ?_;by_cases h2:512<f.length
  ·have e:cQM nd (m+1) n f=dQy ⟨min n 1,0,0,0⟩ f:=by rw[cQM,if_pos (.inr h2)]
   rw[e];refine aQO (by omega) ?_;refine norm (m:=min n 1) (by rw[Int.min_def];split<;>split<;>omega) ?_;refine call (fQd A c f ⟨min n 1,0,0,0⟩ w h) ?_;rintro _ w1 ⟨rfl,h1⟩;exact⟨rfl,h1⟩
  refine aQB (by omega) ?_;have hj:(n-2).toNat<nd.length:=by omega
  have hx:=List.getElem?_eq_getElem hj;generalize nd[(n-2).toNat]=y at hx;obtain⟨x1,x2,x3,x4⟩:=hwf _ _ hx;have e:cQM nd (m+1) n f=(if y.l=0 then cQa (cQM nd m) 4 y.v true y.h f else
    if y.h=0 then cQa (cQM nd m) 4 y.v false y.l f else
    if y.h=1 then cQa (cQM nd m) 5 y.v true y.l f else
    if y.l=1 then cQa (cQM nd m) 5 y.v false y.h f else
     dQy ⟨5,0,((cQa (cQM nd m) 4 y.v true y.h f).1:Nat),((cQa (cQM nd m) 4 y.v false y.l (cQa (cQM nd m) 4 y.v true y.h f).2).1:Nat)⟩ (cQa (cQM nd m) 4 y.v false y.l (cQa (cQM nd m) 4 y.v true y.h f).2).2):=by
   rw[cQM,if_neg (by omega),hx]
  rw[e];refine aQg h.blk rfl ?_;refine aQa (((n-2).toNat:Nat):Int) (by omega) (by have:=h.nds.1.le;have:=h.nds.1.cap;simp only[maxLen] at this;omega) ?_;refine aQp cQl h.nds rfl (by omega) (fun ad z hy hcl=>?_);have hyx:z=y:=Option.some.inj (hy.symm.trans hx);subst hyx;refine aQK (vs:=z.cells) rfl hcl ?_;refine new (fun w1 hE1 hz1 hB1=>?_);refine aQc hB1 rfl (sc rfl) (fun w2 hg2 hz2 hX2=>?_);have hE2:Ext w w2:=aQJ hE1 hB1 hg2;have hM2:Mod (RdS x A) w w2:=Mod.of_ext _ hE2;have h2':=h.ext hE2;have hbn:¬RdS x A w.heap.size:=fun e=>by
   have:=h.blk.lt;rcases e with e | e
   ·omega
   ·have:=(h.own.rows _ e).2;omega
  refine aQe hX2 rfl ?_;refine aQP (fun c1=>?_) (fun c1=>?_)
  ·rw[if_pos c1];refine aQg hX2 rfl ?_;refine aQe hX2 rfl ?_;refine call (gQm m ih 4 z.v true z.h f A c w2 h2' x3 (by omega) (by omega)) ?_;rintro _ w3 ⟨rfl,h3⟩;exact⟨rfl,h3.step hM2 (Moved.refl _ _)⟩
  rw[if_neg c1];refine aQe hX2 rfl ?_;refine aQP (fun c2=>?_) (fun c2=>?_)
  ·rw[if_pos c2];refine aQg hX2 rfl ?_;refine aQe hX2 rfl ?_;refine call (gQm m ih 4 z.v false z.l f A c w2 h2' x1 (by omega) (by omega)) ?_;rintro _ w3 ⟨rfl,h3⟩;exact⟨rfl,h3.step hM2 (Moved.refl _ _)⟩
  rw[if_neg c2];refine aQe hX2 rfl ?_;refine aQP (fun c3=>?_) (fun c3=>?_)
  ·rw[if_pos c3];refine aQg hX2 rfl ?_;refine aQe hX2 rfl ?_;refine call (gQm m ih 5 z.v true z.l f A c w2 h2' x1 (by omega) (by omega)) ?_;rintro _ w3 ⟨rfl,h3⟩;exact⟨rfl,h3.step hM2 (Moved.refl _ _)⟩
  rw[if_neg c3];refine aQe hX2 rfl ?_;refine aQP (fun c4=>?_) (fun c4=>?_)
  ·rw[if_pos c4];refine aQg hX2 rfl ?_;refine aQe hX2 rfl ?_;refine call (gQm m ih 5 z.v false z.h f A c w2 h2' x3 (by omega) (by omega)) ?_;rintro _ w3 ⟨rfl,h3⟩;exact⟨rfl,h3.step hM2 (Moved.refl _ _)⟩
  rw[if_neg c4];refine aQg hX2 rfl ?_;refine aQe hX2 rfl ?_;refine call (gQm m ih 4 z.v true z.h f A c w2 h2' x3 (by omega) (by omega)) ?_;rintro _ w3 ⟨rfl,A3,c3,h3,hm3,hv3⟩;have hX3:=hX2.mod hm3 hbn;refine aQg hX3 rfl ?_;refine aQe hX3 rfl ?_;refine call (gQm m ih 4 z.v false z.l _ A3 c3 w3 h3 x1 (by omega) (by omega)) ?_;rintro _ w4 ⟨rfl,A4,c4,h4,hm4,hv4⟩;refine call (fQd A4 c4 _ ⟨5,0,((cQa (cQM nd m) 4 z.v true z.h f).1:Nat),((cQa (cQM nd m) 4 z.v false z.l (cQa (cQM nd m) 4 z.v true z.h f).2).1:Nat)⟩ w4 h4) ?_;rintro _ w5 ⟨rfl,h5⟩;exact⟨rfl,(((h5.step hm4 hv4).step hm3 hv3)).step hM2 (Moved.refl _ _)⟩
end
end
section
open Go Go.RowKit
noncomputable def ofP (nd:List Br)(root:Int):List Fz×Int:=if bQS nd root=0 then(if 512<(cQM nd (root.toNat+1) root []).2.length then([],2)else((cQM nd (root.toNat+1) root []).2,0))else([],bQS nd root)
noncomputable def oQH (names:List (List Nat))(nd:List Br)(root:Int):List Nat×Int:=if aQV names then(if(ofP nd root).2=0 then fQy names (ofP nd root).1 else([],(ofP nd root).2))else([],1)
theorem of_fn (A:Option Addr)(n c:Nat)(nd:List Br)(root:Int)(w:World)(h:SB w A n c nd):
  Fn Tryz.prog 133 [dgV A n c root] w (uQd w (ofP nd root)):=by
 have hlen:=h.2;refine aQf (c:={yQl with cuts:=[]}) aQb Tryz.func133 rfl rfl rfl ?_;refine new (fun w1 hE1 hz1 hB1=>?_);refine aQd hB1 rfl ?_;refine call (dQI A n c nd root w1 (h.ext hE1)) ?_;rintro v w2 ⟨rfl,hE2⟩;have hE02:=hE1.trans hE2;have hB2:=hB1.ext hE2;refine cQj (fun c1=>?_) (fun c1=>?_)
 ·refine⟨none,0,0,?_,hE02,?_⟩
  ·unfold ofP;rw[if_neg c1]
  ·unfold ofP;rw[if_neg c1];exact SlS.nil _
 obtain⟨hsm,hv⟩:=bQC.1 c1;have hwf:=hv.wf;refine aQd hB2 rfl ?_;refine new (fun w3 hE3 hz3 hB3=>?_);have hE03:=hE02.trans hE3;have hz1':=hE2.size;have hC:Cn w3 w3.heap.size w2.heap.size A n c nd root none 0 []:=⟨hB3,Own.nil _ _ _ _,by omega,Nat.le_refl _,h.ext hE03,fun ad e hn=>by
  have h1:=SB.lt (h.ext hE02) ad e hn;exact⟨by omega,by omega⟩,by simp⟩
 refine aQe (hB2.ext hE3) rfl ?_;have r0:=hv.2.1;have r1:=hv.2.2.1;refine call (nQC hwf (root.toNat+1) root [] none 0 w3 hC r0 (by omega) (by omega)) ?_;rintro v w4 ⟨rfl,A4,c4,hC4,hm4,hv4⟩;have hE4:Ext w w4:=hm4.ext hE03 (fun i hi=>by
  rcases hi with rfl | ⟨_,e,_⟩
  ·have:=hE02.size;omega
  ·cases e)
 refine aQe hC4.blk rfl ?_;refine aQq (fun c2=>?_) (fun c2=>?_)
 ·have e:ofP nd root=([],2):=by unfold ofP;rw[if_pos c1,if_pos (by omega)]
  rw[e];exact⟨none,0,0,rfl,hE4,SlS.nil _⟩
 ·have e:ofP nd root=((cQM nd (root.toNat+1) root []).2,0):=by unfold ofP;rw[if_pos c1,if_neg (by omega)]
  rw[e];refine aQe hC4.blk rfl ?_;exact⟨A4,_,c4,rfl,hE4,hC4.own.sl,rfl⟩
theorem uQB (names:List (List Nat))(A NA:Option Addr)(n c nn nc:Nat)(nd:List Br)(root:Int)(w:World)(h:Sl w 1 A n c (aQ6 names))(hb:aQ2 names)(hN:SB w NA nn nc nd)
  (hl:(prF names 0 (eQd (ofP nd root).1)).length<=140737488355328):
  Fn Tryz.prog 86 [.slice A n c,dgV NA nn nc root] w (tQf w (oQH names nd root)):=by
 refine aQf (c:={c86 with cuts:=[]}) aQb Tryz.func86 rfl rfl rfl ?_;refine new (fun w1 hE1 hz1 hB1=>?_);refine call (gQb names A n c w1 (h.ext hE1) hb) ?_;rintro v w2 ⟨v1,rfl,hE2,_⟩;have hE02:=hE1.trans hE2;cases hok:aQV names with
 | false=>
  refine aQM rfl ?_;exact⟨by unfold oQH;rw[hok];rfl,hE02⟩
 | true=>
  refine aQN rfl ?_;refine aQd (hB1.ext hE2) rfl ?_;refine call (of_fn NA nn nc nd root w2 (hN.ext hE02)) ?_;rintro v w3 ⟨F,m,cF,rfl,hE3,hF⟩;have hE03:=hE02.trans hE3;have e:oQH names nd root=if(ofP nd root).2=0 then fQy names (ofP nd root).1 else([],(ofP nd root).2):=by unfold oQH;rw[if_pos hok]
  refine cQj (fun c1=>?_) (fun c1=>?_)
  ·exact⟨by rw[e,if_neg c1];rfl,hE03⟩
  ·refine call (sQe names A F n c m cF _ w3 (h.ext hE03) hb hF (fun _ _=>hl)) ?_;rintro v w4 ⟨rfl,hE4⟩;exact⟨by rw[e,if_pos c1],hE03.trans hE4⟩
end
end
section
section
open Go Go.RowKit
theorem mQu {w1 w2 w:World}{g:Nat}{r:(List Br×Int)×Int}{A:Option Addr}{n c:Nat}(hE:Ext w w1)(hM:Mod (·=g) w1 w2)(hg:w.heap.size<=g)(hs:SB w1 A n c r.1.1)(hr:∀i,aQx A i->g<i):
  Ext w w2/\SB w2 A n c r.1.1/\∀i,aQx A i->w.heap.size<=i:=
 ⟨hM.ext hE (fun i hi=>by omega),⟨hs.1.modS hM (fun _ i hi e=>by have:=hr i hi;omega),hs.2⟩,fun i hi=>by have:=hr i hi;omega⟩
end
section
open Go Go.RowKit
theorem oQI {names:List (List Nat)}(h:names.all (fun s=>s.all (fun x=>decide (x<256))&&decide (s.length<=100))=true):aQ2 names:=fun s hs=>by
 have:=List.all_eq_true.1 h s hs;rw[Bool.and_eq_true,decide_eq_true_eq] at this;exact⟨fun x hx=>by have:=List.all_eq_true.1 this.1 x hx;simpa using this,by omega⟩
theorem uQC {k:Int}(h0:0<=k)(h1:k<=63):Rd0 [⟨k,0,1⟩]:=fun j b hb=>by
 obtain⟨rfl,rfl⟩:=cQt hb;refine⟨h0,h1,Int.le_refl 0,?_,(by decide:(0:Int)<=1),?_,(by decide:(0:Int)≠1),by simp,?_,?_⟩
 ·simp only;omega
 ·simp only;omega
 ·rw[cQ2 (by simp only;omega)];simp only;omega
 ·rw[cQ2 (by simp only;omega)];simp only;omega
theorem nQD {k:Int}(h0:0<=k)(h1:k<=63):VD [⟨k,0,1⟩] 2:=⟨uQC h0 h1,by decide,by simp,rfl⟩
end
section
open Go Go.RowKit
end
end
end Go.Proofs.YtjabbbcdgmlojaaGreatDoor
