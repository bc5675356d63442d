/-
  What PPatchAppliesLikeReference rests on, part 2 (wip/shake.py).
  Conditions: none.
-/
import Derived.Test.YtjabbbcdgmlojaaGreatDoorQPPatchAppliesLikeReferencea
set_option linter.all false
set_option linter.deprecated false
set_option maxHeartbeats 12800000
namespace Go.Proofs.YtjabbbcdgmlojaaGreatDoor
open Go Go.RowKit
section
section
theorem Xe {C:θ->Prop}{p:Addr}{n:Nat}{vs:χ τ}{K:χ τ->Prop}(a:vs.length=n)(h:∀w,C w->∀j v,vs[j]? =some v->w.cell? (p.add j)=some v)(k:K vs):yd C p n K:=by unfold yd;exact⟨vs,a,h,k⟩
def pq (f:χ Fz):χ τ:=f.flatMap Fz.cells
theorem Nj (f:χ Fz)(x:Fz):pq (f++ [x])=pq f++x.cells:=by simp[pq]
structure Rd (w:World) (base r:Nat) (A:Θ) (c:Nat) (mp:Value) (p:Ps):Prop where
 blk:Blk w r 222 [mp,.string (Qb p.r),.slice A p.f.length c,.bool p.u]
 own:Own w base 280 4 A p.f.length c (pq p.f)
 lt:r<base
 top:base<=w.heap.size
 b8:∀x∈p.r,x<256
 lim:p.f.length+p.r.length<=1000000000000
theorem Rd.ext {w b:θ}{a r:Nat}{A:Θ}{c:Nat}{d:τ}{p:Ps}(h:Rd w a r A c d p)(k:Ext w b):Rd b a r A c d p:=
 ⟨h.blk.ext k,h.own.ext k,h.lt,XU h.top k.size,h.b8,h.lim⟩
def RdS (r:Nat)(A:Θ):Nat->Prop:=λk=>k=r∨Qj A k
def RdTo (w:θ)(a r:Nat)(A:Θ)(d:τ)(p:Ps)(b:θ):Prop:=∃c e,Rd b a r c e d p/\Mod (RdS r A) w b/\Moved w A c
theorem RdTo.step {w b w2:θ}{a r:Nat}{A c:Θ}{d:τ}{p:Ps}(h:RdTo b a r c d p w2)(e:Mod (RdS r A) w b)(f:Moved w A c):RdTo w a r A d p w2:=by obtain⟨b,c,d,g,j⟩:=h;refine⟨b,c,d,e.trans g λi a=>?_,f.trans j e.size⟩;obtain rfl|a:=a;exact .inl (.inl rfl);obtain h|h:=f.rows i a;exact .inl (.inr h);exact .inr h
theorem Rd.nrow {w:θ}{a r:Nat}{A:Θ}{c:Nat}{b:τ}{p:Ps}(h:Rd w a r A c b p):¬Qj A r:=λa=>by have:=(h.own.rows r a).1;have:=h.lt;omega
theorem yk (l:Γ):(Js l).length<=l.length:=(UX _).sublist.length_le
theorem kQH {l:Γ}(h:∀x∈l,x<256):∀x∈Js l,x<256:=λx a=>h x ((UX _).subset a)
theorem Bw (a:Γ)(p:Ps):Vc a p=(a.isPrefixOf (Js p.r),{p with r:=if a.isPrefixOf (Js p.r)then(Js p.r).drop a.length else Js p.r}):=by unfold Vc;cases a.isPrefixOf (Js p.r)<;>rfl
theorem ym (b r:Nat)(A:Θ)(c:Nat)(o:τ)(p:Ps)(a:Γ)(w:θ)(h:Rd w b r A c o p)(u:∀x∈a,x<256):Fn ψ 142 [.pointer (some ⟨r,0,none⟩),.string (Qb a)] w (λv q=>v= .bool (Vc a p).1/\Rd q b r A c o (Vc a p).2/\Mod (·=r) w q):=by
 have C:=h.lim;have z:=yk p.r;have k:=kQH h.b8;refine KS (c:=iQZ) Qe Tryz.func142 rfl rfl rfl ?_;refine Qp h.blk rfl (call (kQA p.r w h.b8 ω) ?_);rintro v E ⟨rfl,m⟩;refine Xv (h.blk.ext m) (by simp) λs t g=>?_;refine Qp g rfl (call (kQv (Js p.r) a s k u) ?_);rintro v w3 ⟨rfl,rfl⟩;have n:∀w3,Mod (·=r) s w3->Mod (·=r) w w3:=λw3 f=>((Mod.of_ext (·=r) m).trans t λ_=>.inl).trans f λ_=>.inl;rw[Bw];unfold Bt;cases D:a.isPrefixOf (Js p.r)with
 |true=>
  refine Xv g (by simp) λw3 f j=>?_;have d:=n w3 f;have B:((Js p.r).drop a.length).length<=p.r.length:=by rw[Wz];omega
  exact⟨rfl,⟨j,h.own.mod d (λi l e=>by subst e;exact h.nrow l),h.lt,XU h.top d.size,λx y=>k x (a8 y),by show p.f.length+((Js p.r).drop a.length).length<=_;omega⟩,d⟩
 |false=>refine Xv g (by simp) λw3 f j=>?_;have d:=n w3 f;exact⟨rfl,⟨j,h.own.mod d (λi l e=>by subst e;exact h.nrow l),h.lt,XU h.top d.size,k,by show p.f.length+(Js p.r).length<=_;omega⟩,d⟩
theorem uU (a r:Nat)(A:Θ)(c:Nat)(d:τ)(p:Ps)(x:Fz)(w:θ)(h:Rd w a r A c d p)(g:p.f.length+p.r.length+1<=1000000000000):Fn ψ 226 [.pointer (some ⟨r,0,none⟩),.agg x.cells.toArray] w (λv f=>v= .int .i64 (p.f.length:Nat)/\RdTo w a r A d (WD x p).2 f):=by
 refine KS (c:=jQ6) Qe Tryz.func226 rfl rfl rfl ?_;refine new λd g l o=>?_;have l:=h.ext g;have q:=h.own.rows;have m:Mod (Qj A) d d.drew:=Mod.of_ext _ (Ext.drew d);refine Xw (Mod (Qj A) d) 8 (oz 6 0 [(false,6),(false,7)]) m (Qx (v:=.slice A p.f.length c) (λf m=>by rw[(l.blk.mod m h.nrow).cell];rfl) ?_);have s:¬Qj A w.heap.size:=λt=>by have:=(q _ t).2;omega
 refine Xe (vs:=x.cells) rfl (λf m j v q=>by rw[(o.mod m s).cell];exact q) (XM (x.cells) ?_);intro o m f q;have f:=(Ext.drew d).trans m;have m:=l.ext f;refine⟨Mod.of_ext _ f,?_⟩;have s:Sl o 4 (some ⟨d.drew.heap.size,0,none⟩) 1 1 x.cells:=Sl.own (sz:=4) (n:=1) q (Qw _) δ (by simp[Fz.cells]);refine XV m.own s (by intro u o;simp[Fz.cells] at o;obtain rfl|rfl|rfl|rfl:=o <;>rfl) (by unfold maxLen;omega) m.top ?_ (b:=(by show _*32<=_;omega));intro o t w3 s q y;have m:Mod (Qj A) d w3:=(Mod.of_ext (Qj A) f).trans s λ_=>.inl;refine⟨m,?_⟩;have d:=l.blk.mod m h.nrow;refine Xv d (by simp) λw4 l s=>?_;refine Qp s rfl ?_;have z:=f.size;have B:∀k,Qj o k->a<=k:=λk a=>(q.rows k a).1;have f:Mod (RdS r A) w w4:=((Mod.of_ext (RdS r A) g).trans m λi d=>.inl (.inr d)).trans l λi d=>.inl (.inl d);refine Qz ((p.f.length:Nat):Int) ?_;refine⟨rfl,o,t,⟨?_,?_,h.lt,XU h.top f.size,h.b8,?_⟩,f,y.back (XU g.size z)⟩
 have e:(WD x p).2.f.length=p.f.length+1:=by simp[WD]
 rw[e];exact s;have e:(WD x p).2.f.length=p.f.length+1:=by simp[WD]
 rw[e,show pq (WD x p).2.f=pq p.f++x.cells from Nj _ _];exact q.mod l (λk a e=>by have:=B k a;have:=h.lt;omega);have e:(WD x p).2.f.length=p.f.length+1:=by simp[WD]
 rw[e];show p.f.length+1+p.r.length<=_;omega
end
section
theorem uV {c:Cx}{o:Oper}{S:Env}{w:θ}{K:Env->θ->Prop}{Q:ZD}{t:Nat}{v:τ}{x:Operand}(d:o.op= .panic x)(e:S.ev x=some (.iface t v))(k:Q (.panic [{v:=.iface t v,recovered:=false}]) S w):Zv c o S w K Q:=by
 unfold Zv;intro a b;have f:=b.ev e;unfold Oper.wp;have:(execOp a.eval o).run c.g.P w= .halt (.panic (.iface t v)) w:=by simp only[execOp,d,f];simp[Instr.panic,goPanic]
 rw[this];exact⟨S,b,k⟩
def kQI:χ PanicEntry:=[{v:=.iface 34 (.int .i64 31),recovered:=false}]
def PanTo (w:θ)(r:Nat)(A:Θ)(a:χ PanicEntry)(b:θ):Prop:=a=kQI/\Mod (RdS r A) w b
theorem RdS.trans {w a w2:θ}{r:Nat}{A b:Θ}(c:Mod (RdS r A) w a)(d:Moved w A b)(h:Mod (RdS r b) a w2):Mod (RdS r A) w w2:=
 c.trans h (λi a=>by
  obtain rfl|a:=a;exact .inl (.inl rfl);obtain h|h:=d.rows i a;exact .inl (.inr h);exact .inr h)
theorem PanTo.step {w a w2:θ}{r:Nat}{A b:Θ}{c:χ PanicEntry}(h:PanTo a r b c w2)(d:Mod (RdS r A) w a)(e:Moved w A b):PanTo w r A c w2:=⟨h.1,RdS.trans d e h.2⟩
def yo (c:Ps->Option (Nat×Ps)):Prop:=∀p a b,c p=some (a,b)->b.f.length+b.r.length<=p.f.length+p.r.length/\b.r.length<p.r.length
theorem rO (a:Γ)(p c:Ps)(b:Bool)(h:Vc a p=(b,c)):c.f=p.f/\c.u=p.u/\c.r.length<=p.r.length/\(b=true->c.r.length+a.length<=p.r.length):=by rw[Bw] at h;have c:=yk p.r;cases h;refine⟨rfl,rfl,?_,λa=>?_⟩;show List.length (if _ then _ else _)<=_;split;rw[Wz];omega;exact c;show List.length (if _ then _ else _)+_<=_;rw[Qf a,Wz];have:=(xS.1 a).length_le;omega
theorem aQ6 {c:Γ}{g:Int}{e:Ps->Option (Nat×Ps)}(l:0<c.length)(i:yo e):∀(m a:Nat)(p:Ps)(b:Nat)(f:Ps),jT c g e m a p=some (b,f)->f.f.length+f.r.length<=p.f.length+p.r.length/\f.r.length<=p.r.length
 |0,a,p,b,f,h=>by cases h
 |m+1,a,p,b,f,h=>by
  unfold jT at h;cases j:Vc c p with|mk t g=>
   obtain⟨k,o,r,n⟩:=rO c p g t j;rw[j] at h;cases t with|false=>cases h;rw[k];omega|true=>
    simp only at h;cases c:e g with
    |none=>rw[c] at h;cases h
    |some q=>obtain⟨d,e⟩:=q;rw[c] at h;simp only at h;obtain⟨j,o⟩:=i g d e c;have:=aQ6 l i m _ _ b f h;simp only[Qy,Xa,Jz] at this;have:=n rfl;rw[k] at j;omega
theorem Nk {d:Γ}{f:Int}{c:Ps->Option (Nat×Ps)}(g:0<d.length)(e:yo c):yo (YZ d f c):=by
 intro p b f h;unfold YZ at h;cases d:c p with
 |none=>rw[d] at h;cases h
 |some q=>obtain⟨a,c⟩:=q;rw[d] at h;simp only at h;have i:=e p a c d;have c:=aQ6 g e _ _ _ b f h;omega
structure OpdC (L base r:Nat) (mp:Value) (fid:Nat) (args:List Value) (G:World->Θ->Prop) (opd:Ps->Option (Nat×Ps)):Prop where
 run:∀w A c p,Rd w base r A c mp p->G w A->p.r.length<L->FnP Tryz.prog fid args w (λv w'=>∃(a:Nat) (p':Ps),opd p=some (a,p')/\v= .int .i64 (a:Nat)/\RdTo w base r A mp p' w') λch w'=>opd p=none/\PanTo w r A ch w'
 stay:∀w w' A A',G w A->Mod (RdS r A) w w'->Moved w A A'->G w' A'
 lim:yo opd
structure Est where
 a:Nat
 p:Ps
 A:Θ
 c:Nat
theorem kQJ (L f r:Nat)(A:Θ)(c:Nat)(y:τ)(p:Ps)(e:Γ)(k:Int)(G:θ->Θ->Prop)(g:Ps->Option (Nat×Ps))(w:θ)
  (h:Rd w f r A c y p) (hG:G w A) (hs:∀x∈e,x<256) (HI:0<e.length) (hL:p.r.length<L) (H:OpdC L f r y 198 [.pointer (some ⟨r,0,none⟩)] G g):
  FnP ψ 196 [.pointer (some ⟨r,0,none⟩),.string (Qb e),.int .i64 k,.func (.func 198) #[.pointer (some ⟨r,0,none⟩)] #[]] w
   (λv o=>∃(a:Nat) (Z:Ps),YZ e k g p=some (a,Z)/\v= .int .i64 (a:Nat)/\RdTo w f r A y Z o) (λK o=>YZ e k g p=none/\PanTo w r A K o):=by
 refine d7 (c:={aQN with cuts:=[]}) Qe Tryz.func196 rfl rfl rfl ?_;refine Zl (H.run w A c p h hG hL) ?_ ?_
 rotate_left
 ·rintro K w1 ⟨B,N⟩;refine⟨?_,N⟩;unfold YZ;rw[B]
 rintro v w1 ⟨a,p1,B,rfl,P,c1,h1,U,zi⟩;obtain⟨Vh,Km⟩:=H.lim p a p1 B;have KE:YZ e k g p=jT e k g (p1.r.length+1) a p1:=by unfold YZ;rw[B]
 refine loop Qe [9] (λs:Est=>[.int .i64 s.a]) (λs o=>Rd o f r s.A s.c y s.p/\G o s.A/\s.p.r.length<L/\Mod (RdS r A) w o/\Moved w A s.A/\∃m,s.p.r.length<m/\jT e k g m s.a s.p=YZ e k g p) (λs _=>s.p.r.length) ⟨a,p1,P,c1⟩ rfl ⟨h1,H.stay w w1 A P hG U zi,by show p1.r.length<L;omega,U,zi,_,iU _,KE.symm⟩ ?_;rintro⟨d,q,l,J⟩ O ⟨M,sE,PX,V,u,m,TO,j⟩;simp only at M sE PX V u TO j;refine call (ym f r l J y q e O M hs) ?_;rintro v w3 ⟨rfl,z,XL⟩;cases m with
 | zero=>omega
 | succ m=>
 unfold jT at j;have R:Mod (RdS r l) O w3:=XL.mono (λi hi=>.inl (.inl hi));have C:=RdS.trans V u R;cases Y:Vc e q with
 | mk t E=>
  obtain⟨k1,k2,k3,k4⟩:=rO e q E t Y;rw[Y] at z j;simp only at z;cases t with
  | false=>
   refine QX rfl ?_;exact⟨d,E,j.symm,rfl,l,J,z,C,u⟩
  | true=>
   refine Q3 rfl ?_;simp only at j;have k5:=k4 rfl;have vE:=H.stay O w3 l l sE R (Moved.refl _ _);refine Zl (H.run w3 l J E z vE ω) ?_ ?_
   rotate_left
   ·rintro K F ⟨D,N⟩;rw[D] at j;exact⟨j.symm,N.step C u⟩
   rintro v F ⟨b,n,D,rfl,I,c4,h4,W,zj⟩;obtain⟨l1,l2⟩:=H.lim E b n D;rw[D] at j;simp only at j;have hlq:=M.lim;rw[k1] at l1;have C3:=H.stay w3 F l I vE W zj;have X:=RdS.trans C u W;have S:=u.trans zj C.size;refine call (uU f r I c4 y n ⟨k,0,d,b⟩ F h4 ω) ?_;rintro v w5 ⟨rfl,Q,c5,h5,T,vF⟩;refine⟨⟨n.f.length,(WD ⟨k,0,d,b⟩ n).2,Q,c5⟩,rfl,⟨h5,H.stay F w5 I Q C3 T vF,?_,RdS.trans X S T,S.trans vF X.size,m,?_,j⟩,?_⟩
   ·show n.r.length<L;omega
   ·show n.r.length<m;omega
   ·show n.r.length<q.r.length;omega
theorem kQK (L f r:Nat)(A:Θ)(c:Nat)(y:τ)(p:Ps)(e:Γ)(k:Int)(x:Nat)(G:θ->Θ->Prop)(g:Ps->Option (Nat×Ps))(w:θ)
  (h:Rd w f r A c y p) (hG:G w A) (hs:∀x∈e,x<256) (HI:0<e.length) (hL:p.r.length<L) (H:OpdC L f r y 197 [.pointer (some ⟨x,0,none⟩)] G g):
  FnP ψ 196 [.pointer (some ⟨r,0,none⟩),.string (Qb e),.int .i64 k,.func (.func 197) #[] #[.pointer (some ⟨x,0,none⟩)]] w
   (λv o=>∃(a:Nat) (Z:Ps),YZ e k g p=some (a,Z)/\v= .int .i64 (a:Nat)/\RdTo w f r A y Z o) (λK o=>YZ e k g p=none/\PanTo w r A K o):=by
 refine d7 (c:={aQN with cuts:=[]}) Qe Tryz.func196 rfl rfl rfl ?_;refine Zl (H.run w A c p h hG hL) ?_ ?_
 rotate_left
 ·rintro K w1 ⟨B,N⟩;refine⟨?_,N⟩;unfold YZ;rw[B]
 rintro v w1 ⟨a,p1,B,rfl,P,c1,h1,U,zi⟩;obtain⟨Vh,Km⟩:=H.lim p a p1 B;have KE:YZ e k g p=jT e k g (p1.r.length+1) a p1:=by unfold YZ;rw[B]
 refine loop Qe [9] (λs:Est=>[.int .i64 s.a]) (λs o=>Rd o f r s.A s.c y s.p/\G o s.A/\s.p.r.length<L/\Mod (RdS r A) w o/\Moved w A s.A/\∃m,s.p.r.length<m/\jT e k g m s.a s.p=YZ e k g p) (λs _=>s.p.r.length) ⟨a,p1,P,c1⟩ rfl ⟨h1,H.stay w w1 A P hG U zi,by show p1.r.length<L;omega,U,zi,_,iU _,KE.symm⟩ ?_;rintro⟨d,q,l,J⟩ O ⟨M,sE,PX,V,u,m,TO,j⟩;simp only at M sE PX V u TO j;refine call (ym f r l J y q e O M hs) ?_;rintro v w3 ⟨rfl,z,XL⟩;cases m with
 | zero=>omega
 | succ m=>
 unfold jT at j;have R:Mod (RdS r l) O w3:=XL.mono (λi hi=>.inl (.inl hi));have C:=RdS.trans V u R;cases Y:Vc e q with
 | mk t E=>
  obtain⟨k1,k2,k3,k4⟩:=rO e q E t Y;rw[Y] at z j;simp only at z;cases t with
  | false=>
   refine QX rfl ?_;exact⟨d,E,j.symm,rfl,l,J,z,C,u⟩
  | true=>
   refine Q3 rfl ?_;simp only at j;have k5:=k4 rfl;have vE:=H.stay O w3 l l sE R (Moved.refl _ _);refine Zl (H.run w3 l J E z vE ω) ?_ ?_
   rotate_left
   ·rintro K F ⟨D,N⟩;rw[D] at j;exact⟨j.symm,N.step C u⟩
   rintro v F ⟨b,n,D,rfl,I,c4,h4,W,zj⟩;obtain⟨l1,l2⟩:=H.lim E b n D;rw[D] at j;simp only at j;have hlq:=M.lim;rw[k1] at l1;have C3:=H.stay w3 F l I vE W zj;have X:=RdS.trans C u W;have S:=u.trans zj C.size;refine call (uU f r I c4 y n ⟨k,0,d,b⟩ F h4 ω) ?_;rintro v w5 ⟨rfl,Q,c5,h5,T,vF⟩;refine⟨⟨n.f.length,(WD ⟨k,0,d,b⟩ n).2,Q,c5⟩,rfl,⟨h5,H.stay F w5 I Q C3 T vF,?_,RdS.trans X S T,S.trans vF X.size,m,?_,j⟩,?_⟩
   ·show n.r.length<L;omega
   ·show n.r.length<m;omega
   ·show n.r.length<q.r.length;omega
end
section
theorem XF {p:Prop}{v v':τ}{K:τ->Prop}(a:p)(h:v=v')(k:K v'):mW p v K:=by unfold mW;exact⟨a,by rw[h];exact k⟩
theorem MapAt.mod {α:Type}{a:α->τ}{S:Nat->Prop}{w b:θ}{r:Nat}{m:χ (α×τ)}(h:MapAt a w r m)(k:Mod S w b)(c:¬S r):MapAt a b r m:=by obtain⟨b,d,e,a⟩:=h.ex;exact⟨b,d,e,(k.block r (mQ.1 a).1 c).trans a⟩
theorem Bx {α:Type} [DecidableEq α]{kv:α->τ}{c:Cx}{o:Oper}{S:Env}{w:θ}{K:Env->θ->Prop}{Q:ZD}{t d e:Nat}{r f g:TyRow}{x y:Operand}{q:Nat}{m:χ (α×τ)}{a:α}{v:τ}{b:Bool}(h:c.g.Ok)(i:o.op= .lookup t x y true) (j:Q8 c.g.tys t=some r) (l:r.d= .map d e) (n:Q8 c.g.tys d=some f) (p:Q8 c.g.tys e=some g) (s:KeyV f.d kv)(u:S.ev x=some (.map (some q))) (z:S.ev y=some (kv a)) (A:MapAt kv w q m) (B:(Zc a m).getD g.z=v) (C:(Zc a m).isSome=b) (k:XD c S o.dst (.v (.tuple #[v,.bool b])) λS=>K S w):Zv c o S w K Q:=by subst B;subst C;exact iQi h i j l n p s u z A k
section
variable (ix:List Nat->Option Nat) (n:Nat)
theorem Nm {p b:Ps}(h:Vc [33] p=(true,b)):fT ix (n+1) p=match fT ix n b with|none=>none|some (a,b)=>some (WD ⟨3,0,a,0⟩ b):=by rw[fT,h]<;>rfl
theorem Nn {p b c:Ps}(h:Vc [33] p=(false,b))(d:Vc [40] b=(true,c)):fT ix (n+1) p=match kX ix n c with|none=>none|some (a,b)=>match Vc [41] b with|(true,c)=>some (a,c)|(false,_)=>none:=by rw[fT,h];simp only;rw[d]<;>rfl
theorem Np {p b a:Ps}(h:Vc [33] p=(false,b))(c:Vc [40] b=(false,a)):fT ix (n+1) p=if YY a.r=0 then none else
   if a.r.take (YY a.r)=dx then some (WD ⟨1,0,0,0⟩ {a with r:=a.r.drop (YY a.r)})else if a.r.take (YY a.r)=fg then some (WD ⟨0,0,0,0⟩ {a with r:=a.r.drop (YY a.r)})else
    some (WD ⟨2,((ix (a.r.take (YY a.r))).getD 0:Nat),0,0⟩ {a with r:=a.r.drop (YY a.r),u:=a.u||(ix (a.r.take (YY a.r))).isNone}):=by
 rw[fT,h];simp only;rw[c]<;>rfl
end
theorem Nq (c:Γ->Option Nat):∀n,yo (fT c n)
 |0=>λp a y h=>by cases h
 |n+1=>λp a y h=>by
  have m:=Nq c n;cases j:Vc [33] p with|mk t i=>
   obtain⟨f,_,k3,w⟩:=rO _ p i t j;cases t with
   |true=>
    rw[Nm c n j] at h;cases e:fT c n i with
    |none=>rw[e] at h;cases h
    |some q=>obtain⟨d,b⟩:=q;rw[e] at h;cases h;have:=m i d b e;have:=w rfl;rw[f] at*;simp only[Qy,Xa,Jz] at*;omega
   |false=>
    cases k:Vc [40] i with|mk t2 b=>
     obtain⟨g,_,D,v⟩:=rO _ i b t2 k;cases t2 with
     |true=>
      rw[Nn c n j k] at h;cases e:kX c n b with
      |none=>rw[e] at h;cases h
      |some q=>
       obtain⟨d,l⟩:=q;rw[e] at h;simp only at h;have r:yo (kX c n):=Nk δ (Nk δ m);have:=r b d l e;cases o:Vc [41] l with
       |mk t3 z=>
        obtain⟨s,_,C,u⟩:=rO _ l z t3 o;rw[o] at h;cases t3 with
        |false=>cases h
        |true=>cases h;have:=v rfl;have:=u rfl;rw[s];rw[g,f] at*;omega
     |false=>
      rw[Np c n j k] at h;split at h;cases h;rename_i B;have A:=aQ1 b.r;have x:(b.r.drop (YY b.r)).length+1<=b.r.length:=by rw[Wz];omega
      rw[g,f] at*;split at h;cases h;simp only[Qy,Xa,Jz];rw[g,f];omega;split at h;cases h;simp only[Qy,Xa,Jz];rw[g,f];omega;cases h;simp only[Qy,Xa,Jz];rw[g,f];omega
def GM (r q:Nat)(m:χ (ByteArray×τ))(w:θ)(A:Θ):Prop:=MapAt WE w q m/\q≠r/\¬Qj A q
theorem GM.stay {r q:Nat}{m:χ (ByteArray×τ)}{w a:θ}{A A':Θ}(h:GM r q m w A)(b:Mod (RdS r A) w a)(c:Moved w A A'):GM r q m a A':=
 ⟨h.1.mod b λe=>e.elim h.2.1 h.2.2,h.2.1,λa=>(c.rows q a).elim h.2.2 λb=>by have:=h.1.lt;omega⟩
def GB (r q x:Nat)(m:χ (ByteArray×τ))(w:θ)(A:Θ):Prop:=GM r q m w A/\Blk w x 220 [.pointer (some ⟨r,0,none⟩)]/\x≠r/\¬Qj A x
theorem GB.stay {r q x:Nat}{m:χ (ByteArray×τ)}{w a:θ}{A A':Θ}(h:GB r q x m w A)(b:Mod (RdS r A) w a)(c:Moved w A A'):GB r q x m a A':=
 ⟨h.1.stay b c,h.2.1.mod b λe=>e.elim h.2.2.1 h.2.2.2,h.2.2.1,λa=>(c.rows x a).elim h.2.2.2 λb=>by have:=h.2.1.lt;omega⟩
theorem kQL {L b r q x:Nat}{m:χ (ByteArray×τ)}{g:τ}{d:Ps->Option (Nat×Ps)}(H:OpdC L b r g 198 [.pointer (some ⟨r,0,none⟩)] (GM r q m) d):OpdC L b r g 197 [.pointer (some ⟨x,0,none⟩)] (GB r q x m) (YZ [38,38] 4 d):=by refine⟨λw A c p h f j=>?_,λw u A s h k l=>h.stay k l,Nk δ H.lim⟩;refine d7 (c:={jQK with cuts:=[]}) Qe Tryz.func197 rfl rfl rfl ?_;refine QQ f.2.1 rfl ?_;refine QQ f.2.1 rfl ?_;refine Zl (kQJ L b r A c g p [38,38] 4 (GM r q m) d w h f.1 δ δ j H) ?_ ?_;rintro v o ⟨a,n,e,rfl,i⟩;exact⟨a,n,e,rfl,i⟩;rintro t o e;exact e
theorem aQ7 (L b r:Nat)(A:Θ)(c:Nat)(p:Ps)(q:Nat)(m:χ (ByteArray×τ))(e:τ)(d:Ps->Option (Nat×Ps))(w:θ)(h:Rd w b r A c e p)(s:GM r q m w A)(t:p.r.length<L)(H:OpdC L b r e 198 [.pointer (some ⟨r,0,none⟩)] (GM r q m) d):FnP ψ 141 [.pointer (some ⟨r,0,none⟩)] w (λv k=>∃(a:Nat) (f:Ps),YZ [124,124] 5 (YZ [38,38] 4 d) p=some (a,f)/\v= .int .i64 (a:Nat)/\RdTo w b r A e f k) (λo k=>YZ [124,124] 5 (YZ [38,38] 4 d) p=none/\PanTo w r A o k):=by
 refine d7 (c:={iQY with cuts:=[]}) Qe Tryz.func141 rfl rfl rfl ?_;refine new λw1 l z n=>?_;refine QQ n rfl ?_;have B:=h.lt;have C:=h.top;have j:Mod (RdS r A) w w1:=Mod.of_ext _ l;have u:¬Qj A w.heap.size:=λx=>by have:=(h.own.rows _ x).2;omega
 refine Zl (kQK L b r A c e p [124,124] 5 w.heap.size (GB r q w.heap.size m) (YZ [38,38] 4 d) w1 (h.ext l) ⟨s.stay j (Moved.refl _ _),n,ω,u⟩ δ δ t (kQL H)) ?_ ?_;rintro v y ⟨a,f,g,rfl,i⟩;exact⟨a,f,g,rfl,i.step j (Moved.refl _ _)⟩;rintro o y ⟨g,i⟩;exact⟨g,i.step j (Moved.refl _ _)⟩
end
section
def aQ8 (a:Γ->Option Nat)(m:χ (ByteArray×τ)):Prop:=∀l:Γ,(∀x∈l,x<256)->Zc (Qb l) m=(a l).map λv:Nat=>Value.int .i64 v
theorem aQ9 (l:Γ->Option Nat)(g r q:Nat)(m:χ (ByteArray×τ))(K:aQ8 l m):∀n,OpdC n g r (.map (some q)) 198 [.pointer (some ⟨r,0,none⟩)] (GM r q m) (fT l n)
 |0=>⟨λw A c p _ _ h=>Xg h ω,λw w' A k h f j=>h.stay f j,Nq l 0⟩
 |n+1=>by
  have G:=aQ9 l g r q m K n;refine⟨λw A c p h o s=>?_,λw w' A k h f j=>h.stay f j,Nq l (n+1)⟩;refine d7 (c:={jQL with cuts:=[]}) Qe Tryz.func198 rfl rfl rfl ?_;refine call (ym g r A c _ p [33] w h δ) ?_;rintro v w1 ⟨rfl,D,f⟩;have E:Mod (RdS r A) w w1:=f.mono λi s=>.inl (.inl s);have B:=o.stay E (Moved.refl _ _);cases C:Vc [33] p with|mk t z=>
   obtain⟨f,_,k3,j⟩:=rO _ p z t C;rw[C] at D;simp only at D;cases t with|true=>refine Q3 rfl ?_;have H:=j rfl;simp only[Xa,Jz] at H;have k:=Nm l n C;refine Zl (G.run w1 A c z D B ω) ?_ ?_;rotate_left;rintro J w2 ⟨o,I⟩;rw[o] at k;exact⟨k,I.step E (Moved.refl _ _)⟩;rintro v w2 ⟨a,j,o,rfl,y,L,x,F,M⟩;rw[o] at k;have N:=(G.lim z a j o).1;have O:=h.lim;rw[f] at N;refine call (uU g r y L _ j ⟨3,0,a,0⟩ w2 x ω) ?_;rintro v y ⟨rfl,f⟩;exact⟨j.f.length,_,k,rfl,(f.step F M).step E (Moved.refl _ _)⟩|false=>
    refine QX rfl (call (ym g r A c _ z [40] w1 D δ) ?_);rintro v w2 ⟨rfl,x,F⟩;have D:Mod (RdS r A) w1 w2:=F.mono λi s=>.inl (.inl s);have F:=RdS.trans E (Moved.refl _ _) D;have L:=B.stay D (Moved.refl _ _);cases E:Vc [40] z with|mk t2 j=>
     obtain⟨D,_,M,B⟩:=rO _ z j t2 E;rw[E] at x;simp only at x;cases t2 with
     |true=>
      refine Q3 rfl ?_;have H:=B rfl;simp only[Xa,Jz] at H;have k:=Nn l n C E;refine Zl (aQ7 n g r A c j q m _ (fT l n) w2 x L ω G) ?_ ?_;rotate_left;rintro J y ⟨o,I⟩;rw[show kX l n j=none from o] at k;exact⟨k,I.step F (Moved.refl _ _)⟩;rintro v y ⟨a,I,o,rfl,J,M,f,z,B⟩;rw[show kX l n j=some (a,I) from o] at k;have G:=RdS.trans F (Moved.refl _ _) z;have z:=B.back F.size;simp only at k;refine call (ym g r J M _ I [41] y f δ) ?_;rintro v w4 ⟨rfl,o,D⟩;have H:Mod (RdS r J) y w4:=D.mono λi s=>.inl (.inl s);have B:=RdS.trans G z H;cases N:Vc [41] I with
      |mk t3 I=>
       rw[N] at o k;simp only at o;cases t3 with
       |true=>refine QX rfl ?_;exact⟨a,I,k,rfl,J,M,o,B,z⟩
       |false=>refine Q3 rfl ?_;exact uV rfl rfl ⟨k,rfl,B⟩
     |false=>
      refine QX rfl ?_;have k:=Np l n C E;have z:=x.lim;have z:=x.b8;have E:∀w',Ext w2 w'->Mod (RdS r A) w w':=λw' C=>RdS.trans F (Moved.refl _ _) (Mod.of_ext _ C);refine Qp x.blk rfl (call (aQ2 j.r w2 z ω) ?_);rintro v y ⟨rfl,C⟩;have f:=x.ext C;have F:=L.stay (Mod.of_ext _ C) (Moved.refl _ _);have G:=E y C;have x:=aQ1 j.r;by_cases x:YY j.r=0
      refine JF ω ?_;rw[Qf x] at k;exact uV rfl rfl ⟨k,rfl,G⟩;refine X6 ω ?_;rw[φ x] at k;generalize x:YY j.r=d at*;refine Qp f.blk rfl (XF (v':=.string (Qb (j.r.take d))) ⟨ω,ω,by rw[QZ];omega⟩ ?_ ?_);simp only[WX,Int.toNat_zero,Kj,AJ];refine Qp f.blk rfl (XF (v':=.string (Qb (j.r.drop d))) ⟨ω,by rw[QZ];omega,ω⟩ ?_ ?_);simp only[WX,Kj,QZ,ry];refine Xv f.blk (by simp) λw4 D x=>?_;have H:Mod (RdS r A) y w4:=D.mono λi s=>.inl (.inl s);have B:=RdS.trans G (Moved.refl _ _) H;have E:=F.stay H (Moved.refl _ _);have y:(j.r.drop d).length+d=j.r.length:=by rw[Wz];omega
      have o:Rd w4 g r A c (.map (some q)) {j with r:=j.r.drop d}:=⟨x,f.own.mod D (λi s e=>by subst e;exact f.nrow s),f.lt,XU f.top D.size,B8.drop z d,by show j.f.length+(j.r.drop d).length<=_;omega⟩
      have C:=B8.take z d;generalize x:j.r.take d=f at*;have z:((Qb f=(⟨#[116,114,117,101]⟩:ByteArray))↔f=dx):=⟨λh=>Jl C δ h,λh=>by rw[h];rfl⟩
      have D:((Qb f=(⟨#[102,97,108,115,101]⟩:ByteArray))↔f=fg):=⟨λh=>Jl C δ h,λh=>by rw[h];rfl⟩
      by_cases x:f=dx;rw[Qf x] at k;refine Zm (z.2 x) (call (uU g r A c _ _ ⟨1,0,0,0⟩ w4 o (by show j.f.length+(j.r.drop d).length+1<=_;omega)) ?_);rintro v w5 ⟨rfl,y⟩;exact⟨_,_,k,rfl,y.step B (Moved.refl _ _)⟩;rw[φ x] at k;refine XB (λh=>x (z.1 h)) ?_;by_cases z:f=fg;rw[Qf z] at k;refine Zm (D.2 z) (call (uU g r A c _ _ ⟨0,0,0,0⟩ w4 o (by show j.f.length+(j.r.drop d).length+1<=_;omega)) ?_);rintro v w5 ⟨rfl,y⟩;exact⟨_,_,k,rfl,y.step B (Moved.refl _ _)⟩;rw[φ z] at k;refine XB (λh=>z (D.1 h)) (QQ o.blk rfl ?_);have z:=K f C;refine Bx (kv:=WE) (a:=Qb f) (v:=.int .i64 ((l f).getD 0:Nat)) (b:=(l f).isSome) Qe rfl rfl rfl rfl rfl vQD rfl rfl E.1 (by rw[z];cases l f<;>rfl) (by rw[z];cases l f<;>rfl) (Qp o.blk rfl ?_);have C:∀w5 u,Mod (·=r) w4 w5->Blk w5 r 222 [.map (some q),.string (Qb (j.r.drop d)),.slice A j.f.length c,.bool u]->u=(j.u||(l f).isNone)->Rd w5 g r A c (.map (some q)) {j with r:=j.r.drop d,u:=j.u||(l f).isNone}/\Mod (RdS r A) w w5:=λw5 u z D E=>by subst E;exact⟨⟨D,o.own.mod z (λi s e=>by subst e;exact o.nrow s),o.lt,XU o.top z.size,o.b8,o.lim⟩,RdS.trans B (Moved.refl _ _) (z.mono λi s=>.inl (.inl s))⟩
      refine Z0 (λE=>?_) λE=>?_;refine Xv o.blk (by simp) λw5 z D=>?_;obtain⟨y,s⟩:=C w5 true z D (by rw[show j.u=true from E];rfl);refine call (uU g r A c _ _ ⟨2,((l f).getD 0:Nat),0,0⟩ w5 y (by show j.f.length+(j.r.drop d).length+1<=_;omega)) ?_;rintro v B ⟨rfl,x⟩;exact⟨_,_,k,rfl,x.step s (Moved.refl _ _)⟩;refine Xv o.blk (by simp) λw5 z D=>?_;obtain⟨y,s⟩:=C w5 (!(l f).isSome) z D (by rw[show j.u=false from E];cases l f<;>rfl);refine call (uU g r A c _ _ ⟨2,((l f).getD 0:Nat),0,0⟩ w5 y (by show j.f.length+(j.r.drop d).length+1<=_;omega)) ?_;rintro v B ⟨rfl,x⟩;exact⟨_,_,k,rfl,x.step s (Moved.refl _ _)⟩
end
section
abbrev By:=Exit->Act->World->Prop
def nz (P:Program):χ Code->By->Act->θ->Prop|[],G,a,w=>G .normal a w|y::ys,G,a,w=>y.wp P (λe a w=>match e with|.normal=>nz P ys G a w|e=>G e a w) a w
@[irreducible] def dy (c:Cx) (l:χ Code) (S:Env) (w:θ) (G:By):Prop:=∀a,Fits c.N S a->nz c.g.P l G a w
@[irreducible] def ce (c:Cx) (S:Env) (w:θ) (e:Exit) (G:By):Prop:=∀a,Fits c.N S a->G e a w
section
variable {c:Cx} {S:Env} {w:World} {G:By}
theorem kQM (h:ce c S w .normal G):dy c [] S w G:=by unfold dy;unfold ce at h;exact h
theorem JN {x y:Code}{l:χ Code}(h:dy c (x::y::l) S w G):dy c (.seq x y::l) S w G:=by unfold dy at*;intro a b;have d:=h a b;unfold nz at d;unfold nz;refine wp_seq (wp_mono d λe a w b=>?_);cases e<;>first|exact b|(unfold nz at b;exact b)
theorem JC (f:c.g.Ok){x:Code}{l:χ Code}(h:YG c x S w λe S w=>match e with|.normal=>dy c l S w G|e=>ce c S w e G):dy c (x::l) S w G:=by unfold dy;intro a g;unfold nz;refine wp_mono (pi f x S w _ a h g) λe a w ⟨j,d,b⟩=>?_;cases e with|normal=>simp only at b;unfold dy at b;exact b a d|exit i=>simp only at b;unfold ce at b;exact b a d|goto i=>simp only at b;unfold ce at b;exact b a d|ret=>simp only at b;unfold ce at b;exact b a d|panic i=>simp only at b;unfold ce at b;exact b a d|outgrown=>simp only at b;unfold ce at b;exact b a d
theorem kQN {t:Nat}{x y:Code}{l:χ Code}{b:Bool}(e:S.get t=some (.bool b))(d:b=false)(h:dy c (y::l) S w G):dy c (.cond (.tmp t) x y::l) S w G:=by subst d;unfold dy at*;intro a d;have f:=h a d;unfold nz at*;have:=d.get e;exact wp_cond_false (by simp[Act.eval,this]) f
theorem FZ (L:c.g.Ok){id:Nat}{ops:Array Oper}{l:χ Code}{o:Oper}{f:Operand}{C:Array Operand}{P:Array TypeId}(F:ops.toList=ops.toList.dropLast++ [o])(M:o.op= .defer ⟨.value f,C,P⟩)(H:o.guard=none)(B:o.dst=none)
  (h:WA {c with named:=1000000} ops.toList ops.toList.dropLast S w (λS w=>∃q j first g,S.ev f=some (.func q first j)/\uF S C.toList=some g/\dy {c with N:=⟨c.N.n,⟨.fn q j,first++g.toArray⟩::c.N.ds⟩} l S w G) λe S w=>ce c S w e G):dy c (.region id ops false::l) S w G:=by
 unfold dy;intro a K;unfold nz;refine wp_region_list ?_;have s:=m7 (c:={c with named:=1000000}) L ops.toList ops.toList.dropLast S w a h K;have A:∀(Q:By) (m1 m:χ Oper) (a:Act) (w:θ),wpList c.g.P ops (λe a w=>match e with|.normal=>wpList c.g.P ops Q m a w|e=>Q e a w) m1 a w->wpList c.g.P ops Q (m1++m) a w:=by
  intro Q m1;induction m1 with|nil=>intro m a w h;exact h|cons o1 m1 D=>
   intro m a w h;rw[dZ];unfold wpList at h ⊢;split;rename_i y;rw[Qf y] at h;obtain h|⟨s,I,T,k⟩:=h;refine .inl ?_;have k:=Oper.wp_mono (K':=wpList c.g.P ops Q (m1++m)) (λa w=>D m a w) h;unfold Oper.wp at k ⊢;generalize (execOp a.eval o1).run c.g.P w=r at*;cases r with|ok n R=>cases n<;>simp only[Oper.upon] at k ⊢ <;> exact k|halt x R=>cases x<;>simp only[Oper.upon] at k ⊢ <;> exact k
   exact .inr ⟨s,I,T,k⟩;rename_i y;rw[φ y] at h;exact D m _ _ h
 rw[F];refine A _ ops.toList.dropLast [o] a w ?_;have J:ops.toList.toArray=ops:=by simp
 rw[J] at s;refine pm (λe a w b=>?_) s;cases e with
 |normal=>
  obtain⟨p,d,q,j,first,g,u,t,b⟩:=b;show wpList _ _ _ [o] _ _;unfold wpList;rw[Qf (by simp[Region.wanted,H])];refine .inl ?_;have O:=d.ev u;have z:(C.map a.eval)=g.toArray:=by apply Array.ext';rw[UU];exact FH (ρ:=a.eval) (λx v h=>d.ev h) _ _ t
  unfold Oper.wp;have E:(execOp a.eval o).run c.g.P w= .ok (.defer ⟨.fn q j,first++g.toArray⟩) w:=by simp only[execOp,M,resolve,O,z];simp[Deferred.ofValue]
  rw[E,Oper.upon_defer];unfold wpList;unfold dy at b;refine b _ ⟨?_,?_,?_⟩;rw[B];exact d.size;rw[B];show _::a.defers=_;rw[d.defers];rw[B];exact d.has
 |exit i=>obtain⟨p,d,b⟩:=b;unfold ce at b;exact b a d|goto i=>obtain⟨p,d,b⟩:=b;unfold ce at b;exact b a d|ret=>obtain⟨p,d,b⟩:=b;unfold ce at b;exact b a d|panic i=>obtain⟨p,d,b⟩:=b;unfold ce at b;exact b a d|outgrown=>obtain⟨p,d,b⟩:=b;unfold ce at b;exact b a d
end
def yp (R:τ->θ->Prop):Ending->θ->Prop|.returned v,w=>R v w|_,_=>False
theorem Bz {c:Cx}(d:c.g.Ok){f:FuncId}{g:Func}{x:Code}{b:χ τ}{w:θ}{R:τ->θ->Prop}(m:c.g.P.funcs[f]? =some g)(n:g.body=some x)(i:⟨g.ntmps,[]⟩=c.N)(o:Nat.ble b.length c.N.n=true) (h:pj [0,1,2,3,4,5,6,7,8,9,10,11,12,13,14,15] b [] λS=>dy c [x] S w (bodyPostD c.g.P g (yp R))):Fn c.g.P f b w R:=by
 unfold Fn;have _:=d;obtain⟨S,p,l⟩:=FP _ b [] 0 b (λj t d=>by
  match j,d with|0,d|1,d|2,d|3,d|4,d|5,d|6,d|7,d|8,d|9,d|10,d|11,d|12,d|13,d|14,d|15,d=>simp at d;omega|j+16,d=>simp at d) (by simp) (λk x q=>by simp[Env.ent] at q) h
 have q:g.ntmps=c.N.n:=QG Slots.n i;have d:=kV (N:=c.N.n) b (mO o) S p;rw[<-q,i] at d;unfold dy at l;have g:=l _ d;refine(calls_of_wp_defers m n (R:=yp R) ?_).mono (λe d b=>by cases e<;>exact b);unfold nz at g;refine wp_mono g λe a w b=>?_;cases e<;>first|exact b|(unfold nz at b;exact b)
section
variable {c:Cx} {S:Env} {w:World}
theorem BB (l:c.g.Ok){b:Func}{R:τ->θ->Prop}{e:Exit}(i:c.N.ds=[])(k:e= .ret∨e= .normal)(h:gG c S w R b.results.toList []):ce c S w e (bodyPostD c.g.P b (yp R)):=by
 unfold ce;intro a d;obtain⟨v,f,g⟩:=rI l d h;have j:a.defers=[]:=by rw[d.defers,i]
 rcases k with rfl | rfl <;>
 ·unfold bodyPostD;simp only;rw[j];exact⟨v,f,g⟩
theorem bQa (g:c.g.Ok){i:Func}{R:τ->θ->Prop}{u:FrameMode}{a:Act}{F:FuncId}{b d:Array τ}(m:c.N.ds=[⟨.fn (.func F) d,b⟩])(n:jO F c.g.fns=true)(o:u≠ .run)(j:Fits c.N S a){args:Array τ}(p:b++d=args)(h:CallsD c.g.P F args u w λe k l=>∃v,e= .returned v/\settle k= .returning/\gG c S l R i.results.toList []):Leaves c.g.P i a.tmps (yp R) a.defers u w:=by subst p;rw[j.defers,m];refine leaves_cons (f:=F) (args:=b++d) o ?_ ?_;have b:=g.fns F (FF n);simp only[invoke];rw[FL b];refine h.mono λe k l b=>?_;obtain⟨v,rfl,d,i⟩:=b;simp only;rw[d];obtain⟨v,b,d⟩:=rI g j i;exact⟨v,b,d⟩
theorem yq (g:c.g.Ok){f:Func}{R:τ->θ->Prop}{e:Exit}{F:FuncId}{b d:Array τ}(i:c.N.ds=[⟨.fn (.func F) d,b⟩])(j:jO F c.g.fns=true)(k:e= .ret∨e= .normal){args:Array τ}(l:b++d=args)(h:CallsD c.g.P F args .returning w λe m n=>∃v,e= .returned v/\settle m= .returning/\gG c S n R f.results.toList []):ce c S w e (bodyPostD c.g.P f (yp R)):=by unfold ce;intro a b;have:=bQa g i j (by simp) b l h;obtain rfl|rfl:=k <;>exact this
theorem dz (f:c.g.Ok){b:Func}{R:τ->θ->Prop}{d:χ PanicEntry}{F:FuncId}{asx cap:Array τ}(g:c.N.ds=[⟨.fn (.func F) cap,asx⟩])(i:jO F c.g.fns=true){args:Array τ}(j:asx++cap=args)(h:CallsD c.g.P F args (.panicking d) w λe k l=>∃v,e= .returned v/\settle k= .returning/\gG c S l R b.results.toList []):ce c S w (.panic d) (bodyPostD c.g.P b (yp R)):=by unfold ce;intro a b;exact bQa f g i (by simp) b j h
end
end
section
theorem Nr {c:Cx}(d:c.g.Ok){o:Oper}{S:Env}{w:θ}{K:Env->θ->Prop}{Q:ZD}{x:Operand}{b t:Nat}{k:IntKind}{v:τ}{r:TyRow}(e:o.op= .typeAssert x b t true)(f:Q8 c.g.tys t=some r)(g:r.d= .int k)(h:S.ev x=some (.iface t v))(i:XD c S o.dst (.v (.tuple #[v,.bool true])) λS=>K S w):Zv c o S w K Q:=by have b:=(d.row f).1;rw[g] at b;refine Kr (w':=w) (v:=.tuple #[v,.bool true]) (λa d=>?_) i;have f:=d.ev h;simp only[execOp,e,f];simp[Instr.typeAssert,JB b]
theorem kQO {P:Program}{t:TypeId}{a:Array (String×TypeId)}{w:θ}(b:P.underlying t=some (.interface a))(n:Nat):(Op.equalIn (n+1) t .nilIface .nilIface).run P w= .ok true w:=by simp[Op.equalIn,JB b]
theorem bQb {P:Program}{b c:Oper}{Q:Exit->Act->χ Frame->θ->Prop}{a:Act}{e cs':χ Frame}{w:θ}{d k:Nat}{v:τ}(l:b.op= .call ⟨.builtin .recover, #[], #[]⟩)(f:b.dst=some d)(g:b.guard=none)(m:c.op= .assign (.tmp d))(i:c.dst=some k)(j:c.guard=none)(n:d<a.tmps.size) (o:recoverD e=some (v,cs')∨(recoverD e=none/\v= .nilIface/\cs'=e)) (h:Q .normal ((a.put (some d) v).put (some k) v) cs' w):wpOpsS P #[b,c] Q (List.range 2) a e w:=by
 have k:∀ρ,(execOp ρ b).run P w= .ok .recover w:=λρ=>by simp only[execOp,l,resolve,invoke,builtin];simp
 have l:(execOp (a.put (some d) v).eval c).run P w= .ok (.value v) w:=by simp only[execOp,m];simp[Act.eval,Act.put,n]
 show wpOpsS P #[b,c] Q [0,1] a e w;have e:wpOpsS P #[b,c] Q [1] (a.put (some d) v) cs' w:=by unfold wpOpsS;simp only[UY,List.getElem?_cons_succ,List.getElem?_cons_zero];rw[Qf (by simp[Region.wanted,j]),l];simp only[Oper.upon,i];unfold wpOpsS;exact h
 unfold wpOpsS;simp only[UY,List.getElem?_cons_zero];rw[Qf (by simp[Region.wanted,g]),k];obtain b|⟨b,rfl,rfl⟩:=o;simp only[b,f];exact e;simp only[b,f];exact e
theorem rP {c:Cx}(f:c.g.Ok){x:Code}{b:Func}{g:Frame}{j:χ Frame}{R:Ending->FrameMode->θ->Prop}{S:Env}{a:Act}{w:θ}{d:FrameMode}(n:c.N.ds=[])(m:Fits c.N S a)
  (h:YG c x S w (FM c b.results.toList λv k=>R (.returned v) d k)):x.wpS c.g.P (bodyPostS c.g.P b g j R) a ({g with mode:=d}::j) w:=by
 refine wpS_of_wp (wp_mono (pi f x S w _ a h m) λe j k b=>?_);obtain⟨k,g,b⟩:=b;have m:j.defers=[]:=by rw[g.defers,n]
 cases e with|normal=>obtain⟨v,j,k⟩:=rI f g b;exact⟨m,d,rfl,v,j,k⟩|ret=>obtain⟨v,j,k⟩:=rI f g b;exact⟨m,d,rfl,v,j,k⟩|exit i=>exact b.elim|goto l=>exact b.elim|panic d=>exact b.elim|outgrown=>exact b.elim
def bQc (f e:Nat)(k:Int)(w a:θ):Prop:=Blk a f 149 [.slice none 0 0]/\Blk a e 34 [.int .i64 k]/\Mod (λi=>i=f∨i=e) w a
theorem F0 (f e:Nat)(k:Int)(w:θ)(a g:τ)(b:f≠e)(j:Blk w f 149 [a])(l:Blk w e 34 [g]):
  CallsD ψ 140 #[.pointer (some ⟨f,0,none⟩),.pointer (some ⟨e,0,none⟩)] (.panicking [{v:=.iface 34 (.int .i64 k),recovered:=false}]) w
   (λa g m=>∃v,a= .returned v/\settle g= .returning/\bQc f e k w m):=by
 refine callsD_of_wpS Tryz.func140 rfl λg m n=>?_
 have o:=kV (N:=FY.N.n) [.pointer (some ⟨f,0,none⟩),.pointer (some ⟨e,0,none⟩)] (mO rfl) [(0,.v (.pointer (some ⟨f,0,none⟩))),(1,.v (.pointer (some ⟨e,0,none⟩)))] (by
  intro k x a
  match k,a with
  | 0,a=>cases a;rfl
  | 1,a=>cases a;rfl
  | k+2,a=>exact nomatch (show(none:Option Ent)=some x from a))
 have a:=o.put (d:=5) δ (.v (.iface 34 (.int .i64 k)));have o:=a.put (d:=2) δ (.v (.iface 34 (.int .i64 k)));refine wpS_seq (wpS_region ?_);refine bQb (cs':={g with mode:=.panicking [{v:=.iface 34 (.int .i64 k),recovered:=true}]}::m) (v:=.iface 34 (.int .i64 k)) rfl rfl rfl rfl rfl rfl (by simp) (.inl (by simp[recoverD,n])) (rP (c:=FY) Qe rfl o (Q3 rfl (Nr Qe rfl rfl rfl rfl (QX rfl (VW j (by simp) (λa g m=>?_))))));refine VW (l.mod g (λh=>b h.symm)) (by simp) (λa j l=>?_);exact⟨_,rfl,rfl,m.mod j b,l,(g.mono (λi a=>.inl (.inl a))).trans j (λi a=>.inl (.inr a))⟩
theorem kQP (f e:Nat)(w:θ):
  CallsD ψ 140 #[.pointer (some ⟨f,0,none⟩),.pointer (some ⟨e,0,none⟩)] .returning w
   (λb g w'=>∃v,b= .returned v/\settle g= .returning/\w=w'):=by
 refine callsD_of_wpS Tryz.func140 rfl λh i g=>?_
 have j:=kV (N:=FY.N.n) [.pointer (some ⟨f,0,none⟩),.pointer (some ⟨e,0,none⟩)] (mO rfl) [(0,.v (.pointer (some ⟨f,0,none⟩))),(1,.v (.pointer (some ⟨e,0,none⟩)))] (by
  intro k x b
  match k,b with
  | 0,b=>cases b;rfl
  | 1,b=>cases b;rfl
  | k+2,b=>exact nomatch (show(none:Option Ent)=some x from b))
 have b:=j.put (d:=5) δ (.v .nilIface);have j:=b.put (d:=2) δ (.v .nilIface);refine wpS_seq (wpS_region ?_);refine bQb (cs':={h with mode:=.returning}::i) (v:=.nilIface) rfl rfl rfl rfl rfl rfl (by simp) (.inr ⟨by simp[recoverD,g],rfl,by rw[<-g]⟩) (rP (c:=FY) Qe rfl j ?_);refine Kr (w':=w) (v:=.bool false) (λa b=>?_) ?_
 ·have h:=b.ev (show Env.ev _ (.tmp 6)=some .nilIface from rfl);have g:=Tryz.underlying20;have b:(Op.equal 20 .nilIface .nilIface).run ψ w= .ok true w:=kQO g 9999;have g:binOp .neq 20 .nilIface .nilIface=(do pure (.bool (!(<-Op.equal 20 .nilIface .nilIface)))):=rfl;simp only[execOp,h,eqGuard];simp[Act.eval,g,show gx.P=ψ from rfl,b]
 refine QX rfl ?_;exact⟨_,rfl,rfl,rfl⟩
end
section
def kY (l:Γ):Λ->Nat->Option Nat->Option Nat|[],_,a=>a|s::names,i,a=>kY l names (i+1) (if s=l then some i else a)
def ZS (a:Λ)(l:Γ):Option Nat:=kY l a 0 none
theorem bQd (l:Γ)(c:∀x∈l,x<256):∀(a:Λ)(i:Nat)(b:Option Nat)(m:χ (ByteArray×τ)),KH a->Zc (Qb l) m=b.map (λv:Nat=>Value.int .i64 v)->Zc (Qb l) (aB a i m)=(kY l a i b).map (λv:Nat=>Value.int .i64 v)|[],i,b,m,_,h=>h|s::a,i,b,m,hn,h=>by simp only[aB,kY];refine bQd l c a (i+1) _ _ (λt b=>hn t (by simp[b])) ?_;rw[fc];by_cases a:s=l;subst a;simp;rw[φ λe=>a (Jl c (hn s (by simp)).1 e).symm,φ a];exact h
theorem Ns {a:Λ}(b:KH a):aQ8 (ZS a) (aB a 0 []):=λl c=>bQd l c a 0 none [] b rfl
def gL (a:Λ)(s:Γ):χ Fz×Int:=if JG a then
  match kX (ZS a) (s.length+1) ⟨s,[],false⟩with|none=>([],31)|some (_,p)=>if Js p.r≠ [] then([],31)else if p.u then([],3)else if 512<p.f.length then([],2)else(p.f,0)
 else([],1)
def Nv (w:θ)(r:χ Fz×Int)(v:τ)(a:θ):Prop:=∃F m b,v= .tuple #[.slice F m b,.int .i64 r.2]/\Ext w a/\SlS Fz.cells 4 a F m b r.1
theorem kQQ (p:Ps):Vc [] p=(true,{p with r:=Js p.r}):=by rw[Bw]<;>rfl
theorem bQe (b:Λ)(A:Θ)(n c:Nat)(s:Γ)(w:θ)(h:Sl w 1 A n c (Xb b))(hb:KH b)(hs:∀x∈s,x<256)(E:s.length<=1000000000000):Fn ψ 89 [.slice A n c,.string (Qb s)] w (Nv w (gL b s)):=by
 refine Bz (c:={c89 with cuts:=[]}) Qe Tryz.func89 rfl rfl rfl ?_;refine JN (JC Qe ?_);refine new λg Qd Q0 Qh=>?_;refine new λw2 Qg XR Qs=>?_;have Q1:=Qd.trans Qg;refine JN (JC Qe ?_);refine call (Ni b A n c w2 (h.ext Q1) hb) ?_;rintro v z ⟨v1,rfl,J,Eu⟩;have QT:=Q1.trans J;have D:=(Qh.ext Qg).ext J;have eO:=Qs.ext J;refine JN (JC Qe ?_);cases M:JG b with
 |false=>
  refine Q3 rfl (VW D (by simp[Ki]) λr XY R=>?_);have j:g.heap.size≠w.heap.size:=by omega
  refine VW (eO.mod XY j) (by simp[Ki]) λB u QC=>?_;refine BB Qe rfl (.inl rfl) (QQ (R.mod u j.symm) rfl (QQ QC rfl ?_));have Q:=u.ext (XY.ext QT λi d=>ω) λi d=>ω;refine⟨none,0,0,?_,Q,?_⟩;unfold gL;rw[M]<;>rfl
  unfold gL;rw[M];exact SlS.nil _
 |true=>
  refine QX rfl ?_;obtain⟨q,rfl,hq,kB⟩:=Eu M;refine JN (FZ Qe rfl rfl rfl rfl ⟨_,_,_,_,rfl,rfl,?_⟩);refine JN (JC Qe ?_);refine new λr K Ku R=>?_;have X4:=QT.trans K;have JI:=J.size;have T:Rd r r.heap.size z.heap.size none 0 (.map (some q)) ⟨s,[],false⟩:=⟨R,Own.nil _ _ _ _,ω,Qw _,hs,by simpa using E⟩
  have hG:GM z.heap.size q (aB b 0 []) r none:=⟨kB.ext K,by have:=kB.lt;omega,λ⟨_,e,_⟩=>by cases e⟩
  have j:w.heap.size≠g.heap.size:=by omega
  have Y:∀i,i<z.heap.size->¬RdS z.heap.size none i:=λi d e=>by obtain rfl|⟨_,e,_⟩:=e;omega;cases e
  have o:∀m,Mod (RdS z.heap.size none) r m->Ext w m/\Blk m w.heap.size 149 [.slice none 0 0]/\Blk m g.heap.size 34 [.int .i64 0]:=λm V=>by refine⟨V.ext X4 λi d=>?_,(D.ext K).mod V (Y _ ω),(eO.ext K).mod V (Y _ ω)⟩;obtain rfl|⟨_,e,_⟩:=d;omega;cases e
  have L:∀k m Z8,Ext w m->bQc w.heap.size g.heap.size k m Z8->gL b s=([],k)->Nv w (gL b s) (.tuple #[.slice none 0 0,.int .i64 k]) Z8:=λk m Z8 hE T hp=>by rw[hp];refine⟨none,0,0,rfl,T.2.2.ext hE (λi d=>by obtain rfl|rfl:=d <;>omega),SlS.nil _⟩
  have F:gL b s=match kX (ZS b) (s.length+1) ⟨s,[],false⟩with|none=>([],31)|some (_,p)=>if Js p.r≠ [] then([],31)else if p.u then([],3)else if 512<p.f.length then([],2)else(p.f,0):=by unfold gL;rw[Qf M]
  refine JN (JC Qe ?_);refine Zl (aQ7 (s.length+1) _ _ none 0 _ q _ _ _ r T hG (iU _) (aQ9 (ZS b) _ _ q _ (Ns hb) (s.length+1))) ?_ ?_;rotate_left;rintro ch B ⟨W,rfl,u⟩;obtain⟨Q,KZ,U⟩:=o B u;refine dz Qe rfl rfl (args:= #[.pointer (some ⟨w.heap.size,0,none⟩),.pointer (some ⟨g.heap.size,0,none⟩)]) (by simp) ((F0 _ _ 31 B _ _ j KZ U).mono ?_);rintro e O w6 ⟨v,rfl,C5,S⟩;refine⟨v,rfl,C5,?_⟩;exact QQ S.1 rfl (QQ S.2.1 rfl (L 31 B w6 Q S (by rw[F];unfold kX;rw[W])));rintro v B ⟨a,p,W,rfl,P,c5,h5,u,vF⟩;refine JN (JC Qe ?_);refine call (ym _ _ P c5 _ p [] B h5 (by simp)) ?_;rintro v w6 ⟨rfl,l,Kz⟩;rw[kQQ] at l;simp only at l;have HL:Mod (RdS z.heap.size none) r w6:=u.trans Kz λi d=>.inl (.inl d);obtain⟨I,N,H⟩:=o w6 HL;have t:gL b s=if Js p.r≠ [] then([],31)else if p.u then([],3)else if 512<p.f.length then([],2)else(p.f,0):=by rw[F];unfold kX;rw[W]
  have e0:((Qb (Js p.r)=(⟨#[]⟩:ByteArray))↔Js p.r=[]):=⟨λh=>Jl l.b8 (by simp) h,λh=>by rw[h];rfl⟩
  refine JN (JC Qe ?_);refine Qp l.blk rfl ?_;by_cases y:¬Js p.r=[]
  refine Q3 (by rw[XZ λh=>y (e0.1 h)];rfl) (uV rfl rfl (dz Qe rfl rfl (args:= #[.pointer (some ⟨w.heap.size,0,none⟩),.pointer (some ⟨g.heap.size,0,none⟩)]) (by simp) ((F0 _ _ 31 w6 _ _ j N H).mono ?_)));rintro e O C ⟨v,rfl,G,f⟩;refine⟨v,rfl,G,?_⟩;exact QQ f.1 rfl (QQ f.2.1 rfl (L 31 w6 C I f (by rw[t,Qf y])));replace y:=Decidable.not_not.1 y;refine QX (by rw[Zg (e0.2 y)];rfl) ?_;rw[φ λh=>h y] at t;refine Qp l.blk rfl (Z0 (λX=>?_) λX=>?_);refine uV rfl rfl (dz Qe rfl rfl (args:= #[.pointer (some ⟨w.heap.size,0,none⟩),.pointer (some ⟨g.heap.size,0,none⟩)]) (by simp) ((F0 _ _ 3 w6 _ _ j N H).mono ?_));rintro e O C ⟨v,rfl,G,f⟩;refine⟨v,rfl,G,?_⟩;exact QQ f.1 rfl (QQ f.2.1 rfl (L 3 w6 C I f (by rw[t,Qf X])));rw[φ (by rw[show p.u=false from X];decide)] at t;refine Qp l.blk rfl (Ql (λE=>?_) λE=>?_);refine uV rfl rfl (dz Qe rfl rfl (args:= #[.pointer (some ⟨w.heap.size,0,none⟩),.pointer (some ⟨g.heap.size,0,none⟩)]) (by simp) ((F0 _ _ 2 w6 _ _ j N H).mono ?_));rintro e O C ⟨v,rfl,G,f⟩;refine⟨v,rfl,G,?_⟩;exact QQ f.1 rfl (QQ f.2.1 rfl (L 2 w6 C I f (by rw[t,Qf (show 512<p.f.length by simp only at E;omega)])));have kA:¬512<p.f.length:=λh=>E (by simp only;omega);rw[φ kA] at t;refine JN (JC Qe ?_);refine Qp l.blk rfl (VW N (by simp) λC cm Q2=>?_);refine VW (H.mod cm j.symm) (by simp) λw8 Z XP=>?_;refine JC Qe (yq Qe rfl rfl (.inl rfl) (args:= #[.pointer (some ⟨w.heap.size,0,none⟩),.pointer (some ⟨g.heap.size,0,none⟩)]) (by simp) ((kQP _ _ w8).mono ?_));rintro e O _ ⟨v,rfl,HN,rfl⟩;refine⟨v,rfl,HN,?_⟩;refine QQ (Q2.mod Z j) rfl (QQ XP rfl ?_);rw[t];have hM:Mod (λi=>i=w.heap.size∨i=g.heap.size) w6 w8:=(cm.mono λi d=>.inl (.inl d)).trans Z λi d=>.inl (.inr d);refine⟨P,p.f.length,c5,rfl,hM.ext I (λi d=>by obtain rfl|rfl:=d <;>omega),?_,rfl⟩;have oL:∀i,Qj P i->r.heap.size<=i:=λi d=>(l.own.rows i d).1
  exact(l.own.mod hM λi d e=>by have:=oL i d;obtain rfl|rfl:=e <;>omega).sl
end
end
noncomputable section
section
def Zt (o:Int):Int:=if o=0∨o=1∨o=2 then 0 else if o=3 then 1 else if o=4∨o=5 then 2 else -1
theorem rQ (o:Int):((o=0∨o=1∨o=2)/\Zt o=0)∨(o=3/\Zt o=1)∨((o=4∨o=5)/\Zt o=2)∨(Zt o= -1/\o≠0/\o≠1/\o≠2/\o≠3/\o≠4/\o≠5):=by unfold Zt;split;left;omega;split;right;left;omega;split;right;right;left;omega;right;right;right;omega
def KI (x:Fz)(i:Nat):Prop:=0<=Zt x.o/\(if x.o=2 then 0<=x.v/\x.v<64 else x.v=0)/\(if 0<Zt x.o then 0<=x.a/\x.a<i else x.a=0)/\(if 1<Zt x.o then 0<=x.b/\x.b<i else x.b=0)
instance (x:Fz) (i:Nat):Decidable (KI x i):=by unfold KI;infer_instance
def bq (x:Fz):Fz:=⟨x.o,if x.o=2 then x.v else 0,if 0<Zt x.o then x.a else 0,if 1<Zt x.o then x.b else 0⟩
theorem eq4 (a b c d e f g h:Int):(a==e&&(b==f&&(c==g&&(d==h&&true))))=decide (a=e/\b=f/\c=g/\d=h):=by rw[mN];simp only[Z4,beq_iff_eq,YX,and_true]
theorem bQf (x:Fz):(x.o=(bq x).o/\x.v=(bq x).v/\x.a=(bq x).a/\x.b=(bq x).b)↔((x.o≠2->x.v=0)/\(Zt x.o<=0->x.a=0)/\(Zt x.o<=1->x.b=0)):=by
 unfold bq;simp only;constructor;rintro⟨_,a,b,c⟩;split at a<;>split at b<;>split at c<;>omega
 rintro⟨a,b,c⟩;refine⟨trivial,?_,?_,?_⟩<;>split<;>omega
theorem kQR (x:Fz)(i:Nat)(w:θ):Fn ψ 223 [.agg x.cells.toArray,.int .i64 i] w (λv w'=>v= .int .i64 (if KI x i then Zt x.o else -1)/\Ext w w'):=by
 refine QK aQO [3] Tryz.func223 ?_;refine new λt Q Y K=>?_;refine QQ K rfl (new λW J Z R=>?_);refine Qo R λw3 S _ p=>?_;have L:Mod (·=t.heap.size) W w3:=vQB S rfl;replace p:Blk w3 t.heap.size 280 [.int .i64 x.o,.int .i64 0,.int .i64 0,.int .i64 0]:=p;have d:=(K.ext J).mod L ω;have s:Ext w w3:=L.ext (Q.trans J) λi H=>ω;refine cL [] Qe [6] (λk:Int=>[.int .i64 k]) (λk w'=>Ext w w'/\Blk w' w.heap.size 280 x.cells/\Blk w' t.heap.size 280 (bq x).cells/\k=Zt x.o/\0<=Zt x.o/\(x.o=2->0<=x.v/\x.v<64)) ?_ ?_;refine QQ d rfl (X0 (λh=>?_) λh=>?_);refine⟨_,rfl,s,d,?_,?_,?_,?_⟩;rw[show(bq x).cells=[.int .i64 x.o,.int .i64 0,.int .i64 0,.int .i64 0] from by simp[bq,Fz.cells,h,Zt]];exact p;rw[h]<;>rfl
 rw[h];decide;intro f;omega;refine X0 (λr=>?_) λr=>?_;refine⟨_,rfl,s,d,?_,?_,?_,?_⟩;rw[show(bq x).cells=[.int .i64 x.o,.int .i64 0,.int .i64 0,.int .i64 0] from by simp[bq,Fz.cells,r,Zt]];exact p;rw[r]<;>rfl
 rw[r];decide;intro f;omega;refine X0 (λf=>?_) λf=>?_;refine Qp d rfl (Xv p (by simp) λl b n=>?_);have a:=d.mod b ω;have c:=b.ext s λi H=>ω;refine Qp a rfl (Ql (λg=>?_) λg=>?_);exact⟨by rw[φ λo=>by have:=o.2.1;rw[Qf f] at this;omega],c⟩;refine Qp a rfl (Ql (λj=>?_) λj=>?_);exact⟨by rw[φ λo=>by have:=o.2.1;rw[Qf f] at this;omega],c⟩;refine⟨_,rfl,c,a,?_,?_,?_,?_⟩;rw[show(bq x).cells=[.int .i64 x.o,.int .i64 x.v,.int .i64 0,.int .i64 0] from by simp[bq,Fz.cells,f,Zt]];exact n;rw[f]<;>rfl
 rw[f];decide;intro _;omega;refine X0 (λg=>?_) λg=>?_;refine Qp d rfl (Xv p (by simp) λl b n=>?_);have a:=d.mod b ω;have c:=b.ext s λi H=>ω;refine⟨_,rfl,c,a,?_,?_,?_,?_⟩;rw[show(bq x).cells=[.int .i64 x.o,.int .i64 0,.int .i64 x.a,.int .i64 0] from by simp[bq,Fz.cells,g,Zt]];exact n;rw[g]<;>rfl
 rw[g];decide;intro _;omega;have y:(x.o=4∨x.o=5)->∀l,Mod (·=t.heap.size) w3 l->Blk l t.heap.size 280 [.int .i64 x.o,.int .i64 0,.int .i64 x.a,.int .i64 x.b]->Ext w l/\Blk l w.heap.size 280 x.cells/\Blk l t.heap.size 280 (bq x).cells/\(2:Int)=Zt x.o/\0<=Zt x.o/\(x.o=2->0<=x.v/\x.v<64):=λV l b n=>by
  have e:Zt x.o=2:=by obtain h|h:=V <;>rw[h]<;>rfl
  refine⟨b.ext s λi H=>ω,d.mod b ω,?_,e.symm,ω,ω⟩;rw[show(bq x).cells=[.int .i64 x.o,.int .i64 0,.int .i64 x.a,.int .i64 x.b] from by simp[bq,Fz.cells,f,e]];exact n
 refine X0 (λj=>?_) λj=>?_;refine Qp d rfl (Xv p (by simp) λl b n=>?_);have a:=d.mod b ω;refine Qp a rfl (Xv n (by simp) λI C D=>?_);exact⟨_,rfl,y (.inl j) I (b.trans C λ_=>.inl) D⟩;refine X0 (λO=>?_) λO=>?_;refine Qp d rfl (Xv p (by simp) λl b n=>?_);have a:=d.mod b ω;refine Qp a rfl (Xv n (by simp) λI C D=>?_);exact⟨_,rfl,y (.inr O) I (b.trans C λ_=>.inl) D⟩;have X:Zt x.o= -1:=by obtain h|h|h|h:=rQ x.o <;>omega
 exact⟨by rw[φ λo=>by have:=o.1;omega],s⟩;rintro k l ⟨c,a,T,rfl,N,P⟩;have B:¬KI x i->∀w',Ext w w'->(Value.int .i64 (-1))= .int .i64 (if KI x i then Zt x.o else -1)/\Ext w w':=λh w' G=>⟨by rw[φ h],G⟩
 have z:KI x i->∀w',Ext w w'->(Value.int .i64 (Zt x.o))= .int .i64 (if KI x i then Zt x.o else -1)/\Ext w w':=λh w' G=>⟨by rw[Qf h],G⟩
 have Zk:=rQ x.o;refine Qm a (Qm T ?_);by_cases A:x.o=(bq x).o/\x.v=(bq x).v/\x.a=(bq x).a/\x.b=(bq x).b;rotate_left;refine Q3 (by rw[eq4,XZ A];rfl) (B (λo=>A ((bQf x).2 ?_)) _ c);obtain⟨U,M,E,F⟩:=o;split at M<;>split at E<;>split at F<;>omega
 refine QX (by rw[eq4,Zg A];rfl) ?_;have u:=(bQf x).1 A;have q:(x.a<0∨x.b<0∨(0<Zt x.o/\(i<=x.a∨i<=x.b)))->¬KI x i:=λhb o=>by obtain⟨U,M,E,F⟩:=o;split at E<;>split at F<;>omega
 refine Qp a rfl (Ql (λr=>?_) λr=>?_);exact B (q (.inl r)) _ c;refine Qp a rfl (Ql (λf=>?_) λf=>?_);exact B (q (.inr (.inl f))) _ c;refine Ql (λg=>?_) λg=>?_;refine Qp a rfl (Qp a rfl ?_);refine norm (m:=max x.a x.b) (by rw[Int.max_def];split<;>split<;>omega) (Ql (λj=>?_) λj=>?_);refine B (q (.inr (.inr ⟨g,?_⟩))) _ c;rw[Int.max_def] at j;split at j<;>omega
 rw[Int.max_def] at j;refine z ⟨N,?_,?_,?_⟩ _ c;split;rename_i h;exact P h;rename_i h;exact u.1 h;rw[Qf g];split at j<;>omega
 split;split at j<;>omega
 exact u.2.2 ω;refine z ⟨N,?_,?_,?_⟩ _ c;split;rename_i h;exact P h;rename_i h;exact u.1 h;rw[φ g];exact u.2.1 ω;rw[φ ω];exact u.2.2 ω
end
section
def bt (l:χ Bool):χ τ:=l.map .bool
theorem BC {l:χ Bool}{j:Nat}{b:Bool}(h:l[j]? =some b):(bt l)[j]? =some (.bool b):=by simp[bt,h]
theorem kQS (l:χ Bool):(bt l).length=l.length:=by simp[bt]
theorem bQg (l:χ Bool)(i:Nat)(b:Bool):bt (l.set i b)=(bt l).set i (.bool b):=by simp[bt,List.map_set]
def VF (x:Fz):Γ:=if Zt x.o=2 then [x.a.toNat,x.b.toNat] else if Zt x.o=1 then [x.a.toNat] else []
def Z1 (f:χ Fz):Γ:=f.flatMap VF
def FV (f:χ Fz):Prop:=f.length<=512/\0<f.length/\(∀i x,f[i]? =some x->KI x i)/\∀i,i+1<f.length->(Z1 f).count i=1
open Classical in
def BD (f:χ Fz):Int:=if FV f then 0 else 30
theorem F3 {f:χ Fz}(h:FV f):BD f=0:=Qf h
theorem rR {f:χ Fz}(h:¬FV f):BD f=30:=φ h
theorem bQh (d:χ Fz){i:Nat}{x:Fz}(h:d[i]? =some x):Z1 (d.take (i+1))=Z1 (d.take i)++VF x:=by simp[Z1,JT,h]
theorem kQT {x:Fz}{i:Nat}(h:KI x i):∀j∈VF x,j<i:=by intro j a;obtain⟨_,_,b,d⟩:=h;unfold VF at a;split at a;rename_i c;rw[Qf ω] at b d;simp at a;omega;split at a;rename_i c;rw[Qf ω] at b;simp at a;omega;simp at a
theorem kQU {d:χ Fz}{i:Nat}(h:∀j x,j<i->d[j]? =some x->KI x j):∀j∈Z1 (d.take i),j+1<i:=by
 intro j a;simp only[Z1,ay] at a;obtain⟨x,b,c⟩:=a;obtain⟨m,e,a⟩:=xU.1 b;have b:m<i:=by simp at e;omega
 have e:d[m]? =some x:=by rw[List.getElem_take] at a;rw[<-a];exact Q6 _
 have:=kQT (h m x b e) j c;omega
def i5 (l:Γ)(n:Nat):χ Bool:=(List.range n).map λj=>decide (j∈l)
theorem bQi (l:Γ)(n j:Nat)(a:j<n):(i5 l n)[j]? =some (decide (j∈l)):=by simp[i5,a]
theorem kQV (l:Γ)(n:Nat):(i5 l n).length=n:=by simp[i5]
theorem kQW (l:Γ)(n k:Nat):(i5 l n).set k true=i5 (l++ [k]) n:=by unfold i5;apply Ms;simp;intro i a b;simp at a;simp only[List.getElem_set,List.getElem_map,List.getElem_range,X2,Xx];split;rename_i h;subst h;simp;rename_i h;have:¬i=k:=λe=>h e.symm;simp[this]
theorem kQX (n:Nat):i5 [] n=List.replicate n false:=by apply Ms;simp[i5];intro i a b;simp[i5]
theorem bQj {d:χ Fz}{s:Nat}{x:Fz}(a:d[s]? =some x)(h:¬KI x s):¬FV d:=λb=>h (b.2.2.1 s x a)
theorem kQY {d:χ Fz}{s:Nat}(b:∀j x,j<s->d[j]? =some x->KI x j)(c:s<=d.length)(h:¬(Z1 (d.take s)).Nodup):¬FV d:=λe=>by
 apply h;rw[List.nodup_iff_count];intro a;by_cases c:a∈Z1 (d.take s);have f:=kQU b a c;have b:=e.2.2.2 a ω;rw[<-b];have b:(Z1 (d.take s)).Sublist (Z1 d):=by
  have:Z1 d=Z1 (d.take s)++Z1 (d.drop s):=by unfold Z1;rw[<-cJ,jK]
  rw[this];exact List.sublist_append_left _ _
 exact b.count_le a;rw[List.count_eq_zero.2 c];omega
theorem kQZ {d:χ Fz}(c:d.length<=512)(e:0<d.length)(a:∀j x,j<d.length->d[j]? =some x->KI x j)(f:(Z1 d).Nodup)(g:∀j,j+1<d.length->j∈Z1 d):FV d:=
 ⟨c,e,λi x b=>a i x (ZK.1 b).1 b,λi c=>by
  have a:=List.nodup_iff_count.1 f i;have a:=UZ.2 (g i c);omega⟩
theorem kQ0 {w:θ}{t:TypeId}{b cs':χ τ}{K:Addr->θ->Prop}(h:b=cs')(k:∀a,Ext w a->a.heap.size=w.heap.size+1->Blk a w.heap.size t cs'->K ⟨w.heap.size,0,none⟩ a):uB w t b K:=by subst h;exact new k
abbrev SF (w:World)(A:Θ)(n c:Nat)(f:List Fz):Prop:=SlS Fz.cells 4 w A n c f
def pr (x:Fz):χ Int:=[x.a,x.b].take (Zt x.o).toNat
theorem kQ1 {x:Fz}{i:Nat}(h:KI x i):(pr x).length=(Zt x.o).toNat/\∀j:Nat,∀a:Int,(pr x)[j]? =some a->0<=a/\a<i/\(VF x)[j]? =some a.toNat:=by
 obtain⟨f,_,c,d⟩:=h;unfold pr VF;obtain⟨_,e⟩|⟨_,e⟩|⟨_,e⟩|⟨e,_⟩:=rQ x.o;rw[e];simp;rw[e] at c ⊢;simp at c;simp;intro j a b;cases j with|zero=>simp at b;subst b;simp;omega|succ j=>simp at b
 rw[e] at c d ⊢;simp at c d;simp;intro j a b;match j,b with|0,b=>simp at b;subst b;simp;omega|1,b=>simp at b;subst b;simp;omega|j+2,b=>simp at b
 rw[e] at f;omega
theorem kQ2 (x:Fz)(_:0<=Zt x.o):(VF x).length=(Zt x.o).toNat:=by unfold VF;obtain⟨_,e⟩|⟨_,e⟩|⟨_,e⟩|⟨e,_⟩:=rQ x.o <;>rw[e]<;>first|rfl|omega
end
section
theorem kQ3 (A:Θ)(n c:Nat)(f:χ Fz)(w:θ)(h:SF w A n c f):Fn ψ 193 [.slice A n c] w (λv b=>v= .int .i64 (BD f)/\Ext w b):=by
 have Xr:=h.2;refine QK aQM [4] Tryz.func193 ?_;refine X0 (λh1=>?_) λh1=>?_;exact⟨by rw[rR λk=>by have:=k.2.1;omega],Ext.refl w⟩;refine Ql (λh2=>?_) λh2=>?_;exact⟨by rw[rR λk=>by have:=k.1;omega],Ext.refl w⟩;refine kQ0 (cs':=bt (List.replicate 512 false)) κ λw1 Z Q0 Qh=>?_;rw[<-kQX] at Qh;refine cL [] Qe [] (λ_:Unit=>[]) (λ_ b=>Ext w b/\Blk b w.heap.size 297 (bt (i5 (Z1 f) 512))/\(∀j x,j<n->f[j]? =some x->KI x j)/\(Z1 f).Nodup) ?_ ?_;refine loop Qe [20] (λs:Nat=>[.int .i64 s]) (λs b=>Ext w b/\Blk b w.heap.size 297 (bt (i5 (Z1 (f.take s)) 512))/\s<=n/\(∀j x,j<s->f[j]? =some x->KI x j)/\(Z1 (f.take s)).Nodup) (λs _=>n-s) 0 rfl ⟨Z,Qh,Q9 _,λj x g=>Xg g ω,by simp[Z1]⟩ ?_;rintro s U ⟨o,r,hs,d,D⟩;refine Ql (λQ=>?_) λQ=>?_;refine XG kW (h.ext o) rfl ω λp x q hc=>?_;refine Jm (vs:=x.cells) rfl hc (new λw3 Qi JI Qt=>?_);refine Qo Qt λw4 Vt Ku Y=>?_;have V:Ext U w4:=X1 Qi Qt Vt;have L:=o.trans V;have sF:=r.ext V;refine Qm Y (call (kQR x s w4) ?_);rintro v w5 ⟨rfl,I⟩;have X:=Y.ext I;have B:¬(KI x s/\(Z1 (f.take (s+1))).Nodup)->BD f=30:=λXo=>by
  refine rR ?_;by_cases N:KI x s;refine kQY (s:=s+1) (λj y g F=>?_) ω λh=>Xo ⟨N,h⟩;by_cases z:j<s;exact d j y z F;have:j=s:=by omega
  subst this;rw[Option.some.inj (F.symm.trans q)];exact N;exact bQj q N
 by_cases l:¬KI x s;refine Zm (by rw[φ l];decide) ?_;exact⟨by rw[B λhh=>l hh.1],L.trans I⟩;replace l:=Decidable.not_not.1 l;have h0:=l.1;have e5:(if KI x s then Zt x.o else -1)=((Zt x.o).toNat:Int):=by rw[Qf l];omega
 rw[e5];refine XB ω (Qp X rfl (Qp X rfl (M2 Qe rfl rfl rfl rfl rfl rfl rfl rfl rfl rfl λw6 Q7 eC Xi=>?_)));have J:(Zt x.o).toNat<=2:=by obtain h|h|h|h:=rQ x.o <;>omega
 refine bm Qe rfl rfl rfl rfl rfl rfl J ?_;have W:=I.trans Q7;have P0:=sF.ext W;have XJ:=L.trans W;obtain⟨ol,ok⟩:=kQ1 l;have Zj:=kQ2 x h0;have me:Sl w6 1 (some ⟨w5.heap.size,0,none⟩) (Zt x.o).toNat 2 ((pr x).map (Value.int .i64)):=by have:=Sl.own (sz:=1) (n:=(Zt x.o).toNat) (c:=2) Xi J δ (by simpa using J);rw[VC] at this;simpa [pr,List.map_take] using this
 have E:Z1 (f.take (s+1))=Z1 (f.take s)++VF x:=bQh f q;refine loop Qe [38] (λt:Nat=>[.int .i64 t]) (λt b=>Mod (·=w.heap.size) w6 b/\Blk b w.heap.size 297 (bt (i5 (Z1 (f.take s)++(VF x).take t) 512))/\t<=(Zt x.o).toNat/\(Z1 (f.take s)++(VF x).take t).Nodup) (λt _=>(Zt x.o).toNat-t) 0 rfl ⟨Mod.refl _ _,by simpa using P0,Q9 _,by simpa using D⟩ ?_;rintro t w7 ⟨O,G,ht,K⟩;have Xq:Ext w w7:=O.ext XJ λi hi=>ω;refine Ql (λh7=>?_) λh7=>?_;have VR:t<(pr x).length:=by omega
 have P:(pr x)[t]? =some (pr x)[t]:=Q6 VR;generalize (pr x)[t]=a at P;obtain⟨a0,ai,ak⟩:=ok t a P;refine Zq me ω λad u hA m QO=>?_;simp only[Wy,P,AL] at m;cases m;have T:w7.cell? (ad.add t)=some (.int .i64 a):=World.grownBy.cell (O.grown (row:=some w.heap.size) λi hi=>by rw[hi]) QO (by
  rw[fQ];cases hA;intro e;have:=(Option.some.inj e)
  have:=L.size;have:=I.size;have:=Z.size;have:=r.lt;simp only at*;omega)
 refine load T ?_;have H:a.toNat<512:=by omega
 refine nu (j:=a.toNat) ω H (Qp G (BC (bQi _ _ _ H)) ?_);have M:(VF x).take (t+1)=(VF x).take t++ [a.toNat]:=by rw[JT,ak]<;>rfl
 refine Ql (λR=>?_) λR=>?_;refine⟨?_,Xq⟩;rw[B];rintro⟨_,C⟩;rw[E] at C;have fJ:(Z1 (f.take s)++(VF x).take (t+1)).Nodup:=C.sublist ((List.Sublist.refl _).append (List.take_sublist _ _));rw[M,<-WW,Mv] at fJ;exact fJ.2.2 _ R _ (by simp) rfl;refine nu (j:=a.toNat) ω H (Xv G (by rw[kQS,kQV];exact H) λw8 J0 XP=>?_);rw[<-bQg,kQW,WW,<-M] at XP;refine Qz ((t+1:Nat):Int) ?_;refine⟨t+1,rfl,⟨O.trans J0 λ_=>.inl,XP,ω,?_⟩,QL⟩;rw[M,<-WW,Mv];refine⟨K,by simp,λu m v k e=>?_⟩;simp only[Xx] at k;subst k;subst e;exact R m;have e:(VF x).take t=VF x:=ZJ ω;rw[e,<-E] at G K;refine Qz ((s+1:Nat):Int) ?_;refine⟨s+1,rfl,⟨Xq,G,ω,λj y g F=>?_,K⟩,QL⟩;by_cases z:j<s;exact d j y z F;have:j=s:=by omega
 subst this;rw[Option.some.inj (F.symm.trans q)];exact l;have:s=n:=by omega
 subst this;rw[ZJ ω] at r D;exact⟨(),rfl,o,r,d,D⟩;rintro⟨⟩ U ⟨o,r,d,D⟩;refine Qz ((n-1:Nat):Int) (bm Qe rfl rfl rfl rfl rfl rfl (by have:=h.1.le;omega) (loop Qe [55] (λs:Nat=>[.int .i64 s]) (λs b=>U=b/\s<=n-1/\∀j,j<s->j∈Z1 f) (λs _=>n-s) 0 rfl ⟨rfl,Q9 _,λj g=>Xg g ω⟩ ?_));rintro s _ ⟨rfl,hs,m⟩;refine Ql (λQ=>?_) λQ=>?_;refine index ω (Qp r (BC (bQi _ _ s ω)) (bj (Ql (λS=>?_) λS=>?_)));refine Qz ((s+1:Nat):Int) ?_;refine⟨s+1,rfl,⟨rfl,ω,λj g=>?_⟩,QL⟩;by_cases z:j<s;exact m j z;have:j=s:=by omega
 rw[this];exact S;refine⟨?_,o⟩;rw[rR λk=>?_];have:=k.2.2.2 s ω;rw[List.count_eq_zero.2 S] at this;cases this;exact⟨by rw[F3 (kQZ ω ω (λj x g q=>d j x ω q) D λj g=>m j ω)],o⟩
end
section
inductive Fm where
 |c (b:Bool)
 |v (n:Nat)
 |not (a:Fm)
 |and (a b:Fm)
 |or (a b:Fm)
deriving DecidableEq
def RepF (f:χ Fz):Fm->Nat->Prop|.c b,i=>f[i]? =some ⟨if b then 1 else 0,0,0,0⟩|.v n,i=>f[i]? =some ⟨2,(n:Nat),0,0⟩|.not a,i=>∃j:Nat,j<i/\f[i]? =some ⟨3,0,(j:Nat),0⟩/\RepF f a j|.and a b,i=>∃j k:Nat,j<i/\k<i/\f[i]? =some ⟨4,0,(j:Nat),(k:Nat)⟩/\RepF f a j/\RepF f b k|.or a b,i=>∃j k:Nat,j<i/\k<i/\f[i]? =some ⟨5,0,(j:Nat),(k:Nat)⟩/\RepF f a j/\RepF f b k
theorem kQ4 {x:Fz}{i:Nat}(h:KI x i):(x=⟨0,0,0,0⟩)∨(x=⟨1,0,0,0⟩)∨(∃n:Nat,n<64/\x=⟨2,n,0,0⟩)∨(∃j:Nat,j<i/\x=⟨3,0,j,0⟩)∨(∃j k:Nat,j<i/\k<i/\(x=⟨4,0,j,k⟩∨x=⟨5,0,j,k⟩)):=by obtain⟨o,v,a,b⟩:=x;obtain⟨g,c,d,f⟩:=h;simp only at g c d f;obtain⟨g,e⟩|⟨g,e⟩|⟨g,e⟩|⟨e,_⟩:=rQ o;rw[φ ω] at d f;subst d;subst f;obtain rfl|rfl|rfl:=g;rw[φ ω] at c;subst c;exact .inl rfl;rw[φ ω] at c;subst c;exact .inr (.inl rfl);rw[Qf rfl] at c;refine .inr (.inr (.inl ⟨v.toNat,ω,?_⟩));rw[Mx c.1];rw[Qf ω] at d;rw[φ ω] at f c;subst g;subst f;subst c;refine .inr (.inr (.inr (.inl ⟨a.toNat,ω,?_⟩)));rw[Mx d.1];rw[Qf ω] at d f;rw[φ ω] at c;subst c;refine .inr (.inr (.inr (.inr ⟨a.toNat,b.toNat,ω,ω,?_⟩)));rw[Mx d.1,Mx f.1];obtain rfl|rfl:=g;exact .inl rfl;exact .inr rfl;omega
theorem kQ5 {f:χ Fz}(h:∀i x,f[i]? =some x->KI x i):∀i,i<f.length->∃t,RepF f t i:=by intro i;induction i using Nat.strongRecOn with|_ i l=>intro d;have c:=Q6 d;obtain e|e|⟨n,_,e⟩|⟨j,d,e⟩|⟨j,k,d,m,e⟩:=kQ4 (h i _ c);exact⟨.c false,by rw[e] at c;exact c⟩;exact⟨.c true,by rw[e] at c;exact c⟩;exact⟨.v n,by rw[e] at c;exact c⟩;obtain⟨a,g⟩:=l j d ω;exact⟨.not a,j,d,by rw[e] at c;exact c,g⟩;obtain⟨a,g⟩:=l j d ω;obtain⟨b,o⟩:=l k m ω;obtain e|e:=e;exact⟨.and a b,j,k,d,m,by rw[e] at c;exact c,g,o⟩;exact⟨.or a b,j,k,d,m,by rw[e] at c;exact c,g,o⟩
def BG:Fm->Nat|.or _ _=>0|.and _ _=>1|_=>2
def BH (b:Bool)(s:Γ):Γ:=if b then 40::s++ [41] else s
def BI (c:Λ):Fm->Γ
 |.c b=>if b then dx else fg
 |.v n=>c[n]?.getD []|.not a=>33::BH (decide (BG a<2)) (BI c a)|.and a b=>BH (decide (BG a<1)) (BI c a)++ [32,38,38,32]++BH (decide (BG b<2)) (BI c b)|.or a b=>BH (decide (BG a<0)) (BI c a)++ [32,124,124,32]++BH (decide (BG b<1)) (BI c b)
def VarsIn (n:Nat):Fm->Prop|.c _=>True|.v k=>k<n|.not a=>VarsIn n a|.and a b=>VarsIn n a/\VarsIn n b|.or a b=>VarsIn n a/\VarsIn n b
theorem kQ6 (o:Int)(w:θ):Fn ψ 224 [.int .i64 o] w (λv a=>v= .int .i64 (if o=5 then 0 else if o=4 then 1 else 2)/\w=a):=by refine KS (c:=jQ5) Qe Tryz.func224 rfl rfl rfl ?_;refine X0 (λh=>?_) λh=>?_;exact⟨by rw[Qf h],rfl⟩;refine X0 (λa=>?_) λa=>?_;exact⟨by rw[φ h,Qf a],rfl⟩;exact⟨by rw[φ h,φ a],rfl⟩
end
section
theorem kQ7:Bq 109 2:=by unfold Bq;kernel_rfl
def Q4:Fm->Nat|.c _=>1|.v _=>1|.not a=>Q4 a+1|.and a b=>Q4 a+Q4 b+1|.or a b=>Q4 a+Q4 b+1
def aC:Fm->Int
 |.c b=>if b then 1 else 0
 |.v _=>2|.not _=>3|.and _ _=>4|.or _ _=>5
theorem vQE {f:χ Fz}{t:Fm}{i:Nat}(h:RepF f t i):∃x,f[i]? =some x/\x.o=aC t:=by cases t with|c b=>exact⟨_,h,rfl⟩|v n=>exact⟨_,h,rfl⟩|not a=>obtain⟨j,_,h,_⟩:=h;exact⟨_,h,rfl⟩|and a b=>obtain⟨j,k,_,_,h,_⟩:=h;exact⟨_,h,rfl⟩|or a b=>obtain⟨j,k,_,_,h,_⟩:=h;exact⟨_,h,rfl⟩
end
section
theorem F4 {o v a b c d e b':Int}(h:(⟨o,v,a,b⟩:Fz)=⟨c,d,e,b'⟩):o=c/\v=d/\a=e/\b=b':=by cases h;exact⟨rfl,rfl,rfl,rfl⟩
theorem vQC {f:χ Fz}:∀{t t':Fm}{i:Nat},RepF f t i->RepF f t' i->t=t':=by
 intro t;induction t with
 |c b=>
  intro t' i h g;obtain⟨x,m,G⟩:=vQE h;obtain⟨y,o,d⟩:=vQE g;have e:=Option.some.inj (m.symm.trans o);rw[<-e,G] at d;cases t' with
  |c l=>cases b<;>cases l<;>first|rfl|(simp[aC] at d)
  |v n=>cases b<;>simp[aC] at d
  |not a=>cases b<;>simp[aC] at d
  |and a c=>cases b<;>simp[aC] at d
  |or a c=>cases b<;>simp[aC] at d
 |v n=>
  intro t' i h g;obtain⟨y,o,d⟩:=vQE g;have e:=Option.some.inj (o.symm.trans h);rw[e] at d;cases t' with
  |c l=>cases l<;>simp[aC] at d
  |v B=>have:=F4 (Option.some.inj (h.symm.trans g));congr 1;omega
  |not a=>simp[aC] at d
  |and a c=>simp[aC] at d
  |or a c=>simp[aC] at d
 |not a iha=>
  intro t' i h g;obtain⟨j,C,m,w⟩:=h;obtain⟨y,o,d⟩:=vQE g;have e:=Option.some.inj (o.symm.trans m);rw[e] at d;cases t' with
  |c l=>cases l<;>simp[aC] at d
  |v B=>simp[aC] at d
  |not a'=>
   obtain⟨j',D,r,s⟩:=g;have:=F4 (Option.some.inj (m.symm.trans r));have u:j=j':=by omega
   subst u;rw[iha w s]
  |and a c=>simp[aC] at d
  |or a c=>simp[aC] at d
 |and a b iha q=>
  intro t' i h g;obtain⟨j,k,C,F,m,w,A⟩:=h;obtain⟨y,o,d⟩:=vQE g;have e:=Option.some.inj (o.symm.trans m);rw[e] at d;cases t' with
  |c l=>cases l<;>simp[aC] at d
  |v B=>simp[aC] at d
  |not a'=>simp[aC] at d
  |and a' l=>
   obtain⟨j',k',D,E,r,s,p⟩:=g;have:=F4 (Option.some.inj (m.symm.trans r));have u:j=j':=by omega
   have z:k=k':=by omega
   subst u;subst z;rw[iha w s,q A p]
  |or a c=>simp[aC] at d
 |or a b iha q=>
  intro t' i h g;obtain⟨j,k,C,F,m,w,A⟩:=h;obtain⟨y,o,d⟩:=vQE g;have e:=Option.some.inj (o.symm.trans m);rw[e] at d;cases t' with|c l=>cases l<;>simp[aC] at d|v B=>simp[aC] at d|not a'=>simp[aC] at d|and a c=>simp[aC] at d|or a' l=>
   obtain⟨j',k',D,E,r,s,p⟩:=g;have:=F4 (Option.some.inj (m.symm.trans r));have u:j=j':=by omega
   have z:k=k':=by omega
   subst u;subst z;rw[iha w s,q A p]
open Classical in
def BJ (f:χ Fz):Fm:=if h:∃t,RepF f t (f.length-1)then h.choose else .c false
theorem Nw {f:χ Fz}{t:Fm}(h:RepF f t (f.length-1)):BJ f=t:=by
 have a:∃t,RepF f t (f.length-1):=⟨t,h⟩
 unfold BJ;rw[dif_pos a];exact vQC a.choose_spec h
def Nx (n:Nat)(f:χ Fz):Prop:=∀x∈f,x.o=2->x.v<n
end
section
structure Br where
 v:Int
 l:Int
 h:Int
deriving DecidableEq
def Br.cells (x:Br):χ τ:=[.int .i64 x.v,.int .i64 x.l,.int .i64 x.h]
theorem aD (x:Br):x.cells.length=3:=rfl
abbrev SB (w:World)(A:Θ)(n c:Nat)(d:List Br):Prop:=SlS Br.cells 3 w A n c d
def Q5 (A:Θ)(n c:Nat)(r:Int):τ:=.agg #[.slice A n c,.int .i64 r]
def QB (d:χ Br)(n:Int):Int:=if n<2 then 64 else(d[(n-2).toNat]?.map (·.v)).getD 64
def ZM (d:χ Br):Nat->Int->χ Br×Γ->Int×(χ Br×Γ)
 |0,n,c=>(n,c)
 |m+1,n,c=>if n<2 then(n,c)else
   if 0<c.2[(n-2).toNat]?.getD 0 then((c.2[(n-2).toNat]?.getD 0:Nat),c)else
    match d[(n-2).toNat]? with
    |none=>(n,c)
    |some x=>
     let a:=ZM d m x.l c
     let b:=ZM d m x.h a.2
     (((b.2.1.length+2:Nat):Int),(b.2.1++ [⟨x.v,a.1,b.1⟩],b.2.2.set (n-2).toNat (b.2.1.length+2)))
def fh (b:χ Br)(r:Int):χ Br×Int:=let a:=ZM b (r.toNat+1) r ([],List.replicate b.length 0);(a.2.1,a.1)
def dB (a:χ Br):Prop:=∀(j:Nat)(x:Br),a[j]? =some x->0<=x.l/\x.l<j+2/\0<=x.h/\x.h<j+2
def jU (a:χ Br)(j:Nat)(b:Br):Prop:=0<=b.v/\b.v<=63/\0<=b.l/\b.l<j+2/\0<=b.h/\b.h<j+2/\b.l≠b.h/\b∉a.take j/\b.v<QB a b.l/\b.v<QB a b.h
def VD (a:χ Br)(r:Int):Prop:=(∀(j:Nat)(b:Br),a[j]? =some b->jU a j b)/\0<=r/\r<a.length+2/\fh a r=(a,r)
open Classical in
def XN (a:χ Br)(r:Int):Int:=if 4096<a.length then 2 else if VD a r then 0 else 20
theorem bQk {a:χ Br}{r:Int}(h:4096<a.length):XN a r=2:=Qf h
theorem F5 {a:χ Br}{r:Int}(h:¬4096<a.length)(k:VD a r):XN a r=0:=(φ h).trans (Qf k)
theorem BK {a:χ Br}{r:Int}(h:¬4096<a.length)(k:¬VD a r):XN a r=20:=(φ h).trans (φ k)
theorem gM {a:χ Br}{r:Int}:XN a r=0↔¬4096<a.length/\VD a r:=by
 constructor;intro h;unfold XN at h;split at h;cases h;split at h;exact⟨by assumption,by assumption⟩;cases h
 exactλh=>F5 h.1 h.2
theorem VD.wf {nd:χ Br}{r:Int}(h:VD nd r):dB nd:=λj x a=>by obtain⟨_,_,b,c,d,e,_⟩:=h.1 j x a;exact⟨b,c,d,e⟩
theorem kZ (A:Θ)(n c:Nat)(r m:Int)(a:χ Br)(w:θ)(h:SB w A n c a)(d:m<n+2):Fn ψ 103 [Q5 A n c r,.int .i64 m] w (λv b=>v= .int .i64 (QB a m)/\Ext w b):=by have a:=h.2;refine QK iQq [] Tryz.func103 ?_;refine new λb a e d=>?_;refine Ql (λb=>?_) λb=>?_;exact⟨by unfold QB;rw[Qf b],a⟩;refine QQ d rfl ?_;refine Ky (((m-2).toNat:Nat):Int) ω (by have:=h.1.le;have:=h.1.cap;simp only[maxLen] at this;omega) ?_;refine XG aD (h.ext a) rfl ω λp x d e=>?_;refine load (e 0 _ rfl) ?_;exact⟨by unfold QB;rw[φ b,d];rfl,a⟩
theorem pu (a b c d e f:Int):(a==d&&(b==e&&(c==f&&true)))=decide (a=d/\b=e/\c=f):=by rw[mN];simp only[Z4,beq_iff_eq,YX,and_true]
theorem pv {x y:Br}:x=y↔x.v=y.v/\x.l=y.l/\x.h=y.h:=by constructor;rintro rfl;exact⟨rfl,rfl,rfl⟩;obtain⟨a,b,c⟩:=x;obtain⟨d,e,f⟩:=y;rintro⟨rfl,rfl,rfl⟩;rfl
theorem bQl {α:Type}{l l':χ α}{j:Nat}{x y:α}(a:l[j]? =some x)(b:l'[j]? =some y)(h:x≠y):l≠l':=λe=>by subst e;exact h (Option.some.inj (a.symm.trans b))
theorem bQm {α:Type}{l l':χ α}{n:Nat}(a:l.length=n)(b:l'.length=n)(h:∀j,j<n->l[j]? =l'[j]?):l=l':=by apply Fh;intro j;by_cases a:j<n;exact h j a;rw[uu ω,uu ω]
theorem kQ8 (A B:Θ)(n c m e:Nat)(l a:χ Br)(w:θ)(h:SB w A n c l)(k:SB w B m e a):Fn ψ 158 [.slice A n c,.slice B m e] w (λv d=>v= .bool (decide (l=a))/\Ext w d):=by
 have t:=h.2;have b:=k.2;refine QK jQc [] Tryz.func158 ?_;refine Ya (λb=>?_) λb=>?_;exact⟨by rw[XZ λe=>by subst e;omega],Ext.refl w⟩;refine loop Qe [13] (λs:Nat=>[.int .i64 s]) (λs d=>Ext w d/\s<=n/\∀j,j<s->l[j]? =a[j]?) (λs _=>n-s) 0 rfl ⟨Ext.refl w,Q9 _,λj b=>Xg b ω⟩ ?_;rintro s g ⟨f,i,a⟩;refine Ql (λi=>?_) λi=>?_;refine Xw (Ext g) 9 (oz 9 0 []) (Ext.drew g) (XG aD (h.ext f) rfl ω λp x o u=>?_);refine Xe (vs:=x.cells) rfl (λd i j v b=>i.cell (u j v b)) (XG aD (k.ext f) rfl ω λq y r z=>?_);refine Xe (vs:=y.cells) rfl (λd i j v b=>i.cell (z j v b)) ?_;have i:=f.trans (Ext.drew g);by_cases d:x=y;refine QX (by rw[pu,Zg (pv.1 d)];rfl) (Ky ((s+1:Nat):Int) ω (by have:=h.1.le;have:=h.1.cap;simp only[maxLen] at this;omega) ?_);refine⟨s+1,rfl,⟨i,ω,λj b=>?_⟩,QL⟩;by_cases g:j<s;exact a j g;have:j=s:=by omega
 subst this;rw[o,r,d];refine Q3 (by rw[pu,XZ λe=>d (pv.2 e)];rfl) ?_;exact⟨by rw[XZ (bQl o r d)],i⟩;exact⟨by rw[Zg (bQm t ω λj b=>a j ω)],f⟩
theorem kQ9 (A B:Θ)(n c m e:Nat)(l b:χ Br)(r a:Int)(w:θ)(h:SB w A n c l)(i:SB w B m e b):Fn ψ 105 [Q5 A n c r,Q5 B m e a] w (λv d=>v= .bool (decide ((l,r)=(b,a)))/\Ext w d):=by refine QK iQs [] Tryz.func105 ?_;refine new λd j f a=>?_;refine new λk d g f=>?_;have g:=a.ext d;have a:=j.trans d;refine Qp g rfl ?_;refine Qp f rfl ?_;refine X0 (λd=>?_) λd=>?_;refine QQ g rfl ?_;refine QQ f rfl ?_;refine call (kQ8 A B n c m e l b k (h.ext a) (i.ext a)) ?_;rintro v f ⟨rfl,b⟩;refine⟨?_,a.trans b⟩;congr 1;exact o0.2 ⟨λe=>by rw[e,d],λe=>by cases e;rfl⟩;exact⟨by rw[XZ λe=>d (by cases e;rfl)],a⟩
end
section
theorem bQn {α:Type} [DecidableEq α]{kv:α->τ}{c:Cx}{o:Oper}{S:Env}{w:θ}{K:Env->θ->Prop}{Q:ZD}{t f e:Nat}{r g:TyRow}{x y:Operand}{q:Nat}{m:χ (α×τ)}{a:α}{v:τ}{z:Operand}(i:c.g.Ok)(j:o.op= .insert t x y z) (l:o.dst=none) (p:Q8 c.g.tys t=some r) (s:r.d= .map f e) (u:Q8 c.g.tys f=some g) (A:KeyV g.d kv)(B:S.ev x=some (.map (some q))) (C:S.ev y=some (kv a)) (D:S.ev z=some v) (E:MapAt kv w q m)(k:∀d,w.grownBy d (some q)->d.heap.size=w.heap.size->MapAt kv d q (ZP a v m)->K S d):Zv c o S w K Q:=by
 have h:Zv c {o with op:=.mapUpdate t x y z} S w K Q:=po i rfl l p s u A B C D E k;unfold Zv at*;intro b f;have d:=h b f;unfold Oper.wp at*;have e:(execOp b.eval o).run c.g.P w=(execOp b.eval {o with op:=.mapUpdate t x y z}).run c.g.P w:=by simp only[execOp,j]
 rw[e];generalize (execOp b.eval {o with op:=.mapUpdate t x y z}).run c.g.P w=r at*;cases r with|ok n f=>cases n<;>simp only[Oper.upon] at d ⊢ <;> exact d|halt x f=>cases x<;>simp only[Oper.upon] at d ⊢ <;> exact d
theorem lQa {l:Γ}{j v:Nat}(h:l[j]? =some 0)(a:0<v):(l.set j v).count 0+1=l.count 0:=by induction l generalizing j with|nil=>simp at h|cons x l a=>cases j with|zero=>simp at h;subst h;rw[U0,U4 ω,List.count_cons_self]|succ j=>simp at h;have:=a h;rw[List.set_cons_succ,AM,AM];omega
theorem pw {b:χ Br}{m:Nat}{n:Int}{a:χ Br×Γ}(h:n<2):ZM b (m+1) n a=(n,a):=by rw[ZM,Qf h]
theorem px {b:χ Br}{m:Nat}{n:Int}{a:χ Br×Γ}(h:¬n<2)(k:0<a.2[(n-2).toNat]?.getD 0):ZM b (m+1) n a=(((a.2[(n-2).toNat]?.getD 0:Nat):Int),a):=by rw[ZM,φ h,Qf k]
theorem rS {a:χ Br}{m:Nat}{n:Int}{b:χ Br×Γ}{x:Br}(h:¬n<2)(k:¬0<b.2[(n-2).toNat]?.getD 0)(c:a[(n-2).toNat]? =some x):ZM a (m+1) n b=((((ZM a m x.h (ZM a m x.l b).2).2.1.length+2:Nat):Int),((ZM a m x.h (ZM a m x.l b).2).2.1++ [⟨x.v,(ZM a m x.l b).1,(ZM a m x.h (ZM a m x.l b).2).1⟩],(ZM a m x.h (ZM a m x.l b).2).2.2.set (n-2).toNat ((ZM a m x.h (ZM a m x.l b).2).2.1.length+2))):=by rw[ZM,φ h,φ k,c]
structure VisF (nd:List Br) (n:Int) (st cY:List Br×Γ):Prop where
 len:cY.2.length=nd.length
 keep:∀k:Nat,n<(k:Int)+2->cY.2[k]? =st.2[k]?
 cnt:cY.1.length+cY.2.count 0<=st.1.length+st.2.count 0
 ge:st.1.length<=cY.1.length
theorem py {c:χ Br}(h:dB c):∀(m:Nat)(n:Int)(d:χ Br×Γ),0<=n->n<m->n<c.length+2->d.2.length=c.length->VisF c n d (ZM c m n d).2
 |0,n,d,e,g,_,_=>by omega
 |m+1,n,d,e,g,i,f=>by
  by_cases e:n<2;rw[pw e];exact⟨f,λ_ _=>rfl,Qw _,Qw _⟩;by_cases g:0<d.2[(n-2).toNat]?.getD 0;rw[px e g];exact⟨f,λ_ _=>rfl,Qw _,Qw _⟩;have j:(n-2).toNat<c.length:=by omega
  have i:=Q6 j;obtain⟨j,o,l,p⟩:=h _ _ i;rw[rS e g i];have e:=py h m c[(n-2).toNat].l d j ω ω f;have f:=py h m c[(n-2).toNat].h _ l ω ω e.len;generalize (ZM c m c[(n-2).toNat].l d)=a at*;generalize (ZM c m c[(n-2).toNat].h a.2)=b at*;have c:d.2[(n-2).toNat]? =some 0:=by have:d.2[(n-2).toNat]? =some d.2[(n-2).toNat]:=Q6 ω;rw[this] at g ⊢;simp only[kR] at g;congr 1;omega
  have d:b.2.2[(n-2).toNat]? =some 0:=by rw[f.keep _ ω,e.keep _ ω,c]
  have c:=lQa (v:=b.2.1.length+2) d ω;have c:=e.cnt;have c:=f.cnt;have c:=e.ge;have c:=f.ge;refine⟨by rw[jL];exact f.len,λk c=>?_,?_,?_⟩;rw[jN ω,f.keep k ω,e.keep k ω];rw[Qy];simp only[Xa,Jz];omega;rw[Qy];omega
abbrev d9:Int->Value:=λn=>.int .i64 n
def MapOk (a:Γ)(m:χ (Int×τ)):Prop:=∀n:Int,0<=n->Zc n m=if n<2 then some (.int .i64 n)else if 0<a[(n-2).toNat]?.getD 0 then some (.int .i64 (a[(n-2).toNat]?.getD 0:Nat))else none
theorem MapOk.set {a:Γ}{m:χ (Int×τ)}(h:MapOk a m){n:Int}(b:¬n<2)(c:(n-2).toNat<a.length){v:Nat}(d:0<v):MapOk (a.set (n-2).toNat v) (ZP n (.int .i64 (v:Nat)) m):=by intro k a;rw[fc];by_cases e:k=n;subst e;rw[Qf rfl,φ b,mS c];simp only[kR];rw[Qf d];rw[φ e,h k a];by_cases a:k<2;rw[Qf a,Qf a];rw[φ a,φ a,jN ω]
theorem lQb (n:Nat):MapOk (List.replicate n 0) (ZP 1 (.int .i64 1) (ZP 0 (.int .i64 0) [])):=by intro k a;rw[fc,fc];by_cases a:k=1;subst a;rfl;rw[φ a];by_cases a:k=0;subst a;rfl;rw[φ a,φ ω,φ];rfl;cases h:(List.replicate n 0)[(k-2).toNat]? with|none=>simp|some x=>have:=Fi (Xd h);rw[this];simp
end
section
def pz (l:χ Br):χ τ:=l.flatMap Br.cells
theorem F6 (l:χ Br)(x:Br):pz (l++ [x])=pz l++x.cells:=by simp[pz]
structure VP where
 mb:Nat
 q:Nat
 bb:Nat
 bp:Nat
 fb:Nat
 ob:Nat
def VP.ptr (i:Nat):τ:=.pointer (some ⟨i,0,none⟩)
def VP.clo (p:VP):τ:=.func (.func 157) #[] #[VP.ptr p.mb,VP.ptr p.bb,VP.ptr p.fb,VP.ptr p.ob]
structure VK (w:World) (base:Nat) (p:VP) (NA:Θ) (nn nc:Nat) (nd:List Br):Prop where
 mbx:Blk w p.mb 238 [.map (some p.q)]
 bbx:Blk w p.bb 174 [VP.ptr p.bp]
 bpx:∃kv,Blk w p.bp 177 [.slice NA nn nc,kv]
 fbx:Blk w p.fb 215 [p.clo]
 nds:SB w NA nn nc nd
 lt:p.q<base/\p.ob<base
 ne:p.q≠p.ob/\p.q≠p.mb/\p.q≠p.bb/\p.q≠p.bp/\p.q≠p.fb/\p.ob≠p.mb/\p.ob≠p.bb/\p.ob≠p.bp/\p.ob≠p.fb
 lt2:p.mb<base/\p.bb<base/\p.bp<base/\p.fb<base
 row:∀ad,NA=some ad->0<nn->ad.block<base/\ad.block≠p.q/\ad.block≠p.ob
def VS (p:VP)(A:Θ):Nat->Prop:=λk=>k=p.q∨k=p.ob∨Qj A k
theorem VS.moved {w:θ}{p:VP}{A a:Θ}(h:Moved w A a):∀k,VS p a k->VS p A k∨w.heap.size<=k:=by rintro k (rfl|rfl|a);exact .inl (.inl rfl);exact .inl (.inr (.inl rfl));obtain h|h:=h.rows k a;exact .inl (.inr (.inr h));exact .inr h
theorem Mod.cell {S:Nat->Prop}{w b:θ}(k:Mod S w b){a:Addr}{v:τ}(h:w.cell? a=some v)(c:¬S a.block):b.cell? a=some v:=by have b:=World.block_lt_of_cell? w a h;have e:=k.block a.block b c;unfold World.cell? at h ⊢;rw[e];exact h
theorem Sl.modS {S:Nat->Prop}{w a:θ}{b n c:Nat}{A:Θ}{cs:χ τ}(h:Sl w b A n c cs)(k:Mod S w a)(d:0<n->∀i,Qj A i->¬S i):Sl a b A n c cs:=
 ⟨h.len,h.le,h.cap,λb=>by
  obtain⟨a,rfl,e⟩:=h.at_ b;exact⟨a,rfl,λj u f=>k.cell (e j u f) (d b _ ⟨a,rfl,(fQ a j).symm⟩)⟩⟩
theorem Ny {α:Type} [DecidableEq α]{kv:α->τ}{c:Cx}{o:Oper}{S:Env}{w:θ}{K:Env->θ->Prop}{Q:ZD}{t b e:Nat}{r d f:TyRow}{x y:Operand}{q:Nat}{m:χ (α×τ)}{a:α}{v:τ}(g:c.g.Ok)(h:o.op= .lookup t x y false) (i:Q8 c.g.tys t=some r) (j:r.d= .map b e) (l:Q8 c.g.tys b=some d) (n:Q8 c.g.tys e=some f) (p:KeyV d.d kv)(s:S.ev x=some (.map (some q))) (u:S.ev y=some (kv a)) (z:MapAt kv w q m) (A:(Zc a m).getD f.z=v) (k:XD c S o.dst (.v v) λS=>K S w):Zv c o S w K Q:=by subst A;exact iQh g h i j l n p s u z k
theorem VK.mod {w j:θ}{a:Nat}{p:VP}{NA d:Θ}{g f:Nat}{nd:χ Br}(h:VK w a p NA g f nd)(q:∀i,Qj d i->a<=i)(c:Mod (VS p d) w j):VK j a p NA g f nd:=by
 obtain⟨J,x,y,z,A,B,C,D,E⟩:=h.ne;obtain⟨s,t,u,v⟩:=h.lt2;have b:∀i,i<a->i≠p.q->i≠p.ob->¬VS p d i:=λi I o n e=>by obtain e|e|e:=e;exact o e;exact n e;have:=q i e;omega
 obtain⟨r,k⟩:=h.bpx;refine⟨h.mbx.mod c (b _ s x.symm B.symm),h.bbx.mod c (b _ t y.symm C.symm),⟨r,k.mod c (b _ u z.symm D.symm)⟩,h.fbx.mod c (b _ v A.symm E.symm),⟨h.nds.1.modS c ?_,h.nds.2⟩,h.lt,h.ne,h.lt2,h.row⟩;rintro m i ⟨l,rfl,rfl⟩;obtain⟨F,G,H⟩:=h.row l rfl m;exact b _ F G H
structure VSt (w:World) (base:Nat) (p:VP) (r0:Int) (OA:Θ) (oc:Nat) (st:List Br×Γ):Prop where
 own:Own w base 105 3 OA st.1.length oc (pz st.1)
 obx:Blk w p.ob 32 [.slice OA st.1.length oc,.int .i64 r0]
 mp:∃mm,MapAt d9 w p.q mm/\MapOk st.2 mm
 top:base<=w.heap.size
theorem VSt.ext {w b:θ}{a:Nat}{p:VP}{c:Int}{d:Θ}{e:Nat}{st:χ Br×Γ}(h:VSt w a p c d e st)(k:Ext w b):VSt b a p c d e st:=
 ⟨h.own.ext k,h.obx.ext k,let ⟨a,b,c⟩:=h.mp;⟨a,b.ext k,c⟩,XU h.top k.size⟩
def VTo (w:θ)(a:Nat)(p:VP)(f:Int)(d:Θ)(g:χ Br×Γ)(e:θ):Prop:=∃b c,VSt e a p f b c g/\Mod (VS p d) w e/\Moved w d b
theorem bQo (d:Nat)(p:VP)(r0:Int)(NA:Θ)(nn nc:Nat)(k:χ Br)(F:dB k)(gy:nn<=1000000000000):∀(m:Nat)(n:Int)(f:χ Br×Γ)(l:Θ)(s:Nat)(w:θ),VK w d p NA nn nc k->VSt w d p r0 l s f->0<=n->n<m->n<nn+2->f.2.length=nn->f.1.length+f.2.count 0<=1000000000000->Fn ψ 157 [.int .i64 n,VP.ptr p.mb,VP.ptr p.bb,VP.ptr p.fb,VP.ptr p.ob] w λv w'=>v= .int .i64 (ZM k m n f).1/\VTo w d p r0 l (ZM k m n f).2 w'
 |0,n,f,l,s,w,_,_,h0,hm,_,_,_=>by omega
 |m+1,n,f,l,s,w,g,r,h0,hm,hn,hl,hc=>by
  have ih:=bQo d p r0 NA nn nc k F gy m;have JP:k.length=nn:=g.nds.2;obtain⟨mm,C,S⟩:=r.mp;have M:=r.own.rows;have vQh:=C.lt;have vQi:=r.obx.lt;refine QK jQb [] Tryz.func157 ?_;refine QQ g.mbx rfl ?_;have o:=S n h0;by_cases q:n<2;rw[Qf q] at o;refine Bx (kv:=d9) (a:=n) (v:=.int .i64 n) (b:=true) Qe rfl rfl rfl rfl rfl (KeyV.int .i64) rfl rfl C (by rw[o];rfl) (by rw[o];rfl) (Q3 rfl ?_);refine⟨by rw[pw q],l,s,?_,Mod.refl _ _,Moved.refl _ _⟩;rw[pw q];exact r;rw[φ q] at o;by_cases B:0<f.2[(n-2).toNat]?.getD 0;rw[Qf B] at o;refine Bx (kv:=d9) (a:=n) (v:=.int .i64 (f.2[(n-2).toNat]?.getD 0:Nat)) (b:=true) Qe rfl rfl rfl rfl rfl (KeyV.int .i64) rfl rfl C (by rw[o];rfl) (by rw[o];rfl) (Q3 rfl ?_);refine⟨by rw[px q B],l,s,?_,Mod.refl _ _,Moved.refl _ _⟩;rw[px q B];exact r;rw[φ B] at o;refine Bx (kv:=d9) (a:=n) (v:=.int .i64 0) (b:=false) Qe rfl rfl rfl rfl rfl (KeyV.int .i64) rfl rfl C (by rw[o];rfl) (by rw[o];rfl) (QX rfl ?_);have hj:(n-2).toNat<k.length:=by omega
  have G:=Q6 hj;generalize k[(n-2).toNat]=x at G;obtain⟨x1,x2,x3,x4⟩:=F _ _ G;obtain⟨kv,TR⟩:=g.bpx;refine QQ g.bbx rfl (QQ TR rfl (Qz (((n-2).toNat:Nat):Int) (XG aD g.nds rfl ω λad y hy Yz=>?_)));have xb:y=x:=Option.some.inj (hy.symm.trans G);subst xb;refine Jm (vs:=y.cells) rfl Yz (new λw1 Qd Q0 Qh=>?_);refine Qo Qh λw2 WQ XR nT=>?_;have L:Ext w w2:=X1 Qd Qh WQ;have HP:Mod (VS p l) w w2:=Mod.of_ext _ L;have K:=g.mod (λi c=>(M i c).1) HP;have C6:=r.ext L;have xd:¬VS p l w.heap.size:=λe=>by obtain e|e|e:=e;omega;omega;have:=(M _ e).2;omega
  refine QQ K.fbx rfl (Qp nT rfl ?_);have Q:=py F m y.l f x1 ω ω ω;refine call (ih y.l f l s w2 K C6 x1 ω ω hl hc) ?_;rintro v w3 ⟨rfl,t,P6,sG,E,qd⟩;have T:=K.mod (λi c=>(M i c).1) E;have Y4:=nT.mod E xd;have PW:=sG.own.rows;have HQ:¬VS p t w.heap.size:=λe=>(VS.moved qd _ e).elim xd λh=>ω;refine QQ T.fbx rfl (Qp Y4 rfl ?_);have f2:=py F m y.h _ x3 ω ω Q.len;have c1:=Q.cnt;have c2:=f2.cnt;refine call (ih y.h _ t P6 w3 T sG x3 ω ω (by rw[Q.len];exact JP) ω) ?_;rintro v w4 ⟨rfl,j,oc4,z,P,vI⟩;have aN:=Y4.mod P HQ;have H:=z.own.rows;have qe:=E.trans P (VS.moved qd);have P7:=qd.trans vI E.size;have sH:Mod (VS p l) w w4:=HP.trans qe λ_=>.inl;have C7:=P7.back L.size;have aP:=T.mod (λi c=>(PW i c).1) P;have Ao:=rS (m:=m) q B G;rw[Ao];generalize (ZM k m y.l f)=a at*;generalize (ZM k m y.h a.2)=b at*;have tQj:¬Qj j p.ob:=λe=>by have:=(H _ e).1;have:=g.lt.2;omega
  have tS:¬Qj j p.q:=λe=>by have:=(H _ e).1;have:=g.lt.1;omega
  refine QQ z.obx rfl (QQ aN rfl (XM (⟨y.v,a.1,b.1⟩:Br).cells ?_));intro w5 D KA QC;have U:=z.ext D;have jo:Sl w5 3 (some ⟨w4.heap.size,0,none⟩) 1 1 (⟨y.v,a.1,b.1⟩:Br).cells:=Sl.own (sz:=3) (n:=1) QC (Qw _) δ (by simp[Br.cells]);refine XV U.own jo (by intro u hu;simp[Br.cells] at hu;obtain rfl|rfl|rfl:=hu <;>rfl) (by unfold maxLen;omega) U.top ?_ (b:=(by show _*24<=_;omega));intro J HS w6 I C8 C9;refine VW (U.obx.mod I tQj) (by simp) λw7 N Q2=>?_;have zm:Mod (VS p j) w4 w7:=((Mod.of_ext (VS p j) D).trans I λi c=>.inl (.inr (.inr c))).trans N λi c=>.inl (.inr (.inl c));have qf:=aP.mod (λi c=>(H i c).1) zm;obtain⟨m4,V,W⟩:=z.mp;have X:MapAt d9 w7 p.q m4:=((V.ext D).mod I tS).mod N g.ne.1;have Xr:b.2.2.length=k.length:=f2.len;refine QQ qf.mbx rfl (QQ Q2 rfl (Qz ((b.2.1.length+2:Nat):Int) (po (kv:=d9) (a:=n) Qe rfl rfl rfl rfl rfl (KeyV.int .i64) rfl rfl rfl X λw8 Vi _ A=>?_)));have O:Mod (·=p.q) w7 w8:=vQB Vi rfl;have Y:=W.set q ω (v:=b.2.1.length+2) ω;have Z:Zc n (ZP n (.int .i64 ((b.2.1.length+2:Nat):Int)) m4)=some (.int .i64 ((b.2.1.length+2:Nat):Int)):=by rw[fc,Qf rfl]
  have vK:Mod (VS p j) w4 w8:=zm.trans O λi c=>.inl (.inl c);have R:=aP.mod (λi c=>(H i c).1) vK;refine QQ R.mbx rfl (Ny (kv:=d9) (a:=n) (v:=.int .i64 ((b.2.1.length+2:Nat):Int)) Qe rfl rfl rfl rfl rfl (KeyV.int .i64) rfl rfl A (by rw[Z];rfl) ?_);have Da:=C8.rows;have el:(b.2.1++ [(⟨y.v,a.1,b.1⟩:Br)]).length=b.2.1.length+1:=by simp
  refine⟨rfl,J,HS,⟨?_,?_,⟨_,A,Y⟩,?_⟩,sH.trans vK (VS.moved C7),?_⟩;rw[el,F6];refine(C8.mod N λi c e=>?_).mod O λi c e=>?_;have:=(Da i c).1;have:=g.lt.2;omega;have:=(Da i c).1;have:=g.lt.1;omega;rw[el];exact Q2.mod O λe=>g.ne.1 e.symm;have:=z.top;have:=vK.size;omega;exact C7.trans (C9.back D.size) sH.size
end
section
def F7 (w:θ)(r:χ Br×Int)(v:τ)(a:θ):Prop:=∃A n c,v=Q5 A n c r.2/\Ext w a/\SB a A n c r.1/\∀i,Qj A i->w.heap.size<=i
theorem bQp (h:Nat)(kv:τ)(g:Θ)(nn j:Nat)(nd:χ Br)(b:Int)(w:θ)(t:Blk w h 177 [.slice g nn j,kv])(u:SB w g nn j nd)(A:dB nd)(B:nn<=1000000000000)(C:0<=b)(D:b<nn+2)(E:∀k,g=some k->0<nn->k.block<w.heap.size):Fn ψ 104 [.pointer (some ⟨h,0,none⟩),.int .i64 b] w (F7 w (fh nd b)):=by
 have F:nd.length=nn:=u.2;have c:=t.lt;refine QK iQr [] Tryz.func104 ?_;refine new λo l c G=>?_;refine new λd x c H=>?_;refine new λc q m f=>?_;refine Qo f λw4 m n I=>?_;have r:Mod (·=d.heap.size) c w4:=vQB m rfl;refine Bl Qe d9 rfl ?_;intro c m n f;refine bQn (kv:=d9) (a:=0) Qe rfl rfl rfl rfl rfl (KeyV.int .i64) rfl rfl rfl f λy n z s=>?_;refine bQn (kv:=d9) (a:=1) Qe rfl rfl rfl rfl rfl (KeyV.int .i64) rfl rfl rfl s λw7 y f J=>?_;have f:Mod (·=w4.heap.size) c w7:=(vQB (S:=(·=w4.heap.size)) n rfl).trans (vQB (S:=(·=w4.heap.size)) y rfl) λ_=>.inl;refine new λn y s c=>?_;refine VW c (by simp[Ki]) λw9 s K=>?_;refine new λn L z c=>?_;refine VW c (by simp[Ki]) λQJ n z=>?_;have c:=s.size;have c:=n.size;have M:Ext w w4:=r.ext ((l.trans x).trans q) λi c=>ω;have l:Ext w4 w7:=f.ext m λi c=>ω;have m:Ext w7 w9:=s.ext y λi c=>ω;have f:Ext w9 QJ:=n.ext L λi c=>ω;have n:Ext w QJ:=((M.trans l).trans m).trans f;let p:VP:=⟨w7.heap.size,w4.heap.size,w.heap.size,h,w9.heap.size,d.heap.size⟩
 have L:Blk QJ w.heap.size 174 [VP.ptr h]:=(((G.ext (x.trans q)).mod r ω).ext l).ext (m.trans f);have h:Blk QJ o.heap.size 32 [.slice none 0 0,.int .i64 0]:=(((H.ext q).mod r ω).ext l).ext (m.trans f);have q:Blk QJ d.heap.size 32 [.slice none 0 0,.int .i64 0]:=(I.ext l).ext (m.trans f);have l:Blk QJ w7.heap.size 238 [.map (some w4.heap.size)]:=K.ext f;have m:MapAt d9 QJ w4.heap.size _:=((J.ext y).mod s ω).ext f;have f:VK QJ QJ.heap.size p g nn j nd:=by
  refine⟨l,L,⟨kv,t.ext n⟩,z,u.ext n,⟨?_,?_⟩,⟨?_,?_,?_,?_,?_,?_,?_,?_,?_⟩,⟨?_,?_,?_,?_⟩,λk e r=>?_⟩
  all_goals try (show(_:Nat)≠_;simp only[p];omega)
  all_goals try (show(_:Nat)<_;simp only[p];omega)
  have:=E k e r;refine⟨ω,?_,?_⟩<;>(simp only[p];omega)
 have k:VSt QJ QJ.heap.size p 0 none 0 ([],List.replicate nd.length 0):=⟨Own.nil _ _ _ _,q,⟨_,m,lQb _⟩,Qw _⟩
 refine QQ z rfl (call (bQo QJ.heap.size p 0 g nn j nd A B (b.toNat+1) b ([],List.replicate nd.length 0) none 0 QJ f k C ω D (by simp[F]) (by simp;omega)) ?_);rintro v Xk ⟨rfl,g,l,b,j,f⟩;have f:∀i,i≠w4.heap.size->i≠d.heap.size->¬VS p none i:=λi k m e=>by obtain e|e|⟨_,e,_⟩:=e;exact k e;exact m e;cases e
 have k:=h.mod j (f _ ω ω);have h:=b.own.rows;refine Xv b.obx (by simp) λm f q=>?_;have r:=k.mod f (by show¬o.heap.size=d.heap.size;omega);refine Qm q (Qo r λZe s _ t=>?_);have k:Mod (·=o.heap.size) m Ze:=vQB s rfl;refine Qm t ?_;have m:Ext w Xk:=j.ext n (λi c=>by
  obtain e|e|⟨_,e,_⟩:=c;simp only[p] at e;omega;simp only[p] at e;omega;cases e)
 have j:Ext w Ze:=k.ext (f.ext m λi c=>by have m:i=d.heap.size:=c;omega) λi c=>ω;refine⟨g,_,l,rfl,j,⟨?_,rfl⟩,λi c=>XU n.size (h i c).1⟩;have:∀i,Qj g i->QJ.heap.size<=i:=λi c=>(h i c).1;exact((b.own.mod f λi c e=>by have:=this i c;have b:i=d.heap.size:=e;omega).mod k λi c e=>by have:=this i c;omega).sl
end
section
theorem lQc {P:Program}{t:TypeId}{fs:Array Field}{ks:Γ}{a c:Array τ}{b:Bool}{w:θ}(d:P.underlying t=some (.struct fs))(f:P.stoodInHeld t=false)(g:uz P 0 fs.toList ks=true)(h:gE ks a.toList c.toList=some b)(n:Nat):(Op.equalIn (n+2) t (.agg a) (.agg c)).run P w= .ok b w:=by
 have e:P.fieldsOf t=fs:=by simp[Program.fieldsOf,d]
 rw[run_equalIn_struct w (n+1) t a c (by rw[e];exact d) f,e];exact MN fs.toList ks 0 _ _ b g h (λj=>by simp) (λj=>by simp) n w
theorem k3:iV (ψ.underlying 3)<3:=by rw[Tryz.underlying3];decide
abbrev fU:Br->Value:=λb=>.agg b.cells.toArray
theorem lQd (a b:Br)(n:Nat)(w:θ):(Op.equalIn (n+2) 105 (fU a) (fU b)).run ψ w= .ok (decide (a=b)) w:=by refine lQc (ks:=[0,0,0]) Tryz.underlying105 κ κ ?_ n;rw[show gE [0,0,0] a.cells.toArray.toList b.cells.toArray.toList=some (a.v==b.v&&(a.l==b.l&&(a.h==b.h&&true))) from rfl,pu];congr 1;exact o0.2 pv.symm
theorem lQe (b:Bool)(a:Br)(n:Nat)(w:θ):(Instr.checkKey b (n+2) 105 (fU a)).run ψ w= .ok () w:=by simp[Instr.checkKey,JB Tryz.underlying105,JB Tryz.underlying3,fU,Br.cells,fN k3 (cs:= #[Value.int IntKind.i64 a.v,Value.int IntKind.i64 a.l,Value.int IntKind.i64 a.h]) (n:=0) rfl,fN k3 (cs:= #[Value.int IntKind.i64 a.v,Value.int IntKind.i64 a.l,Value.int IntKind.i64 a.h]) (n:=1) rfl,fN k3 (cs:= #[Value.int IntKind.i64 a.v,Value.int IntKind.i64 a.l,Value.int IntKind.i64 a.h]) (n:=2) rfl]
theorem F8:KeyQ ψ 105 fU:=
 vQP Tryz.underlying105 (λa b w=>lQd a b 9998 w) (λb a w=>lQe b a 9998 w) (λa=>by simp[Br.cells,Instr.sameBits])
theorem Nz {α:Type} [DecidableEq α]{kv:α->τ}{c:Cx}{o:Oper}{S:Env}{w:θ}{K:Env->θ->Prop}{Q:ZD}{t d e:Nat}{r f:TyRow}{x y:Operand}{q:Nat}{m:χ (α×τ)}{a:α}(g:c.g.Ok)(h:o.op= .lookup t x y false)(i:Q8 c.g.tys t=some r)(j:r.d= .map d e)(l:Q8 c.g.tys e=some f)(n:KeyQ c.g.P d kv)(p:S.ev x=some (.map (some q))) (s:S.ev y=some (kv a)) (u:MapQ kv w q m) {v:τ} (z:(Zc a m).getD f.z=v)(k:XD c S o.dst (.v v) λS=>K S w):Zv c o S w K Q:=by refine Kr (w':=w) (λb d=>?_) k;have f:=d.ev p;have p:=d.ev s;have:=aQX (w:=w) (a:=a) g i j l n u false;simp only[z] at this;simp only[execOp,h,f,p];simp only[Sem.run_bind,this,Result.andThen_ok];simp
theorem SB.lt {w:θ}{A:Θ}{n c:Nat}{d:χ Br}(h:SB w A n c d):∀a,A=some a->0<n->a.block<w.heap.size:=by intro a e b;obtain⟨f,g,a⟩:=h.1.at_ b;cases e.symm.trans g;have b:=h.1.len;cases f:d.flatMap Br.cells with|nil=>rw[f] at b;simp at b;omega|cons u b=>rw[f] at a;have:=World.block_lt_of_cell? w _ (a 0 u rfl);rw[fQ] at this;exact this
end
section
theorem F9 (A:Θ)(n c:Nat)(nd:χ Br)(d:Int)(w:θ)(h:SB w A n c nd):Fn ψ 52 [Q5 A n c d] w (λv w'=>v= .int .i64 (XN nd d)/\Ext w w'):=by
 have Xr:=h.2;refine QK c52 [4] Tryz.func52 ?_;refine new λJ H Q0 Qh=>?_;refine QQ Qh rfl (Ql (λR=>?_) λR=>?_);exact⟨by rw[bQk ω],H⟩;have D:¬4096<nd.length:=by omega
 refine Bu Qe fU rfl ?_;intro w2 Qg XR XO;have Q1:=H.trans Qg;have L:=Qh.ext Qg;refine cL [] Qe [] (λ_:Unit=>[]) (λ_ w'=>Mod (·=J.heap.size) w2 w'/\∀(j:Nat) (b:Br),j<n->nd[j]? =some b->jU nd j b) ?_ ?_;refine QQ L rfl (loop Qe [15] (λs:Nat=>[.int .i64 s]) (λs w'=>Mod (·=J.heap.size) w2 w'/\s<=n/\(∀(j:Nat) (b:Br),j<s->nd[j]? =some b->jU nd j b)/\∃m,MapQ fU w' J.heap.size m/\∀b,(Zc b m).getD (.bool false)= .bool (decide (b∈nd.take s))) (λs _=>n-s) 0 rfl ⟨Mod.refl _ _,Q9 _,λj b q=>Xg q ω,[],XO,λb=>by simp[Zc]⟩ ?_);rintro s w3 ⟨u,hs,k,m,XL,Z⟩;have z:Ext w w3:=u.ext Q1 (λi hi=>by have:=H.size;omega);have t:=L.mod u ω;refine Ql (λS=>?_) λS=>?_;refine XG aD (h.ext z) rfl ω λp x B hc=>?_;refine Jm (vs:=x.cells) rfl hc (new λw4 I Ku G=>?_);refine Qo G λw5 Zx KA o=>?_;have E:Ext w3 w5:=X1 I G Zx;have l:=z.trans E;have Y:=XL.ext E;have QC:=t.ext E;have f:¬jU nd s x->∀w',Ext w w'->(Value.int .i64 20= .int .i64 (XN nd d))/\Ext w w':=λXo w' hE=>⟨by rw[BK D λy=>Xo (y.1 s x B)],hE⟩
 refine QQ o rfl (Ql (λN=>?_) λN=>?_);exact f (λe=>by have:=e.1;omega) _ l;refine QQ o rfl (Ql (λO=>?_) λO=>?_);exact f (λe=>by have:=e.2.1;omega) _ l;refine Qp o rfl (Ql (λC=>?_) λC=>?_);exact f (λe=>by have:=e.2.2.1;omega) _ l;refine Qp o rfl (Ql (λc4=>?_) λc4=>?_);exact f (λe=>by have:=e.2.2.2.2.1;omega) _ l;refine Qp o rfl (Qz ((s:Int)+1) ?_ (hm:=rfl));refine Ql (λc5=>?_) λc5=>?_;exact f (λe=>by have:=e.2.2.2.1;omega) _ l;refine Qp o rfl (Qz ((s:Int)+1) ?_ (hm:=rfl));refine Ql (λc6=>?_) λc6=>?_;exact f (λe=>by have:=e.2.2.2.2.2.1;omega) _ l;refine Qp o rfl (Qp o rfl (X0 (λP=>?_) λP=>?_));exact f (λe=>e.2.2.2.2.2.2.1 P) _ l;refine Qm o (Nz (kv:=fU) (a:=x) Qe rfl rfl rfl rfl F8 rfl rfl Y (Z x) (Ql (λQ=>?_) λQ=>?_));exact f (λe=>e.2.2.2.2.2.2.2.1 Q) _ l;refine Xw (Ext w5) 16 ((true,0)::(true,1)::(true,2)::(true,4)::(true,5)::(false,3)::(oz 5 6 [(true,12),(true,13),(false,11),(true,14),(true,15)])) (Ext.drew w5) ?_;have qB:∀w',Ext w5 w'->∀(j:Nat) (v:τ),[Value.slice A n c,.int .i64 d][j]? =some v->w'.cell? ((⟨w.heap.size,0,none⟩:Addr).add j)=some v:=λw' g j v q=>by rw[(QC.ext g).cell];exact q
 have V:∀w',Ext w5 w'->∀(j:Nat) (v:τ),x.cells[j]? =some v->w'.cell? ((⟨w3.heap.size,0,none⟩:Addr).add j)=some v:=λw' g j v q=>by rw[(o.ext g).cell];exact q
 have W:∀w',Ext w5 w'->w'.cell? (⟨w3.heap.size,0,none⟩:Addr)=some (.int .i64 x.v):=λw' g=>by have:=V w' g 0 _ rfl;simpa [Addr.add] using this
 refine Xe (vs:=[.slice A n c,.int .i64 d]) rfl (λw' g j v q=>by have:=qB w' g j v q;simpa [Addr.add] using this) (Qx (v:=.int .i64 x.l) (λw' g=>V w' g 1 _ rfl) (Qx (v:=.int .i64 x.v) (λw' g=>W w' g) (call (kZ A n c d x.l nd _ (h.ext (l.trans (Ext.drew w5))) ω) ?_)));rintro v w6 ⟨rfl,K⟩;have F:=(Ext.drew w5).trans K;refine⟨F,?_⟩;refine Ql (λc9=>?_) λc9=>?_;exact f (λe=>by have:=e.2.2.2.2.2.2.2.2.1;omega) _ (l.trans F);refine Xe (vs:=[.slice A n c,.int .i64 d]) rfl (λw' g j v q=>by have:=qB w' g j v q;simpa [Addr.add] using this) (Qx (v:=.int .i64 x.h) (λw' g=>V w' g 2 _ rfl) (Qx (v:=.int .i64 x.v) (λw' g=>W w' g) (call (kZ A n c d x.h nd _ (h.ext (l.trans F)) ω) ?_)));rintro v w7 ⟨rfl,Xq⟩;have r:=F.trans Xq;refine⟨r,?_⟩;refine Ql (λDd=>?_) λDd=>?_;exact f (λe=>by have:=e.2.2.2.2.2.2.2.2.2;omega) _ (l.trans r);have Zb:jU nd s x:=⟨ω,ω,ω,ω,ω,ω,P,Q,ω,ω⟩
 refine Qm (o.ext r) (Bv (kv:=fU) (a:=x) Qe rfl rfl rfl rfl F8 rfl rfl rfl (Y.ext r) λw8 ZB Wj J0=>?_);refine Qz ((s+1:Nat):Int) ?_;refine⟨s+1,rfl,⟨(u.trans (Mod.of_ext (·=J.heap.size) (E.trans r)) λ_=>.inl).trans ZB λ_=>.inl,ω,λj b q e=>?_,_,J0,λb=>?_⟩,QL⟩;by_cases Vw:j<s;exact k j b Vw e;have:j=s:=by omega
 subst this;rw[Option.some.inj (e.symm.trans B)];exact Zb;rw[fc,JT,B];by_cases U:b=x;subst U;simp;rw[φ U,Z b];simp[U];have:s=n:=by omega
 subst this;exact⟨(),rfl,u,k⟩;rintro⟨⟩ w3 ⟨u,k⟩;have z:Ext w w3:=u.ext Q1 (λi hi=>by have:=H.size;omega);have t:=L.mod u ω;refine Qp t rfl (Ql (λN=>?_) λN=>?_);exact⟨by rw[BK D λy=>by have:=y.2.1;omega],z⟩;refine Qp t rfl (QQ t rfl (Qz ((n:Int)+1) ?_ (hm:=rfl)));refine Ql (λO=>?_) λO=>?_;exact⟨by rw[BK D λy=>by have:=y.2.2.1;omega],z⟩;have cz:dB nd:=λj x B=>by obtain⟨_,_,R,S,h3,h4,_⟩:=k j x (by have:=(ZK.1 B).1;omega) B;exact⟨R,S,h3,h4⟩
 refine QQ t rfl (new λw4 I Ku G=>?_);have M:=z.trans I;have ki:=t.ext I;refine Qp ki rfl (call (bQp w3.heap.size (.map none) A n c nd d w4 G (h.ext M) cz ω ω ω (SB.lt (h.ext M))) ?_);rintro v w5 ⟨OA,m,oc,rfl,l,nV,_⟩;refine new λw6 K eC Xi=>?_;refine Qo Xi λw7 Zn aa T=>?_;have r:Ext w5 w7:=X1 K Xi Zn;have X:=(M.trans l).trans r;refine Qm T (Qm ((ki.ext l).ext r) (call (kQ9 OA A m oc n c _ nd _ d w7 (nV.ext r) (h.ext X)) ?_));rintro v w8 ⟨rfl,QY⟩;have Wl:=X.trans QY;refine bj (Ql (λC=>?_) λC=>?_);exact⟨by rw[F5 D ⟨λj b e=>k j b (by have:=(ZK.1 e).1;omega) e,ω,ω,C⟩],Wl⟩;exact⟨by rw[BK D λy=>C y.2.2.2],Wl⟩
end
section
theorem Blk.cell0 {w:θ}{g t:Nat}{a:χ τ}(h:Blk w g t a):w.cell? ⟨g,0,none⟩=a[0]? :=by have:=h.cell 0;simpa [Addr.add] using this
theorem BL (A:Θ)(n c:Nat)(r m:Int)(a:χ Br)(w:θ)(h:SB w A n c a)(d:m<n+2):Fn ψ 161 [Q5 A n c r,.int .i64 m] w (λv b=>v= .int .i64 (QB a m)/\Ext w b):=by have a:=h.2;refine QK jQe [] Tryz.func161 ?_;refine new λb a e d=>?_;refine Ql (λb=>?_) λb=>?_;exact⟨by unfold QB;rw[Qf b],a⟩;refine QQ d rfl ?_;refine Ky (((m-2).toNat:Nat):Int) ω (by have:=h.1.le;have:=h.1.cap;simp only[maxLen] at this;omega) ?_;refine XG aD (h.ext a) rfl ω λp x d e=>?_;refine load (e 0 _ rfl) ?_;exact⟨by unfold QB;rw[φ b,d];rfl,a⟩
theorem lQf (A B:Θ)(n c m e:Nat)(l C:χ Br)(r L:Int)(w:θ)(h:SB w A n c l)(H:SB w B m e C):Fn ψ 213 [Q5 A n c r,Q5 B m e L] w (λv f=>v= .bool (decide ((l,r)=(C,L)))/\Ext w f):=by
 have V:=h.2;have kA:=H.2;have Y:n<=9223372036854775807:=by have:=h.1.le;have:=h.1.cap;simp only[maxLen] at this;omega
 refine QK jQW [] Tryz.func213 ?_;refine new λw1 O W P=>?_;refine new λM E X u=>?_;have o:=P.ext E;have g:=O.trans E;refine Qp o rfl (Qp u rfl (Ya (λz=>?_) λz=>?_));exact⟨by rw[XZ λe=>z (by cases e;rfl)],g⟩;refine QQ o rfl (QQ u rfl (Ya (λI=>?_) λI=>?_));exact⟨by rw[XZ λe=>I (by cases e;omega)],g⟩;refine loop Qe [5] (λs:Nat=>[.int .i64 s]) (λs f=>Ext M f/\s<=n/\∀j,j<s->l[j]? =C[j]?) (λs _=>n-s) 0 rfl ⟨Ext.refl M,Q9 _,λj d=>Xg d ω⟩ ?_;rintro s D ⟨i,Z,a⟩;have F:=o.ext i;have Q:=u.ext i;have t:=g.trans i;refine QQ F rfl (Ql (λT=>?_) λT=>?_);refine Xw (Ext D) 11 (oz 11 0 []) (Ext.drew D) (Qx (v:=.slice A n c) (λf b=>by rw[(F.ext b).cell];rfl) (XG aD (h.ext t) rfl ω λp x J U=>?_));refine Xe (vs:=x.cells) rfl (λf b j v d=>b.cell (U j v d)) (Qx (v:=.slice B m e) (λf b=>by rw[(Q.ext b).cell];rfl) (XG aD (H.ext t) rfl ω λq y K N=>?_));refine Xe (vs:=y.cells) rfl (λf b j v d=>b.cell (N j v d)) ?_;have G:=i.trans (Ext.drew D);by_cases k:x=y;refine QX (by rw[pu,Zg (pv.1 k)];rfl) (Qz ((s+1:Nat):Int) ?_);refine⟨s+1,rfl,⟨G,ω,λj d=>?_⟩,QL⟩;by_cases R:j<s;exact a j R;have:j=s:=by omega
 subst this;rw[J,K,k];refine Q3 (by rw[pu,XZ λe=>k (pv.2 e)];rfl) ?_;refine⟨?_,g.trans G⟩;rw[XZ λe=>bQl J K k (by cases e;rfl)];refine⟨?_,t⟩;have S:=bQm V ω λj d=>a j ω;rw[Zg (by rw[S,z])]
theorem lQg (A:Θ)(n c:Nat)(r:Int)(s:Nat)(m:χ Br)(x:Br)(w:θ)(h:SB w A n c m)(R:m[s]? =some x)(bL:n<=1000000000000):Fn ψ 212 [Q5 A n c r,.int .i64 s] w (λv w'=>∃b,v= .bool b/\(b=true↔jU m s x)/\Ext w w'):=by
 have Xr:=h.2;have hs:s<m.length:=(ZK.1 R).1;refine QK jQV [] Tryz.func212 ?_;refine new λG M Q0 N=>?_;refine QQ N rfl (XG aD (h.ext M) rfl ω λp y hy F=>?_);have xb:y=x:=Option.some.inj (hy.symm.trans R);subst xb;refine Jm (vs:=y.cells) rfl F (new λw4 Y Ku L=>?_);refine Qo L λw5 Zx KA k=>?_;have Q:Ext G w5:=X1 Y L Zx;have g:=M.trans Q;have K:=N.ext Q;have d:¬jU m s y->∀w',Ext w w'->∃b,(Value.bool false:τ)= .bool b/\(b=true↔jU m s y)/\Ext w w':=λC w' hE=>⟨false,rfl,by simp[C],hE⟩
 refine QQ k rfl (Ql (λc1=>?_) λc1=>?_);exact d (λf=>by have:=f.1;omega) _ g;refine QQ k rfl (Ql (λc2=>?_) λc2=>?_);exact d (λf=>by have:=f.2.1;omega) _ g;refine Qp k rfl (Ql (λc3=>?_) λc3=>?_);exact d (λf=>by have:=f.2.2.1;omega) _ g;refine Qp k rfl (Ql (λc4=>?_) λc4=>?_);exact d (λf=>by have:=f.2.2.2.2.1;omega) _ g;refine Qp k rfl (Qz ((s:Int)+2) ?_ (hm:=rfl));refine Ql (λc5=>?_) λc5=>?_;exact d (λf=>by have:=f.2.2.2.1;omega) _ g;refine Qp k rfl (Qz ((s:Int)+2) ?_ (hm:=rfl));refine Ql (λc6=>?_) λc6=>?_;exact d (λf=>by have:=f.2.2.2.2.2.1;omega) _ g;refine Qp k rfl (Qp k rfl (X0 (λD=>?_) λD=>?_));exact d (λf=>f.2.2.2.2.2.2.1 D) _ g;have T:∀w',Ext w5 w'->∀(j:Nat) (v:τ),[Value.slice A n c,.int .i64 r][j]? =some v->w'.cell? ((⟨w.heap.size,0,none⟩:Addr).add j)=some v:=λw' a j v l=>by rw[(K.ext a).cell];exact l
 have U:∀w',Ext w5 w'->∀(j:Nat) (v:τ),y.cells[j]? =some v->w'.cell? ((⟨G.heap.size,0,none⟩:Addr).add j)=some v:=λw' a j v l=>by rw[(k.ext a).cell];exact l
 have I:∀w',Ext w5 w'->w'.cell? (⟨G.heap.size,0,none⟩:Addr)=some (.int .i64 y.v):=λw' a=>by rw[(k.ext a).cell0]<;>rfl
 refine Xw (Ext w5) 16 ((true,0)::(true,1)::(true,2)::(true,4)::(true,5)::(false,3)::(oz 5 6 [(true,12),(true,13),(false,11),(true,14),(true,15)])) (Ext.drew w5) (Xe (vs:=[.slice A n c,.int .i64 r]) rfl (λw' a j v l=>by have:=T w' a j v l;simpa [Addr.add] using this) (Qx (v:=.int .i64 y.l) (λw' a=>U w' a 1 _ rfl) (Qx (v:=.int .i64 y.v) (λw' a=>I w' a) (call (BL A n c r y.l m _ (h.ext (g.trans (Ext.drew w5))) ω) ?_))));rintro v w6 ⟨rfl,X⟩;have q:=(Ext.drew w5).trans X;refine⟨q,?_⟩;refine Ql (λc9=>?_) λc9=>?_;exact d (λf=>by have:=f.2.2.2.2.2.2.2.2.1;omega) _ (g.trans q);refine Xe (vs:=[.slice A n c,.int .i64 r]) rfl (λw' a j v l=>by have:=T w' a j v l;simpa [Addr.add] using this) (Qx (v:=.int .i64 y.h) (λw' a=>U w' a 2 _ rfl) (Qx (v:=.int .i64 y.v) (λw' a=>I w' a) (call (BL A n c r y.h m _ (h.ext (g.trans q)) ω) ?_)));rintro v V ⟨rfl,Xq⟩;have o:=q.trans Xq;refine⟨o,?_⟩;refine Ql (λW=>?_) λW=>?_;exact d (λf=>by have:=f.2.2.2.2.2.2.2.2.2;omega) _ (g.trans o);have J:=g.trans o;refine loop Qe [6] (λt:Nat=>[.int .i64 t]) (λt w'=>Ext V w'/\t<=s/\y∉m.take t) (λt _=>s-t) 0 rfl ⟨Ext.refl V,Q9 _,by simp⟩ ?_;rintro t H ⟨B,ht,C⟩;have Z:=(K.ext o).ext B;have E:=(k.ext o).ext B;have O:=J.trans B;refine Ql (λh8=>?_) λh8=>?_;refine Xw (Ext H) 7 (oz 7 0 []) (Ext.drew H) (Qx (v:=.slice A n c) (λw' a=>by rw[(Z.ext a).cell];rfl) (XG aD (h.ext O) rfl ω λp z S F=>?_));refine Xe (vs:=z.cells) rfl (λw' a j v l=>a.cell (F j v l)) (Xe (vs:=y.cells) rfl (λw' a j v l=>by have:=(E.ext a).cell j;simp[Addr.add] at this;rw[<-l];simpa [Addr.add] using this) ?_);have P:=B.trans (Ext.drew H);by_cases u:z=y;refine Q3 (by rw[pu,Zg (pv.1 u)]) (d (λf=>f.2.2.2.2.2.2.2.1 ?_) _ (J.trans P));subst u;exact Xd (i:=t) (by rw[mT ω];exact S);refine QX (by rw[pu,XZ λe=>u (pv.2 e)]) (Qz ((t+1:Nat):Int) ?_);refine⟨t+1,rfl,⟨P,ω,?_⟩,QL⟩;rw[JT,S];simp only[rz,X2,Xx,not_or];exact⟨C,λe=>u e.symm⟩;have:t=s:=by omega
 subst this;exact⟨true,rfl,by simp only[true_iff];exact⟨ω,ω,ω,ω,ω,ω,D,C,ω,ω⟩,O⟩
end
section
def gO (l:Γ):χ τ:=l.map λ(x:Nat)=>.int .i64 (x:Int)
theorem yr {l:Γ}{j x:Nat}(h:l[j]? =some x):(gO l)[j]? =some (.int .i64 (x:Int)):=by simp[gO,h]
theorem Ga (l:Γ):(gO l).length=l.length:=by simp[gO]
theorem Gb (l:Γ)(i x:Nat):gO (l.set i x)=(gO l).set i (.int .i64 (x:Int)):=by simp[gO,List.map_set]
def WS (x a:Nat)(A:Θ):Nat->Prop:=λk=>k=x∨k=a∨Qj A k
theorem WS.moved {w:θ}{x a:Nat}{A b:Θ}(h:Moved w A b):∀k,WS x a b k->WS x a A k∨w.heap.size<=k:=by rintro k (rfl|rfl|a);exact .inl (.inl rfl);exact .inl (.inr (.inl rfl));obtain h|h:=h.rows k a;exact .inl (.inr (.inr h));exact .inr h
structure Wk (w:World) (base x pg:Nat) (NA:Θ) (nn nc:Nat) (nd:List Br) (OA:Θ) (oc:Nat) (st:List Br×Γ):Prop where
 blk:Blk w x 249 [.slice NA nn nc,.slice (some ⟨pg,0,none⟩) nn nn,.slice OA st.1.length oc]
 num:Blk w pg 3 (gO st.2)
 own:Own w base 105 3 OA st.1.length oc (pz st.1)
 lt:x<base/\pg<base/\x≠pg
 top:base<=w.heap.size
 nds:SB w NA nn nc nd
 row:∀ad,NA=some ad->0<nn->ad.block<base/\ad.block≠x/\ad.block≠pg
 len:st.2.length=nn
theorem Wk.ext {w b:θ}{a x c:Nat}{d:Θ}{e f:Nat}{g:χ Br}{i:Θ}{j:Nat}{st:χ Br×Γ}(h:Wk w a x c d e f g i j st)(k:Ext w b):Wk b a x c d e f g i j st:=
 ⟨h.blk.ext k,h.num.ext k,h.own.ext k,h.lt,XU h.top k.size,h.nds.ext k,h.row,h.len⟩
theorem Wk.keep {w b:θ}{a x c:Nat}{d:Θ}{e f:Nat}{nd:χ Br}{g:Θ}{j:Nat}{k:χ Br×Γ}(h:Wk w a x c d e f nd g j k)(l:Mod (WS x c g) w b):SB b d e f nd:=by refine⟨h.nds.1.modS l ?_,h.nds.2⟩;rintro b i ⟨c,rfl,rfl⟩ a;obtain⟨f,d,e⟩:=h.row c rfl b;obtain a|a|a:=a;exact d a;exact e a;have:=(h.own.rows _ a).1;omega
def WTo (w:θ)(a x d:Nat)(g:Θ)(h i:Nat)(j:χ Br)(e:Θ)(k:χ Br×Γ)(f:θ):Prop:=∃b c,Wk f a x d g h i j b c k/\Mod (WS x d e) w f/\Moved w e b
theorem bQq (g x pg:Nat)(I:Θ)(nn Q:Nat)(j:χ Br)(D:dB j)(gy:nn<=1000000000000):∀(m:Nat)(n:Int)(f:χ Br×Γ)(k:Θ)(q:Nat)(w:θ),Wk w g x pg I nn Q j k q f->0<=n->n<m->n<nn+2->f.1.length+f.2.count 0<=1000000000000->Fn ψ 164 [.pointer (some ⟨x,0,none⟩),.int .i64 n] w λv B=>v= .int .i64 (ZM j m n f).1/\WTo w g x pg I nn Q j k (ZM j m n f).2 B
 |0,n,f,k,q,w,_,h0,hm,_,_=>by omega
 |m+1,n,f,k,q,w,d,h0,hm,hn,hc=>by
  have ih:=bQq g x pg I nn Q j D gy m;have JP:j.length=nn:=d.nds.2;have hl:=d.len;have VQ:=d.own.rows;have vQj:=d.blk.lt;have vQk:=d.num.lt;obtain⟨lx,lp,A⟩:=d.lt;refine QK jQh [] Tryz.func164 ?_;by_cases z:n<2;refine Zm z ?_;rw[pw z];exact⟨rfl,k,q,d,Mod.refl _ _,Moved.refl _ _⟩;refine XB z ?_;have hj:(n-2).toNat<nn:=by omega
  have P:f.2[(n-2).toNat]? =some f.2[(n-2).toNat]:=Q6 ω;refine Qp d.blk rfl (Qz (((n-2).toNat:Nat):Int) (index ω (Qp d.num (yr P) ?_)));have hd:f.2[(n-2).toNat]?.getD 0=f.2[(n-2).toNat]:=by rw[P]<;>rfl
  by_cases F:0<f.2[(n-2).toNat]?.getD 0;rw[px z F];rw[hd] at F ⊢;refine Zm ω (Qp d.blk rfl (Qz (((n-2).toNat:Nat):Int) (index ω (Qp d.num (yr P) ?_))));exact⟨rfl,k,q,d,Mod.refl _ _,Moved.refl _ _⟩;refine XB (by rw[hd] at F;omega) ?_;have G:=Q6 (show(n-2).toNat<j.length by omega);generalize j[(n-2).toNat]=b at G;obtain⟨x1,x2,x3,x4⟩:=D _ _ G;rw[rS z F G];refine QQ d.blk rfl (Qz (((n-2).toNat:Nat):Int) (XG aD d.nds rfl ω λad y hy Yz=>?_));have xb:y=b:=Option.some.inj (hy.symm.trans G);subst xb;refine Jm (vs:=y.cells) rfl Yz (new λw1 Qd Q0 Qh=>?_);refine Qo Qh λw2 WQ XR nT=>?_;have K:Ext w w2:=X1 Qd Qh WQ;have HP:Mod (WS x pg k) w w2:=Mod.of_ext _ K;have xd:¬WS x pg k w.heap.size:=λe=>by obtain e|e|e:=e;omega;omega;have:=(VQ _ e).2;omega
  refine Qp nT rfl ?_;have f1:=py D m y.l f x1 ω ω ω;refine call (ih y.l f k q w2 (d.ext K) x1 ω ω hc) ?_;rintro v w3 ⟨rfl,s,P6,jm,C,T⟩;have Y4:=nT.mod C xd;have Z:¬WS x pg s w.heap.size:=λe=>(WS.moved T _ e).elim xd λh=>ω;refine Qp Y4 rfl ?_;have f2:=py D m y.h _ x3 ω ω f1.len;have c1:=f1.cnt;have c2:=f2.cnt;refine call (ih y.h _ s P6 w3 jm x3 ω ω ω) ?_;rintro v w4 ⟨rfl,c,R,o,ZQ,vI⟩;have aN:=Y4.mod ZQ Z;have S:¬WS x pg c w.heap.size:=λe=>(WS.moved vI _ e).elim Z (λh=>by have:=C.size;omega)
  have qe:=C.trans ZQ (WS.moved T);have P7:=T.trans vI C.size;have sH:Mod (WS x pg k) w w4:=HP.trans qe λ_=>.inl;have V:=P7.back K.size;generalize (ZM j m y.l f)=a at*;generalize (ZM j m y.h a.2)=b at*;have vJ:=o.own.rows;have gu:¬Qj c x:=λe=>by have:=(vJ _ e).1;omega
  have O:¬Qj c pg:=λe=>by have:=(vJ _ e).1;omega
  refine Xw (Mod (Qj c) w4) 12 (oz 10 0 [(false,10),(false,11)]) (Mod.of_ext _ (Ext.drew w4)) (Qx (v:=.slice c b.2.1.length R) (λB p=>by rw[(o.blk.mod p gu).cell];rfl) (Qx (v:=.int .i64 y.v) (λB p=>by rw[(aN.mod p λe=>S (.inr (.inr e))).cell];rfl) ?_));refine XM (⟨y.v,a.1,b.1⟩:Br).cells ?_;intro w5 QH KA QC;have E:=(Ext.drew w4).trans QH;have nW:=o.ext E;refine⟨Mod.of_ext _ E,?_⟩;have jo:Sl w5 3 (some ⟨w4.drew.heap.size,0,none⟩) 1 1 (⟨y.v,a.1,b.1⟩:Br).cells:=Sl.own (sz:=3) (n:=1) QC (Qw _) δ (by simp[Br.cells]);refine XV nW.own jo (by intro u hu;simp[Br.cells] at hu;obtain rfl|rfl|rfl:=hu <;>rfl) (by unfold maxLen;omega) nW.top ?_ (b:=(by show _*24<=_;omega));intro t HS w6 Kf W C9;have H:Mod (Qj c) w4 w6:=(Mod.of_ext (Qj c) E).trans Kf λ_=>.inl;refine⟨H,?_⟩;refine Xv (o.blk.mod H gu) (by simp) λr L J=>?_;have N:=(o.num.mod H O).mod L λe=>A e.symm;have Xr:b.2.2.length=nn:=o.len;refine Xw (Ext r) 13 (oz 13 0 []) (Ext.drew r) (Qx (v:=.slice (some ⟨pg,0,none⟩) nn nn) (λB p=>by rw[(J.ext p).cell];rfl) (Qz (((n-2).toNat:Nat):Int) (Qx (v:=.slice t (b.2.1.length+1) HS) (λB p=>by rw[(J.ext p).cell];rfl) (Qz ((b.2.1.length+2:Nat):Int) (index ω (Xv (N.ext (Ext.drew r)) (by rw[Ga];omega) λw8 M XP=>?_))))));rw[<-Gb] at XP;have Y:=(J.ext (Ext.drew r)).mod M A;refine Qp Y rfl (Qz ((b.2.1.length+2:Nat):Int) ?_);have U:Mod (WS x pg c) w4 w8:=(((H.mono λi l=>.inl (.inr (.inr l))).trans L λi l=>.inl (.inl l)).trans (Mod.of_ext (WS x pg c) (Ext.drew r)) λ_=>.inl).trans M λi l=>.inl (.inr (.inl l));have X:=W.rows;have el:(b.2.1++ [(⟨y.v,a.1,b.1⟩:Br)]).length=b.2.1.length+1:=by simp
  refine⟨rfl,t,HS,⟨?_,?_,?_,d.lt,?_,o.keep U,d.row,?_⟩,sH.trans U (WS.moved V),?_⟩;rw[el];exact Y;exact XP;rw[el,F6];refine((W.mod L λi l e=>?_).ext (Ext.drew r)).mod M λi l e=>?_;have:=(X i l).1;omega;have:=(X i l).1;omega;have:=o.top;have:=U.size;omega;rw[jL];exact Xr;exact V.trans (C9.back E.size) sH.size
theorem bQr (c:Θ)(nn d:Nat)(b:χ Br)(a:Int)(w:θ)(g:SB w c nn d b)(o:dB b)(p:nn<=1000000000000)(q:0<=a)(r:a<nn+2):Fn ψ 108 [.slice c nn d,.int .i64 a] w (F7 w (fh b a)):=by
 have k:b.length=nn:=g.2;have s:=SB.lt g;refine QK iQu [] Tryz.func108 ?_;refine new λl t f u=>?_;refine yg Qe rfl rfl rfl rfl rfl rfl rfl rfl (by show 8*nn<=_;omega) (by unfold maxLen;omega) λm n f x=>?_;refine new λf h j y=>?_;have j:=(t.trans n).trans h;have t:Wk f f.heap.size m.heap.size l.heap.size c nn d b none 0 ([],List.replicate b.length 0):=by refine⟨y,?_,Own.nil _ _ _ _,⟨ω,ω,ω⟩,Qw _,g.ext j,λz e A=>?_,by simp[k]⟩;have:=x.ext h;rw[k];simpa [gO] using this;have:=s z e A;exact⟨ω,ω,ω⟩
 refine call (bQq f.heap.size m.heap.size l.heap.size c nn d b o p (a.toNat+1) a _ none 0 f t q ω r (by simp;omega)) ?_;rintro v w4 ⟨rfl,f,g,b,c,a⟩;refine Qp b.blk rfl ?_;have a:=((u.ext n).ext h).mod c (λe=>by
  obtain e|e|⟨_,e,_⟩:=e;omega;omega;cases e)
 refine Qo a λw5 h _ k=>?_;have d:Mod (·=w.heap.size) w4 w5:=vQB h rfl;refine Qm k ?_;have h:Ext w w4:=c.ext j (λi a=>by
  obtain e|e|⟨_,e,_⟩:=a;omega;omega;cases e)
 exact⟨f,_,g,rfl,d.ext h λi a=>ω,⟨(b.own.mod d λi a e=>by have:=(b.own.rows i a).1;omega).sl,rfl⟩,λi a=>XU j.size (b.own.rows i a).1⟩
theorem lQh (A:Θ)(n c:Nat)(nd:χ Br)(a:Int)(w:θ)(h:SB w A n c nd)(F:n<=1000000000000):Fn ψ 175 [Q5 A n c a] w (λv w'=>∃b,v= .bool b/\(b=true↔VD nd a)/\Ext w w'):=by
 have Z:=h.2;refine QK jQr [] Tryz.func175 ?_;refine new λW B Y t=>?_;have f:¬VD nd a->∀w',Ext w w'->∃b,(Value.bool false:τ)= .bool b/\(b=true↔VD nd a)/\Ext w w':=λL w' U=>⟨false,rfl,by simp[L],U⟩
 refine Qp t rfl (Ql (λO=>?_) λO=>?_);exact f (λg=>by have:=g.2.1;omega) _ B;refine Qp t rfl (QQ t rfl (Qz ((n:Int)+2) ?_ (hm:=rfl)));refine Ql (λP=>?_) λP=>?_;exact f (λg=>by have:=g.2.2.1;omega) _ B;refine loop Qe [3] (λs:Nat=>[.int .i64 s]) (λs w'=>Ext W w'/\s<=n/\∀(j:Nat) (b:Br),j<s->nd[j]? =some b->jU nd j b) (λs _=>n-s) 0 rfl ⟨Ext.refl _,Q9 _,λj b z=>Xg z ω⟩ ?_;rintro s q ⟨C,hs,d⟩;have o:=t.ext C;have k:=B.trans C;refine QQ o rfl (Ql (λD=>?_) λD=>?_);have i:nd[s]? =some nd[s]:=Q6 ω;generalize nd[s]=x at i;refine Qm o (call (lQg A n c a s nd x q (h.ext k) i F) ?_);rintro v H ⟨b,rfl,p,u⟩;refine bj (Z0 (λN=>?_) λX=>?_);refine Qz ((s+1:Nat):Int) ?_;refine⟨s+1,rfl,⟨C.trans u,ω,λj y z G=>?_⟩,QL⟩;by_cases J:j<s;exact d j y J G;have:j=s:=by omega
 subst this;rw[Option.some.inj (G.symm.trans i)];exact p.1 N;exact f (λg=>by have:=p.2 (g.1 s x i);rw[X] at this;cases this) _ (k.trans u);have:s=n:=by omega
 subst this;have Q:dB nd:=λj x i=>by obtain⟨_,_,R,S,D,T,_⟩:=d j x (by have:=(ZK.1 i).1;omega) i;exact⟨R,S,D,T⟩
 refine Xw (Ext q) 7 (oz 5 0 [(false,5),(false,6)]) (Ext.drew q) (Xe (vs:=[.slice A s c,.int .i64 a]) rfl (λw' l j v z=>by rw[(o.ext l).cell];exact z) (Qx (v:=.slice A s c) (λw' l=>by rw[(o.ext l).cell];rfl) (Qx (v:=.int .i64 a) (λw' l=>by rw[(o.ext l).cell];rfl) ?_)));have M:=k.trans (Ext.drew q);refine call (bQr A s c nd a _ (h.ext M) Q F ω ω) ?_;rintro v H ⟨I,m,V,rfl,u,K,_⟩;have r:=(Ext.drew q).trans u;refine⟨r,?_⟩;refine call (lQf A I s c m V nd _ a _ H (h.ext (k.trans r)) K) ?_;rintro v w4 ⟨rfl,E⟩;refine⟨r.trans E,?_⟩;refine⟨_,rfl,?_,(k.trans r).trans E⟩;rw[YX];exact⟨λe=>⟨λj b p=>d j b (by have:=(ZK.1 p).1;omega) p,ω,ω,e.symm⟩,λg=>g.2.2.2.symm⟩
theorem NB (A:Θ)(n c:Nat)(d:χ Br)(a:Int)(w:θ)(h:SB w A n c d):Fn ψ 120 [Q5 A n c a] w (λv e=>v= .int .i64 (XN d a)/\Ext w e):=by
 have e:=h.2;refine QK iQF [] Tryz.func120 ?_;refine new λi e g f=>?_;refine QQ f rfl (Ql (λg=>?_) λg=>?_);exact⟨by rw[bQk ω],e⟩;have g:¬4096<d.length:=by omega
 refine Qm f (call (lQh A n c d a i (h.ext e) ω) ?_);rintro v f ⟨b,rfl,a,d⟩;refine bj (Z0 (λf=>?_) λi=>?_);exact⟨by rw[F5 g (a.1 f)],e.trans d⟩;exact⟨by rw[BK g λf=>by have:=a.2 f;rw[i] at this;cases this],e.trans d⟩
end
section
def VX (b:Br):χ Br->Option Nat|[]=>none|x::l=>if x=b then some 0 else(VX b l).map (·+1)
theorem bQs {b:Br}:∀{l:χ Br}{s:Nat},(∀j,j<s->l[j]? ≠some b)->l[s]? =some b->VX b l=some s|[],s,_,h=>by simp at h|x::l,0,_,h=>by simp at h;simp[VX,h]|x::l,s+1,hn,h=>by have a:x≠b:=λe=>hn 0 ω (by simp[e]);have:=bQs (l:=l) (s:=s) (λj c=>by have:=hn (j+1) ω;simpa using this) (by simpa using h);simp[VX,a,this]
theorem bQt {b:Br}:∀{l:χ Br},(∀j,j<l.length->l[j]? ≠some b)->VX b l=none|[],_=>rfl|x::l,hn=>by have a:x≠b:=λe=>hn 0 (by simp) (by simp[e]);have:=bQt (l:=l) (λj c=>by have:=hn (j+1) (by simpa using c);simpa using this);simp[VX,a,this]
def Kc (b:Br)(l:χ Br):χ Br×Int:=if b.l=b.h then(l,b.l)else match VX b l with|some i=>(l,((i+2:Nat):Int))|none=>(l++ [b],((l.length+2:Nat):Int))
theorem Gc (b:Br)(l:χ Br):l.length<=(Kc b l).1.length:=by unfold Kc;split;exact Qw _;split;exact Qw _;simp
def gP (a x y:Int):Int:=if a=0 then x*y else if a=1 then max x y else if a=3 then 1-x else if a=4 then(1-x)*y else(x+y) % 2
def Qv (d:χ Br)(n v:Int):Int×Int:=if QB d n≠v then(n,n)else match d[(n-2).toNat]? with|some b=>(b.l,b.h)|none=>(n,n)
abbrev Tr3:=Int×Int×Int
def Zh (a b:χ Br)(d:Int):Nat->Int->Int->χ Br×χ Tr3->Int×(χ Br×χ Tr3)
 |0,_,_,c=>(0,c)
 |m+1,x,y,c=>if x<2/\y<2 then(gP d x y,c)else
   match c.2.find? (λt=>decide (t.1=x/\t.2.1=y))with
   |some t=>(t.2.2,c)
   |none=>
    let v:=min (QB a x) (QB b y)
    let e:=Zh a b d m (Qv a x v).1 (Qv b y v).1 c
    let c:=Zh a b d m (Qv a x v).2 (Qv b y v).2 e.2
    let u:=Kc ⟨v,e.1,c.1⟩ c.2.1
    (u.2,(u.1,c.2.2++ [(x,y,u.2)]))
theorem rT {a b:χ Br}{c:Int}{m:Nat}{x y:Int}{d:χ Br×χ Tr3}(h:x<2/\y<2):Zh a b c (m+1) x y d=(gP c x y,d):=by rw[Zh,Qf h]
theorem rU {a b:χ Br}{d:Int}{m:Nat}{x y:Int}{c:χ Br×χ Tr3}{t:Tr3}(h:¬(x<2/\y<2))(k:c.2.find? (λt=>decide (t.1=x/\t.2.1=y))=some t):Zh a b d (m+1) x y c=(t.2.2,c):=by rw[Zh,φ h,k]
theorem rV {a b:χ Br}{op:Int}{m:Nat}{x y:Int}{c:χ Br×χ Tr3}(h:¬(x<2/\y<2))(k:c.2.find? (λt=>decide (t.1=x/\t.2.1=y))=none)(v:Int)(d:min (QB a x) (QB b y)=v):Zh a b op (m+1) x y c=((Kc ⟨v,(Zh a b op m (Qv a x v).1 (Qv b y v).1 c).1,(Zh a b op m (Qv a x v).2 (Qv b y v).2 (Zh a b op m (Qv a x v).1 (Qv b y v).1 c).2).1⟩ (Zh a b op m (Qv a x v).2 (Qv b y v).2 (Zh a b op m (Qv a x v).1 (Qv b y v).1 c).2).2.1).2,((Kc ⟨v,(Zh a b op m (Qv a x v).1 (Qv b y v).1 c).1,(Zh a b op m (Qv a x v).2 (Qv b y v).2 (Zh a b op m (Qv a x v).1 (Qv b y v).1 c).2).1⟩ (Zh a b op m (Qv a x v).2 (Qv b y v).2 (Zh a b op m (Qv a x v).1 (Qv b y v).1 c).2).2.1).1,(Zh a b op m (Qv a x v).2 (Qv b y v).2 (Zh a b op m (Qv a x v).1 (Qv b y v).1 c).2).2.2++ [(x,y,(Kc ⟨v,(Zh a b op m (Qv a x v).1 (Qv b y v).1 c).1,(Zh a b op m (Qv a x v).2 (Qv b y v).2 (Zh a b op m (Qv a x v).1 (Qv b y v).1 c).2).1⟩ (Zh a b op m (Qv a x v).2 (Qv b y v).2 (Zh a b op m (Qv a x v).1 (Qv b y v).1 c).2).2.1).2)])):=by subst d;rw[Zh,φ h,k]
theorem uW (a b:χ Br)(d:Int):∀(m:Nat)(x y:Int)(c:χ Br×χ Tr3),c.1.length<=(Zh a b d m x y c).2.1.length/\c.2.length<=(Zh a b d m x y c).2.2.length|0,x,y,c=>⟨Qw _,Qw _⟩|m+1,x,y,c=>by by_cases h:x<2/\y<2;rw[rT h];exact⟨Qw _,Qw _⟩;cases k:c.2.find? (λt=>decide (t.1=x/\t.2.1=y))with|some t=>rw[rU h k];exact⟨Qw _,Qw _⟩|none=>rw[rV h k _ rfl];have e:=uW a b d m (Qv a x (min (QB a x) (QB b y))).1 (Qv b y (min (QB a x) (QB b y))).1 c;have f:=uW a b d m (Qv a x (min (QB a x) (QB b y))).2 (Qv b y (min (QB a x) (QB b y))).2 (Zh a b d m (Qv a x (min (QB a x) (QB b y))).1 (Qv b y (min (QB a x) (QB b y))).1 c).2;refine⟨XU (XU e.1 f.1) (Gc _ _),?_⟩;simp only[Qy];omega
def bu (a:χ Br):Prop:=dB a/\∀(j:Nat)(b:Br),a[j]? =some b->0<=b.v/\b.v<=63
theorem VD.dok {nd:χ Br}{r:Int}(h:VD nd r):bu nd:=⟨h.wf,λj b a=>⟨(h.1 j b a).1,(h.1 j b a).2.1⟩⟩
theorem dC {c:χ Br}(h:bu c){n v:Int}(d:0<=n)(l:v<64):0<=(Qv c n v).1/\(Qv c n v).1<=n/\0<=(Qv c n v).2/\(Qv c n v).2<=n/\(QB c n=v->(Qv c n v).1<n/\(Qv c n v).2<n):=by
 unfold Qv;split;rename_i a;exact⟨d,rB _,d,rB _,λe=>Xg e a⟩;rename_i a;have a:=Decidable.not_not.1 a;have i:¬n<2:=λf=>by unfold QB at a;rw[Qf f] at a;omega
 cases g:c[(n-2).toNat]? with|none=>unfold QB at a;rw[φ i,g] at a;simp at a;omega|some b=>obtain⟨j,f,k,m⟩:=h.1 _ _ g;exact⟨j,by simp only;omega,k,by simp only;omega,λ_=>⟨by simp only;omega,by simp only;omega⟩⟩
theorem fi {a:χ Br}(h:bu a){n:Int}(c:¬n<2)(b:n<a.length+2):QB a n<64:=by unfold QB;have b:=Q6 (show(n-2).toNat<a.length by omega);rw[φ c,b];have:=(h.2 _ _ b).2;simp only[AL,kR];omega
theorem lQi (a:Nat)(A:Θ)(n c:Nat)(l:χ Br)(b:Br)(w:θ)(h:Own w a 105 3 A n c (pz l))(m:l.length=n)(R:a<=w.heap.size)(Z:n+1<=1000000000000):Fn ψ 163 [.slice A n c,.agg b.cells.toArray] w (λv d=>∃o y,v= .tuple #[.slice o (Kc b l).1.length y,.int .i64 (Kc b l).2]/\Own d a 105 3 o (Kc b l).1.length y (pz (Kc b l).1)/\Mod (Qj A) w d/\Moved w A o):=by
 have O:SB w A n c l:=⟨h.sl,m⟩
 refine QK jQg [] Tryz.func163 ?_;refine new λw1 r Y x=>?_;have jl:Mod (Qj A) w w1:=Mod.of_ext _ r;refine Qp x rfl (Qp x rfl (X0 (λF=>?_) λF=>?_));have e:Kc b l=(l,b.l):=by unfold Kc;rw[Qf F]
 rw[e];refine Xw (Ext w1) 5 (oz 5 0 []) (Ext.drew w1) (Qx (v:=.int .i64 b.l) (λd q=>by rw[(x.ext q).cell];rfl) ?_);have f:=r.trans (Ext.drew w1);rw[m];exact⟨A,c,rfl,h.ext f,Mod.of_ext _ f,Moved.refl _ _⟩;have g:Kc b l=match VX b l with|some i=>(l,((i+2:Nat):Int))|none=>(l++ [b],((l.length+2:Nat):Int)):=by unfold Kc;rw[φ F]
 refine loop Qe [6] (λs:Nat=>[.int .i64 s]) (λs d=>Ext w1 d/\s<=n/\∀j,j<s->l[j]? ≠some b) (λs _=>n-s) 0 rfl ⟨Ext.refl _,Q9 _,λj k=>Xg k ω⟩ ?_;rintro s C ⟨D,hs,E⟩;have G:=r.trans D;have H:=x.ext D;refine Ql (λQ=>?_) λQ=>?_;refine Xw (Ext C) 6 (oz 6 0 []) (Ext.drew C) (XG aD (O.ext G) rfl ω λp z J S=>?_);refine Xe (vs:=z.cells) rfl (λd q j v k=>q.cell (S j v k)) (Xe (vs:=b.cells) rfl (λd q j v k=>by rw[(H.ext q).cell];exact k) ?_);have f:=D.trans (Ext.drew C);by_cases B:z=b;refine Q3 (by rw[pu,Zg (pv.1 B)]) ?_;subst B;rw[bQs E J] at g;simp only at g;rw[g];refine Qz ((s+2:Nat):Int) ?_;rw[m];exact⟨A,c,rfl,h.ext (r.trans f),Mod.of_ext _ (r.trans f),Moved.refl _ _⟩;refine QX (by rw[pu,XZ λe=>B (pv.2 e)]) (Qz ((s+1:Nat):Int) ?_);refine⟨s+1,rfl,⟨f,ω,λj k=>?_⟩,QL⟩;by_cases M:j<s;exact E j M;have:j=s:=by omega
 subst this;rw[J];exactλe=>B (Option.some.inj e)
 have:s=n:=by omega
 subst this;rw[bQt (by rw[m];exact E)] at g;simp only at g;rw[g];refine Qm H (XM (b.cells) ?_);intro W K X L;have t:=G.trans K;have T:Sl W 3 (some ⟨C.heap.size,0,none⟩) 1 1 b.cells:=Sl.own (sz:=3) (n:=1) L (Qw _) δ (by simp[Br.cells]);refine XV (h.ext t) T (by intro u I;simp[Br.cells] at I;obtain rfl|rfl|rfl:=I <;>rfl) (by unfold maxLen;omega) (XU R t.size) ?_ (b:=(by show _*24<=_;omega));intro o y w4 N U V;refine Qz ((s+2:Nat):Int) ?_;have P:(l++ [b]).length=s+1:=by rw[Qy,m]<;>rfl
 rw[P,m];refine⟨o,y,rfl,?_,(Mod.of_ext (Qj A) t).trans N λ_=>.inl,V.back t.size⟩;rw[F6];exact U
end
section
theorem lQj (b:Nat)(c:χ τ)(a x y:Int)(w:θ)(h:Blk w b 183 c)(e:c[4]? =some (.int .i64 a))(g:0<=x)(i:x<2)(j:0<=y)(k:y<2)(d:a≠3/\a≠4):Fn ψ 160 [.pointer (some ⟨b,0,none⟩),.int .i64 x,.int .i64 y] w (λv f=>v= .int .i64 (gP a x y)/\w=f):=by
 refine QK jQd [] Tryz.func160 ?_;refine Qp h e (X0 (λa=>?_) λa=>?_);have:0<=x*y/\x*y<=1:=by obtain rfl|rfl:=(by omega:x=0∨x=1) <;>obtain rfl|rfl:=(by omega:y=0∨y=1) <;>decide
 refine Qz (x*y) ?_ (hm:=rfl);exact⟨by unfold gP;rw[Qf a],rfl⟩;refine X0 (λb=>?_) λb=>?_;refine norm (m:=max x y) (by rw[Int.max_def];split<;>split<;>omega) ?_;exact⟨by unfold gP;rw[φ a,Qf b],rfl⟩;refine Qz (x+y) ?_ (hm:=rfl);refine normIf (m:=(x+y) % 2) δ (Int.tmod_eq_emod_of_nonneg ω) ?_;exact⟨by unfold gP;rw[φ a,φ b,φ d.1,φ d.2],rfl⟩
theorem bQu (A:Θ)(n c:Nat)(r m v:Int)(d:χ Br)(w:θ)(h:SB w A n c d)(E:m<n+2)(L:v<64):Fn ψ 162 [Q5 A n c r,.int .i64 m,.int .i64 v] w (λu f=>u= .tuple #[.int .i64 (Qv d m v).1,.int .i64 (Qv d m v).2]/\Ext w f):=by
 have K:=h.2;have M:n<=9223372036854775807:=by have:=h.1.le;have:=h.1.cap;simp only[maxLen] at this;omega
 refine QK jQf [] Tryz.func162 ?_;refine new λH l J q=>?_;refine Qm q (call (BL A n c r m d H (h.ext l) E) ?_);rintro u k ⟨rfl,o⟩;have g:=l.trans o;have s:=q.ext o;refine Ya (λi=>?_) λi=>?_;exact⟨by unfold Qv;rw[Qf i],g⟩;have I:¬m<2:=λC=>by unfold QB at i;rw[Qf C] at i;omega
 have j:=Q6 (show(m-2).toNat<d.length by omega);generalize d[(m-2).toNat]=b at j;have e:Qv d m v=(b.l,b.h):=by unfold Qv;rw[φ ω,j]
 rw[e];refine Xw (Ext k) 16 (oz 16 0 []) (Ext.drew k) (Qx (v:=.slice A n c) (λf a=>by rw[(s.ext a).cell];rfl) (Qz (((m-2).toNat:Nat):Int) (XG aD (h.ext g) rfl ω λp z F D=>?_)));have G:z=b:=Option.some.inj (F.symm.trans j);subst G;refine Qx (v:=.int .i64 z.l) (λf a=>a.cell (D 1 _ rfl)) (Qx (v:=.slice A n c) (λf a=>by rw[(s.ext a).cell];rfl) (Qz (((m-2).toNat:Nat):Int) (XG aD (h.ext g) rfl ω λN t B x=>?_)));have y:t=z:=Option.some.inj (B.symm.trans j);subst y;refine Qx (v:=.int .i64 t.h) (λf a=>a.cell (x 2 _ rfl)) ?_;exact⟨rfl,g.trans (Ext.drew k)⟩
def Tr3.cells (t:Tr3):χ τ:=[.int .i64 t.1,.int .i64 t.2.1,.int .i64 t.2.2]
theorem NC (t:Tr3):(Tr3.cells t).length=3:=rfl
def BM (l:χ Tr3):χ τ:=l.flatMap Tr3.cells
theorem lQk (l:χ Tr3)(x:Tr3):BM (l++ [x])=BM l++Tr3.cells x:=by simp[BM]
def AS (a:Nat)(b c:Θ):Nat->Prop:=λk=>k=a∨Qj b k∨Qj c k
theorem AS.moved {w:θ}{c:Nat}{d a e b:Θ}(h:Moved w d a)(f:Moved w e b):∀k,AS c a b k->AS c d e k∨w.heap.size<=k:=by rintro k (rfl|a|a);exact .inl (.inl rfl);obtain h|h:=h.rows k a;exact .inl (.inr (.inl h));exact .inr h;obtain h|h:=f.rows k a;exact .inl (.inr (.inr h));exact .inr h
structure AD where
 A:Θ
 n:Nat
 c:Nat
 a:List Br
 ra:Int
 B:Θ
 m:Nat
 d:Nat
 b:List Br
 rb:Int
 op:Int
structure Ap (w0 w:World) (base pb:Nat) (D:AD) (NA:Θ) (nc:Nat) (SA:Θ) (sc:Nat) (st:List Br×List Tr3):Prop where
 e0:Ext w0 w
 as_:SB w0 D.A D.n D.c D.a
 bs:SB w0 D.B D.m D.d D.b
 p0:w0.heap.size<=pb
 blk:Blk w pb 183 [.slice D.A D.n D.c,.int .i64 D.ra,.slice D.B D.m D.d,.int .i64 D.rb,.int .i64 D.op,.slice NA st.1.length nc,.slice SA st.2.length sc]
 nown:Own w base 105 3 NA st.1.length nc (pz st.1)
 sown:Own w base 242 3 SA st.2.length sc (BM st.2)
 apart:∀i,Qj NA i->¬Qj SA i
 lt:pb<base
 top:base<=w.heap.size
def ATo (j w:θ)(a f:Nat)(D:AD)(g h:Θ)(k:χ Br×χ Tr3)(i:θ):Prop:=∃b d c e,Ap j i a f D b d c e k/\Mod (AS f g h) w i/\Moved w g b/\Moved w h c
theorem Ap.grow {b w c:θ}{a d:Nat}{D:AD}{e:Θ}{f:Nat}{g:Θ}{sc:Nat}{st:χ Br×χ Tr3}(h:Ap b w a d D e f g sc st)(k:Ext w c):Ap b c a d D e f g sc st:=
 ⟨h.e0.trans k,h.as_,h.bs,h.p0,h.blk.ext k,h.nown.ext k,h.sown.ext k,h.apart,h.lt,XU h.top k.size⟩
theorem Ap.kept {b w:θ}{a c:Nat}{D:AD}{d:Θ}{f:Nat}{e:Θ}{sc:Nat}{g:χ Br×χ Tr3}(h:Ap b w a c D d f e sc g):∀i,AS c d e i->b.heap.size<=i:=by have:=h.p0;have:=h.lt;rintro i (rfl|a|a);omega;have:=(h.nown.rows i a).1;omega;have:=(h.sown.rows i a).1;omega
theorem lQl {l:χ Tr3}{x y:Int}:∀{s:Nat}{t:Tr3},(∀j u,j<s->l[j]? =some u->¬(u.1=x/\u.2.1=y))->l[s]? =some t->t.1=x/\t.2.1=y->l.find? (λt=>decide (t.1=x/\t.2.1=y))=some t:=by induction l with|nil=>intro s t _ h;simp at h|cons u l c=>intro s t a h b;cases s with|zero=>simp at h;subst h;rw[List.find?_cons_of_pos (by simp[b])]|succ s=>rw[hQo (by have:=a 0 u ω rfl;simpa using this)];exact c (s:=s) (λj v d c=>a (j+1) v ω (by simpa using c)) (by simpa using h) b
theorem lQm {l:χ Tr3}{x y:Int}(h:∀j u,j<l.length->l[j]? =some u->¬(u.1=x/\u.2.1=y)):l.find? (λt=>decide (t.1=x/\t.2.1=y))=none:=by rw[My];intro u b;obtain⟨j,a,rfl⟩:=xU.1 b;simpa using h j _ a (Q6 a)
end
section
theorem bQv (w0:θ)(k A:Nat)(D:AD)(ha:bu D.a)(hb:bu D.b)(bO:D.n<=1000000000000/\D.m<=1000000000000)(ho:D.op≠3/\D.op≠4):∀(m:Nat)(x y:Int)(g:χ Br×χ Tr3)(C z:Θ)(K sc:Nat)(w:θ),Ap w0 w k A D C K z sc g->0<=x->0<=y->x+y<m->x<D.n+2->y<D.m+2->(Zh D.a D.b D.op m x y g).2.1.length<=100000000000->(Zh D.a D.b D.op m x y g).2.2.length<=100000000000->Fn ψ 107 [.pointer (some ⟨A,0,none⟩),.int .i64 x,.int .i64 y] w λv I=>v= .int .i64 (Zh D.a D.b D.op m x y g).1/\ATo w0 w k A D C z (Zh D.a D.b D.op m x y g).2 I
 |0,x,y,g,C,z,K,sc,w,_,x0,y0,hm,_,_,_,_=>by omega
 |m+1,x,y,g,C,z,K,sc,w,h,x0,y0,hm,hx,hy,Vh,Km=>by
  have ih:=bQv w0 k A D ha hb bO ho m;have vQl:=uW D.a D.b D.op (m+1) x y g;have JM:D.a.length=D.n:=h.as_.2;have cZ:D.b.length=D.m:=h.bs.2;refine QK iQt [1] Tryz.func107 ?_;refine cL [] Qe [] (λ_:Unit=>[]) (λ_ I=>w=I/\¬(x<2/\y<2)) ?_ ?_;refine Ql (λc1=>?_) λc1=>?_;refine Ql (λJ=>?_) λJ=>?_;rw[rT ⟨c1,J⟩];refine call (lQj A _ D.op x y w h.blk rfl x0 c1 y0 J ho) ?_;rintro v _ ⟨rfl,rfl⟩;exact⟨rfl,C,K,z,sc,h,Mod.refl _ _,Moved.refl _ _,Moved.refl _ _⟩;exact⟨(),rfl,rfl,λq=>J q.2⟩;exact⟨(),rfl,rfl,λq=>c1 q.1⟩;rintro⟨⟩ _ ⟨rfl,XQ⟩;have TU:SlS Tr3.cells 3 w z g.2.length sc g.2:=⟨h.sown.sl,rfl⟩
  refine loop Qe [7] (λs:Nat=>[.int .i64 s]) (λs I=>w=I/\s<=g.2.length/\∀(j:Nat) (u:Tr3),j<s->g.2[j]? =some u->¬(u.1=x/\u.2.1=y)) (λs _=>g.2.length-s) 0 rfl ⟨rfl,Q9 _,λj u d=>Xg d ω⟩ ?_;rintro s _ ⟨rfl,hs,Xo⟩;refine Qp h.blk rfl (Ql (λh3=>?_) λh3=>?_);have r:∀t:Tr3,g.2[s]? =some t->¬(t.1=x/\t.2.1=y)->∀(j:Nat) (u:Tr3),j<s+1->g.2[j]? =some u->¬(u.1=x/\u.2.1=y):=λt H hn j u d U=>by
   by_cases Vw:j<s;exact Xo j u Vw U;have:j=s:=by omega
   subst this;rw[Option.some.inj (U.symm.trans H)];exact hn
  refine Qp h.blk rfl (XG NC TU rfl ω λp t H hc=>?_);refine index (j:=0) δ (load (hc 0 _ rfl) (X0 (λe1=>?_) λe1=>?_));refine Qp h.blk rfl (XG NC TU rfl ω λp' t' ht' JW=>?_);have kC:t'=t:=Option.some.inj (ht'.symm.trans H);subst kC;refine index (j:=1) δ (load (JW 1 _ rfl) (X0 (λe2=>?_) λe2=>?_));refine Qp h.blk rfl (XG NC TU rfl ω λp2 t2 iu Vj=>?_);have qQ2:t2=t':=Option.some.inj (iu.symm.trans H);subst qQ2;refine index (j:=2) δ (load (Vj 2 _ rfl) ?_);rw[rU XQ (lQl Xo H ⟨e1,e2⟩)];exact⟨rfl,C,K,z,sc,h,Mod.refl _ _,Moved.refl _ _,Moved.refl _ _⟩;refine Qz ((s+1:Nat):Int) ?_;exact⟨s+1,rfl,⟨rfl,ω,r t' H λq=>e2 q.2⟩,QL⟩;refine Qz ((s+1:Nat):Int) ?_;exact⟨s+1,rfl,⟨rfl,ω,r t H λq=>e1 q.1⟩,QL⟩;have iM:s=g.2.length:=by omega
  subst iM;have Ar:=lQm Xo;have HU:=h.e0;refine Xw (Ext w) 13 (oz 5 0 (oz 5 6 [(false,5),(false,11),(true,12)])) (Ext.drew w) ?_;refine Xe (vs:=[.slice D.A D.n D.c,.int .i64 D.ra]) rfl (λI Qa j v d=>by
   rw[add_add,(h.blk.ext Qa).cell];match j,d with|0,d=>exact d|1,d=>exact d) ?_
  refine Xe (vs:=[.slice D.B D.m D.d,.int .i64 D.rb]) rfl (λI Qa j v d=>by
   rw[add_add,(h.blk.ext Qa).cell];match j,d with|0,d=>exact d|1,d=>exact d) ?_
  refine call (BL D.A D.n D.c D.ra x D.a _ (h.as_.ext (HU.trans (Ext.drew w))) hx) ?_;rintro v w1 ⟨rfl,Qd⟩;have Rc:=(Ext.drew w).trans Qd;refine⟨Rc,?_⟩;refine call (BL D.B D.m D.d D.rb y D.b w1 (h.bs.ext (HU.trans Rc)) hy) ?_;rintro v w2 ⟨rfl,Qg⟩;have Q1:=Rc.trans Qg;refine⟨Q1,?_⟩;refine norm (m:=min (QB D.a x) (QB D.b y)) (by rw[KG];split<;>split<;>omega) ?_;have V:min (QB D.a x) (QB D.b y)<64:=by
   by_cases c:x<2;have:=fi hb (n:=y) (λJ=>XQ ⟨c,J⟩) ω;rw[KG];split<;>omega
   have:=fi ha (n:=x) c ω;rw[KG];split<;>omega
  have iO:QB D.a x=min (QB D.a x) (QB D.b y)∨QB D.b y=min (QB D.a x) (QB D.b y):=by rw[KG];split<;>simp
  have Ao:=rV (a:=D.a) (b:=D.b) (op:=D.op) (m:=m) XQ Ar _ rfl;rw[Ao] at Vh Km ⊢;generalize min (QB D.a x) (QB D.b y)=v at*;obtain⟨s1,s2,s3,s4,s5⟩:=dC ha (n:=x) x0 V;obtain⟨t1,t2,t3,t4,t5⟩:=dC hb (n:=y) y0 V;have N:(Qv D.a x v).1+(Qv D.b y v).1<m/\(Qv D.a x v).2+(Qv D.b y v).2<m:=by obtain e|e:=iO;have:=s5 e;omega;have:=t5 e;omega
  have h2:=h.grow Q1;refine Jm (vs:=[.slice D.A D.n D.c,.int .i64 D.ra]) rfl (λj v d=>by
   rw[add_add,h2.blk.cell];match j,d with|0,d=>exact d|1,d=>exact d) ?_
  refine call (bQu D.A D.n D.c D.ra x v D.a w2 (h2.as_.ext h2.e0) hx V) ?_;rintro _ w3 ⟨rfl,Qi⟩;have sA:=h2.grow Qi;refine Jm (vs:=[.slice D.B D.m D.d,.int .i64 D.rb]) rfl (λj v d=>by
   rw[add_add,sA.blk.cell];match j,d with|0,d=>exact d|1,d=>exact d) ?_
  refine call (bQu D.B D.m D.d D.rb y v D.b w3 (sA.bs.ext sA.e0) hy V) ?_;rintro _ w4 ⟨rfl,Qq⟩;have L:=(Q1.trans Qi).trans Qq;have h4:=sA.grow Qq;have tQ6:=uW D.a D.b D.op m (Qv D.a x v).1 (Qv D.b y v).1 g;have tQ7:=uW D.a D.b D.op m (Qv D.a x v).2 (Qv D.b y v).2 (Zh D.a D.b D.op m (Qv D.a x v).1 (Qv D.b y v).1 g).2;simp only[Qy,Xa,Jz] at Vh Km;have ulen:=Gc ⟨v,(Zh D.a D.b D.op m (Qv D.a x v).1 (Qv D.b y v).1 g).1,(Zh D.a D.b D.op m (Qv D.a x v).2 (Qv D.b y v).2 (Zh D.a D.b D.op m (Qv D.a x v).1 (Qv D.b y v).1 g).2).1⟩ (Zh D.a D.b D.op m (Qv D.a x v).2 (Qv D.b y v).2 (Zh D.a D.b D.op m (Qv D.a x v).1 (Qv D.b y v).1 g).2).2.1;refine call (ih _ _ g C z K sc w4 h4 s1 t1 N.1 ω ω ω ω) ?_;rintro _ w5 ⟨rfl,NA5,nc5,SA5,sc5,h5,Zu,Re,zp⟩;refine call (ih _ _ _ NA5 SA5 nc5 sc5 w5 h5 s3 t3 N.2 ω ω ω ω) ?_;rintro _ w6 ⟨rfl,E,nc6,G,sc6,o,Kf,C9,P0⟩;have sK:=Zu.trans Kf (AS.moved Re zp);have O:=Re.trans C9 Zu.size;have P:=zp.trans P0 Zu.size;generalize (Zh D.a D.b D.op m (Qv D.a x v).1 (Qv D.b y v).1 g)=r0 at*;generalize (Zh D.a D.b D.op m (Qv D.a x v).2 (Qv D.b y v).2 r0.2)=B at*;have qQ3:=o.nown.rows;have qQ4:=o.sown.rows;have tQ8:=o.lt;have tQ9:=o.top;refine Qp o.blk rfl (call (lQi k E _ nc6 B.2.1 ⟨v,r0.1,B.1⟩ w6 o.nown rfl o.top ω) ?_);rintro _ w7 ⟨F,nc7,rfl,zq,W,sL⟩;have Q2:=o.blk.mod W (λe=>by have:=(qQ3 _ e).1;omega);have Yr:=o.sown.mod W λi f e=>o.apart i e f;generalize Kc ⟨v,r0.1,B.1⟩ B.2.1=u at*;refine Xv Q2 (by simp) λw8 X XP=>?_;have qQ5:=zq.mod X (λi f e=>by have:=(zq.rows i f).1;omega);have fw:=Yr.mod X (λi f e=>by have:=(Yr.rows i f).1;omega);refine Qp XP rfl (XM (Tr3.cells (x,y,u.2)) ?_);intro w9 M VL XX;have HN:Sl w9 3 (some ⟨w8.heap.size,0,none⟩) 1 1 (Tr3.cells (x,y,u.2)):=Sl.own (sz:=3) (n:=1) XX (Qw _) δ (by simp[Tr3.cells]);have z7:=W.size;have z8:=X.size;have z9:=M.size;refine XV (fw.ext M) HN (by intro u U;simp[Tr3.cells] at U;obtain rfl|rfl|rfl:=U <;>rfl) (by unfold maxLen;omega) ω ?_ (b:=(by show _*24<=_;omega));intro l Rf Qu Z Q R;have qQ6:=fw.rows;refine Xv ((XP.ext M).mod Z λe=>by have:=(qQ6 _ e).1;omega) (by simp) λQJ Y ZC=>?_;have S:∀i,Qj F i->¬Qj G i:=λi f e=>by obtain q|q:=sL.rows i f;exact o.apart i q e;have:=(qQ4 i e).2;omega
  have qQ7:∀i,Qj F i->¬Qj l i:=λi f e=>by obtain q|q:=R.rows i e;exact S i f q;have:=(zq.rows i f).2;omega
  have qQ8:=((qQ5.ext M).mod Z λi f e=>S i f e).mod Y (λi f e=>by have:=(zq.rows i f).1;omega);have HV:=Q.mod Y (λi f e=>by have:=(Q.rows i f).1;omega);have T:Mod (AS A E G) w6 QJ:=((((W.mono λi f=>.inl (.inr (.inl f))).trans X λi f=>.inl (.inl f)).trans (Mod.of_ext (AS A E G) M) λ_=>.inl).trans Z λi f=>.inl (.inr (.inr f))).trans Y λi f=>.inl (.inl f);have tQk:=sK.trans T (AS.moved O P);have el:(B.2.2++ [((x,y,u.2):Tr3)]).length=B.2.2.length+1:=by simp
  refine⟨rfl,F,nc7,l,Rf,⟨T.ext o.e0 o.kept,h.as_,h.bs,h.p0,?_,qQ8,?_,qQ7,h.lt,?_⟩,(Mod.of_ext (AS A C z) L).trans tQk λ_=>.inl,?_,?_⟩;show Blk QJ A _ [_,_,_,_,_,_,.slice l (B.2.2++ [((x,y,u.2):Tr3)]).length Rf];rw[el];exact ZC;show Own QJ k _ 3 l (B.2.2++ [((x,y,u.2):Tr3)]).length Rf (BM (B.2.2++ [((x,y,u.2):Tr3)]));rw[el,lQk];exact HV;have:=Z.size;have:=Y.size;omega;exact(O.back L.size).trans sL (by have:=L.size;have:=sK.size;omega);exact(P.back L.size).trans (R.back ω) (by have:=L.size;have:=sK.size;omega)
end
section
def bQw (a:χ Br×χ Tr3):Prop:=dB a.1/\∀t∈a.2,0<=t.2.2/\t.2.2<a.1.length+2
theorem lQn {b:Br}{l:χ Br}(d:dB l)(f:0<=b.l)(g:b.l<l.length+2)(r:0<=b.h)(s:b.h<l.length+2):dB (Kc b l).1/\0<=(Kc b l).2/\(Kc b l).2<(Kc b l).1.length+2:=by
 have e:∀{l:χ Br} {i:Nat},VX b l=some i->i<l.length:=by
  intro l;induction l with
  |nil=>intro i h;cases h
  |cons x l p=>
   intro i h;unfold VX at h;split at h;cases h;simp;cases c:VX b l with
   |none=>rw[c] at h;cases h
   |some k=>rw[c] at h;cases h;have:=p c;simp;omega
 unfold Kc;split;exact⟨d,f,g⟩;split;rename_i i m;have:=e m;exact⟨d,ω,by simp only;omega⟩;refine⟨λj x a=>?_,ω,by simp only[Qy,Xa,Jz];omega⟩;by_cases n:j<l.length;rw[eW n] at a;exact d j x a;rw[aZ ω] at a;have q:j-l.length=0:=by cases o:j-l.length with|zero=>rfl|succ k=>rw[o] at a;simp at a
 rw[q] at a;simp at a;subst a;omega
theorem ND {op x y:Int}(a:0<=x)(b:x<2)(c:0<=y)(d:y<2):0<=gP op x y/\gP op x y<2:=by unfold gP;obtain rfl|rfl:=(by omega:x=0∨x=1) <;>obtain rfl|rfl:=(by omega:y=0∨y=1) <;>(split<;>first|decide|(split<;>first|decide|(split<;>first|decide|(split<;>decide))))
theorem Gd {a b:χ Br}(j:bu a)(o:bu b)(op:Int):∀(m:Nat)(x y:Int)(d:χ Br×χ Tr3),bQw d->0<=x->0<=y->x<a.length+2->y<b.length+2->bQw (Zh a b op m x y d).2/\0<=(Zh a b op m x y d).1/\(Zh a b op m x y d).1<(Zh a b op m x y d).2.1.length+2
 |0,x,y,d,h,_,_,_,_=>⟨h,rB _,by show(0:Int)<d.1.length+2;omega⟩
 |m+1,x,y,d,h,w,z,G,H=>by
  by_cases e:x<2/\y<2;rw[rT e];have:=ND (op:=op) w e.1 z e.2;exact⟨h,this.1,by simp only;omega⟩;cases k:d.2.find? (λt=>decide (t.1=x/\t.2.1=y))with|some t=>rw[rU e k];have:=h.2 t (hQp k);exact⟨h,this.1,this.2⟩|none=>
   have s:min (QB a x) (QB b y)<64:=by
    by_cases c:x<2;have:=fi o (n:=y) (λA=>e ⟨c,A⟩) ω;rw[KG];split<;>omega
    have:=fi j (n:=x) c ω;rw[KG];split<;>omega
   rw[rV e k _ rfl];generalize min (QB a x) (QB b y)=v at*;obtain⟨C,J,D,K,L⟩:=dC j (n:=x) w s;obtain⟨E,M,F,N,O⟩:=dC o (n:=y) z s;have r:=Gd j o op m (Qv a x v).1 (Qv b y v).1 d h C E ω ω;have I:=uW a b op m (Qv a x v).2 (Qv b y v).2 (Zh a b op m (Qv a x v).1 (Qv b y v).1 d).2;generalize (Zh a b op m (Qv a x v).1 (Qv b y v).1 d)=i at*;have q:=Gd j o op m (Qv a x v).2 (Qv b y v).2 i.2 r.1 D F ω ω;generalize (Zh a b op m (Qv a x v).2 (Qv b y v).2 i.2)=f at*;have g:=lQn (b:=⟨v,i.1,f.1⟩) (l:=f.2.1) q.1.1 r.2.1 (by have:=r.2.2;simp only;omega) q.2.1 q.2.2;have B:=Gc ⟨v,i.1,f.1⟩ f.2.1;generalize Kc ⟨v,i.1,f.1⟩ f.2.1=u at*;refine⟨⟨g.1,λt p=>?_⟩,g.2.1,g.2.2⟩;simp only[X2,Xx] at p;obtain p|rfl:=p;have:=q.1.2 t p;exact⟨this.1,by simp only;omega⟩;exact⟨g.2.1,g.2.2⟩
def nA (a:χ Br)(c:Int)(b:χ Br)(d e:Int):Int×(χ Br×χ Tr3):=Zh a b e (c.toNat+d.toNat+1) c d ([],[])
def Wg (a:χ Br)(c:Int)(b:χ Br)(d e:Int):χ Br×Int:=fh (nA a c b d e).2.1 (nA a c b d e).1
def ei (d:χ Br×Int):(χ Br×Int)×Int:=if 4096<d.1.length then(([],0),2)else(d,0)
def dD (a:χ Br)(c:Int)(b:χ Br)(d e:Int):(χ Br×Int)×Int:=if XN a c≠0 then(([],0),XN a c)else if XN b d≠0 then(([],0),XN b d)else ei (Wg a c b d e)
def pA (w:θ)(r:(χ Br×Int)×Int)(v:τ)(a:θ):Prop:=∃A n c,v= .tuple #[Q5 A n c r.1.2,.int .i64 r.2]/\Ext w a/\SB a A n c r.1.1/\∀i,Qj A i->w.heap.size<=i
theorem NE (A:Θ)(n c:Nat)(a:χ Br)(f:Int)(B:Θ)(m d:Nat)(b:χ Br)(g l:Int)(w:θ)(h:SB w A n c a)(y:SB w B m d b)(z:bu a)(C:bu b)(E:0<=f)(L:f<n+2)(F:0<=g)(M:g<m+2)(N:n<=1000000000000)(O:m<=1000000000000)(G:(nA a f b g l).2.1.length<=100000000000) (P:(nA a f b g l).2.2.length<=100000000000) (Q:l≠3/\l≠4):Fn ψ 58 [Q5 A n c f,Q5 B m d g,.int .i64 l] w (F7 w (Wg a f b g l)):=by
 have o:=h.2;have o:=y.2;refine QK c58 [] Tryz.func58 ?_;refine new λo H q p=>?_;refine new λI u o s=>?_;refine new λq o r R=>?_;have r:=(H.trans u).trans o;have J:=(p.ext u).ext o;have K:=s.ext o;refine Qm J (Qm K (new λs p o S=>?_));have o:=r.trans p;let D:AD:=⟨A,n,c,a,f,B,m,d,b,g,l⟩
 have T:Ap q s s.heap.size q.heap.size D none 0 none 0 ([],[]):=⟨p,h.ext r,y.ext r,Qw _,S,Own.nil _ _ _ _,Own.nil _ _ _ _,(λi o=>by obtain⟨_,e,_⟩:=o;cases e),ω,Qw _⟩
 refine Qp (J.ext p) rfl (Qp (K.ext p) rfl ?_);have p:=Gd z C l (f.toNat+g.toNat+1) f g ([],[]) ⟨λj x y=>by simp at y,λt J=>by simp at J⟩ E F ω ω;refine call (bQv q s.heap.size q.heap.size D z C ⟨N,O⟩ Q (f.toNat+g.toNat+1) f g ([],[]) none none 0 0 s T E F ω L M G P) ?_;rintro v w5 ⟨rfl,z,C,E,y,s,F,J,K⟩;have y:Ext q w5:=s.e0;have q:=r.trans y;refine Qp s.blk rfl (call (bQr z _ C _ _ w5 ⟨s.nown.sl,rfl⟩ p.1.1 (by have:(nA a f b g l).2.1.length<=100000000000:=G;exact XU this δ) p.2.1 p.2.2) ?_);rintro v s ⟨f,k,z,rfl,g,l,p⟩;refine Qo ((R.ext y).ext g) λw7 C _ E=>?_;have r:Mod (·=I.heap.size) s w7:=vQB C rfl;refine Qm E ?_;have s:=y.size;have s:∀i,Qj f i->¬i=I.heap.size:=λi o e=>by have:=p i o;omega
 refine⟨f,k,z,rfl,r.ext (q.trans g) (λi o=>by have:=H.size;have:=u.size;omega),⟨l.1.modS r λ_ i o=>s i o,l.2⟩,λi o=>by have:=p i o;have:=q.size;omega⟩
theorem bQx (A:Θ)(n c:Nat)(a:χ Br)(b:Int)(d w:θ)(h:SB w A n c a)(t:∀i,Qj A i->d.heap.size<=i)(o:Ext d w):Fn ψ 256 [Q5 A n c b] w (pA d (ei (a,b))):=by
 have u:=h.2;refine QK kQn [] Tryz.func256 ?_;refine new λp f d q=>?_;refine new λr g d s=>?_;have j:=f.trans g;refine QQ (q.ext g) rfl (Ql (λd=>?_) λd=>?_);have e:ei (a,b)=(([],0),2):=by unfold ei;rw[Qf (show 4096<(a,b).1.length by simp only;omega)]
 rw[e];refine Qo s λw3 k _ l=>?_;have d:Mod (·=p.heap.size) r w3:=vQB k rfl;refine Qm l ?_;exact⟨none,0,0,rfl,o.trans (d.ext j λi m=>by have:=f.size;omega),SlS.nil _,λi ⟨_,e,_⟩=>by cases e⟩;have e:ei (a,b)=((a,b),0):=by unfold ei;rw[φ (show¬4096<(a,b).1.length by simp only;omega)]
 rw[e];refine Qm (q.ext g) (Qo s λw3 k _ l=>?_);have d:Mod (·=p.heap.size) r w3:=vQB k rfl;refine Qm l ?_;refine⟨A,n,c,rfl,o.trans (d.ext j λi m=>by have:=f.size;omega),⟨(h.ext j).1.modS d (λb i m e=>by obtain⟨d,rfl,rfl⟩:=m;have:=SB.lt h d rfl b;omega),u⟩,t⟩
theorem bQy (k:Int)(w:θ)(a:0<=k)(b:k<=63):Fn ψ 30 [.int .i64 k] w (pA w (([⟨k,0,1⟩],2),0)):=by refine QK c30 [] Tryz.func30 ?_;refine new λd f a b=>?_;refine XB ω ?_;refine XB ω ?_;refine XM (⟨k,0,1⟩:Br).cells ?_;intro c a h g;refine Qo (b.ext a) λw3 h _ j=>?_;have b:Mod (·=w.heap.size) c w3:=vQB h rfl;refine Qm j ?_;refine⟨some ⟨d.heap.size,0,none⟩,1,1,rfl,b.ext (f.trans a) λi c=>ω,⟨Sl.own (sz:=3) (n:=1) (g.mod b ω) (Qw _) δ (by simp[Br.cells]),rfl⟩,λi ⟨a,e,c⟩=>by cases e;simp only at c;omega⟩
end
section
structure DV where
 A:Θ
 n:Nat
 c:Nat
 nd:List Br
 r:Int
def DV.cells (x:DV):χ τ:=[.slice x.A x.n x.c,.int .i64 x.r]
theorem bw (x:DV):x.cells.length=2:=rfl
def cg:χ DV->Int|[]=>0|x::l=>if XN x.nd x.r≠0 then XN x.nd x.r else cg l
theorem bQz {l:χ DV}:∀{s:Nat}{x:DV},(∀j y,j<s->l[j]? =some y->XN y.nd y.r=0)->l[s]? =some x->XN x.nd x.r≠0->cg l=XN x.nd x.r:=by induction l with|nil=>intro s x _ h;simp at h|cons y l c=>intro s x a h b;cases s with|zero=>simp at h;subst h;rw[cg,Qf b]|succ s=>rw[cg,φ λd=>d (a 0 y ω rfl)];exact c (s:=s) (λj z d c=>a (j+1) z ω (by simpa using c)) (by simpa using h) b
theorem bQA {l:χ DV}(h:∀j y,j<l.length->l[j]? =some y->XN y.nd y.r=0):cg l=0:=by induction l with|nil=>rfl|cons y l a=>rw[cg,φ λb=>b (h 0 y (by simp) rfl)];exact a λj z b c=>h (j+1) z (by simpa using b) (by simpa using c)
theorem bQB (F:Θ)(m cf:Nat)(L:χ DV)(w:θ)(h:SlS DV.cells 2 w F m cf L)(n:∀x∈L,SB w x.A x.n x.c x.nd):Fn ψ 121 [.slice F m cf] w (λv g=>v= .int .i64 (cg L)/\Ext w g):=by
 have r:=h.2;have t:m<=9223372036854775807:=by have:=h.1.le;have:=h.1.cap;simp only[maxLen] at this;omega
 refine QK iQG [] Tryz.func121 ?_;refine loop Qe [3] (λs:Nat=>[.int .i64 s]) (λs g=>Ext w g/\s<=m/\∀(j:Nat) (y:DV),j<s->L[j]? =some y->XN y.nd y.r=0) (λs _=>m-s) 0 rfl ⟨Ext.refl w,Q9 _,λj y e=>Xg e ω⟩ ?_;rintro s q ⟨b,u,a⟩;refine Ql (λl=>?_) λl=>?_;refine XG bw (h.ext b) rfl ω λp x f o=>?_;refine Jm (vs:=x.cells) rfl o (call (NB x.A x.n x.c x.nd x.r q ((n x (Xd f)).ext b)) ?_);rintro v z ⟨rfl,i⟩;refine Ya (λd=>?_) λd=>?_;exact⟨by rw[bQz a f d],b.trans i⟩;refine Qz ((s+1:Nat):Int) ?_;refine⟨s+1,rfl,⟨b.trans i,ω,λj y e c=>?_⟩,QL⟩;by_cases k:j<s;exact a j y k c;have:j=s:=by omega
 subst this;rw[Option.some.inj (c.symm.trans f)];exact d;exact⟨by rw[bQA λj y e c=>a j y ω c],b⟩
theorem bQC (A:Θ)(n c:Nat)(a:χ Br)(f:Int)(B:Θ)(m d:Nat)(b:χ Br)(g o:Int)(w:θ)(h:SB w A n c a)(E:SB w B m d b)(hl:XN a f=0->XN b g=0->(nA a f b g o).2.1.length<=100000000000/\(nA a f b g o).2.2.length<=100000000000) (ho:o≠3/\o≠4):Fn ψ 257 [Q5 A n c f,Q5 B m d g,.int .i64 o] w (pA w (dD a f b g o)):=by
 have JM:=h.2;have cZ:=E.2;refine QK kQo [] Tryz.func257 ?_;refine new λw1 z Q0 Qh=>?_;refine new λV t XR Qs=>?_;refine new λW C Z K=>?_;have s:=(z.trans t).trans C;have I:=(Qh.ext t).ext C;have U:=Qs.ext C;refine Qm I (Qm U (WC (⟨A,n,c,a,f⟩:DV).cells (⟨B,m,d,b,g⟩:DV).cells ?_));intro X J Ku QU;have N:=s.trans J;have hL:SlS DV.cells 2 X (some ⟨W.heap.size,0,none⟩) 2 2 [⟨A,n,c,a,f⟩,⟨B,m,d,b,g⟩]:=⟨Sl.own (sz:=2) (n:=2) QU (Qw _) δ (by simp[DV.cells]),rfl⟩
 refine call (bQB _ 2 2 _ X hL (λx S=>by
  simp only[XI,d5,eX] at S;obtain rfl|rfl:=S;exact h.ext N;exact E.ext N)) ?_
 rintro v Y ⟨rfl,QH⟩;have r:=J.trans QH;have y:=s.trans r;have F:=K.ext r;have R:cg [(⟨A,n,c,a,f⟩:DV),⟨B,m,d,b,g⟩]=if XN a f≠0 then XN a f else if XN b g≠0 then XN b g else 0:=rfl
 refine Ya (λl=>?_) λl=>?_;have e:dD a f b g o=(([],0),cg [(⟨A,n,c,a,f⟩:DV),⟨B,m,d,b,g⟩]):=by rw[R] at l ⊢;unfold dD;split;rfl;rename_i j;rw[φ j] at l;split;rfl;rename_i vL;rw[φ vL] at l;exact Xg rfl l
 rw[e];refine Qo F λw6 Vg _ Xi=>?_;have Kf:Mod (·=V.heap.size) Y w6:=vQB Vg rfl;refine Qm Xi ?_;exact⟨none,0,0,rfl,Kf.ext y (λi p=>by have:=z.size;have:=t.size;omega),SlS.nil _,λi ⟨_,e,_⟩=>by cases e⟩;rw[R] at l;have u:XN a f=0:=by by_cases j:XN a f=0;exact j;rw[Qf j] at l;exact l
 have D:XN b g=0:=by rw[φ λj=>j u] at l;by_cases j:XN b g=0;exact j;rw[Qf j] at l;exact l
 obtain⟨sa,G⟩:=gM.1 u;obtain⟨sb,H⟩:=gM.1 D;have e:dD a f b g o=ei (Wg a f b g o):=by unfold dD;rw[φ λj=>j u,φ λj=>j D]
 rw[e];refine Qm (I.ext r) (Qm (U.ext r) ?_);have L:=hl u D;refine call (NE A n c a f B m d b g o Y (h.ext y) (E.ext y) G.dok H.dok G.2.1 (by have:=G.2.2.1;omega) H.2.1 (by have:=H.2.2.1;omega) ω ω L.1 L.2 ho) ?_;rintro v w6 ⟨OA,k,oc,rfl,Q7,iv,dN⟩;have M:=r.trans Q7;have XJ:=s.trans M;have fQG:=r.size;have Z:=s.size;refine call (bQx OA k oc _ _ W w6 iv (λi p=>by have:=dN i p;omega) M) ?_;rintro v w7 ⟨PA,q,pc,rfl,O,T,P⟩;refine Qo (K.ext O) λw8 Vi _ XP=>?_;have Q:Mod (·=V.heap.size) w7 w8:=vQB Vi rfl;refine Qm XP ?_;refine⟨PA,q,pc,rfl,Q.ext (s.trans O) (λi p=>by have:=z.size;have:=t.size;omega),⟨T.1.modS Q (λ_ i p e=>by have:=P i p;omega),T.2⟩,λi p=>by have:=P i p;omega⟩
end
section
def gQ (a:χ Br):Nat->Int->(Nat->Bool)->Bool|0,n,_=>decide (n=1)|m+1,n,e=>if n<2 then decide (n=1)else match a[(n-2).toNat]? with|none=>false|some b=>if e b.v.toNat then gQ a m b.h e else gQ a m b.l e
def ev (a:χ Br)(n:Int)(e:Nat->Bool):Bool:=gQ a n.toNat n e
theorem pB {a:χ Br}{m:Nat}{n:Int}{e:Nat->Bool}(h:n<2):gQ a m n e=decide (n=1):=by cases m with|zero=>rfl|succ m=>rw[gQ,Qf h]
theorem Ge {c:χ Br}(f:dB c):∀(m a:Nat)(n:Int)(e:Nat->Bool),n<=m->n<=a->gQ c m n e=gQ c a n e
 |0,a,n,e,h,_=>by rw[pB ω,pB ω]|m+1,0,n,e,_,h=>by rw[pB ω,pB ω]
 |m+1,a+1,n,e,h,d=>by by_cases d:n<2;rw[pB d,pB d];rw[gQ,gQ,φ d,φ d];cases d:c[(n-2).toNat]? with|none=>rfl|some b=>obtain⟨c,g,i,j⟩:=f _ _ d;simp only;rw[Ge f m a b.h e ω ω,Ge f m a b.l e ω ω]
theorem VY {a:χ Br}{n:Int}{e:Nat->Bool}(h:n<2):ev a n e=decide (n=1):=pB h
theorem gR {a:χ Br}(c:dB a){n:Int}{e:Nat->Bool}{b:Br}(h:¬n<2)(d:a[(n-2).toNat]? =some b):ev a n e=if e b.v.toNat then ev a b.h e else ev a b.l e:=by
 obtain⟨a,f,g,i⟩:=c _ _ d;unfold ev;obtain⟨k,a⟩:∃k,n.toNat=k+1:=⟨n.toNat-1,ω⟩
 rw[a,gQ,φ h,d];simp only;rw[Ge c k b.h.toNat b.h e ω ω,Ge c k b.l.toNat b.l e ω ω]
def Rd0 (a:χ Br):Prop:=∀(j:Nat)(b:Br),a[j]? =some b->jU a j b
theorem Rd0.wf {nd:χ Br}(h:Rd0 nd):dB nd:=λj x a=>by obtain⟨_,_,b,c,d,e,_⟩:=h j x a;exact⟨b,c,d,e⟩
theorem VD.rd0 {nd:χ Br}{r:Int}(h:VD nd r):Rd0 nd:=h.1
theorem i6 {a:χ Br}{n:Int}{b:Br}(h:¬n<2)(c:a[(n-2).toNat]? =some b):QB a n=b.v:=by unfold QB;rw[φ h,c]<;>rfl
def WZ (e:Nat->Bool)(v:Nat)(x:Bool):Nat->Bool:=λk=>if k=v then x else e k
theorem em {a:χ Br}{n:Int}(h:¬n<2)(c:n<a.length+2):∃b,a[(n-2).toNat]? =some b:=⟨_,Q6 ω⟩
theorem gS {a:χ Br}(h:Rd0 a)(v:Nat)(x:Bool)(e:Nat->Bool):∀(m:Nat)(n:Int),n.toNat<m->n<a.length+2->(v:Int)<QB a n->ev a n (WZ e v x)=ev a n e
 |0,n,a,_,_=>by omega
 |m+1,n,a,d,f=>by
  by_cases a:n<2;rw[VY a,VY a];obtain⟨b,c⟩:=em a d;obtain⟨d,g,i,j,k,l,o,p,q,r⟩:=h _ _ c;rw[i6 a c] at f;rw[gR h.wf a c,gR h.wf a c,gS h v x e m b.h ω ω ω,gS h v x e m b.l ω ω ω];have:WZ e v x b.v.toNat=e b.v.toNat:=by unfold WZ;rw[φ ω]
  rw[this]
def Eqv (a:χ Br)(n:Int)(b:χ Br)(c:Int):Prop:=∀e,ev a n e=ev b c e
theorem Eqv.symm {a b:χ Br}{n c:Int}(h:Eqv a n b c):Eqv b c a n:=λe=>(h e).symm
theorem Eqv.trans {a b c:χ Br}{n d n2:Int}(h:Eqv a n b d)(k:Eqv b d c n2):Eqv a n c n2:=λe=>(h e).trans (k e)
def Gf (b:χ Br)(m:Nat):Prop:=∀(n a:Int),0<=n->0<=a->n<m->a<m->n<b.length+2->a<b.length+2->Eqv b n b a->n=a
theorem BO {a:χ Br}(h:Rd0 a){n:Int}{b:Br}(d:¬n<2)(c:a[(n-2).toNat]? =some b)(f:n<a.length+2)(e:Nat->Bool):ev a n (WZ e b.v.toNat true)=ev a b.h e/\ev a n (WZ e b.v.toNat false)=ev a b.l e:=by
 obtain⟨a,f,g,i,j,k,l,m,o,p⟩:=h _ _ c;have a:WZ e b.v.toNat true b.v.toNat=true:=by unfold WZ;rw[Qf rfl]
 have f:WZ e b.v.toNat false b.v.toNat=false:=by unfold WZ;rw[Qf rfl]
 rw[gR h.wf d c,gR h.wf d c,a,f,Qf rfl,φ δ];exact⟨gS h _ _ _ (b.h.toNat+1) _ ω ω ω,gS h _ _ _ (b.l.toNat+1) _ ω ω ω⟩
theorem dep {a:χ Br}(h:Rd0 a){n:Int}{m:Nat}{b:Br}(d:Gf a m)(f:¬n<2)(c:a[(n-2).toNat]? =some b)(g:n<a.length+2)(i:n<=m):∃e,ev a n (WZ e b.v.toNat true)≠ev a n (WZ e b.v.toNat false):=by obtain⟨k,l,a,o,i,p,j,q,r,s⟩:=h _ _ c;refine Classical.byContradiction λk=>j ?_;refine d b.l b.h a i ω ω ω ω λe=>?_;have:=BO h f c g e;rw[<-this.1,<-this.2];refine Classical.byContradiction λa=>k ⟨e,λc=>a c.symm⟩
theorem yu {a g:χ Br}(h:Rd0 a){n c:Int}{m:Nat}(i:Gf a m)(j:n<=m)(d:n<a.length+2)(f:c<2)(k:Eqv a n g c):n<2:=by refine Classical.byContradiction λa=>?_;obtain⟨b,c⟩:=em a d;obtain⟨e,g⟩:=dep h i a c d j;apply g;rw[k,k,VY f,VY f]
theorem yv {c f:χ Br}(h:Rd0 c)(g:Rd0 f){n a:Int}{m:Nat}{b i:Br}(p:Gf c m)(q:n<=m)(r:n<c.length+2)(j:a<f.length+2)(s:¬n<2)(l:¬a<2)(o:c[(n-2).toNat]? =some b)(d:f[(a-2).toNat]? =some i)(k:Eqv c n f a):i.v<=b.v:=by refine Classical.byContradiction λc=>?_;obtain⟨e,c⟩:=dep h p s o r q;apply c;obtain⟨c,_⟩:=h _ _ o;rw[k,k,gS g _ _ _ (a.toNat+1) _ ω j (by rw[i6 l d];omega),gS g _ _ _ (a.toNat+1) _ ω j (by rw[i6 l d];omega)]
theorem bQD {a c:χ Br}(h:Rd0 a)(i:Rd0 c){n f:Int}{b g:Br}(j:n<a.length+2)(l:f<c.length+2)(m:¬n<2)(o:¬f<2)(p:a[(n-2).toNat]? =some b)(d:c[(f-2).toNat]? =some g)(k:Eqv a n c f)(q:b.v=g.v):Eqv a b.l c g.l/\Eqv a b.h c g.h:=by refine⟨λe=>?_,λe=>?_⟩;rw[<-(BO h m p j e).2,<-(BO i o d l e).2,k,q];rw[<-(BO h m p j e).1,<-(BO i o d l e).1,k,q]
theorem yw {q:χ Br}(h:Rd0 q):∀m,Gf q m
 |0=>λn l x _ z _ _ _ _=>by omega
 |m+1=>λn l x U z E j f k=>by
  have e:=yw h m;by_cases d:n<2;have c:l<2:=yu h e ω f d k.symm;have:=k λ_=>true;rw[VY d,VY c,o0] at this;omega;by_cases c:l<2;exact Xg (yu h e ω j c k) d;obtain⟨b,g⟩:=em d j;obtain⟨b',a⟩:=em c f;have A:b.v=b'.v:=Int.le_antisymm (yv h h e ω f j c d a g k.symm) (yv h h e ω j f d c g a k);obtain⟨B,C⟩:=bQD h h j f d c g a k A;obtain⟨G,H,r,I,s,J,K,t,L,T⟩:=h _ _ g;obtain⟨M,N,u,O,v,c6,P,w,Q,D⟩:=h _ _ a;have S:=e b.l b'.l r u ω ω ω ω B;have R:=e b.h b'.h s v ω ω ω ω C;have o:b=b':=by cases b;cases b';simp_all
  subst o;obtain F|p|y:=Int.lt_trichotomy n l;exact Xg (Xd (i:=(n-2).toNat) (by rw[mT ω];exact g)) w;exact p;exact Xg (Xd (i:=(l-2).toNat) (by rw[mT ω];exact a)) t
theorem inj {a:χ Br}(h:Rd0 a){n n':Int}(b:0<=n)(c:0<=n')(d:n<a.length+2)(e:n'<a.length+2)(k:Eqv a n a n'):n=n':=
 yw h (a.length+2) n n' b c ω ω d e k
structure Twin (nd ZE:List Br) (st cY:List Br×Γ):Prop where
 out:st.1=cY.1
 len:st.2.length=nd.length
 len':cY.2.length=ZE.length
 num:∀(n n':Int),¬n<2->¬n'<2->n<nd.length+2->n'<ZE.length+2->Eqv nd n ZE n'->st.2[(n-2).toNat]? =cY.2[(n'-2).toNat]?
theorem NF {g f:χ Br}(h:Rd0 g)(l:Rd0 f):∀(m o:Nat)(n n':Int)(r j:χ Br×Γ),0<=n->0<=n'->n<m->n'<o->n<g.length+2->n'<f.length+2->Eqv g n f n'->Twin g f r j->(ZM g m n r).1=(ZM f o n' j).1/\Twin g f (ZM g m n r).2 (ZM f o n' j).2
 |0,o,n,n',r,j,z,_,H,_,_,_,_,_=>by omega|m+1,0,n,n',r,j,_,z,_,H,_,_,_,_=>by omega
 |m+1,o+1,n,n',r,j,z,zr,H,EF,t,s,k,T=>by
  have I:=yw h (g.length+2);have E:=yw l (f.length+2);by_cases a:n<2;have d:n'<2:=yu l E ω s a k.symm;rw[pw a,pw d];have:=k λ_=>true;rw[VY a,VY d,o0] at this;exact⟨by simp only;omega,T⟩;have d:¬n'<2:=λU=>a (yu h I ω t U k);obtain⟨b,w⟩:=em a t;obtain⟨v,c⟩:=em d s;have y:=T.num n n' a d t s k;by_cases x:0<r.2[(n-2).toNat]?.getD 0
  rw[px a x,px d (by rw[<-y];exact x)];exact⟨by simp only;rw[y],T⟩;have Y:¬0<j.2[(n'-2).toNat]?.getD 0:=by rw[<-y];exact x
  have J:b.v=v.v:=Int.le_antisymm (yv l h E ω s t d a c w k.symm) (yv h l I ω t s a d w c k);obtain⟨W,X⟩:=bQD h l t s a d w c k J;obtain⟨b1,b2,N,b4,O,b6,b7,b8,b9,gf⟩:=h _ _ w;obtain⟨c1,c2,P,c4,Q,c6,c7,c8,c9,Dd⟩:=l _ _ c;rw[rS a x w,rS d Y c];obtain⟨R,M⟩:=NF h l m o b.l v.l r j N P ω ω ω ω W T;generalize (ZM g m b.l r)=p at*;generalize (ZM f o v.l j)=K at*;obtain⟨S,u⟩:=NF h l m o b.h v.h p.2 K.2 O Q ω ω ω ω X M;generalize (ZM g m b.h p.2)=q at*;generalize (ZM f o v.h K.2)=q' at*;have D:=u.out;refine⟨by simp only;rw[D],by simp only;rw[D,J,R,S],by rw[jL];exact u.len,by rw[jL];exact u.len',λi A V B G L C=>?_⟩;have l1:=u.len;have l2:=u.len';by_cases F:i=n;subst F;have:A=n':=inj l ω zr L s (C.symm.trans k);subst this;simp only;rw[mS ω,mS ω,D];have Z:A≠n':=λe=>by subst e;exact F (inj h ω z G t (C.trans k.symm))
  simp only;rw[jN ω,jN ω];exact u.num i A V B G L C
theorem lQo (a b:χ Br):Twin a b ([],List.replicate a.length 0) ([],List.replicate b.length 0):=
 ⟨rfl,by simp,by simp,λn a b c d e _=>by simp only;rw[List.getElem?_replicate_of_lt ω,List.getElem?_replicate_of_lt ω]⟩
theorem bQE {a b:χ Br}(h:Rd0 a)(c:Rd0 b){n n':Int}(d:0<=n)(f:0<=n')(g:n<a.length+2)(i:n'<b.length+2)(k:Eqv a n b n'):fh a n=fh b n':=by obtain⟨e,T⟩:=NF h c (n.toNat+1) (n'.toNat+1) n n' _ _ d f ω ω g i k (lQo a b);unfold fh;simp only;rw[e,T.out]
theorem VD.eqv {b c:χ Br}{r d:Int}(h:VD b r)(a:VD c d)(k:Eqv b r c d):(b,r)=(c,d):=by rw[<-h.2.2.2,<-a.2.2.2];exact bQE h.1 a.1 h.2.1 a.2.1 h.2.2.1 a.2.2.1 k
theorem NG {a:χ Br}(c:dB a)(l:χ Br):∀(m:Nat)(n:Int)(e:Nat->Bool),n<a.length+2->gQ (a++l) m n e=gQ a m n e|0,n,e,_=>rfl|m+1,n,e,f=>by by_cases a:n<2;rw[pB a,pB a];obtain⟨b,d⟩:=em a f;obtain⟨f,g,h,i⟩:=c _ _ d;rw[gQ,gQ,φ a,φ a,eW ω,d];simp only;rw[NG c l m b.h e ω,NG c l m b.l e ω]
theorem rW {a:χ Br}(b:dB a)(l:χ Br){n:Int}(c:n<a.length+2)(e:Nat->Bool):ev (a++l) n e=ev a n e:=NG b l _ n e c
theorem yx {a:χ Br}(l:χ Br){n:Int}(b:n<a.length+2):QB (a++l) n=QB a n:=by unfold QB;by_cases a:n<2;rw[Qf a,Qf a];rw[φ a,φ a,eW ω]
theorem nC {a:χ Br}{n:Int}(h:n<2):QB a n=64:=Qf h
theorem bQF {a c:χ Br}(h:Rd0 a)(d:Rd0 c){n n':Int}(e:n<a.length+2)(f:n'<c.length+2)(k:Eqv a n c n'):QB a n=QB c n':=by have I:=yw h (a.length+2);have j:=yw d (c.length+2);by_cases a:n<2;rw[nC a,nC (yu d j ω f a k.symm)];have g:¬n'<2:=λc=>a (yu h I ω e c k);obtain⟨b,i⟩:=em a e;obtain⟨l,c⟩:=em g f;rw[i6 a i,i6 g c];exact Int.le_antisymm (yv d h j ω f e g a c i k.symm) (yv h d I ω e f a g i c k)
theorem Rd0.snoc {a:χ Br}(h:Rd0 a){b:Br}(d:jU (a++ [b]) a.length b):Rd0 (a++ [b]):=by
 intro j x c;by_cases e:j<a.length;rw[eW e] at c;obtain⟨e,f,g,i,k,l,m,n,o,p⟩:=h _ _ c;exact⟨e,f,g,i,k,l,m,by rw[Fj ω];exact n,by rw[yx _ ω];exact o,by rw[yx _ ω];exact p⟩;have e:=(ZK.1 c).1;simp at e;have:j=a.length:=by omega
 subst this;rw[aZ (Qw _)] at c;simp at c;subst c;exact d
theorem bQG {a:χ Br}{b:Br}(e:0<=b.v)(f:b.v<=63)(g:0<=b.l)(c:b.l<a.length+2)(h:0<=b.h)(d:b.h<a.length+2)(i:b.l≠b.h)(j:b∉a)(k:b.v<QB a b.l)(l:b.v<QB a b.h):jU (a++ [b]) a.length b:=
 ⟨e,f,g,c,h,d,i,by rw[Fj (Qw _),ry];exact j,by rw[yx _ c];exact k,by rw[yx _ d];exact l⟩
structure Wi (nd:List Br) (st:List Br×Γ):Prop where
 rd:Rd0 st.1
 len:st.2.length=nd.length
 num:∀k m:Nat,st.2[k]? =some m->0<m->2<=m/\m<st.1.length+2/\Eqv st.1 (m:Int) nd ((k:Int)+2)
 sur:∀j:Nat,j<st.1.length->∃k:Nat,st.2[k]? =some (j+2)
theorem Wi.start (a:χ Br):Wi a ([],List.replicate a.length 0):=
 ⟨λj b a=>by simp at a,by simp,λk m c d=>by
  have:=Fi (Xd c);omega,λj a=>by simp at a⟩
theorem NH {a:χ Br}(h:Rd0 a):∀(m:Nat)(n:Int)(c:χ Br×Γ),0<=n->n<m->n<a.length+2->Wi a c->Wi a (ZM a m n c).2/\0<=(ZM a m n c).1/\(ZM a m n c).1<(ZM a m n c).2.1.length+2/\Eqv (ZM a m n c).2.1 (ZM a m n c).1 a n/\∃l,(ZM a m n c).2.1=c.1++l
 |0,n,c,u,d,_,_=>by omega
 |m+1,n,c,u,d,C,W=>by
  by_cases g:n<2;rw[pw g];exact⟨W,u,by simp only;omega,λe=>by rw[VY g,VY g],[],by simp⟩;have A:(n-2).toNat<c.2.length:=by have:=W.len;omega
  by_cases f:0<c.2[(n-2).toNat]?.getD 0;rw[px g f];have o:=Q6 A;rw[o] at f ⊢;simp only[kR] at f ⊢;obtain⟨D,s,r⟩:=W.num _ _ o f;have d:(((n-2).toNat:Nat):Int)+2=n:=by omega
  rw[d] at r;exact⟨W,ω,ω,r,[],by simp⟩;obtain⟨b,v⟩:=em g C;obtain⟨F,G,w,d,x,t,H,y,I,J⟩:=h _ _ v;have B:=py h.wf m b.l c w ω ω W.len;rw[rS g f v];obtain⟨y,K,L,M,N,O⟩:=NH h m b.l c w ω ω W;generalize (ZM a m b.l c)=p at*;have c:=py h.wf m b.h p.2 x ω ω y.len;obtain⟨d,D,s,r,E,z⟩:=NH h m b.h p.2 x ω ω y;generalize (ZM a m b.h p.2)=q at*;have t:q.2.2[(n-2).toNat]? =some 0:=by rw[c.keep _ ω,B.keep _ ω];have o:=Q6 A;rw[o] at f ⊢;simp only[kR] at f;congr 1;omega
  have o:=d.rd;have A:p.1<q.2.1.length+2:=by rw[z,Qy];omega
  have B:Eqv q.2.1 p.1 a b.l:=λe=>by rw[z,rW y.rd.wf E L];exact M e
  have y:p.1≠q.1:=λe=>H (inj h w x ω ω (B.symm.trans (by rw[e];exact r)));have w:=bQF o h A ω B;have x:=bQF o h s ω r;have f:∀c,Rd0 c->∀(i:Int),¬i<2->c[(i-2).toNat]? =some ⟨b.v,p.1,q.1⟩->(∀e,ev c p.1 e=ev q.2.1 p.1 e)->(∀e,ev c q.1 e=ev q.2.1 q.1 e)->Eqv c i a n:=λc H i L M P Q e=>by rw[gR H.wf L M,gR h.wf g v];simp only;rw[P,Q,B e,r e]
  have B:(⟨b.v,p.1,q.1⟩:Br)∉q.2.1:=λc=>by
   obtain⟨j,g,r⟩:=xU.1 c;obtain⟨k,c⟩:=d.sur j g;obtain⟨_,_,v⟩:=d.num k _ c ω;have H:=f q.2.1 o ((j+2:Nat):Int) ω (by rw[show(((j+2:Nat):Int)-2).toNat=j by omega,Q6 g,r]) (λ_=>rfl) λ_=>rfl;have r:=(ZK.1 c).1;have r:=d.len;have:=inj h (n:=(k:Int)+2) (n':=n) ω u ω C (v.symm.trans H);have r:(n-2).toNat=k:=by omega
   rw[r,c] at t;cases t
  have u:Rd0 (q.2.1++ [⟨b.v,p.1,q.1⟩]):=o.snoc (bQG F G K A D s y B (by rw[w];exact I) (by rw[x];exact J));have w:Eqv (q.2.1++ [⟨b.v,p.1,q.1⟩]) ((q.2.1.length+2:Nat):Int) a n:=f _ u _ ω (by
   rw[show(((q.2.1.length+2:Nat):Int)-2).toNat=q.2.1.length by omega,aZ (Qw _)];simp) (λe=>rW o.wf _ A e) λe=>rW o.wf _ s e
  refine⟨⟨u,by rw[jL];exact d.len,λk a c f=>?_,λj g=>?_⟩,ω,by simp only[Qy,Xa,Jz];omega,w,N++(E++ [⟨b.v,p.1,q.1⟩]),by simp only;rw[z,O];simp⟩;simp only at c ⊢;by_cases r:(n-2).toNat=k;subst r;rw[mS (by have:=d.len;omega)] at c;cases c;refine⟨ω,by simp,?_⟩;rw[show(((n-2).toNat:Nat):Int)+2=n by omega];exact w;rw[jN r] at c;obtain⟨r,s,v⟩:=d.num k a c f;exact⟨r,by simp;omega,λe=>by rw[rW o.wf _ ω];exact v e⟩;simp only[Qy,Xa,Jz] at g;by_cases a:j<q.2.1.length;obtain⟨k,c⟩:=d.sur j a;refine⟨k,?_⟩;simp only;rw[jN λe=>by rw[e,c] at t;cases t];exact c;have:j=q.2.1.length:=by omega
  subst this;exact⟨(n-2).toNat,by simp only;rw[mS (by have:=d.len;omega)]⟩
theorem lQp {b:χ Br}(h:Rd0 b){r:Int}(e:0<=r)(g:r<b.length+2):VD (fh b r).1 (fh b r).2/\Eqv (fh b r).1 (fh b r).2 b r/\(fh b r).1.length<=b.length:=by obtain⟨W,i,c,d,_⟩:=NH h (r.toNat+1) r _ e ω g (Wi.start b);have f:=(py h.wf (r.toNat+1) r _ e ω g (Wi.start b).len).cnt;have j:(fh b r).1=(ZM b (r.toNat+1) r ([],List.replicate b.length 0)).2.1:=rfl;have k:(fh b r).2=(ZM b (r.toNat+1) r ([],List.replicate b.length 0)).1:=rfl;rw[<-j] at d c f;rw[<-k] at d c i;have j:Rd0 (fh b r).1:=W.rd;refine⟨⟨j,i,c,?_⟩,d,?_⟩;rw[bQE j h i e c g d];have:=Fk (a:=0) (l:=List.replicate b.length 0);simp at this f;omega
end
section
theorem bQH {b:Br}:∀{l:χ Br}{i:Nat},VX b l=some i->l[i]? =some b
 |[],i,h=>by cases h
 |x::l,i,h=>by
  unfold VX at h;split at h;rename_i c;cases h;simp[c];cases a:VX b l with
  |none=>rw[a] at h;cases h
  |some k=>rw[a] at h;cases h;simpa using bQH a
theorem bQI {b:Br}:∀{l:χ Br},VX b l=none->b∉l
 |[],_=>by simp
 |x::l,h=>by
  unfold VX at h;split at h;cases h;rename_i c;cases a:VX b l with
  |some k=>rw[a] at h;cases h
  |none=>simp only[XI,not_or];exact⟨λe=>c e.symm,bQI a⟩
structure UniqOk (nd:List Br) (b:Br) (r:List Br×Int):Prop where
 rd:Rd0 r.1
 pos:0<=r.2
 lt:r.2<r.1.length+2
 mean:∀e,ev r.1 r.2 e=if e b.v.toNat then ev nd b.h e else ev nd b.l e
 lvl:b.v<=QB r.1 r.2
 ext:∃l,r.1=nd++l
theorem lQq {a:χ Br}(h:Rd0 a){b:Br}(o:0<=b.v)(p:b.v<=63)(g:0<=b.l)(f:b.l<a.length+2)(q:0<=b.h)(j:b.h<a.length+2)(r:b.v<QB a b.l)(s:b.v<QB a b.h):UniqOk a b (Kc b a):=by
 unfold Kc;split;rename_i t;exact⟨h,g,f,λe=>by simp only;rw[<-t];split<;>rfl,by simp only;omega,[],by simp⟩;rename_i m;split;rename_i i u;have l:=bQH u;have w:=(ZK.1 l).1;have c:a[(((i+2:Nat):Int)-2).toNat]? =some b:=by rw[show(((i+2:Nat):Int)-2).toNat=i by omega];exact l
 have d:¬(((i+2:Nat):Int)<2):=by omega
 exact⟨h,by simp only;omega,by simp only;omega,λe=>gR h.wf d c,by simp only;rw[i6 d c];exact rB _,[],by simp⟩;rename_i v;have n:=bQG o p g f q j m (bQI v) r s;have k:=h.snoc n;have c:(a++ [b])[(((a.length+2:Nat):Int)-2).toNat]? =some b:=by rw[show(((a.length+2:Nat):Int)-2).toNat=a.length by omega,aZ (Qw _)];simp
 have d:¬(((a.length+2:Nat):Int)<2):=by omega
 exact⟨k,by simp only;omega,by simp only[Qy,Xa,Jz];omega,λe=>by simp only;rw[gR k.wf d c,rW h.wf _ j,rW h.wf _ f],by simp only;rw[i6 d c];exact rB _,[b],rfl⟩
theorem Rd0.dok {nd:χ Br}(h:Rd0 nd):bu nd:=⟨h.wf,λj b a=>⟨(h j b a).1,(h j b a).2.1⟩⟩
theorem yy {a:χ Br}(h:Rd0 a){n v:Int}(_:0<=n)(g:n<a.length+2)(y:v<=QB a n)(l:v<64):(∀e,ev a n e=if e v.toNat then ev a (Qv a n v).2 e else ev a (Qv a n v).1 e)/\v<QB a (Qv a n v).1/\v<QB a (Qv a n v).2/\(Qv a n v).1<a.length+2/\(Qv a n v).2<a.length+2:=by
 unfold Qv;split;rename_i k;exact⟨λe=>by simp,by simp only;omega,by simp only;omega,g,g⟩;rename_i f;have f:=Decidable.not_not.1 f;have d:¬n<2:=λi=>by rw[nC i] at f;omega
 obtain⟨b,c⟩:=em d g;obtain⟨m,o,p,q,r,s,t,u,w,x⟩:=h _ _ c;have j:=i6 d c;simp only[c];exact⟨λe=>by rw[gR h.wf d c,show v=b.v by omega],ω,ω,ω,ω⟩
def J5 (a:Int)(x y:Bool):Bool:=if a=0 then x&&y else if a=1 then x||y else if a=3 then !x else if a=4 then !x&&y else x !=y
theorem bQJ {op x y:Int}(a:0<=x)(b:x<2)(c:0<=y)(d:y<2):decide (gP op x y=1)=J5 op (decide (x=1)) (decide (y=1)):=by unfold gP J5;obtain rfl|rfl:=(by omega:x=0∨x=1) <;>obtain rfl|rfl:=(by omega:y=0∨y=1) <;>(split<;>first|rfl|(split<;>first|rfl|(split<;>first|rfl|(split<;>rfl))))
structure At2I (a b:List Br) (op:Int) (st:List Br×List Tr3):Prop where
 rd:Rd0 st.1
 seen:∀t∈st.2,0<=t.2.2/\t.2.2<st.1.length+2/\(∀e,ev st.1 t.2.2 e=J5 op (ev a t.1 e) (ev b t.2.1 e))/\min (QB a t.1) (QB b t.2.1)<=QB st.1 t.2.2
structure At2R (a b:List Br) (op:Int) (x y:Int) (st:List Br×List Tr3) (r:Int×(List Br×List Tr3)):Prop where
 inv:At2I a b op r.2
 pos:0<=r.1
 lt:r.1<r.2.1.length+2
 mean:∀e,ev r.2.1 r.1 e=J5 op (ev a x e) (ev b y e)
 lvl:min (QB a x) (QB b y)<=QB r.2.1 r.1
 ext:∃l,r.2.1=st.1++l
theorem At2I.ext {a b:χ Br}{d:Int}{f:χ Br}{s:χ Tr3}(h:At2I a b d (f,s)){c:χ Br}(g:Rd0 c)(i:∃l,c=f++l):At2I a b d (c,s):=by obtain⟨l,rfl⟩:=i;refine⟨g,λt d=>?_⟩;obtain⟨f,c,g,i⟩:=h.seen t d;exact⟨f,by simp only at c ⊢;rw[Qy];omega,λe=>by rw[rW h.rd.wf l c];exact g e,by rw[yx l c];exact i⟩
theorem NI {a b:χ Br}(p:Rd0 a)(q:Rd0 b)(op:Int):∀(m:Nat)(x y:Int)(l:χ Br×χ Tr3),At2I a b op l->0<=x->0<=y->x+y<m->x<a.length+2->y<b.length+2->At2R a b op x y l (Zh a b op m x y l)
 |0,x,y,l,_,_,_,hm,_,_=>by omega
 |m+1,x,y,l,h,F,G,hm,Q,R=>by
  by_cases g:x<2/\y<2;rw[rT g];have I:=ND (op:=op) F g.1 G g.2;refine⟨h,I.1,by simp only;omega,λe=>?_,?_,[],by simp⟩;simp only;rw[VY I.2,VY g.1,VY g.2];exact bQJ F g.1 G g.2;simp only;rw[nC I.2,nC g.1];omega;cases k:l.2.find? (λt=>decide (t.1=x/\t.2.1=y))with|some t=>rw[rU g k];have O:=List.find?_some k;simp only[YX] at O;obtain⟨rfl,rfl⟩:=O;obtain⟨h1,w,h3,h4⟩:=h.seen t (hQp k);exact⟨h,h1,w,h3,h4,[],by simp⟩|none=>
   have D:min (QB a x) (QB b y)<64:=by
    by_cases c:x<2;have:=fi q.dok (n:=y) (λX=>g ⟨c,X⟩) ω;rw[KG];split<;>omega
    have:=fi p.dok (n:=x) c ω;rw[KG];split<;>omega
   have iw:0<=min (QB a x) (QB b y):=by
    have A:∀{d:χ Br},Rd0 d->∀{n:Int},n<d.length+2->0<=QB d n:=λ{d} hd {n} hn=>by by_cases w:n<2;rw[nC w];omega;obtain⟨z,S⟩:=em w hn;rw[i6 w S];exact(hd _ _ S).1
    have p1:=A p Q;have p2:=A q R;rw[KG];split<;>omega
   rw[rV g k _ rfl];have iO:QB a x=min (QB a x) (QB b y)∨QB b y=min (QB a x) (QB b y):=by rw[KG];split<;>simp
   have T:min (QB a x) (QB b y)<=QB a x:=Int.min_le_left _ _;have H:min (QB a x) (QB b y)<=QB b y:=Int.min_le_right _ _;have tL:At2I a b op l->min (QB a x) (QB b y)<=min (QB a x) (QB b y):=λ_=>rB _;generalize P:min (QB a x) (QB b y)=v at*;obtain⟨s1,s2,s3,s4,s5⟩:=dC p.dok (n:=x) F D;obtain⟨t1,t2,t3,t4,t5⟩:=dC q.dok (n:=y) G D;obtain⟨u1,u2,u3,u4,u5⟩:=yy p F Q T D;obtain⟨z1,z2,z3,z4,z5⟩:=yy q G R H D;have r:(Qv a x v).1+(Qv b y v).1<m/\(Qv a x v).2+(Qv b y v).2<m:=by obtain e|e:=iO;have:=s5 e;omega;have:=t5 e;omega
   have j:=NI p q op m _ _ l h s1 t1 r.1 u4 z4;generalize (Zh a b op m (Qv a x v).1 (Qv b y v).1 l)=f at*;have o:=NI p q op m _ _ f.2 j.inv s3 t3 r.2 u5 z5;generalize (Zh a b op m (Qv a x v).2 (Qv b y v).2 f.2)=i at*;obtain⟨l1,W⟩:=j.ext;obtain⟨K,C⟩:=o.ext;have B:f.1<i.2.1.length+2:=by rw[C,Qy];have:=j.lt;omega
   have M:∀e,ev i.2.1 f.1 e=ev f.2.1 f.1 e:=λe=>by rw[C,rW j.inv.rd.wf K j.lt]
   have L:QB i.2.1 f.1=QB f.2.1 f.1:=by rw[C,yx K j.lt]
   have Y:v<QB i.2.1 f.1:=by rw[L];have:=j.lvl;rw[KG] at this;split at this<;>omega
   have Z:v<QB i.2.1 i.1:=by have:=o.lvl;rw[KG] at this;split at this<;>omega
   have U:=lQq o.inv.rd (b:=⟨v,f.1,i.1⟩) iw (by simp only;omega) j.pos B o.pos o.lt Y Z;have V:=U.ext;have hI:=At2I.ext (s:=i.2.2) o.inv U.rd U.ext;generalize Kc ⟨v,f.1,i.1⟩ i.2.1=u at*;have N:∀e,ev u.1 u.2 e=J5 op (ev a x e) (ev b y e):=λe=>by rw[U.mean e,u1 e,z1 e];simp only;split;exact o.mean e;rw[M e];exact j.mean e
   refine⟨⟨U.rd,λt E=>?_⟩,U.pos,U.lt,N,by rw[P];exact U.lvl,?_⟩;simp only[X2,Xx] at E;obtain E|rfl:=E;exact hI.seen t E;exact⟨U.pos,U.lt,N,by rw[P];exact U.lvl⟩;obtain⟨l3,J⟩:=V;exact⟨l1++(K++l3),by simp only;rw[J,C,W];simp⟩
theorem bQK:∀(N:Nat)(l:Γ),l.Nodup->(∀x∈l,x<N)->l.length<=N
 |0,l,_,h=>by
  cases l with
  |nil=>simp
  |cons x l=>have:=h x (by simp);omega
 |N+1,l,a,h=>by
  have c:=bQK N (l.filter λx=>decide (x≠N)) (a.filter _) (λx b=>by
   rw[VE,YX] at b;have:=h x b.1;omega)
  have b:l.length=(l.filter λx=>decide (x≠N)).length+l.count N:=by clear h c a;induction l with|nil=>rfl|cons x l b=>by_cases e:x=N;subst e;rw[List.filter_cons_of_neg (by simp),List.count_cons_self,Xa];omega;rw[List.filter_cons_of_pos (by simpa using e),U4 e,Xa,Xa];omega
  have b:=List.nodup_iff_count.1 a N;omega
def NJ (M:Nat)(t:Tr3):Nat:=t.1.toNat*M+t.2.1.toNat
structure At2B (n m:Nat) (st:List Br×List Tr3):Prop where
 rng:∀t∈st.2,0<=t.1/\t.1<n/\0<=t.2.1/\t.2.1<m
 nod:(st.2.map (NJ m)).Nodup
 le:st.1.length<=st.2.length
theorem At2B.bound {n m:Nat}{a:χ Br×χ Tr3}(h:At2B n m a):a.2.length<=n*m/\a.1.length<=n*m:=by
 have:=bQK (n*m) _ h.nod (λx a=>by
  simp only[Z5] at a;obtain⟨t,b,rfl⟩:=a;obtain⟨a,c,d,e⟩:=h.rng t b;unfold NJ;have:(t.1.toNat+1)*m<=n*m:=aY _ ω;rw[xR] at this;omega)
 rw[JS] at this;exact⟨this,XU h.le this⟩
theorem lQr {m:Nat}{x y x' y':Nat}(a:y<m)(b:y'<m)(h:x*m+y=x'*m+y'):x=x'/\y=y':=by
 have c:x=x':=by
  have d:(x*m+y)/m=x:=by rw[AN,Nat.mul_add_div ω,Nat.div_eq_of_lt a]<;>rfl
  have a:(x'*m+y')/m=x':=by rw[AN,Nat.mul_add_div ω,Nat.div_eq_of_lt b]<;>rfl
  rw[<-d,<-a,h]
 subst c;exact⟨rfl,ω⟩
theorem NK {a b:χ Br}(j:bu a)(l:bu b)(i:Int):∀(f:Nat)(x y:Int)(g:χ Br×χ Tr3),At2B (a.length+2) (b.length+2) g->0<=x->0<=y->x+y<f->x<a.length+2->y<b.length+2->At2B (a.length+2) (b.length+2) (Zh a b i f x y g).2/\(∀t∈(Zh a b i f x y g).2.2,t∈g.2∨t.1+t.2.1<=x+y)
 |0,x,y,g,_,_,_,d,_,_=>by omega
 |f+1,x,y,g,h,s,u,d,o,r=>by
  by_cases o:x<2/\y<2;rw[rT o];exact⟨h,λt d=>.inl d⟩;cases k:g.2.find? (λt=>decide (t.1=x/\t.2.1=y))with|some t=>rw[rU o k];exact⟨h,λt d=>.inl d⟩|none=>
   have r:min (QB a x) (QB b y)<64:=by
    by_cases c:x<2;have:=fi l (n:=y) (λw=>o ⟨c,w⟩) ω;rw[KG];split<;>omega
    have:=fi j (n:=x) c ω;rw[KG];split<;>omega
   rw[rV o k _ rfl];have o:QB a x=min (QB a x) (QB b y)∨QB b y=min (QB a x) (QB b y):=by rw[KG];split<;>simp
   generalize min (QB a x) (QB b y)=v at*;obtain⟨z,B,A,C,w⟩:=dC j (n:=x) s r;obtain⟨B,E,C,F,D⟩:=dC l (n:=y) u r;have r:(Qv a x v).1+(Qv b y v).1<x+y/\(Qv a x v).2+(Qv b y v).2<x+y:=by obtain e|e:=o;have:=w e;omega;have:=D e;omega
   obtain⟨D,w⟩:=NK j l i f _ _ g h z B ω ω ω;generalize (Zh a b i f (Qv a x v).1 (Qv b y v).1 g)=r at*;obtain⟨o,z⟩:=NK j l i f _ _ r.2 D A C ω ω ω;generalize (Zh a b i f (Qv a x v).2 (Qv b y v).2 r.2)=g at*;have i:(Kc ⟨v,r.1,g.1⟩ g.2.1).1.length<=g.2.1.length+1:=by unfold Kc;split;exact Nat.le_succ _;split;exact Nat.le_succ _;simp
   have r:∀t∈g.2.2,¬(t.1=x/\t.2.1=y):=λt d j=>by obtain g|g:=z t d;obtain i|i:=w t g;have:=My.1 k t i;simp at this;exact this j.1 j.2;omega;omega
   refine⟨⟨λt d=>?_,?_,?_⟩,λt d=>?_⟩;simp only[X2,Xx] at d;obtain d|rfl:=d;exact o.rng t d;exact⟨s,by simp only;omega,u,by simp only;omega⟩;simp only[fL,YD,List.map_nil];rw[Mv];refine⟨o.nod,by simp,λp j q l e=>?_⟩;simp only[Xx] at l;subst l;subst e;simp only[Z5] at j;obtain⟨t,d,l⟩:=j;obtain⟨j,s,u,A⟩:=o.rng t d;unfold NJ at l;have:=lQr (m:=b.length+2) ω (by simp only;omega) l;simp only at this;exact r t d ⟨ω,ω⟩;simp only[Qy,Xa,Jz];have:=o.le;omega;simp only[X2,Xx] at d;obtain d|rfl:=d;obtain g|g:=z t d;obtain i|i:=w t g;exact .inl i;exact .inr ω;exact .inr ω;exact .inr (by simp only;omega)
theorem yz {a b:χ Br}{c d:Int}(e:VD a c)(f:VD b d)(g:Int):(nA a c b d g).2.2.length<=(a.length+2)*(b.length+2)/\(nA a c b d g).2.1.length<=(a.length+2)*(b.length+2):=
 (NK e.dok f.dok g (c.toNat+d.toNat+1) c d ([],[]) ⟨λt h=>by simp at h,by simp,Qw _⟩ e.2.1 f.2.1 (by have:=e.2.1;have:=f.2.1;omega) e.2.2.1 f.2.2.1).1.bound
theorem lQs {a b:χ Br}{c d:Int}(g:VD a c)(h:VD b d)(f:Int):VD (Wg a c b d f).1 (Wg a c b d f).2/\∀e,ev (Wg a c b d f).1 (Wg a c b d f).2 e=J5 f (ev a c e) (ev b d e):=by have R:=NI g.rd0 h.rd0 f (c.toNat+d.toNat+1) c d ([],[]) ⟨λj x i=>by simp at i,λt c=>by simp at c⟩ g.2.1 h.2.1 (by have:=g.2.1;have:=h.2.1;omega) g.2.2.1 h.2.2.1;obtain⟨c,d,f⟩:=lQp R.inv.rd R.pos R.lt;exact⟨c,λe=>(d e).trans (R.mean e)⟩
end
end
section
section
def YI:Nat->Γ->Λ×Bool
 |0,_=>([],true)|_+1,[]=>([],true)
 |n+1,b::l=>
  if b=32∨b=9 then YI n l
  else if b=40∨b=41∨b=33 then([b]::(YI n l).1,(YI n l).2)
  else if(b=38∨b=124)/\l.head? =some b then([b,b]::(YI n l.tail).1,(YI n l.tail).2)
  else if Yb b then((b::l).takeWhile Zr::(YI n ((b::l).dropWhile Zr)).1,(YI n ((b::l).dropWhile Zr)).2)
  else([],false)
def X9 (l:Γ):Λ×Bool:=YI l.length l
theorem uX {b:Nat}(h:Yb b=true):Zr b=true:=by unfold Zr;rw[h]<;>rfl
theorem Gg {b:Nat}{l:Γ}(h:Yb b=true):(b::l).dropWhile Zr=l.dropWhile Zr:=by rw[uv,Qf (uX h)]
theorem BP (p:Nat->Bool)(l:Γ):(l.dropWhile p).length<=l.length:=(UX p).length_le
theorem BQ:∀(n m:Nat)(l:Γ),l.length<=n->l.length<=m->YI n l=YI m l|n,m,[],_,_=>by cases n<;>cases m<;>rfl|0,_,b::l,h,_=>by simp at h|_+1,0,b::l,_,h=>by simp at h|n+1,m+1,b::l,h,h'=>by simp only[Xa] at h h';have a:=BQ n m l ω ω;have c:=BQ n m l.tail (by rw[AO];omega) (by rw[AO];omega);have f:=BP Zr l;have d:=BQ n m (l.dropWhile Zr) ω ω;simp only[YI];split;exact a;split;rw[a];split;rw[c];split;rename_i e;rw[Gg e,d];rfl
theorem BR:X9 []=([],true):=rfl
theorem bQL {b:Nat}{l:Γ}(h:b=32∨b=9):X9 (b::l)=X9 l:=by show YI (l.length+1) (b::l)=_;rw[YI,Qf h]<;>rfl
theorem yA {b:Nat}{l:Γ}(h:b=40∨b=41∨b=33):X9 (b::l)=([b]::(X9 l).1,(X9 l).2):=by show YI (l.length+1) (b::l)=_;rw[YI,φ ω,Qf h]<;>rfl
theorem yB {b:Nat}{l:Γ}(h:b=38∨b=124):X9 (b::b::l)=([b,b]::(X9 l).1,(X9 l).2):=by show YI ((b::l).length+1) (b::b::l)=_;rw[YI,φ ω,φ ω,Qf ⟨h,rfl⟩];have:=BQ (b::l).length l.length l (by simp) (Qw _);rw[show(b::l).tail=l from rfl,this]<;>rfl
theorem BT {b:Nat}{l:Γ}(h:Yb b=true):X9 (b::l)=((b::l).takeWhile Zr::(X9 ((b::l).dropWhile Zr)).1,(X9 ((b::l).dropWhile Zr)).2):=by
 have a:b=95∨(97<=b/\b<=122)∨(65<=b/\b<=90):=by unfold Yb at h;simp at h;omega
 show YI (l.length+1) (b::l)=_;rw[YI,φ ω,φ ω,φ ω,Qf h,Gg h];have:=BQ l.length (l.dropWhile Zr).length (l.dropWhile Zr) (BP _ _) (Qw _);rw[this]<;>rfl
theorem BU {b:Nat}{l:Γ}(a:¬(b=32∨b=9))(c:¬(b=40∨b=41∨b=33))(d:¬((b=38∨b=124)/\l.head? =some b))(e:Yb b=false):X9 (b::l)=([],false):=by show YI (l.length+1) (b::l)=_;rw[YI,φ a,φ c,φ d,φ (by rw[e];decide)]
theorem uY (l:Γ):X9 (Js l)=X9 l:=by induction l with|nil=>rfl|cons b l a=>unfold Js at*;rw[uv];split;rename_i h;rw[a,bQL];simpa using h;rfl
theorem BV {l:Γ}{b:Nat}{r:Γ}(h:Js l=b::r):¬(b=32∨b=9):=by
 unfold Js at h;induction l with
 |nil=>cases h
 |cons x l c=>rw[uv] at h;split at h;exact c h;rename_i a;cases h;simpa using a
theorem NL {b:Nat}(e:b=40∨b=41∨b=33)(p:Ps):match Vc [b] p with|(true,a)=>X9 p.r=([b]::(X9 a.r).1,(X9 a.r).2)/\a.f=p.f/\a.u=p.u/\a.r.length<p.r.length|(false,a)=>(X9 p.r).1.head? ≠some [b]/\a={p with r:=Js p.r}:=by
 have a:=uY p.r;have d:=yk p.r;rw[Bw];cases c:Js p.r with|nil=>rw[c] at a;simp only[List.isPrefixOf];refine⟨?_,by simp⟩;rw[<-a];simp[BR]|cons x r=>
  have f:=BV c;rw[c] at a d;by_cases c:x=b;subst c;simp only[List.isPrefixOf,beq_self_eq_true,YF];refine⟨by rw[<-a,yA e];simp,trivial,trivial,by simp at d ⊢;omega⟩;have: [b].isPrefixOf (x::r)=false:=by simp[List.isPrefixOf,Ne.symm c]
  rw[this];simp only;refine⟨λh=>?_,by simp⟩;rw[<-a] at h;by_cases e:x=40∨x=41∨x=33;rw[yA e] at h;simp at h;exact c h;by_cases a:(x=38∨x=124)/\r.head? =some x;cases r with|nil=>simp at a|cons y r=>simp at a;obtain⟨a,rfl⟩:=a;rw[yB a] at h;simp at h
  by_cases d:Yb x=true;rw[BT d,cI,Qf (uX d)] at h;simp at h;exact c h.1;rw[BU f e a (by simpa using d)] at h;simp at h
theorem Gh {b:Nat}(e:b=38∨b=124)(p:Ps):match Vc [b,b] p with|(true,a)=>X9 p.r=([b,b]::(X9 a.r).1,(X9 a.r).2)/\a.f=p.f/\a.u=p.u/\a.r.length<p.r.length|(false,a)=>(X9 p.r).1.head? ≠some [b,b]/\a={p with r:=Js p.r}:=by
 have a:=uY p.r;have f:=yk p.r;rw[Bw];cases c:Js p.r with|nil=>rw[c] at a;simp only[List.isPrefixOf];refine⟨?_,by simp⟩;rw[<-a];simp[BR]|cons x r=>
  have g:=BV c;rw[c] at a f;by_cases c:x=b/\r.head? =some b;obtain⟨rfl,d⟩:=c;cases r with|nil=>simp at d|cons y r=>simp at d;subst d;simp only[List.isPrefixOf,beq_self_eq_true,YF];refine⟨by rw[<-a,yB e];simp,trivial,trivial,by simp at f ⊢;omega⟩
  have: [b,b].isPrefixOf (x::r)=false:=by rw[<-Mz];intro h;cases r with|nil=>simp[List.isPrefixOf] at h|cons y r=>simp[List.isPrefixOf] at h;exact c ⟨h.1.symm,by simp[h.2]⟩
  rw[this];simp only;refine⟨λh=>?_,by simp⟩;rw[<-a] at h;by_cases d:x=40∨x=41∨x=33;rw[yA d] at h;simp at h;by_cases a:(x=38∨x=124)/\r.head? =some x;cases r with|nil=>simp at a|cons y r=>simp at a;obtain⟨a,rfl⟩:=a;rw[yB a] at h;simp at h;exact c ⟨h,by simp[h]⟩
  by_cases c:Yb x=true;have f:Zr b=false:=by obtain rfl|rfl:=e <;>decide
  rw[BT c,cI,Qf (uX c)] at h;simp at h;have e:=uX c;rw[h.1,f] at e;cases e;rw[BU g d a (by simpa using c)] at h;simp at h
def bz (e:Γ)(mk:Fm->Fm->Fm)(c:Λ->Option (Fm×Bool×Λ)):Nat->Fm->Bool->Λ->Option (Fm×Bool×Λ)
 |0,_,_,_=>none
 |m+1,a,u,d=>if d.head? =some e then
   match c d.tail with|none=>none|some (b,v,f)=>bz e mk c m (mk a b) (u||v) f
  else some (a,u,d)
def VZ (d:Γ)(mk:Fm->Fm->Fm)(b:Λ->Option (Fm×Bool×Λ))(c:Λ):Option (Fm×Bool×Λ):=match b c with|none=>none|some (a,u,c)=>bz d mk b (c.length+1) a u c
def pC (t:Γ):Bool:=match t with|[]=>false|b::_=>Yb b
def uZ (a:Γ->Option Nat)(t:Γ):Fm×Bool:=if t=dx then(.c true,false)else if t=fg then(.c false,false)else(.v ((a t).getD 0),(a t).isNone)
def VG (b:Γ->Option Nat):Nat->Λ->Option (Fm×Bool×Λ)
 |0,_=>none|_+1,[]=>none
 |n+1,t::ts=>if t=[33] then
   match VG b n ts with|none=>none|some (a,u,c)=>some (.not a,u,c)
  else if t=[40] then
   match VZ [124,124] .or (VZ [38,38] .and (VG b n)) ts with|none=>none|some (a,u,c)=>if c.head? =some [41] then some (a,u,c.tail)else none
  else if pC t then some ((uZ b t).1,(uZ b t).2,ts)else none
def yC (a:Γ->Option Nat)(n:Nat)(b:Λ):Option (Fm×Bool×Λ):=VZ [124,124] .or (VZ [38,38] .and (VG a n)) b
def Z6:Fm->Nat->χ Fz|.c b,_=>[⟨if b then 1 else 0,0,0,0⟩]|.v n,_=>[⟨2,(n:Nat),0,0⟩]|.not a,k=>Z6 a k++ [⟨3,0,((k+Q4 a-1:Nat):Int),0⟩]|.and a b,k=>Z6 a k++Z6 b (k+Q4 a)++ [⟨4,0,((k+Q4 a-1:Nat):Int),((k+Q4 a+Q4 b-1:Nat):Int)⟩]|.or a b,k=>Z6 a k++Z6 b (k+Q4 a)++ [⟨5,0,((k+Q4 a-1:Nat):Int),((k+Q4 a+Q4 b-1:Nat):Int)⟩]
theorem Kk:∀(t:Fm)(k:Nat),(Z6 t k).length=Q4 t|.c _,_=>rfl|.v _,_=>rfl|.not a,k=>by simp[Z6,Q4,Kk a k]|.and a b,k=>by simp[Z6,Q4,Kk a k,Kk b,ur]|.or a b,k=>by simp[Z6,Q4,Kk a k,Kk b,ur]
theorem aE:∀t:Fm,0<Q4 t|.c _=>Nat.one_pos|.v _=>Nat.one_pos|.not _=>Nat.succ_pos _|.and _ _=>Nat.succ_pos _|.or _ _=>Nat.succ_pos _
def u7 (p:Ps)(r:Option (Nat×Ps))(a:Option (Fm×Bool×Λ)):Prop:=match a with|none=>r=none|some (t,u,b)=>∃a,r=some (p.f.length+Q4 t-1,a)/\a.f=p.f++Z6 t p.f.length/\a.u=(p.u||u)/\X9 a.r=(b,(X9 p.r).2)/\a.r.length<p.r.length
def BW (a:Ps->Option (Nat×Ps))(b:Λ->Option (Fm×Bool×Λ)):Prop:=∀p,u7 p (a p) (b (X9 p.r).1)
def jV (a:Λ->Option (Fm×Bool×Λ)):Prop:=∀b t u c,a b=some (t,u,c)->c.length<b.length
theorem bQM {e:Γ}{o:Int}{mk:Fm->Fm->Fm}{g:Ps->Option (Nat×Ps)}{d:Λ->Option (Fm×Bool×Λ)}
  (bJ:∀p,match Vc e p with|(true,c)=>X9 p.r=(e::(X9 c.r).1,(X9 c.r).2)/\c.f=p.f/\c.u=p.u/\c.r.length<p.r.length|(false,c)=>(X9 p.r).1.head? ≠some e/\c={p with r:=Js p.r})
  (As:∀a b k,Z6 (mk a b) k=Z6 a k++Z6 b (k+Q4 a)++ [⟨o,0,((k+Q4 a-1:Nat):Int),((k+Q4 a+Q4 b-1:Nat):Int)⟩]) (XC:∀a b,Q4 (mk a b)=Q4 a+Q4 b+1) (H:BW g d) (hl:jV d):
  ∀(m i:Nat) (a:Fm) (u:Bool) (c p:Ps),p.f=c.f++Z6 a c.f.length->p.u=(c.u||u)->(X9 p.r).2=(X9 c.r).2->p.r.length<c.r.length->p.r.length<m->(X9 p.r).1.length<i->
   u7 c (jT e o g m (c.f.length+Q4 a-1) p) (bz e mk d i a u (X9 p.r).1)
 |0,i,a,u,c,p,_,_,_,_,h,_=>by omega|m+1,0,a,u,c,p,_,_,_,_,_,h=>by omega
 |m+1,i+1,a,u,c,p,w,x,y,g,j,z=>by
  have j:=bJ p;unfold jT bz;cases l:Vc e p with|mk b g=>
  rw[l] at j;cases b with|false=>obtain⟨e,rfl⟩:=j;rw[φ e];refine⟨_,rfl,w,x,?_,?_⟩;simp only;rw[uY,<-y];have:=yk p.r;simp only;omega|true=>
   obtain⟨e,l,C,n⟩:=j;have j:=QG Prod.fst e;have A:=QG Prod.snd e;simp only at j A;rw[j,Fl,Qf rfl,List.tail_cons];simp only;have e:=H g;cases n:d (X9 g.r).1 with|none=>rw[n] at e;simp only[u7] at e ⊢;rw[e]|some q=>
    obtain⟨t,v,d⟩:=q;rw[n] at e;obtain⟨d,D,B,E,s,F⟩:=e;rw[D];simp only;have e:=hl _ _ _ _ n;have e:=aE a;have e:=aE t;rw[w] at l;have n:g.f.length=c.f.length+Q4 a:=by rw[l,Qy,Kk]
    have e:=bQM bJ As XC H hl m i (mk a t) (u||v) c {d with f:=d.f++ [⟨o,0,((c.f.length+Q4 a-1:Nat):Int),((g.f.length+Q4 t-1:Nat):Int)⟩]}
     (by simp only;rw[B,l,As,Qy,Kk];simp) (by simp only;rw[E,C,x,Fo]) (by simp only;rw[s,<-A,y]) (by simp only;omega) (by simp only;omega)
     (by simp only;rw[s];simp only;rw[j] at z;simp only[Xa] at z;omega)
    simp only[s] at e;have g:d.f.length=c.f.length+Q4 (mk a t)-1:=by rw[B,Qy,Kk,n,XC];omega
    rw[g];exact e
theorem Gi {op:Γ}{o:Int}{mk:Fm->Fm->Fm}{e:Ps->Option (Nat×Ps)}{c:Λ->Option (Fm×Bool×Λ)}
  (bJ:∀p,match Vc op p with|(true,d)=>X9 p.r=(op::(X9 d.r).1,(X9 d.r).2)/\d.f=p.f/\d.u=p.u/\d.r.length<p.r.length|(false,d)=>(X9 p.r).1.head? ≠some op/\d={p with r:=Js p.r})
  (As:∀a b k,Z6 (mk a b) k=Z6 a k++Z6 b (k+Q4 a)++ [⟨o,0,((k+Q4 a-1:Nat):Int),((k+Q4 a+Q4 b-1:Nat):Int)⟩]) (XC:∀a b,Q4 (mk a b)=Q4 a+Q4 b+1) (H:BW e c) (hl:jV c):BW (YZ op o e) (VZ op mk c):=λp=>by
 have d:=H p;unfold YZ VZ;cases e:c (X9 p.r).1 with|none=>rw[e] at d;simp only[u7] at d ⊢;rw[d]|some q=>obtain⟨t,v,f⟩:=q;rw[e] at d;obtain⟨e,g,h,i,c,j⟩:=d;rw[g];simp only;have:=bQM bJ As XC H hl (e.r.length+1) (f.length+1) t v p e h i (by rw[c]) j ω (by rw[c];exact iU _);rw[c] at this;exact this
theorem bQN {g:Γ}{mk:Fm->Fm->Fm}{c:Λ->Option (Fm×Bool×Λ)}(f:jV c):∀(m:Nat)(a:Fm)(u:Bool)(d:Λ)(t:Fm)(v:Bool)(e:Λ),bz g mk c m a u d=some (t,v,e)->e.length<=d.length
 |0,a,u,d,t,v,e,h=>by cases h
 |m+1,a,u,d,t,v,e,h=>by
  unfold bz at h;split at h;cases e:c d.tail with
  |none=>rw[e] at h;cases h
  |some q=>obtain⟨b,c,d⟩:=q;rw[e] at h;have c:=bQN f m _ _ _ _ _ _ h;have c:=f _ _ _ _ e;rw[AO] at c;omega
  cases h;exact Qw _
theorem BX {op:Γ}{mk:Fm->Fm->Fm}{a:Λ->Option (Fm×Bool×Λ)}(d:jV a):jV (VZ op mk a):=λe t u c h=>by
 unfold VZ at h;cases c:a e with
 |none=>rw[c] at h;cases h
 |some q=>obtain⟨b,a,e⟩:=q;rw[c] at h;have a:=bQN d _ _ _ _ _ _ _ h;have a:=d _ _ _ _ c;omega
theorem u9 (d:Γ->Option Nat):∀n,jV (VG d n)
 |0=>λc t u a h=>by cases h
 |n+1=>λc t u a h=>by
  have e:=u9 d n;cases c with
  |nil=>cases h
  |cons x c=>
   unfold VG at h;split at h;cases a:VG d n c with
   |none=>rw[a] at h;cases h
   |some q=>obtain⟨b,f,g⟩:=q;rw[a] at h;have:=e _ _ _ _ a;cases h;simp;omega
   split at h;cases a:VZ [124,124] .or (VZ [38,38] .and (VG d n)) c with
   |none=>rw[a] at h;cases h
   |some q=>obtain⟨b,f,g⟩:=q;rw[a] at h;have:=BX (op:=[124,124]) (mk:=.or) (BX (op:=[38,38]) (mk:=.and) e) _ _ _ _ a;simp only at h;split at h;cases h;simp[AO];omega;cases h
   split at h;cases h;simp;cases h
theorem lQt (p:Nat->Bool)(l:Γ):l.take (l.takeWhile p).length=l.takeWhile p:=by induction l with|nil=>rfl|cons x l a=>rw[cI];split;rw[Xa,xQ,a];rfl
theorem lQu (p:Nat->Bool)(l:Γ):l.drop (l.takeWhile p).length=l.dropWhile p:=by induction l with|nil=>rfl|cons x l a=>rw[cI,uv];split;rw[Xa,U5,a];rfl
theorem lQv (l:Γ):Js (Js l)=Js l:=by cases h:Js l with|nil=>rfl|cons b r=>have:=BV h;unfold Js;rw[uv,φ (by simpa using this)]
theorem bQO {x:Nat}{r:Γ}(h:YY (x::r)≠0):Yb x=true/\YY (x::r)=((x::r).takeWhile Zr).length:=by
 have e:YY (x::r)=if isDig x then 0 else((x::r).takeWhile Zr).length:=rfl
 rw[e] at h ⊢;split at h;exact Xg rfl h;rename_i b;rw[φ b];refine⟨?_,rfl⟩;rw[cI] at h;split at h;rename_i a;unfold Zr at a;rw[Bool.or_eq_true] at a;exact a.resolve_right b;exact Xg rfl h
theorem lQw {x:Nat}{r:Γ}(h:YY (x::r)=0):Yb x=false:=by
 have e:YY (x::r)=if isDig x then 0 else((x::r).takeWhile Zr).length:=rfl
 rw[e] at h;rw[<-Mz];intro a;have b:x=95∨(97<=x/\x<=122)∨(65<=x/\x<=90):=by unfold Yb at a;simp at a;omega
 rw[φ (by unfold isDig;simp;omega),cI,Qf (uX a)] at h;simp at h
theorem lQx {x:Nat}{r:Γ}(h:Yb x=true):pC ((x::r).takeWhile Zr)=true:=by rw[cI,Qf (uX h)];exact h
theorem bQP (e:Γ->Option Nat):∀n,BW (fT e n) (VG e n)
 |0=>λp=>rfl
 |n+1=>λp=>by
  have S:=bQP e n;have P:=u9 e n;have L:=NL (b:=33) ω p;cases B:Vc [33] p with|mk b K=>
  rw[B] at L;cases b with
  |true=>
   obtain⟨f,u,g,Q⟩:=L;rw[Nm e n B,f];have d:=S K;unfold VG;rw[Qf rfl];cases w:VG e n (X9 K.r).1 with
   |none=>rw[w] at d;simp only[u7] at d ⊢;rw[d]
   |some q=>
    obtain⟨t,v,ts⟩:=q;rw[w] at d;obtain⟨D,H,A,I,s,V⟩:=d;rw[H];have pt:=aE t;refine⟨(WD ⟨3,0,((K.f.length+Q4 t-1:Nat):Int),0⟩ D).2,?_,?_,?_,?_,?_⟩;simp only[WD];rw[A,Qy,Kk,u]<;>rfl
    simp only[WD];rw[A,u];simp[Z6];simp only[WD];rw[I,g];simp only[WD];rw[s,f];simp only[WD];omega
  |false=>
   obtain⟨f,rfl⟩:=L;have M:=NL (b:=40) ω {p with r:=Js p.r};cases E:Vc [40] {p with r:=Js p.r}with|mk b D=>
   rw[E] at M;have O:=yk p.r;cases b with
   |true=>
    obtain⟨c,J,R,Y⟩:=M;simp only[uY] at c J R Y;rw[Nn e n B E,c];have d:=Gi (op:=[124,124]) (o:=5) (mk:=.or) (λp=>Gh ω p) (λa b k=>rfl) (λa b=>rfl) (Gi (op:=[38,38]) (o:=4) (mk:=.and) (λp=>Gh ω p) (λa b k=>rfl) (λa b=>rfl) S P) (BX P) D;unfold VG;rw[φ δ,Qf rfl];unfold kX;cases w:VZ [124,124] Fm.or (VZ [38,38] Fm.and (VG e n)) (X9 D.r).1 with
    |none=>rw[w] at d;simp only[u7] at d ⊢;rw[d]
    |some q=>
     obtain⟨t,v,ts⟩:=q;rw[w] at d;obtain⟨T,H,A,I,s,V⟩:=d;rw[H];simp only;have N:=NL (b:=41) ω T;cases nP:Vc [41] T with
     |mk b p4=>
     rw[nP] at N;cases b with
     |true=>obtain⟨j,W,X,g4⟩:=N;have m:=QG Prod.fst (s.symm.trans j);have i:=QG Prod.snd (s.symm.trans j);simp only at m i;rw[m,Fl,Qf rfl,List.tail_cons];refine⟨_,by rw[J],by rw[W,A,J],by rw[X,I,R],?_,?_⟩;rw[c];simp only;rw[i];omega
     |false=>obtain⟨j,rfl⟩:=N;rw[s] at j;simp only at j;rw[φ j]<;>rfl
   |false=>
    obtain⟨c,rfl⟩:=M;simp only[uY] at c;rw[Np e n B E];simp only[lQv];have h:=uY p.r;cases m:Js p.r with|nil=>rw[m,BR] at h;rw[<-h]<;>rfl|cons x r=>
     have Z:=BV m;rw[m] at h O;rw[<-h] at f c ⊢;by_cases z:YY (x::r)=0;rw[Qf z];have Q:=lQw z;have:VG e (n+1) (X9 (x::r)).1=none:=by
      by_cases u:x=40∨x=41∨x=33;rw[yA u] at f c ⊢;simp only[Fl,ne_eq,Option.some.injEq,List.cons.injEq,and_true] at f c;have:x=41:=by omega
      subst this;rfl;by_cases g:(x=38∨x=124)/\r.head? =some x;cases r with|nil=>simp at g|cons y r=>simp at g;obtain⟨g,rfl⟩:=g;rw[yB g];obtain rfl|rfl:=g <;>rfl
      rw[BU Z u g Q]<;>rfl
     rw[this]<;>rfl
     rw[φ z];obtain⟨F,U⟩:=bQO z;rw[U,lQt,lQu];have mf:=BT (l:=r) F;rw[mf] at f c h ⊢;simp only[Fl,ne_eq,Option.some.injEq] at f c;unfold VG;rw[φ f,φ c,Qf (lQx F)];have G:((x::r).dropWhile Zr).length<p.r.length:=by rw[Gg F];have:=BP Zr r;simp only[Xa] at O;omega
     unfold uZ;by_cases C:(x::r).takeWhile Zr=dx;rw[Qf C,Qf C];exact⟨_,rfl,rfl,by simp,by simp only;rw[<-h],G⟩;rw[φ C,φ C];by_cases i:(x::r).takeWhile Zr=fg;rw[Qf i,Qf i];exact⟨_,rfl,rfl,by simp,by simp only;rw[<-h],G⟩;rw[φ i,φ i];exact⟨_,rfl,rfl,rfl,by simp only;rw[<-h],G⟩
theorem lQy (a:Γ->Option Nat)(n:Nat):BW (kX a n) (yC a n):=
 Gi (op:=[124,124]) (o:=5) (mk:=.or) (λp=>Gh ω p) (λ_ _ _=>rfl) (λ_ _=>rfl) (Gi (op:=[38,38]) (o:=4) (mk:=.and) (λp=>Gh ω p) (λ_ _ _=>rfl) (λ_ _=>rfl) (bQP a n) (u9 a n)) (BX (u9 a n))
theorem lQz (l:Γ):Js l=[]↔X9 l=([],true):=by
 rw[<-uY l];cases h:Js l with|nil=>simp[BR]|cons x r=>
  have d:=BV h;simp only[reduceCtorEq,false_iff];intro e;by_cases b:x=40∨x=41∨x=33;rw[yA b] at e;simp at e;by_cases a:(x=38∨x=124)/\r.head? =some x;cases r with|nil=>simp at a|cons y r=>simp at a;obtain⟨a,rfl⟩:=a;rw[yB a] at e;simp at e
  by_cases c:Yb x=true;rw[BT c] at e;simp at e;rw[BU d b a (by simpa using c)] at e;simp at e
def Gj (a:Λ)(s:Γ):χ Fz×Int:=if JG a then
  if(X9 s).2 then match yC (ZS a) (s.length+1) (X9 s).1 with|none=>([],31)|some (t,u,a)=>if a≠ [] then([],31)else if u then([],3)else if 512<Q4 t then([],2)else(Z6 t 0,0)
  else([],31)
 else([],1)
theorem bQQ (a:Λ)(s:Γ):gL a s=Gj a s:=by
 unfold gL Gj;by_cases d:JG a=true;rw[Qf d,Qf d];have b:=lQy (ZS a) (s.length+1) ⟨s,[],false⟩;simp only at b;cases e:yC (ZS a) (s.length+1) (X9 s).1 with|none=>rw[e] at b;simp only[u7] at b;rw[b];simp|some q=>
  obtain⟨t,v,g⟩:=q;rw[e] at b;obtain⟨j,a,e,f,i,k⟩:=b;rw[a];simp only at e f i ⊢;simp only[d4,Jz,AP] at e f;have a:=lQz j.r;rw[i] at a;by_cases b:(X9 s).2=true;rw[Qf b];rw[b] at a;simp only[Prod.mk.injEq,and_true] at a;rw[f,e,Kk];by_cases e:g=[]
  rw[φ λh=>h (a.2 e),if_neg (c:=g≠ []) λh=>h e];rw[Qf λh=>e (a.1 h),Qf e];rw[φ b,Qf λh=>b (by have:=QG Prod.snd (a.1 h);simpa using this)]
 rw[φ d,φ d]
end
section
def Stop (l:Γ):Prop:=∀b r,l=b::r->Zr b=false
def Gk (w:Γ):Prop:=(∃b r,w=b::r/\Yb b=true)/\∀x∈w,Zr x=true
theorem lQA {w rest:Γ}(h:∀x∈w,Zr x=true)(a:Stop rest):(w++rest).takeWhile Zr=w/\(w++rest).dropWhile Zr=rest:=by
 induction w with
 |nil=>
  cases rest with
  |nil=>exact⟨rfl,rfl⟩
  |cons b r=>have:=a b r rfl;rw[d4,cI,uv,φ (by rw[this];decide),φ (by rw[this];decide)];exact⟨rfl,rfl⟩
 |cons x w a=>obtain⟨c,d⟩:=a λy e=>h y (by simp[e]);have a:=h x (by simp);rw[dZ,cI,uv,Qf a,Qf a,c,d];exact⟨rfl,rfl⟩
theorem lQB {w a:Γ}(h:Gk w)(e:Stop a):X9 (w++a)=(w::(X9 a).1,(X9 a).2):=by obtain⟨⟨b,r,rfl,f⟩,a⟩:=h;obtain⟨c,d⟩:=lQA a e;rw[dZ] at c d ⊢;rw[BT f,c,d]
theorem lQC {w:Γ}(h:Gk w):pC w=true:=by obtain⟨⟨b,r,rfl,a⟩,_⟩:=h;exact a
theorem lQD {s:Γ}(h:Wf s=true):Gk s/\s≠dx/\s≠fg:=by unfold Wf at h;rw[YX] at h;obtain⟨c,a,d,e⟩:=h;cases s with|nil=>exact Xg rfl c|cons b r=>obtain⟨f,c⟩:=bQO (x:=b) (r:=r) (by rw[a];simp);rw[c] at a;refine⟨⟨⟨b,r,rfl,f⟩,λx c=>?_⟩,d,e⟩;have:(b::r).takeWhile Zr=b::r:=(U6 Zr).eq_of_length a;rw[<-this] at c;exact(Vb.1 (List.all_takeWhile (p:=Zr) (l:=b::r))) x c
theorem bQR {f:Γ}{mk:Fm->Fm->Fm}{c:Λ->Option (Fm×Bool×Λ)}(g:jV c):∀(m e:Nat)(a:Fm)(u:Bool)(d:Λ),d.length<m->d.length<e->bz f mk c m a u d=bz f mk c e a u d
 |0,_,_,_,_,h,_=>by omega|_+1,0,_,_,_,_,h=>by omega
 |m+1,e+1,a,u,d,h,f=>by
  unfold bz;split;cases f:c d.tail with|none=>rfl|some q=>obtain⟨b,v,c⟩:=q;have:=g _ _ _ _ f;rw[AO] at this;exact bQR g m e _ _ c ω ω
  rfl
theorem lQE {d:Γ}{mk:Fm->Fm->Fm}{b:Λ->Option (Fm×Bool×Λ)}{m:Nat}{a:Fm}{u:Bool}{c:Λ}(h:c.head? ≠some d):bz d mk b (m+1) a u c=some (a,u,c):=by unfold bz;rw[φ h]
theorem lQF {f:Γ}{mk:Fm->Fm->Fm}{c:Λ->Option (Fm×Bool×Λ)}(g:jV c){m:Nat}{a b:Fm}{u v:Bool}{d Kx:Λ}(h:c d=some (b,v,Kx)):bz f mk c ((f::d).length+m) a u (f::d)=bz f mk c (Kx.length+1) (mk a b) (u||v) Kx:=by
 have:=g _ _ _ _ h;have e:bz f mk c ((d.length+m)+1) a u (f::d)=bz f mk c (d.length+m) (mk a b) (u||v) Kx:=by rw[bz,Fl,Qf rfl,List.tail_cons,h]
 rw[Xa,show d.length+1+m=(d.length+m)+1 by omega,e];exact bQR g _ _ _ _ _ ω ω
abbrev Gl (a:Γ->Option Nat)(n:Nat):=VZ [38,38] Fm.and (VG a n)
theorem bQS (a:Γ->Option Nat)(n:Nat):jV (Gl a n):=BX (u9 a n)
theorem BY:∀(n:Nat)(l:Γ),(YI n l).1.length<=l.length
 |0,l=>Q9 _|n+1,[]=>Q9 _
 |n+1,b::l=>by
  have c:=BY n l;have a:=BY n l.tail;rw[AO] at a;simp only[YI,Xa];split;omega;split;simp only[Xa];omega;split;rename_i h;cases l with|nil=>simp at h|cons y l=>simp only[Xa] at a ⊢;omega
  split;rename_i h;have d:=BY n (l.dropWhile Zr);have:=BP Zr l;rw[Gg h];simp only[Xa];omega;simp
end
section
theorem bQT (a:ByteArray)(v:τ):∀m:χ (ByteArray×τ),a∈m.map Prod.fst->(ZP a v m).map Prod.fst=m.map Prod.fst
 |[],h=>by simp at h
 |(b,u)::m,h=>by
  unfold ZP;by_cases e:a=b;subst e;rw[Qf rfl]<;>rfl
  rw[φ e,YD,bQT a v m (by simp only[YD,XI] at h;exact h.resolve_left e)];rfl
theorem NM (a:ByteArray)(v:τ):∀m:χ (ByteArray×τ),a∉m.map Prod.fst->(ZP a v m).map Prod.fst=m.map Prod.fst++ [a]|[],_=>rfl|(b,u)::m,h=>by simp only[YD,XI,not_or] at h;unfold ZP;rw[φ h.1,YD,NM a v m h.2]<;>rfl
theorem bQU (a:ByteArray)(v:τ)(m:χ (ByteArray×τ))(h:a∈m.map Prod.fst):(ZP a v m).length=m.length:=by have:=QG List.length (bQT a v m h);simpa using this
theorem bQV (a:ByteArray)(v:τ)(m:χ (ByteArray×τ))(h:a∉m.map Prod.fst):(ZP a v m).length=m.length+1:=by have:=QG List.length (NM a v m h);simpa using this
theorem bQW:∀(l:Λ)(i:Nat)(m:χ (ByteArray×τ)),(aB l i m).length<=m.length+l.length|[],_,m=>Qw _|s::l,i,m=>by have:=bQW l (i+1) (ZP (Qb s) (.int .i64 (i:Nat)) m);simp only[aB,Xa];by_cases h:Qb s∈m.map Prod.fst;have:=bQU _ (.int .i64 (i:Nat)) m h;omega;have:=bQV _ (.int .i64 (i:Nat)) m h;omega
theorem bQX:∀(l:Λ)(i:Nat)(m:χ (ByteArray×τ)),(∀s∈l,∀x∈s,x<256)->((aB l i m).length=m.length+l.length↔l.Nodup/\∀s∈l,Qb s∉m.map Prod.fst)|[],_,m,_=>by simp[aB]|s::l,i,m,hb=>by have d:=hb s (by simp);have b:=bQX l (i+1) (ZP (Qb s) (.int .i64 (i:Nat)) m) λt a=>hb t (by simp[a]);have c:=bQW l (i+1) (ZP (Qb s) (.int .i64 (i:Nat)) m);simp only[aB,Xa];by_cases h:Qb s∈m.map Prod.fst;have c:=bQU _ (.int .i64 (i:Nat)) m h;constructor;intro e;omega;intro e;exact Xg h (e.2 s (by simp));have c:=bQV _ (.int .i64 (i:Nat)) m h;have c:=NM _ (.int .i64 (i:Nat)) m h;rw[show m.length+(l.length+1)=(ZP (Qb s) (.int .i64 (i:Nat)) m).length+l.length by omega,b,c];simp only[AQ,X2,not_or,XI];constructor;rintro⟨c,b⟩;refine⟨⟨λf=>(b s f).2.1 rfl,c⟩,λt a=>?_⟩;obtain rfl|a:=a;exact h;exact(b t a).1;rintro⟨⟨c,b⟩,f⟩;refine⟨b,λt a=>⟨f t (.inr a),λe=>?_,by simp⟩⟩;have:=Jl (hb t (by simp[a])) d e;subst this;exact c a
theorem NN {a:Λ}(b:KH a):JG a=true↔a.all Wf=true/\a.Nodup/\a.length<=64:=by have:=bQX a 0 [] λs c=>(b s c).1;simp only[Jz,YW,List.map_nil,d5,not_false_eq_true,implies_true,and_true] at this;unfold JG;rw[YX,this]
theorem Gm (l:Γ):∀(a:Λ)(i:Nat)(b:Option Nat),l∉a->kY l a i b=b|[],_,_,_=>rfl|s::a,i,b,h=>by simp only[XI,not_or] at h;rw[kY,φ λe=>h.1 e.symm,Gm l a (i+1) b h.2]
theorem NO:∀(a:Λ)(k i:Nat)(b:Option Nat)(l:Γ),a.Nodup->a[k]? =some l->kY l a i b=some (i+k)
 |[],k,i,b,l,_,h=>by simp at h|s::a,0,i,b,l,hn,h=>by simp at h;subst h;rw[kY,Qf rfl,Gm _ _ _ _ (AQ.1 hn).1]<;>rfl
 |s::a,k+1,i,b,l,hn,h=>by
  have b:a[k]? =some l:=by simpa using h
  rw[kY,NO a k (i+1) _ l (AQ.1 hn).2 b];congr 1;omega
theorem yD:∀(t:Fm)(c d:χ Fz),RepF (c++Z6 t c.length++d) t (c.length+Q4 t-1)|.c b,c,d=>by show(c++ [_]++d)[c.length+1-1]? =_;simp|.v n,c,d=>by show(c++ [_]++d)[c.length+1-1]? =_;simp|.not a,c,d=>by have e:=aE a;refine⟨c.length+Q4 a-1,by simp only[Q4];omega,?_,?_⟩;simp only[Q4,Z6];rw[WW,aZ ω,WW,aZ (by rw[Kk];omega),Kk,show c.length+(Q4 a+1)-1-c.length-Q4 a=0 by omega];rfl;have:=yD a c ([⟨3,0,((c.length+Q4 a-1:Nat):Int),0⟩]++d);simpa [Z6] using this|.and a b,c,d=>by have e:=aE a;have f:=aE b;refine⟨c.length+Q4 a-1,c.length+Q4 a+Q4 b-1,by simp only[Q4];omega,by simp only[Q4];omega,?_,?_,?_⟩;simp only[Q4,Z6];rw[WW,aZ ω,WW,aZ (by rw[Qy,Kk,Kk];omega),Qy,Kk,Kk,show c.length+(Q4 a+Q4 b+1)-1-c.length-(Q4 a+Q4 b)=0 by omega];rfl;have:=yD a c (Z6 b (c.length+Q4 a)++ [⟨4,0,((c.length+Q4 a-1:Nat):Int),((c.length+Q4 a+Q4 b-1:Nat):Int)⟩]++d);simpa [Z6] using this;have:=yD b (c++Z6 a c.length) ([⟨4,0,((c.length+Q4 a-1:Nat):Int),((c.length+Q4 a+Q4 b-1:Nat):Int)⟩]++d);rw[Qy,Kk] at this;simpa [Z6] using this|.or a b,c,d=>by have e:=aE a;have f:=aE b;refine⟨c.length+Q4 a-1,c.length+Q4 a+Q4 b-1,by simp only[Q4];omega,by simp only[Q4];omega,?_,?_,?_⟩;simp only[Q4,Z6];rw[WW,aZ ω,WW,aZ (by rw[Qy,Kk,Kk];omega),Qy,Kk,Kk,show c.length+(Q4 a+Q4 b+1)-1-c.length-(Q4 a+Q4 b)=0 by omega];rfl;have:=yD a c (Z6 b (c.length+Q4 a)++ [⟨5,0,((c.length+Q4 a-1:Nat):Int),((c.length+Q4 a+Q4 b-1:Nat):Int)⟩]++d);simpa [Z6] using this;have:=yD b (c++Z6 a c.length) ([⟨5,0,((c.length+Q4 a-1:Nat):Int),((c.length+Q4 a+Q4 b-1:Nat):Int)⟩]++d);rw[Qy,Kk] at this;simpa [Z6] using this
theorem bQY (t:Fm):BJ (Z6 t 0)=t:=by refine Nw ?_;have:=yD t [] [];rw[Kk];simpa using this
theorem nD {α:Type}{l m:χ α}{i:Nat}{x:α}(h:(l++m)[i]? =some x):(i<l.length/\l[i]? =some x)∨(l.length<=i/\m[i-l.length]? =some x):=by by_cases a:i<l.length;rw[eW a] at h;exact .inl ⟨a,h⟩;rw[aZ ω] at h;exact .inr ⟨ω,h⟩
theorem i7 {α:Type}{y x:α}{i:Nat}(h: [y][i]? =some x):i=0/\x=y:=by cases i with|zero=>simp at h;exact⟨rfl,h.symm⟩|succ i=>simp at h
theorem lQG {j i:Nat}(h:j<i):KI ⟨3,0,(j:Nat),0⟩ i:=by
 refine⟨show 0<=Zt 3 by decide,rfl,?_,rfl⟩;show if 0<Zt 3 then _ else _
 rw[Qf δ];simp only;omega
theorem lQH {j k i:Nat}(h:j<i)(a:k<i):KI ⟨4,0,(j:Nat),(k:Nat)⟩ i:=by
 refine⟨show 0<=Zt 4 by decide,rfl,?_,?_⟩;show if 0<Zt 4 then _ else _
 rw[Qf δ];simp only;omega;show if 1<Zt 4 then _ else _
 rw[Qf δ];simp only;omega
theorem lQI {j k i:Nat}(h:j<i)(a:k<i):KI ⟨5,0,(j:Nat),(k:Nat)⟩ i:=by
 refine⟨show 0<=Zt 5 by decide,rfl,?_,?_⟩;show if 0<Zt 5 then _ else _
 rw[Qf δ];simp only;omega;show if 1<Zt 5 then _ else _
 rw[Qf δ];simp only;omega
theorem yE:∀(t:Fm)(k i:Nat)(x:Fz),VarsIn 64 t->(Z6 t k)[i]? =some x->KI x (k+i)|.c b,k,i,x,_,h=>by obtain⟨rfl,rfl⟩:=i7 h;cases b<;>exact⟨δ,rfl,rfl,rfl⟩|.v n,k,i,x,d,h=>by obtain⟨rfl,rfl⟩:=i7 h;refine⟨show 0<=Zt 2 by decide,?_,rfl,rfl⟩;have:n<64:=d;rw[Qf rfl];simp only;omega|.not a,k,i,x,d,h=>by have f:=aE a;obtain⟨c,h⟩|⟨c,h⟩:=nD h;exact yE a k i x d h;rw[Kk] at c h;obtain⟨e,rfl⟩:=i7 h;exact lQG ω|.and a b,k,i,x,d,h=>by have f:=aE a;have g:=aE b;obtain⟨c,h⟩|⟨c,h⟩:=nD h;obtain⟨c,h⟩|⟨c,h⟩:=nD h;exact yE a k i x d.1 h;rw[Kk] at c h;have:=yE b (k+Q4 a) (i-Q4 a) x d.2 h;rwa [show k+Q4 a+(i-Q4 a)=k+i by omega] at this;rw[Qy,Kk,Kk] at c h;obtain⟨e,rfl⟩:=i7 h;exact lQH ω ω|.or a b,k,i,x,d,h=>by have f:=aE a;have g:=aE b;obtain⟨c,h⟩|⟨c,h⟩:=nD h;obtain⟨c,h⟩|⟨c,h⟩:=nD h;exact yE a k i x d.1 h;rw[Kk] at c h;have:=yE b (k+Q4 a) (i-Q4 a) x d.2 h;rwa [show k+Q4 a+(i-Q4 a)=k+i by omega] at this;rw[Qy,Kk,Kk] at c h;obtain⟨e,rfl⟩:=i7 h;exact lQI ω ω
theorem BZ (l m:χ Fz):Z1 (l++m)=Z1 l++Z1 m:=by simp[Z1]
theorem lQJ (j:Nat):Z1 [⟨3,0,(j:Nat),0⟩]=[j]:=by show VF _++ []=_;unfold VF;rw[show Zt (Fz.o ⟨3,0,(j:Nat),0⟩)=1 from rfl];simp
theorem lQK (j k:Nat):Z1 [⟨4,0,(j:Nat),(k:Nat)⟩]=[j,k]:=by show VF _++ []=_;unfold VF;rw[show Zt (Fz.o ⟨4,0,(j:Nat),(k:Nat)⟩)=2 from rfl];simp
theorem lQL (j k:Nat):Z1 [⟨5,0,(j:Nat),(k:Nat)⟩]=[j,k]:=by show VF _++ []=_;unfold VF;rw[show Zt (Fz.o ⟨5,0,(j:Nat),(k:Nat)⟩)=2 from rfl];simp
theorem yF:∀(t:Fm)(k j:Nat),(Z1 (Z6 t k)).count j=if k<=j/\j+1<k+Q4 t then 1 else 0
 |.c b,k,j=>by rw[φ (by simp only[Q4];omega)];cases b<;>rfl|.v n,k,j=>by rw[φ (by simp only[Q4];omega)];rfl|.not a,k,j=>by
  have g:=aE a;show _=if k<=j/\j+1<k+(Q4 a+1)then 1 else 0
  simp only[Z6];rw[BZ,AR,lQJ,yF a k j,List.count_singleton];simp only[beq_iff_eq];by_cases c:k<=j/\j+1<k+Q4 a;rw[Qf c,φ ω,Qf ω];rw[φ c];by_cases d:k+Q4 a-1=j;rw[Qf d,Qf ω];rw[φ d,φ ω]
 |.and a b,k,j=>by
  have g:=aE a;have h:=aE b;show _=if k<=j/\j+1<k+(Q4 a+Q4 b+1)then 1 else 0
  simp only[Z6];rw[BZ,BZ,AR,AR,lQK,yF a k j,yF b _ j,AM,List.count_singleton];simp only[beq_iff_eq];by_cases c:k<=j/\j+1<k+Q4 a;rw[Qf c,φ ω,φ ω,φ ω,Qf ω];rw[φ c];by_cases d:k+Q4 a<=j/\j+1<k+Q4 a+Q4 b;rw[Qf d,φ ω,φ ω,Qf ω];rw[φ d];by_cases e:k+Q4 a-1=j;rw[φ ω,Qf e,Qf ω];rw[φ e];by_cases f:k+Q4 a+Q4 b-1=j;rw[Qf f,Qf ω];rw[φ f,φ ω]
 |.or a b,k,j=>by
  have g:=aE a;have h:=aE b;show _=if k<=j/\j+1<k+(Q4 a+Q4 b+1)then 1 else 0
  simp only[Z6];rw[BZ,BZ,AR,AR,lQL,yF a k j,yF b _ j,AM,List.count_singleton];simp only[beq_iff_eq];by_cases c:k<=j/\j+1<k+Q4 a;rw[Qf c,φ ω,φ ω,φ ω,Qf ω];rw[φ c];by_cases d:k+Q4 a<=j/\j+1<k+Q4 a+Q4 b;rw[Qf d,φ ω,φ ω,Qf ω];rw[φ d];by_cases e:k+Q4 a-1=j;rw[φ ω,Qf e,Qf ω];rw[φ e];by_cases f:k+Q4 a+Q4 b-1=j;rw[Qf f,Qf ω];rw[φ f,φ ω]
theorem bQZ {t:Fm}(a:VarsIn 64 t)(b:Q4 t<=512):FV (Z6 t 0):=by refine⟨by rw[Kk];exact b,by rw[Kk];exact aE t,λi x b=>by have:=yE t 0 i x a b;rwa [YW] at this,λi a=>?_⟩;rw[yF,Qf];rw[Kk] at a;omega
instance decVars (n:Nat):∀t:Fm,Decidable (VarsIn n t)
 |.c _=>isTrue trivial
 |.v k=>inferInstanceAs (Decidable (k<n))
 |.not a=>decVars n a
 |.and a b=> @instDecidableAnd _ _ (decVars n a) (decVars n b)
 |.or a b=> @instDecidableAnd _ _ (decVars n a) (decVars n b)
theorem VarsIn.mono {n m:Nat}(h:n<=m):∀{t:Fm},VarsIn n t->VarsIn m t|.c _,_=>trivial|.v _,b=>JZ b h|.not a,b=>VarsIn.mono (t:=a) h b|.and _ _,b=>⟨VarsIn.mono h b.1,VarsIn.mono h b.2⟩|.or _ _,b=>⟨VarsIn.mono h b.1,VarsIn.mono h b.2⟩
theorem ve:∀(t:Fm)(n k:Nat),VarsIn n t->Nx n (Z6 t k)|.c b,n,k,_=>λx c d=>by simp only[Z6,Xx] at c;subst c;cases b<;>simp at d|.v j,n,k,e=>λx c d=>by simp only[Z6,Xx] at c;subst c;have:j<n:=e;simp only;omega|.not a,n,k,e=>λx c d=>by simp only[Z6,X2,Xx] at c;obtain c|rfl:=c;exact ve a n k e x c d;simp at d|.and a b,n,k,e=>λx c d=>by simp only[Z6,X2,Xx] at c;obtain(c|c)|rfl:=c;exact ve a n k e.1 x c d;exact ve b n _ e.2 x c d;simp at d|.or a b,n,k,e=>λx c d=>by simp only[Z6,X2,Xx] at c;obtain(c|c)|rfl:=c;exact ve a n k e.1 x c d;exact ve b n _ e.2 x c d;simp at d
end
end
section
section
def yG (x:Fz)(f:χ Fz):Nat×χ Fz:=if f.length<=512 then(f.length,f++ [x])else(f.length-1,f)
structure Cn (w:World) (base x:Nat) (NA:Θ) (nn nc:Nat) (nd:List Br) (root:Int) (A:Θ) (c:Nat) (f:List Fz):Prop where
 blk:Blk w x 277 [.slice NA nn nc,.int .i64 root,.slice A f.length c]
 own:Own w base 280 4 A f.length c (pq f)
 lt:x<base
 top:base<=w.heap.size
 nds:SB w NA nn nc nd
 row:∀ad,NA=some ad->0<nn->ad.block<base/\ad.block≠x
 lim:f.length<=513
def bQ0 (w:θ)(a x:Nat)(e:Θ)(g h:Nat)(i:χ Br)(b:Int)(A:Θ)(f:χ Fz)(c:θ):Prop:=∃d j,Cn c a x e g h i b d j f/\Mod (RdS x A) w c/\Moved w A d
section
variable {base x:Nat} {NA:Option Addr} {nn nc:Nat} {nd:List Br} {root:Int}
theorem Cn.ext {w a:θ}{A:Θ}{c:Nat}{f:χ Fz}(h:Cn w base x NA nn nc nd root A c f)(k:Ext w a):Cn a base x NA nn nc nd root A c f:=
 ⟨h.blk.ext k,h.own.ext k,h.lt,XU h.top k.size,h.nds.ext k,h.row,h.lim⟩
theorem Cn.keep {w a:θ}{A:Θ}{c:Nat}{f:χ Fz}(h:Cn w base x NA nn nc nd root A c f)(b:Mod (RdS x A) w a):SB a NA nn nc nd:=by refine⟨h.nds.1.modS b ?_,h.nds.2⟩;rintro b i ⟨d,rfl,rfl⟩ a;obtain⟨g,e⟩:=h.row d rfl b;obtain a|a:=a;exact e a;have:=(h.own.rows _ a).1;omega
theorem lQM (A:Θ)(c:Nat)(f:χ Fz)(z:Fz)(w:θ)(h:Cn w base x NA nn nc nd root A c f):Fn ψ 221 [.pointer (some ⟨x,0,none⟩),.agg z.cells.toArray] w (λv l=>v= .int .i64 ((yG z f).1:Nat)/\bQ0 w base x NA nn nc nd root A (yG z f).2 l):=by
 refine QK jQ4 [] Tryz.func221 ?_;refine new λd g a s=>?_;have a:=h.ext g;have m:=h.lim;have q:=h.own.rows;have B:=h.lt;have C:=h.top;have r:¬Qj A x:=λm=>by have:=(q x m).1;omega
 refine Qp a.blk rfl (Ql (λo=>?_) λo=>?_);have o:f.length<=512:=by omega
 have e:yG z f=(f.length,f++ [z]):=by unfold yG;rw[Qf o]
 rw[e];refine Xw (Mod (Qj A) d) 8 (oz 6 0 [(false,6),(false,7)]) (Mod.of_ext _ (Ext.drew d)) (Qx (v:=.slice A f.length c) (λl p=>by rw[(a.blk.mod p r).cell];rfl) ?_);have t:¬Qj A w.heap.size:=λm=>by have:=(q _ m).2;omega
 refine Xe (vs:=z.cells) rfl (λl p j v m=>by rw[(s.mod p t).cell];exact m) (XM (z.cells) ?_);intro p m l q;have l:=(Ext.drew d).trans m;have m:=a.ext l;refine⟨Mod.of_ext _ l,?_⟩;have s:Sl p 4 (some ⟨d.drew.heap.size,0,none⟩) 1 1 z.cells:=Sl.own (sz:=4) (n:=1) q (Qw _) δ (by simp[Fz.cells]);refine XV m.own s (by intro u p;simp[Fz.cells] at p;obtain rfl|rfl|rfl|rfl:=p <;>rfl) (by unfold maxLen;omega) m.top ?_ (b:=(by show _*32<=_;omega));intro m p w3 t s D;have q:Mod (Qj A) d w3:=(Mod.of_ext (Qj A) l).trans t λ_=>.inl;refine⟨q,?_⟩;refine Xv (a.blk.mod q r) (by simp) λw4 t y=>?_;refine Qp y rfl ?_;have r:=l.size;have d:Mod (RdS x A) w w4:=((Mod.of_ext (RdS x A) g).trans q λi l=>.inl (.inr l)).trans t λi l=>.inl (.inl l);refine Qz ((f.length:Nat):Int) ?_;refine⟨rfl,m,p,⟨?_,?_,B,XU C d.size,h.keep d,h.row,?_⟩,d,D.back (XU g.size r)⟩;show Blk w4 x _ [_,_,.slice m (f++ [z]).length p];rw[Qy];exact y;show Own w4 base _ 4 m (f++ [z]).length p (pq (f++ [z]));rw[Qy,Nj];exact s.mod t (λk d e=>by have:=(s.rows k d).1;omega);show(f++ [z]).length<=513;rw[Qy];simp only[Xa,Jz];omega;have o:¬f.length<=512:=by omega
 have e:yG z f=(f.length-1,f):=by unfold yG;rw[φ o]
 rw[e];refine Qp a.blk rfl (Qz ((f.length-1:Nat):Int) ?_);exact⟨rfl,A,c,a,Mod.of_ext _ g,Moved.refl _ _⟩
end
end
section
end
end
end Go.Proofs.YtjabbbcdgmlojaaGreatDoor
