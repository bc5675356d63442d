/-
  What PPatchAppliesLikeReference rests on, part 6 (wip/shake.py).
  Conditions: none.
-/
import Derived.Test.YtjabbbcdgmlojaaGreatDoorQPPatchAppliesLikeReferencee
set_option linter.all false
set_option linter.deprecated false
set_option maxHeartbeats 12800000
namespace Go.Proofs.YtjabbbcdgmlojaaGreatDoor
open Go Go.RowKit
section
theorem Ho {c:Cx}(d:c.g.Ok){o:Oper}{S:Env}{C:θ->Prop}{K:Env->Prop}{t e:Nat}{x y:Operand}{A:Θ}{n b h:Nat}{r:TyRow}(i:o.op= .slice t x none (some y) none)(g:Q8 c.g.tys t=some r)(j:r.d= .slice e){f:TyRow}(l:Q8 c.g.tys e=some f)(m:S.ev x=some (.slice A n b)) (p:S.ev y=some (.int .i64 h)) (q:h<=b)(k:XD c S o.dst (.v (.slice A h b)) K):fa c o S C K:=by have f:=(d.row g).1;rw[j] at f;refine aQD (v:=.slice A h b) (λa w g _=>?_) k;have b:=g.ev m;have j:=g.ev p;simp[execOp,i,b,j,Instr.sliceAt,Instr.slice,JB f,Instr.sliceBounds,Instr.sliceBound,asIntOf,q,run_sizeOf d l];intro _;cases A<;>simp[Addr.add]
theorem Hp {a:Λ}{s:Γ}{e:Int}(h:Jn a s= .error e):e≠0:=by unfold Jn at h;split at h;cases h;cases h;split<;>decide
theorem Qr.reT {b w c:θ}{a:Nat}{p:QP}{m:QM}{f v:QV}{d:Nat->Prop}(l:Qr b w a p m f)(h:Qr b c a p m v)(e:v.g.sg=f.g.sg)(n:∀i,d i->m.T i∨w.heap.size<=i)(g:∀i,d i->i<c.heap.size):Qr b c a p {m with T:=d} v:=by refine⟨h.e0,h.lor,h.rb,h.top,h.blk,h.rdo,h.out,h.len,λj s x c k=>?_,h.tl,h.sl,h.b8,h.nf,g,h.dl,h.rl⟩;have b:=h.dgs j s x c k;refine⟨b.sb,b.st,λd f g a=>?_⟩;obtain a|a:=a;exact b.off d f g (.inl a);obtain a|a:=n _ a;exact b.off d f g (.inr a);rw[e] at c;have:=SB.lt (l.dgs j s x c k).sb d f g;omega
def EndQ (v a:QV):Except Pl Gs->Prop|.ok b=>a.b=v.b/\a.d=v.d/\{a.g with fr:=true}=b|.error q=>a.b=q/\q.e≠0/\v.d<=a.d
theorem EndQ.go {v a:QV}{R:Except Pl Gs}:EndQ v a R->match R with|.ok b=>({a with rd:=v.rd,g:={a.g with fr:=true}}:QV)={v with g:=b}|.error q=>a.b=q/\q.e≠0/\v.d<=a.d:=by intro h;cases R with|ok b=>obtain⟨b,c,d⟩:=h;obtain⟨f,e,i,j⟩:=a;simp only at b c d ⊢;rw[b,c,d]|error q=>exact h
theorem pQi {s:Γ}(h:X3 s= .txt):vw s=false:=by unfold vw;rw[h]
theorem CL {s:Γ}(h:X3 s≠ .txt):vw s=true:=by unfold vw;split;exact Xg (by assumption) h;rfl
theorem pQj (s:Γ):X3 s= .txt∨(∃F,s=Zd++F/\X3 s= .ifd F)∨(∃F,s=pInc++F/\X3 s= .inc F)∨(∃F,s=pElif++F/\X3 s= .elif F)∨(s=J6/\X3 s= .els)∨(s=X5/\X3 s= .en):=by by_cases c:Zd.isPrefixOf s=true;obtain⟨F,rfl⟩:=xS.1 c;exact .inr (.inl ⟨F,rfl,nQw F⟩);by_cases d:pInc.isPrefixOf s=true;obtain⟨F,rfl⟩:=xS.1 d;exact .inr (.inr (.inl ⟨F,rfl,nQz F⟩));by_cases e:pElif.isPrefixOf s=true;obtain⟨F,rfl⟩:=xS.1 e;exact .inr (.inr (.inr (.inl ⟨F,rfl,nQx F⟩)));by_cases a:s=J6;exact .inr (.inr (.inr (.inr (.inl ⟨a,by rw[a];rfl⟩))));by_cases b:s=X5;exact .inr (.inr (.inr (.inr (.inr ⟨b,by rw[b];rfl⟩))));left;unfold X3;rw[φ c,φ d,φ e,φ a,φ b]
set_option maxRecDepth 2000 in
theorem eQt (O:θ)(A:Nat)(p:QP)(hP:QPok O p)(y:O.heap.size<=A):∀f,eQs O A p f
 |0=>λm v n k o w h V c B G H=>Xg H ω
 |f+1=>λm v n k o w h V c B G H hb C=>by
  have ih:=eQt O A p hP y f;have Z:p.fs[n]? =some p.fs[n]:=Q6 c;have B:=hP.flb _ (Fp c);have Y:Yc p.nm p.fs (f+1) v.rd v.d n o v.g=Z9 p.nm n v.d (aL p f n v.rd) (QN (p.fs[n].2)) 0 0 o [] {v.g with fr:=true}:=by rw[Yc,Z]<;>rfl
  generalize c:Yc p.nm p.fs (f+1) v.rd v.d n o v.g=res at*;generalize y:p.fs[n].2=text at*;have Vs:∀x∈text,x<256:=by rw[<-y];exact B.t8
  have c:text.length<=1048576:=by rw[<-y];exact B.tl
  have P:Qk (QN text)=text:=Wh (by rw[<-y];exact B.ok);have c:=hP.fls.2;have c:=QZ text;refine QK iQL [] Tryz.func126 ?_;refine new λw1 c B Qh=>?_;have h1:=h.ext c;have B:=h.top;have B:=h.rb;have N:¬w.heap.size=p.r:=λe=>by omega
  refine Qp h1.blk rfl (XM [Value.int .i64 ((n:Nat):Int)] ?_);intro L M B C;have B:=h1.ext M;have D:Sl L 1 (some ⟨w1.heap.size,0,none⟩) 1 1 [Value.int .i64 ((n:Nat):Int)]:=Sl.own (sz:=1) (n:=1) C (Qw _) δ (by simp);have C:=h.rl;refine XV (n:=v.rd.length) B.rdo D (by simp[Kb]) (by unfold maxLen;omega) B.top ?_ (b:=(by show(v.rd.length+1)*8<=_;omega));intro D' J w3 C S W;have D:=B.nrow;refine Xv (B.blk.mod C D.2) (show 3<10 by decide) λw4 Q X=>?_;have E:=(c.trans M).size;have K:Moved w m.DA D':=W.back E;let E:QM:={m with DA:=D',dc:=J}
  have Q1:=c.trans M;refine Qp X rfl ?_;have I:Ext O w4:=Q.ext (C.ext B.e0 λi c=>by have:=(B.rdo.rows i c).1;omega) (λi c=>by have:=h.lor;omega);refine XG gU (hP.fls.ext I) rfl ω λpp x R hc=>?_;obtain rfl:p.fs[n]=x:=Option.some.inj (Z.symm.trans R);refine load (hc 1 _ rfl) ?_;rw[y];refine d8 ?_;intro I y R QC;refine Xv (X.ext y) (show 6<10 by decide) λw6 R Xi=>?_;have I:Mod (·=p.r) w3 w6:=((Q.trans (Mod.of_ext (·=p.r) y) λ_=>.inl)).trans R λ_=>.inl;have y:Qr O w6 A p E {v with rd:=n::v.rd,g:={v.g with fr:=true}}:=by
   have X:Qr O L A p m {v with g:={v.g with fr:=true}}∨True:=.inr trivial;have QE:=TQ.moved (p:=p) (m:=m) (m':=E) rfl (Moved.refl L m.OA) W;have W:Mod (QS p m) L w6:=(C.mono (S':=QS p m) λi c=>.inl (.inr (.inr c))).trans I λi c=>.inl (.inl c);have L:∀i,Qj D' i->¬i=p.r:=λi c e=>by subst e;have:=(S.rows _ c).1;omega
   have X:=C.size;have X:=I.size;have e:j5 (n::v.rd).reverse=j5 v.rd.reverse++ [.int .i64 n]:=by simp[j5]
   refine⟨W.ext B.e0 B.lo,h.lor,h.rb,ω,Xi,?_,?_,B.len,λj s x q1 q2=>(B.dgs j s x q1 q2).step (W.mono λi c=>.inl (.inl c)) QE,B.tl,B.sl,B.b8,λH=>by(have H:(true:Bool)=false:=H;cases H),λi c=>JZ (B.tt i c) ω,B.dl,by show(n::v.rd).length<=_;rw[Xa];omega⟩;show Own w6 A 3 1 D' (n::v.rd).length J (j5 (n::v.rd).reverse);rw[e,Xa];exact S.mod I L;exact(B.out.mod C λi c hj=>B.out.apart B.rdo δ c hj).mod I (λi c e=>by subst e;exact D.1 c)
  have D:w4.heap.size+1<=w6.heap.size:=by have:=R.size;omega
  have D:=Q.size;have D:=C.size;have D:Own w6 A pQ 6 (some ⟨w4.heap.size,0,none⟩) 0 0 (Z2 []):=Own.empty (QC.mod R ω) ω;have Q:Mod (QS p m) w w6:=((Mod.of_ext (QS p m) Q1).trans (C.mono (S':=QS p m) λi c=>.inl (.inr (.inr c))) λ_=>.inl).trans I λi c=>.inl (.inl c);have H:¬Qj m.DA w.heap.size:=λc=>by have:=(h.rdo.rows _ c).2;omega
  have J:Blk w6 w.heap.size 32 k.cells:=((Qh.ext M).mod C H).mod I N;have kC:=h.tt;let C:Nat->Prop:=λi=>m.T i∨Qj (some ⟨w4.heap.size,0,none⟩) i∨i=w.heap.size
  have I:∀i,Qj (some (⟨w4.heap.size,0,none⟩:Addr)) i->i=w4.heap.size:=λi c=>by obtain⟨H,e1,e2⟩:=c;cases e1;exact e2.symm
  have M:∀i,C i->E.T i∨w.heap.size<=i:=λi c=>by obtain c|c|c:=c;exact .inl c;exact .inr (by have:=I i c;omega);exact .inr ω
  have L:Qr O w6 A p {E with T:=C} {v with rd:=n::v.rd,g:={v.g with fr:=true}}:=by refine⟨y.e0,y.lor,y.rb,y.top,y.blk,y.rdo,y.out,y.len,λj s x q1 q2=>?_,y.tl,y.sl,y.b8,y.nf,λi c=>?_,y.dl,y.rl⟩;have G:=y.dgs j s x q1 q2;refine⟨G.sb,G.st,λH y h1 S=>?_⟩;obtain S|S:=S;exact G.off H y h1 (.inl S);obtain S|S:=M _ S;exact G.off H y h1 (.inr S);have:=SB.lt (h.dgs j s x q1 q2).sb H y h1;omega;obtain c|c|c:=c;have:=kC i c;omega;have:=I i c;omega;omega
  have y:DgO w6 (TQ p {E with T:=C}) p.nm.length k o:=by
   have R:=V.step (S':=TQ p {E with T:=C}) (w':=w6) (Q.mono λi c=>.inl (.inl c)) (λi c=>by
    obtain c|c:=c;obtain h1|h1:=QS.moved (p:=p) (m:=m) (m':={E with T:=C}) (Moved.refl w m.OA) K i c;exact .inl (.inl h1);exact .inr h1;obtain h1|h1:=M i c;exact .inl (.inr h1);exact .inr h1)
   exact R
  have M:(QN text).length<=text.length:=by have:=pD (QN text);rw[P] at this;exact this
  have Wv:w.heap.size<=w.heap.size:=Qw _;refine loop Qe [8,9,7] (λs:LQ=>[.int .i64 s.ln,.int .i64 s.at_,.slice s.A s.z.length s.c]) (λs w'=>FqI O w A p m v n w.heap.size text (aL p f n v.rd) res s w') (λs _=>s.ls.length) ⟨k,o,[],{E with T:=C},{v with rd:=n::v.rd,g:={v.g with fr:=true}},0,0,QN text,some ⟨w4.heap.size,0,none⟩,0⟩ rfl
   ⟨L,rfl,rfl,J,y,D,(λz C=>by cases C),(λz C=>by cases C),(by rw[P];rfl),(by rw[P];simp),nE text,Q,Moved.refl _ _,K,(λi c=>by have:=I i c;omega),(Q9 _),(by show 0+(QN text).length<=_;omega),.inl ⟨rfl,rfl,G,Y.symm⟩⟩ ?_
  rintro s w7 y;have W:=y.rr;have JM:=y.al;have D:=y.mw.size;have nbk:¬QS p s.m w.heap.size:=λhq=>by obtain e|hq|hq:=hq;exact N e;exact y.kb.apart W.out δ hq;exact y.kb.apart W.rdo δ hq
  have nbA:¬Qj s.A w.heap.size:=y.kb.apart y.ow δ;have I:∀i,Qj s.A i->¬i=p.r:=λi c e=>by have:=(y.ow.rows i c).1;omega
  have kH:∀i,Qj s.A i->¬QS p s.m i:=λi c hq=>by obtain e|hq|hq:=hq;exact I i c e;exact y.ow.apart W.out δ c hq;exact y.ow.apart W.rdo δ c hq
  have qW:∀i,Qj s.A i->s.m.T i:=λi c=>by rw[y.tt];exact .inr (.inl c)
  have kN:s.m.T w.heap.size:=by rw[y.tt];exact .inr (.inr rfl)
  have EN:∀i,Qj s.A i->O.heap.size<=i:=λi c=>by have:=(y.ow.rows i c).1;omega
  have D:O.heap.size<=w.heap.size:=h.e0.size;have E1:∀i,m.T i->s.m.T i:=λi c=>by rw[y.tt];exact .inl c
  refine Ql (λD=>?_) λD=>?_;rotate_left;have E2:s.ls=[]∨s.v.b.e≠0:=.inl (VT (by have:=pD s.ls;omega));have M:∀(G:QV) (w9:θ),Qr O w9 A p s.m G->Mod (·=p.r) w7 w9->G.rd=n::v.rd->EndQ v G res->∀Qu,Mod (·=p.r) w9 Qu->Blk Qu p.r 201 (y9 p s.m {G with rd:=v.rd,g:={G.g with fr:=true}})->CJ O A p m v res w Qu:=λG w9 D Q zQ V Qu K Zo=>by have Zs:=D.pop zQ K (g':={G.g with fr:=true}) rfl rfl rfl Zo;have D4:Mod (·=p.r) w7 Qu:=Q.trans K λ_=>.inl;have ZY:Qr O Qu A p {s.m with T:=m.T} {G with rd:=v.rd,g:={G.g with fr:=true}}:=Zs.modT (U:=λ_=>False) (Mod.refl _ _) (λi c=>c.elim) (λi c=>c.elim) (λi c=>c.elim) (λi c=>.inl (E1 i c)) (λi c=>by have:=kC i c;have:=D4.size;omega);refine⟨{s.m with T:=m.T},_,rfl,ZY,y.mw' Wv (D4.mono λi c=>.inl (.inl (.inl c))),y.ma,y.mb,rfl,V.go⟩
  refine Ql (λC=>?_) λC=>?_;obtain⟨z',x,X⟩:∃z' x,s.z=z'++ [x]:=by obtain P|⟨z',x,P⟩:=kS s.z;rw[P] at C;exact Xg C δ;exact⟨z',x,by rw[P];simp⟩
  have YB:s.z.length=z'.length+1:=by rw[X];simp
  have bQ:s.z.reverse.map (·.s)=x.s::z'.reverse.map (·.s):=by rw[X];simp
  have Kw:=y.dl;obtain⟨oa,ZL,_⟩:=y.ow.sl.at_ (by omega:0<s.z.length);have gi:Own w7 A pQ 6 (some oa) s.z.length s.c (Z2 z'++x.cells):=by rw[<-ZL,<-ep,<-X];exact y.ow
  refine Qz ((z'.length:Nat):Int) ?_;rw[ZL];refine KU (j:=z'.length) ω ?_;rw[show z'.length*6=(Z2 z').length from (lk z').symm];refine GO gi ω (lj (i:=5) (u:=.int .i64 x.s.ln) rfl) (call (et 72 n x.s.ln w7 W) ?_);rintro _ w9 ⟨D,Q⟩;have V:EndQ v {s.v with b:=ZW s.v.b ⟨72,(n:Int),(x.s.ln:Int)⟩} res:=by obtain⟨E,L,Y,a4⟩|⟨E,L,Y⟩:=y.st;have ZF:s.ls=[]:=E2.resolve_right λS=>S (by rw[E];exact hb);rw[ZF,Z9.eq_def,bQ] at a4;rw[<-a4];refine⟨?_,(by show(72:Int)≠0;decide),(by show v.d<=s.v.d;omega)⟩;show ZW s.v.b ⟨72,(n:Int),(x.s.ln:Int)⟩=_;rw[E];exact Qf hb;rw[L];exact⟨φ E,E,Y⟩
  have Uv:{s.v with b:=ZW s.v.b ⟨72,(n:Int),(x.s.ln:Int)⟩}.rd.length=v.rd.length+1:=by show s.v.rd.length=_;rw[y.rdv]<;>rfl
  have J:=D.rdo.sl.le;refine Xw (Ext w9) 12 (oz 12 0 []) (Ext.drew w9) (Qx (v:=.slice s.m.DA s.v.rd.length s.m.dc) (λw' R=>by rw[(D.blk.ext R).cell];rfl) (Qx (v:=.slice s.m.DA s.v.rd.length s.m.dc) (λw' R=>by rw[(D.blk.ext R).cell];rfl) (Qz ((v.rd.length:Nat):Int) ?_ (hm:=by rw[y.rdv,Xa];omega))));refine Ho (h:=v.rd.length) Qe rfl rfl rfl rfl rfl rfl (by have J:s.v.rd.length<=s.m.dc:=J;rw[y.rdv,Xa] at J;omega) ?_;have mI:=Ext.drew w9;refine Xv (D.blk.ext mI) (show 3<10 by decide) λQu K Zo=>?_;refine Xv Zo (show 6<10 by decide) λQJ Wp ZC=>?_;exact M _ w9 D Q y.rdv V QJ (((Mod.of_ext (·=p.r) mI).trans K λ_=>.inl).trans Wp λ_=>.inl) ZC;have VM:s.z=[]:=VT ω;have D:=W;have Q:Mod (·=p.r) w7 w7:=Mod.refl _ _;have V:EndQ v s.v res:=by obtain⟨E,L,Y,a4⟩|⟨E,L,Y⟩:=y.st;have ZF:s.ls=[]:=E2.resolve_right λS=>S (by rw[E];exact hb);rw[ZF,Z9.eq_def,VM] at a4;rw[<-a4];exact⟨E,by rw[L,VM];rfl,rfl⟩;rw[L];exact⟨rfl,E,Y⟩
  have Uv:s.v.rd.length=v.rd.length+1:=by show s.v.rd.length=_;rw[y.rdv]<;>rfl
  have J:=D.rdo.sl.le;refine Xw (Ext w7) 12 (oz 12 0 []) (Ext.drew w7) (Qx (v:=.slice s.m.DA s.v.rd.length s.m.dc) (λw' R=>by rw[(D.blk.ext R).cell];rfl) (Qx (v:=.slice s.m.DA s.v.rd.length s.m.dc) (λw' R=>by rw[(D.blk.ext R).cell];rfl) (Qz ((v.rd.length:Nat):Int) ?_ (hm:=by rw[y.rdv,Xa];omega))));refine Ho (h:=v.rd.length) Qe rfl rfl rfl rfl rfl rfl (by have J:s.v.rd.length<=s.m.dc:=J;rw[y.rdv,Xa] at J;omega) ?_;have mI:=Ext.drew w7;refine Xv (D.blk.ext mI) (show 3<10 by decide) λQu K Zo=>?_;refine Xv Zo (show 6<10 by decide) λQJ Wp ZC=>?_;exact M _ w7 D Q y.rdv V QJ (((Mod.of_ext (·=p.r) mI).trans K λ_=>.inl).trans Wp λ_=>.inl) ZC;refine lv W.blk rfl (X0 (λc2=>?_) λc2=>?_);rotate_left;have E2:s.ls=[]∨s.v.b.e≠0:=.inr c2;have M:∀(G:QV) (w9:θ),Qr O w9 A p s.m G->Mod (·=p.r) w7 w9->G.rd=n::v.rd->EndQ v G res->∀Qu,Mod (·=p.r) w9 Qu->Blk Qu p.r 201 (y9 p s.m {G with rd:=v.rd,g:={G.g with fr:=true}})->CJ O A p m v res w Qu:=λG w9 D Q zQ V Qu K Zo=>by have Zs:=D.pop zQ K (g':={G.g with fr:=true}) rfl rfl rfl Zo;have D4:Mod (·=p.r) w7 Qu:=Q.trans K λ_=>.inl;have ZY:Qr O Qu A p {s.m with T:=m.T} {G with rd:=v.rd,g:={G.g with fr:=true}}:=Zs.modT (U:=λ_=>False) (Mod.refl _ _) (λi c=>c.elim) (λi c=>c.elim) (λi c=>c.elim) (λi c=>.inl (E1 i c)) (λi c=>by have:=kC i c;have:=D4.size;omega);refine⟨{s.m with T:=m.T},_,rfl,ZY,y.mw' Wv (D4.mono λi c=>.inl (.inl (.inl c))),y.ma,y.mb,rfl,V.go⟩
  refine Ql (λC=>?_) λC=>?_;obtain⟨z',x,X⟩:∃z' x,s.z=z'++ [x]:=by obtain P|⟨z',x,P⟩:=kS s.z;rw[P] at C;exact Xg C δ;exact⟨z',x,by rw[P];simp⟩
  have YB:s.z.length=z'.length+1:=by rw[X];simp
  have bQ:s.z.reverse.map (·.s)=x.s::z'.reverse.map (·.s):=by rw[X];simp
  have Kw:=y.dl;obtain⟨oa,ZL,_⟩:=y.ow.sl.at_ (by omega:0<s.z.length);have gi:Own w7 A pQ 6 (some oa) s.z.length s.c (Z2 z'++x.cells):=by rw[<-ZL,<-ep,<-X];exact y.ow
  refine Qz ((z'.length:Nat):Int) ?_;rw[ZL];refine KU (j:=z'.length) ω ?_;rw[show z'.length*6=(Z2 z').length from (lk z').symm];refine GO gi ω (lj (i:=5) (u:=.int .i64 x.s.ln) rfl) (call (et 72 n x.s.ln w7 W) ?_);rintro _ w9 ⟨D,Q⟩;have V:EndQ v {s.v with b:=ZW s.v.b ⟨72,(n:Int),(x.s.ln:Int)⟩} res:=by obtain⟨E,L,Y,a4⟩|⟨E,L,Y⟩:=y.st;have ZF:s.ls=[]:=E2.resolve_right λS=>S (by rw[E];exact hb);rw[ZF,Z9.eq_def,bQ] at a4;rw[<-a4];refine⟨?_,(by show(72:Int)≠0;decide),(by show v.d<=s.v.d;omega)⟩;show ZW s.v.b ⟨72,(n:Int),(x.s.ln:Int)⟩=_;rw[E];exact Qf hb;rw[L];exact⟨φ E,E,Y⟩
  have Uv:{s.v with b:=ZW s.v.b ⟨72,(n:Int),(x.s.ln:Int)⟩}.rd.length=v.rd.length+1:=by show s.v.rd.length=_;rw[y.rdv]<;>rfl
  have J:=D.rdo.sl.le;refine Xw (Ext w9) 12 (oz 12 0 []) (Ext.drew w9) (Qx (v:=.slice s.m.DA s.v.rd.length s.m.dc) (λw' R=>by rw[(D.blk.ext R).cell];rfl) (Qx (v:=.slice s.m.DA s.v.rd.length s.m.dc) (λw' R=>by rw[(D.blk.ext R).cell];rfl) (Qz ((v.rd.length:Nat):Int) ?_ (hm:=by rw[y.rdv,Xa];omega))));refine Ho (h:=v.rd.length) Qe rfl rfl rfl rfl rfl rfl (by have J:s.v.rd.length<=s.m.dc:=J;rw[y.rdv,Xa] at J;omega) ?_;have mI:=Ext.drew w9;refine Xv (D.blk.ext mI) (show 3<10 by decide) λQu K Zo=>?_;refine Xv Zo (show 6<10 by decide) λQJ Wp ZC=>?_;exact M _ w9 D Q y.rdv V QJ (((Mod.of_ext (·=p.r) mI).trans K λ_=>.inl).trans Wp λ_=>.inl) ZC;have VM:s.z=[]:=VT ω;have D:=W;have Q:Mod (·=p.r) w7 w7:=Mod.refl _ _;have V:EndQ v s.v res:=by obtain⟨E,L,Y,a4⟩|⟨E,L,Y⟩:=y.st;have ZF:s.ls=[]:=E2.resolve_right λS=>S (by rw[E];exact hb);rw[ZF,Z9.eq_def,VM] at a4;rw[<-a4];exact⟨E,by rw[L,VM];rfl,rfl⟩;rw[L];exact⟨rfl,E,Y⟩
  have Uv:s.v.rd.length=v.rd.length+1:=by show s.v.rd.length=_;rw[y.rdv]<;>rfl
  have J:=D.rdo.sl.le;refine Xw (Ext w7) 12 (oz 12 0 []) (Ext.drew w7) (Qx (v:=.slice s.m.DA s.v.rd.length s.m.dc) (λw' R=>by rw[(D.blk.ext R).cell];rfl) (Qx (v:=.slice s.m.DA s.v.rd.length s.m.dc) (λw' R=>by rw[(D.blk.ext R).cell];rfl) (Qz ((v.rd.length:Nat):Int) ?_ (hm:=by rw[y.rdv,Xa];omega))));refine Ho (h:=v.rd.length) Qe rfl rfl rfl rfl rfl rfl (by have J:s.v.rd.length<=s.m.dc:=J;rw[y.rdv,Xa] at J;omega) ?_;have mI:=Ext.drew w7;refine Xv (D.blk.ext mI) (show 3<10 by decide) λQu K Zo=>?_;refine Xv Zo (show 6<10 by decide) λQJ Wp ZC=>?_;exact M _ w7 D Q y.rdv V QJ (((Mod.of_ext (·=p.r) mI).trans K λ_=>.inl).trans Wp λ_=>.inl) ZC;obtain⟨aT,hsd,zR,QE⟩:s.v.b=v.b/\s.v.d=v.d+s.z.length/\s.v.d<=64/\Z9 p.nm n v.d (aL p f n v.rd) s.ls s.ln s.at_ s.o (s.z.reverse.map (·.s)) s.v.g=res:=by obtain S|⟨S,_⟩:=y.st;exact S;exact Xg c2 S
  cases ZF:s.ls with|nil=>rw[ZF] at JM;have:(Qk ([]:Λ)).length=0:=rfl;omega|cons l ls=>
  have K:=y.dr;rw[ZF,YJ] at K;rw[ZF,YJ] at JM;simp only[Qy,Xa] at JM;have M:10∉l:=y.li l (by rw[ZF];simp);have K7:∀x∈l,x<256:=λx Z=>Vs x (a8 (by rw[K];simp[Z]:x∈text.drop s.at_));have E:=y.lb;rw[ZF,Xa] at E;have gQk:=QZ l;refine loop Qe [10] (λe:Nat=>[.int .i64 e]) (λe w'=>w7=w'/\s.at_<=e/\e<=s.at_+l.length) (λe _=>s.at_+l.length-e) s.at_ rfl ⟨rfl,Qw _,ω⟩ ?_;rintro E _ ⟨rfl,G,J⟩;refine Wd (j:=E) ω λb G J=>?_;rw[We Vs] at G;refine Ya (λL=>?_) λL=>?_
  have Q:E≠s.at_+l.length:=λe=>by rw[e,oQ6 K] at G;cases G;exact L rfl
  refine QF E ?_;exact⟨E+1,rfl,⟨rfl,ω,ω⟩,by show s.at_+l.length-(E+1)<s.at_+l.length-E;omega⟩;have L:E=s.at_+l.length:=by by_cases h:E<s.at_+l.length;have B:=oQ5 K (j:=E-s.at_) ω;rw[show s.at_+(E-s.at_)=E by omega,G] at B;have:=Xd B.symm;exact Xg (by rw[show b=10 by omega] at this;exact this) M;omega
  have E:(text.take (s.at_+l.length)).drop s.at_=l:=by rw[dm,K,show s.at_+l.length-s.at_=l.length by omega,uw rfl]
  have B:(text.take (s.at_+l.length+1)).drop s.at_=l++ [10]:=by rw[dm,K,show s.at_+l.length+1-s.at_=l.length+1 by omega,show l++10::Qk ls=(l++ [10])++Qk ls by simp,uw (by simp)]
  subst L;refine QF (s.ln) (XF (v':=.string (Qb l)) ⟨ω,ω,ω⟩ (by rw[Kj];simp only[WX];rw[E]) (call (ji l w7 K7) ?_));rintro _ _ ⟨rfl,rfl⟩;have bg:∀q:Γ,(∀b∈q,b<256)->∀w',Fn ψ 181 [.string (Qb l),.string (Qb q)] w' (λv E=>v= .bool (q.isPrefixOf l)/\w'=E):=λq hq w'=>Hm l q w' K7 hq;have Kw:=y.dl;have gq:s.v.rd=n::v.rd:=y.rdv;have tQJ:s.v.rd.length<=s.v.d+1:=by rw[gq,Xa];omega
  rw[ZF] at QE;have mu:ls.length<(l::ls).length:=by simp
  obtain XT|⟨F,Y,XT⟩|⟨F,Y,XT⟩|⟨F,Y,XT⟩|⟨Y,XT⟩|⟨Y,XT⟩:=pQj l;have aq:=pQi XT;refine Q3 (by rw[aq];rfl) ?_;have dT:=Ext.drew w7;refine Xw (Mod (QS p s.m) w7) 11 (oz 10 0 [(false,10)]) (Mod.of_ext _ dT) (QF (s.at_+l.length) (XF (v':=.string (Qb (l++ [10]))) ⟨ω,ω,ω⟩ (by rw[Kj];simp only[WX];rw[B]) (Xe (vs:=s.k.cells) rfl (λw' R j u hj=>by rw[(y.kb.mod R nbk).cell];exact hj) (call (pQb s.m s.v (l++ [10]) n s.at_ ((s.ln+1:Nat):Int) s.k s.o w7.drew (W.ext dT) (y.kd.ext dT) (yN K7 δ) (by simp;omega) (by rw[gq];simp)) ?_))));rintro _ w8 hT;unfold CI at hT;have G:=QE;rw[pK XT] at G;cases ha:Yo (l++ [10]) n s.at_ s.o s.v.g with
  |none=>
   rw[ha] at hT G;simp only at hT G;obtain⟨L,J0⟩:=hT;have K:Mod (·=p.r) w7 w8:=(Mod.of_ext (·=p.r) dT).trans J0 λ_=>.inl;refine⟨K.mono λi c=>.inl (.inl c),?_⟩;have J:ZW s.v.b ⟨2,(n:Int),((s.ln+1:Nat):Int)⟩=⟨2,n,((s.ln+1:Nat):Int)⟩:=Qf c2;have E:∀wY,Mod (·=p.r) w8 wY->Qr O wY A p s.m {s.v with b:=ZW s.v.b ⟨2,(n:Int),((s.ln+1:Nat):Int)⟩}->FqI O w A p m v n w.heap.size text (aL p f n v.rd) res ⟨s.k,s.o,s.z,s.m,{s.v with b:=ZW s.v.b ⟨2,(n:Int),((s.ln+1:Nat):Int)⟩},s.ln+1,s.at_+l.length+1,ls,s.A,s.c⟩ wY:=λwY B hY=>by have M:Mod (·=p.r) w7 wY:=K.trans B λ_=>.inl;have V:Mod (Kt p s.m s.A w.heap.size) w7 wY:=M.mono λi c=>.inl (.inl (.inl c));have Q:∀{x:DV} {ox:BF},DgO w7 (TQ p s.m) p.nm.length x ox->DgO wY (TQ p s.m) p.nm.length x ox:=λZ=>Z.keep M λi c=>.inl (.inl (.inl c));exact y.go Wv V hY gq y.tt y.nw (Moved.refl _ _) (Moved.refl _ _) (y.kb.mod M N) (Q y.kd) (y.ow.mod M I) (λz C=>Q (y.zx z C)) (λz C=>Q (y.zy z C)) ZF rfl Kw rfl (.inr ⟨by show(ZW s.v.b ⟨2,(n:Int),((s.ln+1:Nat):Int)⟩).e≠0;rw[J];show(2:Int)≠0;decide,by show res= .error (ZW s.v.b ⟨2,(n:Int),((s.ln+1:Nat):Int)⟩);rw[J];exact G.symm,by show v.d<=s.v.d;omega⟩)
   refine Qp L.blk rfl (Z0 (λYR=>?_) λYR=>?_);have YR:s.v.g.fr=true:=YR;refine Xv L.blk (show 6<10 by decide) λwY B M=>?_;refine QF (s.at_+l.length) ?_;have hQ:Qr O wY A p s.m {s.v with b:=ZW s.v.b ⟨2,(n:Int),((s.ln+1:Nat):Int)⟩}:=L.put B (by rw[<-YR] at M;exact M) rfl rfl rfl L.nf L.dl;exact⟨⟨s.k,s.o,s.z,s.m,{s.v with b:=ZW s.v.b ⟨2,(n:Int),((s.ln+1:Nat):Int)⟩},s.ln+1,s.at_+l.length+1,ls,s.A,s.c⟩,rfl,E wY B hQ,mu⟩;have YR:s.v.g.fr=false:=YR;refine call (ji l _ K7) ?_;rw[aq];rintro _ _ ⟨rfl,rfl⟩;refine Xv L.blk (show 6<10 by decide) λwY B M=>?_;refine QF (s.at_+l.length) ?_;have hQ:Qr O wY A p s.m {s.v with b:=ZW s.v.b ⟨2,(n:Int),((s.ln+1:Nat):Int)⟩}:=L.put B (by rw[<-YR] at M;exact M) rfl rfl rfl L.nf L.dl;exact⟨⟨s.k,s.o,s.z,s.m,{s.v with b:=ZW s.v.b ⟨2,(n:Int),((s.ln+1:Nat):Int)⟩},s.ln+1,s.at_+l.length+1,ls,s.A,s.c⟩,rfl,E wY B hQ,mu⟩
  |some g'=>
   rw[ha] at hT G;simp only at hT G;obtain⟨m8,iE,L,J0,SM,wz⟩:=hT;have K:Mod (QS p s.m) w7 w8:=(Mod.of_ext (QS p s.m) dT).trans J0 λ_=>.inl;refine⟨K,?_⟩;have gt:g'.fr=false:=by unfold Yo at ha;split at ha;cases ha;cases ha;rfl
   have qi:Moved w7 s.m.OA m8.OA:=SM.back dT.size;have oA:Moved w7 s.m.DA m8.DA:=wz.back dT.size;refine Qp L.blk rfl (QX gt (call (ji l _ K7) ?_));rw[aq];rintro _ _ ⟨rfl,rfl⟩;refine Xv L.blk (show 6<10 by decide) λwY B M=>?_;refine QF (s.at_+l.length) ?_;have hY:Qr O wY A p m8 {s.v with g:=g'}:=L.put B (by rw[<-gt] at M;exact M) rfl rfl rfl L.nf L.dl;let s':LQ:=⟨s.k,s.o,s.z,m8,{s.v with g:=g'},s.ln+1,s.at_+l.length+1,ls,s.A,s.c⟩
   have tt':s'.m.T=λi=>m.T i∨Qj s'.A i∨i=w.heap.size:=by show m8.T=_;rw[iE,y.tt]
   have V:Mod (Kt p s.m s.A w.heap.size) w7 wY:=(K.mono (S':=Kt p s.m s.A w.heap.size) λi c=>.inl (.inl c)).trans B λi c=>.inl (.inl (.inl c));have Q:∀{x:DV} {ox:BF},DgO w7 (TQ p s.m) p.nm.length x ox->DgO wY (TQ p s'.m) p.nm.length x ox:=λZ=>y.kp (s':=s') V tt' (Moved.refl _ _) qi oA Z;refine⟨s',rfl,y.go (s':=s') Wv V hY gq tt' y.nw qi oA ((y.kb.mod K nbk).mod B N) (Q y.kd) ((y.ow.mod K kH).mod B I) (λz C=>Q (y.zx z C)) (λz C=>Q (y.zy z C)) ZF rfl Kw rfl (.inl ⟨aT,hsd,zR,G⟩),mu⟩
  have aq:=CL (s:=l) (by rw[XT];simp);have uQK:l.length=4+F.length:=by rw[Y];simp[Zd];omega
  refine QX (by rw[aq];rfl) (call (bg Zd δ w7) ?_);rintro _ _ ⟨rfl,rfl⟩;refine Q3 (by rw[Y];exact eQn _ _) ?_;have D5:∀b∈F,b<256:=λb hb=>K7 b (by rw[Y];simp[hb]);refine XF (v':=.string (Qb F)) ⟨δ,ω,ω⟩ (by
   rw[Kj,gQk];simp only[WX];rw[ZJ (Qw _),Y];rfl) ?_
  refine call (eQo F n ((s.ln+1:Nat):Int) w7 hP W D5 ω) ?_;rintro _ w8 ⟨t,d,rfl,L,J0,sQl,Yv,mj,Zb⟩;have ti:=J0.size;refine new λw9 Xm VL XX=>?_;refine Qo XX λQu Y9 _ Zo=>?_;have dU:Ext w8 Qu:=X1 Xm XX Y9;have uQL:=dU.size;have Zs:=L.ext dU;refine call (eQp n ((s.ln+1:Nat):Int) Qu Zs zR) ?_;rintro _ QJ ⟨ZY,Wp⟩;have kl:=Wp.size;generalize J:(if({s.v with b:=cQ s.v.b (n:Int) ((s.ln+1:Nat):Int) (Jn p.nm F)}:QV).d=64 then ZW (cQ s.v.b (n:Int) ((s.ln+1:Nat):Int) (Jn p.nm F)) ⟨2,(n:Int),((s.ln+1:Nat):Int)⟩else cQ s.v.b (n:Int) ((s.ln+1:Nat):Int) (Jn p.nm F))=b2 at ZY;have Lg:Mod (·=p.r) w7 QJ:=(J0.trans (Mod.of_ext (·=p.r) dU) λ_=>.inl).trans Wp λ_=>.inl;have n8r:¬w8.heap.size=p.r:=λe=>by have:=W.top;omega
  have zH:=y.kb.mod Lg N;have ZC:=Zo.mod Wp n8r;have Dv:DgO QJ (TQ p s.m) p.nm.length s.k s.o:=y.kd.keep Lg λi c=>.inl (.inl (.inl c));have gQl:SB QJ t.A t.n t.c t.nd:=SB.modo (sQl.ext dU) Wp (λH e P S=>by have:=mj H e P;have:=W.top;omega);have sQm:=y.ow.mod Lg I;have nbt:¬Qj s.A w8.heap.size:=λc=>by have:=(y.ow.rows _ c).2;omega
  have oy:=Ext.drew QJ;refine Xw (Mod (Qj s.A) QJ) 10 (oz 4 0 [(true,5),(false,4),(true,6),(false,7),(false,8),(true,9)]) (Mod.of_ext _ oy) (Xe (vs:=s.k.cells) rfl (λw' R j u hj=>by rw[(zH.mod R nbA).cell];exact hj) (Xe (vs:=s.k.cells) rfl (λw' R j u hj=>by rw[(zH.mod R nbA).cell];exact hj) (Xe (vs:=t.cells) rfl (λw' R j u hj=>by rw[(ZC.mod R nbt).cell];exact hj) (call (OG hP.nmk s.k.A s.k.n s.k.c t.A t.n t.c QJ.drew (Dv.sb.ext oy) (gQl.ext oy) Dv.st Yv) ?_))));rintro _ Xk ⟨rA,rn,rc,rnd,rr,rfl,XS,gQm,hrS,L9⟩;have SO:=oy.trans XS;refine⟨Mod.of_ext _ SO,?_⟩;let b:DV:=⟨rA,rn,rc,rnd,rr⟩
  let zn:SeV:=⟨⟨s.o,Vm s.o d,false,s.ln+1⟩,s.k,b⟩
  refine XM (zn.cells) ?_;intro Zy Xc sU KB;have qw:=SO.trans Xc;refine⟨Mod.of_ext _ qw,?_⟩;have DG:Sl Zy 6 (some ⟨Xk.heap.size,0,none⟩) 1 1 zn.cells:=Sl.own (sz:=6) (n:=1) KB (Qw _) δ (by simp[SeV.cells]);refine XV (sQm.ext qw) DG (gV zn) (by unfold maxLen;omega) (ZY.ext qw).top ?_ (b:=(by show(s.z.length+1)*80<=_;omega));intro A' c' Ze wh D6 Lh;have tj:Mod (Qj s.A) QJ Ze:=(Mod.of_ext (Qj s.A) qw).trans wh λ_=>.inl;refine⟨tj,?_⟩;have HY:=tj.size;have uQM:=SO.size;have uQN:=qw.size;have Dw:=zH.mod tj nbA;have Ko:=ZC.mod tj nbt;have gQn:DgO Ze (TQ p s.m) p.nm.length s.k s.o:=Dv.keep tj λi c=>.inl (.inr (qW i c));have offrow:∀i,Qj s.A i->i<w7.heap.size:=λi c=>(y.ow.rows i c).2;have sQn:SB Ze t.A t.n t.c t.nd:=SB.modo gQl tj (λH e P S=>by have:=mj H e P;have:=offrow _ S;omega);have sQo:SB Ze b.A b.n b.c b.nd:=SB.modo (w:=Zy) (gQm.ext Xc) wh (λH e P S=>by have:=L9 H.block ⟨H,e,rfl⟩;have:=offrow _ S;have:=oy.size;omega);refine Qm Dw (Qm Ko (call (vp hP.nmk s.k.A s.k.n s.k.c t.A t.n t.c Ze gQn.sb sQn gQn.st Yv) ?_));rintro _ Ju ⟨aA,an,ac,and_,ar,rfl,Zi,sQp,haS,Ma⟩;have Ib:=Zi.size
  let a:DV:=⟨aA,an,ac,and_,ar⟩
  refine Qo (Dw.ext Zi) λKC sQq _ Yt=>?_;have qx:Mod (·=w.heap.size) Ju KC:=vQB sQq rfl;have Ds:=qx.size;have Yi:Qr O Ze A p s.m {s.v with d:=s.v.d+1,b:=b2}:=ZY.modT (T':=s.m.T) tj qW kH EN (λ_=>.inl) λi c=>JZ (ZY.tt i c) HY;have Wa:Qr O KC A p s.m {s.v with d:=s.v.d+1,b:=b2}:=(Yi.ext Zi).modT (T':=s.m.T) qx (λi c=>by subst c;exact kN) (λi c=>by subst c;exact nbk) (λi c=>ω) (λ_=>.inl) λi c=>JZ ((Yi.ext Zi).tt i c) Ds;let T2:Nat->Prop:=λi=>m.T i∨Qj A' i∨i=w.heap.size
  have tk:Moved w7 s.A A':=Lh.back ω;have Ys:∀i,T2 i->s.m.T i∨w7.heap.size<=i:=λi c=>by obtain c|c|c:=c;exact .inl (E1 i c);obtain h1|h1:=tk.rows i c;exact .inl (qW i h1);exact .inr h1;exact .inl (by rw[c];exact kN)
  have D7:∀i,T2 i->i<KC.heap.size:=λi c=>by obtain c|c|c:=c;have:=kC i c;omega;have:=(D6.rows i c).2;omega;omega
  have hQ:Qr O KC A p {s.m with T:=T2} {s.v with d:=s.v.d+1,b:=b2}:=W.reT Wa rfl Ys D7;let s':LQ:=⟨a,Jw s.o d,s.z++ [zn],{s.m with T:=T2},{s.v with d:=s.v.d+1,b:=b2,g:={s.v.g with fr:=true}},s.ln+1,s.at_+l.length+1,ls,A',c'⟩
  have LX:Mod (Kt p s.m s.A w.heap.size) w7 Ze:=(Lg.mono (S':=Kt p s.m s.A w.heap.size) λi c=>.inl (.inl (.inl c))).trans tj λi c=>.inl (.inr (.inl c));have tQK:Mod (Kt p s.m s.A w.heap.size) w7 KC:=(LX.trans (Mod.of_ext (Kt p s.m s.A w.heap.size) Zi) λ_=>.inl).trans qx λi c=>.inl (.inr (.inr c));have mr:(s.z++ [zn]).length=s.z.length+1:=by simp
  have E:∀wY,Mod (·=p.r) KC wY->Qr O wY A p {s.m with T:=T2} {s.v with d:=s.v.d+1,b:=b2,g:={s.v.g with fr:=true}}->FqI O w A p m v n w.heap.size text (aL p f n v.rd) res s' wY:=λwY B hY=>by
   have V:Mod (Kt p s.m s.A w.heap.size) w7 wY:=tQK.trans B λi c=>.inl (.inl (.inl c));have Q:∀{x:DV} {ox:BF},DgO w7 (TQ p s.m) p.nm.length x ox->DgO wY (TQ p s'.m) p.nm.length x ox:=λZ=>y.kp (s':=s') V rfl tk (Moved.refl _ _) (Moved.refl _ _) Z;have vR:∀i,QS p s'.m i->i<w7.heap.size:=λi c=>W.hi i c
   have haY:SB wY a.A a.n a.c a.nd:=SB.modo (SB.modo (w:=Ju) sQp qx λH e P S=>by have:=Ma H.block ⟨H,e,rfl⟩;omega) B (λH e P S=>by have:=Ma H.block ⟨H,e,rfl⟩;have:=W.top;omega);have Ux:SB wY b.A b.n b.c b.nd:=SB.modo (SB.modo (w:=Ju) (sQo.ext Zi) qx λH e P S=>by have:=L9 H.block ⟨H,e,rfl⟩;have:=oy.size;omega) B (λH e P S=>by have:=L9 H.block ⟨H,e,rfl⟩;have:=oy.size;have:=W.top;omega);have ka:DgO wY (TQ p s'.m) p.nm.length a (Jw s.o d):=y.new (s':=s') (x:=a) (w1:=w7) (Qw _) rfl (λi c=>by
    right;intro H e P S;have:=Ma H.block ⟨H,e,rfl⟩;have:=(D6.rows i c).2;omega) haY (haS.congr λe=>by simp[J5]) (λH e P=>by have:=Ma H.block ⟨H,e,rfl⟩;omega) vR
   have kb':DgO wY (TQ p s'.m) p.nm.length b (Vm s.o d):=y.new (s':=s') (x:=b) (w1:=w7) (Qw _) rfl (λi c=>by
    obtain h1|h1:=Lh.rows i c;exact .inl h1;right;intro H e P S;have:=SB.lt (w:=Xk) gQm H e P;have:=Xc.size;omega) Ux hrS (λH e P=>by have:=L9 H.block ⟨H,e,rfl⟩;have:=oy.size;omega) vR
   refine y.go (s':=s') Wv V hY gq rfl (λi c=>?_) (Moved.refl _ _) (Moved.refl _ _) (Yt.mod B N) ka ?_ ?_ ?_ ZF rfl ?_ rfl ?_;obtain h1|h1:=tk.rows i c;exact y.nw i h1;omega;show Own wY A pQ 6 A' (s.z++ [zn]).length c' (Z2 (s.z++ [zn]));rw[mr,ep];exact((D6.ext Zi).mod qx λi c e=>by subst e;exact Dw.apart D6 δ c).mod B (λi c e=>by subst e;have:=(D6.rows _ c).1;omega);intro z C;simp only[s',X2,Xx] at C;obtain C|rfl:=C;exact Q (y.zx z C);exact Q y.kd;intro z C;simp only[s',X2,Xx] at C;obtain C|rfl:=C;exact Q (y.zy z C);exact kb';show(s.z++ [zn]).length<=65;rw[mr];omega;have G:=QE;rw[GQ XT] at G;have Je:v.d+(s.z.reverse.map (·.s)).length=s.v.d:=by simp;omega
   rw[Je] at G;cases Vz:Jn p.nm F with
   |error e=>
    rw[Vz] at G J;have he:=Hp Vz;have e1:cQ s.v.b (n:Int) ((s.ln+1:Nat):Int) (Except.error e:Except Int BF)=⟨e,n,((s.ln+1:Nat):Int)⟩:=Qf c2;rw[e1] at J;have e2:b2=⟨e,n,((s.ln+1:Nat):Int)⟩:=by rw[<-J];split;exact φ he;rfl
    exact .inr ⟨by show b2.e≠0;rw[e2];exact he,by show res= .error b2;rw[e2];exact G.symm,by show v.d<=s.v.d+1;omega⟩
   |ok o'=>
    rw[Vz] at G J;have Uy:=Zb o' Vz;subst Uy;simp only at G;by_cases aQ:s.v.d=64;rw[Qf aQ] at G;have e2:b2=⟨2,n,((s.ln+1:Nat):Int)⟩:=by rw[<-J,Qf (show({s.v with b:=cQ s.v.b (n:Int) ((s.ln+1:Nat):Int) (Except.ok d:Except Int BF)}:QV).d=64 from aQ)];exact Qf c2
    exact .inr ⟨by show b2.e≠0;rw[e2];show(2:Int)≠0;decide,by show res= .error b2;rw[e2];exact G.symm,by show v.d<=s.v.d+1;omega⟩;rw[φ aQ] at G;have e2:b2=s.v.b:=by rw[<-J,φ (show¬({s.v with b:=cQ s.v.b (n:Int) ((s.ln+1:Nat):Int) (Except.ok d:Except Int BF)}:QV).d=64 from aQ)]<;>rfl
    refine .inl ⟨by show b2=v.b;rw[e2];exact aT,by show s.v.d+1=v.d+(s.z++ [zn]).length;rw[mr];omega,by show s.v.d+1<=64;omega,?_⟩;rw[<-G];simp[s',zn]
  refine Qp hQ.blk rfl (Z0 (λYR=>?_) λYR=>?_);refine Xv hQ.blk (show 6<10 by decide) λwY B M=>?_;refine QF (s.at_+l.length) ?_;exact⟨s',(by show Has _ _;simp only[s',mr];rfl),E wY B (hQ.put B M rfl rfl rfl (λe=>by cases e) hQ.dl),mu⟩;refine call (ji l _ K7) ?_;rw[aq];rintro _ _ ⟨rfl,rfl⟩;refine Xv hQ.blk (show 6<10 by decide) λwY B M=>?_;refine QF (s.at_+l.length) ?_;exact⟨s',(by show Has _ _;simp only[s',mr];rfl),E wY B (hQ.put B M rfl rfl rfl (λe=>by cases e) hQ.dl),mu⟩;have aq:=CL (s:=l) (by rw[XT];simp);have uQO:l.length=9+F.length:=by rw[Y];simp[pInc];omega
  refine QX (by rw[aq];rfl) (call (bg Zd δ w7) ?_);rintro _ _ ⟨rfl,rfl⟩;refine QX (by rw[Y];simp[Zd,pInc,List.isPrefixOf]) (call (bg pInc δ w7) ?_);rintro _ _ ⟨rfl,rfl⟩;refine Q3 (by rw[Y];exact eQn _ _) ?_;have D5:∀b∈F,b<256:=λb hb=>K7 b (by rw[Y];simp[hb]);have dT:=Ext.drew w7;refine Xw (Mod (QS p s.m) w7) 7 (oz 6 0 [(false,6)]) (Mod.of_ext _ dT) ?_;refine XF (v':=.string (Qb F)) ⟨δ,ω,ω⟩ (by
   rw[Kj,gQk];simp only[WX];rw[ZJ (Qw _),Y];rfl) ?_
  refine Xe (vs:=s.k.cells) rfl (λw' R j u hj=>by rw[(y.kb.mod R nbk).cell];exact hj) (call (pQh ih s.m s.v n v.rd F (s.ln+1) s.k s.o w7.drew hP (W.ext dT) (y.kd.ext dT) D5 ω gq zR ω c2 tQJ) ?_);rintro _ w8 ⟨m8,R,iE,L,J0,SM,wz,cr,qy⟩;have K:Mod (QS p s.m) w7 w8:=(Mod.of_ext (QS p s.m) dT).trans J0 λ_=>.inl;refine⟨K,?_⟩;have qi:Moved w7 s.m.OA m8.OA:=SM.back dT.size;have oA:Moved w7 s.m.DA m8.DA:=wz.back dT.size;let s':LQ:=⟨s.k,s.o,s.z,m8,{R with g:={R.g with fr:=true}},s.ln+1,s.at_+l.length+1,ls,s.A,s.c⟩
  have E:∀wY,Mod (·=p.r) w8 wY->Qr O wY A p m8 {R with g:={R.g with fr:=true}}->FqI O w A p m v n w.heap.size text (aL p f n v.rd) res s' wY:=λwY B hY=>by
   have tt':s'.m.T=λi=>m.T i∨Qj s'.A i∨i=w.heap.size:=by show m8.T=_;rw[iE,y.tt]
   have V:Mod (Kt p s.m s.A w.heap.size) w7 wY:=(K.mono (S':=Kt p s.m s.A w.heap.size) λi c=>.inl (.inl c)).trans B λi c=>.inl (.inl (.inl c));have Q:∀{x:DV} {ox:BF},DgO w7 (TQ p s.m) p.nm.length x ox->DgO wY (TQ p s'.m) p.nm.length x ox:=λZ=>y.kp (s':=s') V tt' (Moved.refl _ _) qi oA Z;refine y.go (s':=s') Wv V hY (by show R.rd=_;rw[cr];exact gq) tt' y.nw qi oA ((y.kb.mod K nbk).mod B N) (Q y.kd) ((y.ow.mod K kH).mod B I) (λz C=>Q (y.zx z C)) (λz C=>Q (y.zy z C)) ZF rfl Kw rfl ?_;have G:=QE;rw[Ct XT] at G;have Je:v.d+(s.z.reverse.map (·.s)).length=s.v.d:=by simp;omega
   rw[Je] at G;cases hq:aL p f n v.rd F (s.ln+1) s.v.d s.o s.v.g with|error q=>rw[hq] at qy G;simp only at qy G;obtain⟨q1,q2,q3⟩:=qy;exact .inr ⟨by show R.b.e≠0;rw[q1];exact q2,by show res= .error R.b;rw[q1];exact G.symm,by show v.d<=R.d;omega⟩|ok g'=>rw[hq] at qy G;simp only at qy G;refine .inl ⟨by show R.b=_;rw[qy];exact aT,by show R.d=_;rw[qy];exact hsd,by show R.d<=64;rw[qy];exact zR,?_⟩;show Z9 p.nm n v.d (aL p f n v.rd) ls (s.ln+1) (s.at_+l.length+1) s.o (s.z.reverse.map (·.s)) {R.g with fr:=true}=res;rw[qy];exact G
  refine Qp L.blk rfl (Z0 (λYR=>?_) λYR=>?_);refine Xv L.blk (show 6<10 by decide) λwY B M=>?_;refine QF (s.at_+l.length) ?_;exact⟨s',rfl,E wY B (L.put B M rfl rfl rfl (λe=>by cases e) L.dl),mu⟩;refine call (ji l _ K7) ?_;rw[aq];rintro _ _ ⟨rfl,rfl⟩;refine Xv L.blk (show 6<10 by decide) λwY B M=>?_;refine QF (s.at_+l.length) ?_;exact⟨s',rfl,E wY B (L.put B M rfl rfl rfl (λe=>by cases e) L.dl),mu⟩;have aq:=CL (s:=l) (by rw[XT];simp);refine QX (by rw[aq];rfl) (call (bg Zd δ w7) ?_);rintro _ _ ⟨rfl,rfl⟩;refine QX (by rw[Y];simp[Zd,pElif,List.isPrefixOf]) (call (bg pInc δ w7) ?_);rintro _ _ ⟨rfl,rfl⟩;refine QX (by rw[Y];simp[pInc,pElif,List.isPrefixOf]) ?_;by_cases C:s.z=[]
  have VM:s.z.length=0:=by rw[C]<;>rfl
  rw[VM];refine call (Pk l s.A s.c n ((s.ln+1:Nat):Int) w7 W) ?_;rintro _ w8 ⟨rfl,L,K⟩;have eJ:=y.kb.mod K N;refine Qo eJ λw9 J2 _ XX=>?_;have R:Mod (·=w.heap.size) w8 w9:=vQB J2 rfl;have VL:=R.size;have ti:=K.size;have Yh:Mod (Kt p s.m s.A w.heap.size) w7 w9:=(K.mono (S':=Kt p s.m s.A w.heap.size) λi c=>.inl (.inl (.inl c))).trans R λi c=>.inl (.inr (.inr c));have D:=L.modT (T':=s.m.T) R (λi c=>by subst c;exact kN) (λi c=>by subst c;exact nbk) (λi c=>ω) (λ_=>.inl) λi c=>JZ (L.tt i c) VL;let s':LQ:=⟨⟨none,0,0,[],0⟩,λ_=>false,s.z,s.m,{s.v with b:=ZW s.v.b ⟨72,(n:Int),((s.ln+1:Nat):Int)⟩,g:={s.v.g with fr:=true}},s.ln+1,s.at_+l.length+1,ls,s.A,s.c⟩
  have J:ZW s.v.b ⟨72,(n:Int),((s.ln+1:Nat):Int)⟩=⟨72,n,((s.ln+1:Nat):Int)⟩:=Qf c2;have E:∀wY,Mod (·=p.r) w9 wY->Qr O wY A p s.m {s.v with b:=ZW s.v.b ⟨72,(n:Int),((s.ln+1:Nat):Int)⟩,g:={s.v.g with fr:=true}}->FqI O w A p m v n w.heap.size text (aL p f n v.rd) res s' wY:=λwY B hY=>by have V:Mod (Kt p s.m s.A w.heap.size) w7 wY:=Yh.trans B λi c=>.inl (.inl (.inl c));have Q:∀{x:DV} {ox:BF},DgO w7 (TQ p s.m) p.nm.length x ox->DgO wY (TQ p s'.m) p.nm.length x ox:=λZ=>y.kp (s':=s') V y.tt (Moved.refl _ _) (Moved.refl _ _) (Moved.refl _ _) Z;have KN:=(y.ow.mod K I).mod R (λi c e=>by subst e;exact nbA c);refine y.go (s':=s') Wv V hY gq y.tt y.nw (Moved.refl _ _) (Moved.refl _ _) (XX.mod B N) ⟨SlS.nil wY,Y0 _ false,λH e=>by cases e⟩ (KN.mod B I) (λz C=>Q (y.zx z C)) (λz C=>Q (y.zy z C)) ZF rfl Kw rfl ?_;have G:=QE;rw[yO XT,C] at G;exact .inr ⟨by show(ZW s.v.b ⟨72,(n:Int),((s.ln+1:Nat):Int)⟩).e≠0;rw[J];show(72:Int)≠0;decide,by show res= .error (ZW s.v.b ⟨72,(n:Int),((s.ln+1:Nat):Int)⟩);rw[J];exact G.symm,by show v.d<=s.v.d;omega⟩
  refine Qp D.blk rfl (Z0 (λYR=>?_) λYR=>?_);refine Xv D.blk (show 6<10 by decide) λwY B M=>?_;refine QF (s.at_+l.length) ?_;exact⟨s',(by show Has _ _;simp only[s',VM];rfl),E wY B (D.put B M rfl rfl rfl (λe=>by cases e) D.dl),mu⟩;refine call (ji l _ K7) ?_;rw[aq];rintro _ _ ⟨rfl,rfl⟩;refine Xv D.blk (show 6<10 by decide) λwY B M=>?_;refine QF (s.at_+l.length) ?_;exact⟨s',(by show Has _ _;simp only[s',VM];rfl),E wY B (D.put B M rfl rfl rfl (λe=>by cases e) D.dl),mu⟩;obtain⟨z',x,X⟩:∃z' x,s.z=z'++ [x]:=by obtain P|⟨z',x,P⟩:=kS s.z;exact Xg P C;exact⟨z',x,by rw[P];simp⟩
  have YB:s.z.length=z'.length+1:=by rw[X];simp
  have bQ:s.z.reverse.map (·.s)=x.s::z'.reverse.map (·.s):=by rw[X];simp
  have aW:x∈s.z:=by rw[X];simp
  have gi:Own w7 A pQ 6 s.A (z'.length+1) s.c (Z2 z'++x.cells):=by have:=y.ow;rw[YB,X,ep] at this;exact this
  rw[YB];cases cy:x.s.ot with
  |true=>
   refine call (eQr l z' x s.A s.c n ((s.ln+1:Nat):Int) w7 K7 (by rw[Y];simp[pElif,X5]) cy W gi ω) ?_;rintro _ w8 ⟨rfl,L,K⟩;have eJ:=y.kb.mod K N;refine Qo eJ λw9 J2 _ XX=>?_;have R:Mod (·=w.heap.size) w8 w9:=vQB J2 rfl;have VL:=R.size;have ti:=K.size;have Yh:Mod (Kt p s.m s.A w.heap.size) w7 w9:=(K.mono (S':=Kt p s.m s.A w.heap.size) λi c=>.inl (.inl (.inl c))).trans R λi c=>.inl (.inr (.inr c));have D:=L.modT (T':=s.m.T) R (λi c=>by subst c;exact kN) (λi c=>by subst c;exact nbk) (λi c=>ω) (λ_=>.inl) λi c=>JZ (L.tt i c) VL;let s':LQ:=⟨⟨none,0,0,[],0⟩,λ_=>false,s.z,s.m,{s.v with b:=ZW s.v.b ⟨71,(n:Int),((s.ln+1:Nat):Int)⟩,g:={s.v.g with fr:=true}},s.ln+1,s.at_+l.length+1,ls,s.A,s.c⟩
   have J:ZW s.v.b ⟨71,(n:Int),((s.ln+1:Nat):Int)⟩=⟨71,n,((s.ln+1:Nat):Int)⟩:=Qf c2;have E:∀wY,Mod (·=p.r) w9 wY->Qr O wY A p s.m {s.v with b:=ZW s.v.b ⟨71,(n:Int),((s.ln+1:Nat):Int)⟩,g:={s.v.g with fr:=true}}->FqI O w A p m v n w.heap.size text (aL p f n v.rd) res s' wY:=λwY B hY=>by have V:Mod (Kt p s.m s.A w.heap.size) w7 wY:=Yh.trans B λi c=>.inl (.inl (.inl c));have Q:∀{x:DV} {ox:BF},DgO w7 (TQ p s.m) p.nm.length x ox->DgO wY (TQ p s'.m) p.nm.length x ox:=λZ=>y.kp (s':=s') V y.tt (Moved.refl _ _) (Moved.refl _ _) (Moved.refl _ _) Z;have KN:=(y.ow.mod K I).mod R (λi c e=>by subst e;exact nbA c);refine y.go (s':=s') Wv V hY gq y.tt y.nw (Moved.refl _ _) (Moved.refl _ _) (XX.mod B N) ⟨SlS.nil wY,Y0 _ false,λH e=>by cases e⟩ (KN.mod B I) (λz C=>Q (y.zx z C)) (λz C=>Q (y.zy z C)) ZF rfl Kw rfl ?_;have G:=QE;rw[yO XT,bQ] at G;simp only[cy,if_true] at G;exact .inr ⟨by show(ZW s.v.b ⟨71,(n:Int),((s.ln+1:Nat):Int)⟩).e≠0;rw[J];show(71:Int)≠0;decide,by show res= .error (ZW s.v.b ⟨71,(n:Int),((s.ln+1:Nat):Int)⟩);rw[J];exact G.symm,by show v.d<=s.v.d;omega⟩
   refine Qp D.blk rfl (Z0 (λYR=>?_) λYR=>?_);refine Xv D.blk (show 6<10 by decide) λwY B M=>?_;refine QF (s.at_+l.length) ?_;exact⟨s',(by show Has _ _;simp only[s',YB];rfl),E wY B (D.put B M rfl rfl rfl (λe=>by cases e) D.dl),mu⟩;refine call (ji l _ K7) ?_;rw[aq];rintro _ _ ⟨rfl,rfl⟩;refine Xv D.blk (show 6<10 by decide) λwY B M=>?_;refine QF (s.at_+l.length) ?_;exact⟨s',(by show Has _ _;simp only[s',YB];rfl),E wY B (D.put B M rfl rfl rfl (λe=>by cases e) D.dl),mu⟩
  |false=>
   have D5:∀b∈F,b<256:=λb hb=>K7 b (by rw[Y];simp[hb]);have hFl:F.length<=l.length:=by rw[Y];simp
   rw[Y];refine call (pQe F z' x s.A s.c n ((s.ln+1:Nat):Int) w7 hP D5 ω cy W gi ω (y.zy x aW) I) ?_;rintro _ w8 ⟨A',c',d,b,r,YC,rfl,Zb,hb8,qU,xf,cr,tQL,lZ,bS⟩;rw[<-Y];have L:=bS.rr;have K:=bS.md;have eJ:=y.kb.mod K N;refine Qo eJ λw9 J2 _ XX=>?_;have R:Mod (·=w.heap.size) w8 w9:=vQB J2 rfl;have VL:=R.size;have ti:=K.size;have Yh:Mod (Kt p s.m s.A w.heap.size) w7 w9:=(K.mono (S':=Kt p s.m s.A w.heap.size) λi c=>.inl (.inl (.inl c))).trans R λi c=>.inl (.inr (.inr c));have D:=L.modT (T':=s.m.T) R (λi c=>by subst c;exact kN) (λi c=>by subst c;exact nbk) (λi c=>ω) (λ_=>.inl) λi c=>JZ (L.tt i c) VL;let T2:Nat->Prop:=λi=>m.T i∨Qj A' i∨i=w.heap.size
   have tk:Moved w7 s.A A':=λH e=>.inr (bS.nw H.block ⟨H,e,rfl⟩);have Ys:∀i,T2 i->s.m.T i∨w7.heap.size<=i:=λi c=>by obtain c|c|c:=c;exact .inl (E1 i c);exact .inr (bS.nw i c);exact .inl (by rw[c];exact kN)
   have D7:∀i,T2 i->i<w9.heap.size:=λi c=>by obtain c|c|c:=c;have:=kC i c;omega;have:=(bS.ow.rows i c).2;omega;have:=y.kb.lt;omega
   have hQ:=W.reT D rfl Ys D7;have KN:=bS.ow.mod R (λi c e=>by subst e;exact eJ.apart bS.ow δ c);have nopr':∀i,Qj A' i->¬i=p.r:=λi c e=>by have:=(bS.ow.rows i c).1;omega
   let zn:SeV:=⟨{x.s with re:=Vm x.s.re d},x.x,r⟩
   have de:(z'++ [zn]).length=z'.length+1:=by simp
   let s':LQ:=⟨b,Jw x.s.re d,z'++ [zn],{s.m with T:=T2},{s.v with b:=cQ s.v.b (n:Int) ((s.ln+1:Nat):Int) (Jn p.nm F),g:={s.v.g with fr:=true}},s.ln+1,s.at_+l.length+1,ls,A',c'⟩
   have E:∀wY,Mod (·=p.r) w9 wY->Qr O wY A p {s.m with T:=T2} {s.v with b:=cQ s.v.b (n:Int) ((s.ln+1:Nat):Int) (Jn p.nm F),g:={s.v.g with fr:=true}}->FqI O w A p m v n w.heap.size text (aL p f n v.rd) res s' wY:=λwY B hY=>by
    have V:Mod (Kt p s.m s.A w.heap.size) w7 wY:=Yh.trans B λi c=>.inl (.inl (.inl c));have Q:∀{x:DV} {ox:BF},DgO w7 (TQ p s.m) p.nm.length x ox->DgO wY (TQ p s'.m) p.nm.length x ox:=λZ=>y.kp (s':=s') V rfl tk (Moved.refl _ _) (Moved.refl _ _) Z;have vR:∀i,QS p s'.m i->i<w7.heap.size:=λi c=>W.hi i c
    have Ux:SB wY b.A b.n b.c b.nd:=SB.modo (SB.modo hb8 R λH e P S=>by have:=xf H e P;have:=y.kb.lt;omega) B (λH e P S=>by have:=xf H e P;have:=W.top;omega);have hrY:SB wY r.A r.n r.c r.nd:=SB.modo (SB.modo cr R λH e P S=>by have:=lZ H e P;have:=y.kb.lt;omega) B (λH e P S=>by have:=lZ H e P;have:=W.top;omega);have kb':DgO wY (TQ p s'.m) p.nm.length b (Jw x.s.re d):=y.new (s':=s') (x:=b) (w1:=w7) (Qw _) rfl (λi c=>.inr λH e P S=>by have:=(YC i c).1 H e P;omega) Ux qU xf vR;have kr':DgO wY (TQ p s'.m) p.nm.length r (Vm x.s.re d):=y.new (s':=s') (x:=r) (w1:=w7) (Qw _) rfl (λi c=>.inr λH e P S=>by have:=(YC i c).2 H e P;omega) hrY tQL lZ vR;refine y.go (s':=s') Wv V hY gq rfl (λi c=>by have:=bS.nw i c;omega) (Moved.refl _ _) (Moved.refl _ _) (XX.mod B N) kb' (KN.mod B nopr') ?_ ?_ ZF rfl (by show(z'++ [zn]).length<=65;rw[de];omega) rfl ?_;intro z C;simp only[s',X2,Xx] at C;obtain C|rfl:=C;exact Q (y.zx z (by rw[X];simp[C]));exact Q (y.zx x aW);intro z C;simp only[s',X2,Xx] at C;obtain C|rfl:=C;exact Q (y.zy z (by rw[X];simp[C]));exact kr';have G:=QE;rw[yO XT,bQ] at G;simp only[cy] at G;cases Vz:Jn p.nm F with|error e=>rw[Vz] at G;have he:=Hp Vz;have e1:cQ s.v.b (n:Int) ((s.ln+1:Nat):Int) (Except.error e:Except Int BF)=⟨e,n,((s.ln+1:Nat):Int)⟩:=Qf c2;refine .inr ⟨?_,?_,by show v.d<=s.v.d;omega⟩;show(cQ s.v.b (n:Int) ((s.ln+1:Nat):Int) (Jn p.nm F)).e≠0;rw[Vz,e1];exact he;show res= .error (cQ s.v.b (n:Int) ((s.ln+1:Nat):Int) (Jn p.nm F));rw[Vz,e1];exact G.symm|ok o'=>rw[Vz] at G;have Uy:=Zb o' Vz;subst Uy;refine .inl ⟨by show cQ s.v.b (n:Int) ((s.ln+1:Nat):Int) (Jn p.nm F)=v.b;rw[Vz];exact aT,by show s.v.d=v.d+(z'++ [zn]).length;rw[de];omega,zR,?_⟩;rw[<-G];simp[s',zn,cy]
   refine Qp hQ.blk rfl (Z0 (λYR=>?_) λYR=>?_);refine Xv hQ.blk (show 6<10 by decide) λwY B M=>?_;refine QF (s.at_+l.length) ?_;exact⟨s',(by show Has _ _;simp only[s',de];rfl),E wY B (hQ.put B M rfl rfl rfl (λe=>by cases e) hQ.dl),mu⟩;refine call (ji l _ K7) ?_;rw[aq];rintro _ _ ⟨rfl,rfl⟩;refine Xv hQ.blk (show 6<10 by decide) λwY B M=>?_;refine QF (s.at_+l.length) ?_;exact⟨s',(by show Has _ _;simp only[s',de];rfl),E wY B (hQ.put B M rfl rfl rfl (λe=>by cases e) hQ.dl),mu⟩
  have aq:=CL (s:=l) (by rw[XT];simp);refine QX (by rw[aq];rfl) (call (bg Zd δ w7) ?_);rintro _ _ ⟨rfl,rfl⟩;refine QX (by rw[Y];rfl) (call (bg pInc δ w7) ?_);rintro _ _ ⟨rfl,rfl⟩;refine QX (by rw[Y];rfl) ?_;by_cases C:s.z=[]
  have VM:s.z.length=0:=by rw[C]<;>rfl
  rw[VM];refine call (Pk l s.A s.c n ((s.ln+1:Nat):Int) w7 W) ?_;rintro _ w8 ⟨rfl,L,K⟩;have eJ:=y.kb.mod K N;refine Qo eJ λw9 J2 _ XX=>?_;have R:Mod (·=w.heap.size) w8 w9:=vQB J2 rfl;have VL:=R.size;have ti:=K.size;have Yh:Mod (Kt p s.m s.A w.heap.size) w7 w9:=(K.mono (S':=Kt p s.m s.A w.heap.size) λi c=>.inl (.inl (.inl c))).trans R λi c=>.inl (.inr (.inr c));have D:=L.modT (T':=s.m.T) R (λi c=>by subst c;exact kN) (λi c=>by subst c;exact nbk) (λi c=>ω) (λ_=>.inl) λi c=>JZ (L.tt i c) VL;let s':LQ:=⟨⟨none,0,0,[],0⟩,λ_=>false,s.z,s.m,{s.v with b:=ZW s.v.b ⟨72,(n:Int),((s.ln+1:Nat):Int)⟩,g:={s.v.g with fr:=true}},s.ln+1,s.at_+l.length+1,ls,s.A,s.c⟩
  have J:ZW s.v.b ⟨72,(n:Int),((s.ln+1:Nat):Int)⟩=⟨72,n,((s.ln+1:Nat):Int)⟩:=Qf c2;have E:∀wY,Mod (·=p.r) w9 wY->Qr O wY A p s.m {s.v with b:=ZW s.v.b ⟨72,(n:Int),((s.ln+1:Nat):Int)⟩,g:={s.v.g with fr:=true}}->FqI O w A p m v n w.heap.size text (aL p f n v.rd) res s' wY:=λwY B hY=>by have V:Mod (Kt p s.m s.A w.heap.size) w7 wY:=Yh.trans B λi c=>.inl (.inl (.inl c));have Q:∀{x:DV} {ox:BF},DgO w7 (TQ p s.m) p.nm.length x ox->DgO wY (TQ p s'.m) p.nm.length x ox:=λZ=>y.kp (s':=s') V y.tt (Moved.refl _ _) (Moved.refl _ _) (Moved.refl _ _) Z;have KN:=(y.ow.mod K I).mod R (λi c e=>by subst e;exact nbA c);refine y.go (s':=s') Wv V hY gq y.tt y.nw (Moved.refl _ _) (Moved.refl _ _) (XX.mod B N) ⟨SlS.nil wY,Y0 _ false,λH e=>by cases e⟩ (KN.mod B I) (λz C=>Q (y.zx z C)) (λz C=>Q (y.zy z C)) ZF rfl Kw rfl ?_;have G:=QE;rw[yP XT,C] at G;exact .inr ⟨by show(ZW s.v.b ⟨72,(n:Int),((s.ln+1:Nat):Int)⟩).e≠0;rw[J];show(72:Int)≠0;decide,by show res= .error (ZW s.v.b ⟨72,(n:Int),((s.ln+1:Nat):Int)⟩);rw[J];exact G.symm,by show v.d<=s.v.d;omega⟩
  refine Qp D.blk rfl (Z0 (λYR=>?_) λYR=>?_);refine Xv D.blk (show 6<10 by decide) λwY B M=>?_;refine QF (s.at_+l.length) ?_;exact⟨s',(by show Has _ _;simp only[s',VM];rfl),E wY B (D.put B M rfl rfl rfl (λe=>by cases e) D.dl),mu⟩;refine call (ji l _ K7) ?_;rw[aq];rintro _ _ ⟨rfl,rfl⟩;refine Xv D.blk (show 6<10 by decide) λwY B M=>?_;refine QF (s.at_+l.length) ?_;exact⟨s',(by show Has _ _;simp only[s',VM];rfl),E wY B (D.put B M rfl rfl rfl (λe=>by cases e) D.dl),mu⟩;obtain⟨z',x,X⟩:∃z' x,s.z=z'++ [x]:=by obtain P|⟨z',x,P⟩:=kS s.z;exact Xg P C;exact⟨z',x,by rw[P];simp⟩
  have YB:s.z.length=z'.length+1:=by rw[X];simp
  have bQ:s.z.reverse.map (·.s)=x.s::z'.reverse.map (·.s):=by rw[X];simp
  have aW:x∈s.z:=by rw[X];simp
  have gi:Own w7 A pQ 6 s.A (z'.length+1) s.c (Z2 z'++x.cells):=by have:=y.ow;rw[YB,X,ep] at this;exact this
  rw[YB];cases cy:x.s.ot with
  |true=>
   refine call (eQr l z' x s.A s.c n ((s.ln+1:Nat):Int) w7 K7 (by rw[Y];decide) cy W gi ω) ?_;rintro _ w8 ⟨rfl,L,K⟩;have eJ:=y.kb.mod K N;refine Qo eJ λw9 J2 _ XX=>?_;have R:Mod (·=w.heap.size) w8 w9:=vQB J2 rfl;have VL:=R.size;have ti:=K.size;have Yh:Mod (Kt p s.m s.A w.heap.size) w7 w9:=(K.mono (S':=Kt p s.m s.A w.heap.size) λi c=>.inl (.inl (.inl c))).trans R λi c=>.inl (.inr (.inr c));have D:=L.modT (T':=s.m.T) R (λi c=>by subst c;exact kN) (λi c=>by subst c;exact nbk) (λi c=>ω) (λ_=>.inl) λi c=>JZ (L.tt i c) VL;let s':LQ:=⟨⟨none,0,0,[],0⟩,λ_=>false,s.z,s.m,{s.v with b:=ZW s.v.b ⟨71,(n:Int),((s.ln+1:Nat):Int)⟩,g:={s.v.g with fr:=true}},s.ln+1,s.at_+l.length+1,ls,s.A,s.c⟩
   have J:ZW s.v.b ⟨71,(n:Int),((s.ln+1:Nat):Int)⟩=⟨71,n,((s.ln+1:Nat):Int)⟩:=Qf c2;have E:∀wY,Mod (·=p.r) w9 wY->Qr O wY A p s.m {s.v with b:=ZW s.v.b ⟨71,(n:Int),((s.ln+1:Nat):Int)⟩,g:={s.v.g with fr:=true}}->FqI O w A p m v n w.heap.size text (aL p f n v.rd) res s' wY:=λwY B hY=>by have V:Mod (Kt p s.m s.A w.heap.size) w7 wY:=Yh.trans B λi c=>.inl (.inl (.inl c));have Q:∀{x:DV} {ox:BF},DgO w7 (TQ p s.m) p.nm.length x ox->DgO wY (TQ p s'.m) p.nm.length x ox:=λZ=>y.kp (s':=s') V y.tt (Moved.refl _ _) (Moved.refl _ _) (Moved.refl _ _) Z;have KN:=(y.ow.mod K I).mod R (λi c e=>by subst e;exact nbA c);refine y.go (s':=s') Wv V hY gq y.tt y.nw (Moved.refl _ _) (Moved.refl _ _) (XX.mod B N) ⟨SlS.nil wY,Y0 _ false,λH e=>by cases e⟩ (KN.mod B I) (λz C=>Q (y.zx z C)) (λz C=>Q (y.zy z C)) ZF rfl Kw rfl ?_;have G:=QE;rw[yP XT,bQ] at G;simp only[cy,if_true] at G;exact .inr ⟨by show(ZW s.v.b ⟨71,(n:Int),((s.ln+1:Nat):Int)⟩).e≠0;rw[J];show(71:Int)≠0;decide,by show res= .error (ZW s.v.b ⟨71,(n:Int),((s.ln+1:Nat):Int)⟩);rw[J];exact G.symm,by show v.d<=s.v.d;omega⟩
   refine Qp D.blk rfl (Z0 (λYR=>?_) λYR=>?_);refine Xv D.blk (show 6<10 by decide) λwY B M=>?_;refine QF (s.at_+l.length) ?_;exact⟨s',(by show Has _ _;simp only[s',YB];rfl),E wY B (D.put B M rfl rfl rfl (λe=>by cases e) D.dl),mu⟩;refine call (ji l _ K7) ?_;rw[aq];rintro _ _ ⟨rfl,rfl⟩;refine Xv D.blk (show 6<10 by decide) λwY B M=>?_;refine QF (s.at_+l.length) ?_;exact⟨s',(by show Has _ _;simp only[s',YB];rfl),E wY B (D.put B M rfl rfl rfl (λe=>by cases e) D.dl),mu⟩
  |false=>
   rw[Y];refine call (pQd z' x s.A s.c n ((s.ln+1:Nat):Int) w7 cy W gi ω) ?_;rintro _ w8 ⟨A',c',rfl,bS⟩;rw[<-Y];have L:=bS.rr;have K:=bS.md;have eJ:=y.kb.mod K N;refine Qo eJ λw9 J2 _ XX=>?_;have R:Mod (·=w.heap.size) w8 w9:=vQB J2 rfl;have VL:=R.size;have ti:=K.size;have Yh:Mod (Kt p s.m s.A w.heap.size) w7 w9:=(K.mono (S':=Kt p s.m s.A w.heap.size) λi c=>.inl (.inl (.inl c))).trans R λi c=>.inl (.inr (.inr c));have D:=L.modT (T':=s.m.T) R (λi c=>by subst c;exact kN) (λi c=>by subst c;exact nbk) (λi c=>ω) (λ_=>.inl) λi c=>JZ (L.tt i c) VL;let T2:Nat->Prop:=λi=>m.T i∨Qj A' i∨i=w.heap.size
   have tk:Moved w7 s.A A':=λH e=>.inr (bS.nw H.block ⟨H,e,rfl⟩);have Ys:∀i,T2 i->s.m.T i∨w7.heap.size<=i:=λi c=>by obtain c|c|c:=c;exact .inl (E1 i c);exact .inr (bS.nw i c);exact .inl (by rw[c];exact kN)
   have D7:∀i,T2 i->i<w9.heap.size:=λi c=>by obtain c|c|c:=c;have:=kC i c;omega;have:=(bS.ow.rows i c).2;omega;have:=y.kb.lt;omega
   have hQ:=W.reT D rfl Ys D7;have KN:=bS.ow.mod R (λi c e=>by subst e;exact eJ.apart bS.ow δ c);have nopr':∀i,Qj A' i->¬i=p.r:=λi c e=>by have:=(bS.ow.rows i c).1;omega
   let zn:SeV:=⟨{x.s with ot:=true},x.x,x.y⟩
   have de:(z'++ [zn]).length=z'.length+1:=by simp
   let s':LQ:=⟨x.y,x.s.re,z'++ [zn],{s.m with T:=T2},{s.v with g:={s.v.g with fr:=true}},s.ln+1,s.at_+l.length+1,ls,A',c'⟩
   have E:∀wY,Mod (·=p.r) w9 wY->Qr O wY A p {s.m with T:=T2} {s.v with g:={s.v.g with fr:=true}}->FqI O w A p m v n w.heap.size text (aL p f n v.rd) res s' wY:=λwY B hY=>by
    have V:Mod (Kt p s.m s.A w.heap.size) w7 wY:=Yh.trans B λi c=>.inl (.inl (.inl c));have Q:∀{x:DV} {ox:BF},DgO w7 (TQ p s.m) p.nm.length x ox->DgO wY (TQ p s'.m) p.nm.length x ox:=λZ=>y.kp (s':=s') V rfl tk (Moved.refl _ _) (Moved.refl _ _) Z;refine y.go (s':=s') Wv V hY gq rfl (λi c=>by have:=bS.nw i c;omega) (Moved.refl _ _) (Moved.refl _ _) (XX.mod B N) (Q (y.zy x aW)) (KN.mod B nopr') ?_ ?_ ZF rfl (by show(z'++ [zn]).length<=65;rw[de];omega) rfl ?_
    intro z C;simp only[s',X2,Xx] at C;obtain C|rfl:=C;exact Q (y.zx z (by rw[X];simp[C]));exact Q (y.zx x aW);intro z C;simp only[s',X2,Xx] at C;obtain C|rfl:=C;exact Q (y.zy z (by rw[X];simp[C]));exact Q (y.zy x aW);have G:=QE;rw[yP XT,bQ] at G;simp only[cy] at G;refine .inl ⟨aT,by show s.v.d=v.d+(z'++ [zn]).length;rw[de];omega,zR,?_⟩;rw[<-G];simp[s',zn]
   refine Qp hQ.blk rfl (Z0 (λYR=>?_) λYR=>?_);refine Xv hQ.blk (show 6<10 by decide) λwY B M=>?_;refine QF (s.at_+l.length) ?_;exact⟨s',(by show Has _ _;simp only[s',de];rfl),E wY B (hQ.put B M rfl rfl rfl (λe=>by cases e) hQ.dl),mu⟩;refine call (ji l _ K7) ?_;rw[aq];rintro _ _ ⟨rfl,rfl⟩;refine Xv hQ.blk (show 6<10 by decide) λwY B M=>?_;refine QF (s.at_+l.length) ?_;exact⟨s',(by show Has _ _;simp only[s',de];rfl),E wY B (hQ.put B M rfl rfl rfl (λe=>by cases e) hQ.dl),mu⟩
  have aq:=CL (s:=l) (by rw[XT];simp);refine QX (by rw[aq];rfl) (call (bg Zd δ w7) ?_);rintro _ _ ⟨rfl,rfl⟩;refine QX (by rw[Y];rfl) (call (bg pInc δ w7) ?_);rintro _ _ ⟨rfl,rfl⟩;refine QX (by rw[Y];rfl) ?_;by_cases C:s.z=[]
  have VM:s.z.length=0:=by rw[C]<;>rfl
  rw[VM];refine call (Pk l s.A s.c n ((s.ln+1:Nat):Int) w7 W) ?_;rintro _ w8 ⟨rfl,L,K⟩;have eJ:=y.kb.mod K N;refine Qo eJ λw9 J2 _ XX=>?_;have R:Mod (·=w.heap.size) w8 w9:=vQB J2 rfl;have VL:=R.size;have ti:=K.size;have Yh:Mod (Kt p s.m s.A w.heap.size) w7 w9:=(K.mono (S':=Kt p s.m s.A w.heap.size) λi c=>.inl (.inl (.inl c))).trans R λi c=>.inl (.inr (.inr c));have D:=L.modT (T':=s.m.T) R (λi c=>by subst c;exact kN) (λi c=>by subst c;exact nbk) (λi c=>ω) (λ_=>.inl) λi c=>JZ (L.tt i c) VL;let s':LQ:=⟨⟨none,0,0,[],0⟩,λ_=>false,s.z,s.m,{s.v with b:=ZW s.v.b ⟨72,(n:Int),((s.ln+1:Nat):Int)⟩,g:={s.v.g with fr:=true}},s.ln+1,s.at_+l.length+1,ls,s.A,s.c⟩
  have J:ZW s.v.b ⟨72,(n:Int),((s.ln+1:Nat):Int)⟩=⟨72,n,((s.ln+1:Nat):Int)⟩:=Qf c2;have E:∀wY,Mod (·=p.r) w9 wY->Qr O wY A p s.m {s.v with b:=ZW s.v.b ⟨72,(n:Int),((s.ln+1:Nat):Int)⟩,g:={s.v.g with fr:=true}}->FqI O w A p m v n w.heap.size text (aL p f n v.rd) res s' wY:=λwY B hY=>by have V:Mod (Kt p s.m s.A w.heap.size) w7 wY:=Yh.trans B λi c=>.inl (.inl (.inl c));have Q:∀{x:DV} {ox:BF},DgO w7 (TQ p s.m) p.nm.length x ox->DgO wY (TQ p s'.m) p.nm.length x ox:=λZ=>y.kp (s':=s') V y.tt (Moved.refl _ _) (Moved.refl _ _) (Moved.refl _ _) Z;have KN:=(y.ow.mod K I).mod R (λi c e=>by subst e;exact nbA c);refine y.go (s':=s') Wv V hY gq y.tt y.nw (Moved.refl _ _) (Moved.refl _ _) (XX.mod B N) ⟨SlS.nil wY,Y0 _ false,λH e=>by cases e⟩ (KN.mod B I) (λz C=>Q (y.zx z C)) (λz C=>Q (y.zy z C)) ZF rfl Kw rfl ?_;have G:=QE;rw[GR XT,C] at G;exact .inr ⟨by show(ZW s.v.b ⟨72,(n:Int),((s.ln+1:Nat):Int)⟩).e≠0;rw[J];show(72:Int)≠0;decide,by show res= .error (ZW s.v.b ⟨72,(n:Int),((s.ln+1:Nat):Int)⟩);rw[J];exact G.symm,by show v.d<=s.v.d;omega⟩
  refine Qp D.blk rfl (Z0 (λYR=>?_) λYR=>?_);refine Xv D.blk (show 6<10 by decide) λwY B M=>?_;refine QF (s.at_+l.length) ?_;exact⟨s',(by show Has _ _;simp only[s',VM];rfl),E wY B (D.put B M rfl rfl rfl (λe=>by cases e) D.dl),mu⟩;refine call (ji l _ K7) ?_;rw[aq];rintro _ _ ⟨rfl,rfl⟩;refine Xv D.blk (show 6<10 by decide) λwY B M=>?_;refine QF (s.at_+l.length) ?_;exact⟨s',(by show Has _ _;simp only[s',VM];rfl),E wY B (D.put B M rfl rfl rfl (λe=>by cases e) D.dl),mu⟩;obtain⟨z',x,X⟩:∃z' x,s.z=z'++ [x]:=by obtain P|⟨z',x,P⟩:=kS s.z;exact Xg P C;exact⟨z',x,by rw[P];simp⟩
  have YB:s.z.length=z'.length+1:=by rw[X];simp
  have bQ:s.z.reverse.map (·.s)=x.s::z'.reverse.map (·.s):=by rw[X];simp
  have aW:x∈s.z:=by rw[X];simp
  have gi:Own w7 A pQ 6 s.A (z'.length+1) s.c (Z2 z'++x.cells):=by have:=y.ow;rw[YB,X,ep] at this;exact this
  rw[YB];rw[Y];refine call (pQc z' x s.A s.c n ((s.ln+1:Nat):Int) w7 W gi ω ω) ?_;rintro _ w8 ⟨_,rfl,rfl,L,K⟩;rw[<-Y];have eJ:=y.kb.mod K N;refine Qo eJ λw9 J2 _ XX=>?_;have R:Mod (·=w.heap.size) w8 w9:=vQB J2 rfl;have VL:=R.size;have ti:=K.size;have Yh:Mod (Kt p s.m s.A w.heap.size) w7 w9:=(K.mono (S':=Kt p s.m s.A w.heap.size) λi c=>.inl (.inl (.inl c))).trans R λi c=>.inl (.inr (.inr c));have D:=L.modT (T':=s.m.T) R (λi c=>by subst c;exact kN) (λi c=>by subst c;exact nbk) (λi c=>ω) (λ_=>.inl) λi c=>JZ (L.tt i c) VL;let s':LQ:=⟨x.x,x.s.ou,z',s.m,{s.v with d:=s.v.d-1,g:={s.v.g with fr:=true}},s.ln+1,s.at_+l.length+1,ls,s.A,s.c⟩
  have E:∀wY,Mod (·=p.r) w9 wY->Qr O wY A p s.m {s.v with d:=s.v.d-1,g:={s.v.g with fr:=true}}->FqI O w A p m v n w.heap.size text (aL p f n v.rd) res s' wY:=λwY B hY=>by
   have V:Mod (Kt p s.m s.A w.heap.size) w7 wY:=Yh.trans B λi c=>.inl (.inl (.inl c));have Q:∀{x:DV} {ox:BF},DgO w7 (TQ p s.m) p.nm.length x ox->DgO wY (TQ p s'.m) p.nm.length x ox:=λZ=>y.kp (s':=s') V y.tt (Moved.refl _ _) (Moved.refl _ _) (Moved.refl _ _) Z;have KN:=(y.ow.mod K I).mod R (λi c e=>by subst e;exact nbA c);have c:=(KN.mod B I).take (k:=z'.length) ω;have A:(Z2 s.z).take (z'.length*6)=Z2 z':=by rw[X,ep,uw (by rw[lk])]
   rw[A] at c;refine y.go (s':=s') Wv V hY gq y.tt y.nw (Moved.refl _ _) (Moved.refl _ _) (XX.mod B N) (Q (y.zx x aW)) c (λz C=>Q (y.zx z (by rw[X];simp[show z∈z' from C]))) (λz C=>Q (y.zy z (by rw[X];simp[show z∈z' from C]))) ZF rfl (by show z'.length<=65;omega) rfl ?_;have G:=QE;rw[GR XT,bQ] at G;exact .inl ⟨aT,by show s.v.d-1=v.d+z'.length;omega,by show s.v.d-1<=64;omega,G⟩
  refine Qp D.blk rfl (Z0 (λYR=>?_) λYR=>?_);refine Xv D.blk (show 6<10 by decide) λwY B M=>?_;refine QF (s.at_+l.length) ?_;exact⟨s',rfl,E wY B (D.put B M rfl rfl rfl (λe=>by cases e) D.dl),mu⟩;refine call (ji l _ K7) ?_;rw[aq];rintro _ _ ⟨rfl,rfl⟩;refine Xv D.blk (show 6<10 by decide) λwY B M=>?_;refine QF (s.at_+l.length) ?_;exact⟨s',rfl,E wY B (D.put B M rfl rfl rfl (λe=>by cases e) D.dl),mu⟩
theorem pQk (s:Γ)(w:θ)(g:∀x∈s,x<256)(b:s.length<=9223372036854775807):Fn ψ 178 [.string (Qb s)] w (λu a=>u= .bool (jX s)/\w=a):=by
 have b:=QZ s;refine QK jQu [] Tryz.func178 ?_;refine loop Qe [3] (λi:Nat=>[.int .i64 i]) (λi a=>w=a/\i<=s.length/\(s.take i).any badB=false) (λi _=>s.length-i) 0 rfl ⟨rfl,Q9 _,by simp⟩ ?_;rintro i _ ⟨rfl,a,d⟩;refine Ql (λa=>?_) λa=>?_;have c:i<s.length:=by omega
 obtain⟨y,f⟩:∃y,s[i]? =some y:=⟨_,Q6 c⟩
 have a:∀K:Int->Prop,K (y:Int)->fM (Qb s) ((i:Nat):Int) K:=λK h=>by refine Wd (by rw[b];exact c) λz b _=>?_;rw[We g,f] at b;cases b;exact h
 have b:badB y=true->jX s=false:=λh=>by rw[Oy];have:s.any badB=true:=rD.2 ⟨y,Xd f,h⟩;rw[this];simp
 refine a _ (Ql (λh=>?_) λh=>?_);exact⟨by rw[b (by
            have:y<32:=by omega
            simp[badB,this])],rfl⟩
 refine a _ (X0 (λh=>?_) λh=>?_);exact⟨by rw[b (by
            have:y=34:=by omega
            simp[badB,this])],rfl⟩
 refine a _ (X0 (λh=>?_) λh=>?_);exact⟨by rw[b (by
            have:y=127:=by omega
            simp[badB,this])],rfl⟩
 refine QF i ?_;refine⟨i+1,rfl,⟨rfl,c,?_⟩,QL⟩;rw[JT,f];have a:¬y<32:=by omega
 have b:¬y=34:=by omega
 have f:¬y=127:=by omega
 simp[d,badB,a,b,f];have c:i=s.length:=by omega
 rw[c,ry] at d;refine⟨?_,rfl⟩;rw[Oy,d];by_cases e:s=[]
 subst e;rfl;have:¬Qb s=(⟨#[]⟩:ByteArray):=λa=>e (Jl g (by simp) a);simp[e,this]
theorem pQl {b c d:Bool}:¬(b=true/\d=true/\c=true)↔(b&&c&&d)=false:=by cases b<;>cases c<;>cases d<;>decide
theorem pQm (a:χ (Γ×Γ))(c:Θ)(nf cf:Nat)(w:θ)(h:SlS ci 2 w c nf cf a)(hb:∀x∈a,FileB x)(d:nf<=1000000000000):Fn ψ 124 [.slice c nf cf] w (λu o=>u= .agg (ja (Ox (V0 a))).toArray/\Ext w o):=by
 have c:=h.2;refine QK iQJ [] Tryz.func124 ?_;refine new λU P c K=>?_;refine Ql (λc=>?_) λc=>?_;refine Qo K λw2 c _ d=>?_;refine Qm d ?_;refine⟨?_,X1 P K c⟩;unfold V0;rw[Qf ω]<;>rfl
 have d:V0 a=dE a [] 0:=by unfold V0;rw[φ ω]
 have B:∀(q:Pl) c w2,V0 a=some q->Ext U c->c.grownBy w2 (some w.heap.size)->(Value.agg (ja q).toArray= .agg (ja (Ox (V0 a))).toArray/\Ext w w2):=λq c w2 f g l=>by have hM:Mod (·=w.heap.size) c w2:=vQB l rfl;exact⟨by rw[f];rfl,hM.ext (P.trans g) λi hi=>ω⟩
 refine loop Qe [3] (λi:Nat=>[.int .i64 i]) (λi o=>Ext U o/\i<=a.length/\dE (a.drop i) ((a.take i).map (·.1)) i=V0 a) (λi _=>a.length-i) 0 rfl ⟨Ext.refl _,Q9 _,by rw[d];rfl⟩ ?_;rintro i w2 ⟨S,hi,f⟩;have h1:=h.ext (P.trans S);refine Ql (λd=>?_) λd=>?_;have T:i<nf:=by omega
 obtain⟨x,E⟩:∃x,a[i]? =some x:=⟨_,Q6 ω⟩
 have Q:=hb x (Xd E);have d:=QZ x.1;have L:=QZ x.2;have d:=Q.nl;have g:=Q.tl;refine XG gU h1 rfl T λp y m n=>?_;obtain rfl:x=y:=Option.some.inj (E.symm.trans m);refine load (n 1 _ rfl) (XG gU h1 rfl T λp y m n=>?_);obtain rfl:x=y:=Option.some.inj (E.symm.trans m);refine load (by have:=n 0 _ rfl;simpa [Addr.add] using this) (call (pQk x.1 w2 Q.n8 d) ?_);rintro _ _ ⟨rfl,rfl⟩;have d:a.drop i=x::a.drop (i+1):=by rw[VU ω];congr 1;exact Option.some.inj ((Q6 ω).symm.trans E)
 rw[d,dE] at f;have d:i<a.length:=by omega
 have g:∀k,(decide (x.1∈(a.take k).map (·.1)))=((a.take k).map (·.1)).any (λs=>s==x.1):=λk=>by rw[mN];simp only[decide_eq_true_iff,rD,beq_iff_eq];exact⟨λhm=>⟨_,hm,rfl⟩,λ⟨_,hm,e⟩=>e▸hm⟩
 generalize R:(jX x.1&&bB x.2)=b0;have d:(¬(jX x.1=true/\x.1∉(a.take i).map (·.1)/\bB x.2=true))↔(b0 && !(((a.take i).map (·.1)).any λs=>s==x.1))=false:=by rw[<-R,<-g,<-pQl];simp
 cases hv:jX x.1 with
 |false=>
  rw[hv,Bool.false_and] at R;subst R;refine QX rfl (loop Qe [6,5] (λs:Nat×Bool=>[.int .i64 s.1,.bool s.2]) (λs o=>Ext U o/\s.1<=i/\s.2=(false && !(((a.take s.1).map (·.1)).any λs=>s==x.1))) (λs _=>i-s.1) (0,false) rfl ⟨S,Q9 _,by simp⟩ ?_);rintro⟨k,b⟩ c ⟨g,V,r⟩;have M:=h.ext (P.trans g);simp only at V r;refine Ql (λF=>?_) λF=>?_;have t:k<i:=by simp only at F;omega
  obtain⟨z,A⟩:∃z,a[k]? =some z:=⟨_,Q6 ω⟩
  have W:=hb z (Xd A);have X:(((a.take (k+1)).map (·.1)).any λs=>s==x.1)=(((a.take k).map (·.1)).any (λs=>s==x.1)||z.1==x.1):=by rw[JT,A];simp
  have N:∀G:Bool,G=(b && !(z.1==x.1))->G=(false && !(((a.take (k+1)).map (·.1)).any λs=>s==x.1)):=λG H=>by rw[H,r,X,Bool.not_or,Bool.and_assoc]
  have O:=g.trans (Ext.drew c);cases b with
  |false=>refine Xw (Ext c) 15 (oz 15 0 []) (Ext.drew c) ?_;refine QX rfl (QF k ?_);exact⟨(k+1,false),rfl,⟨O,t,N false rfl⟩,QL⟩
  |true=>refine Xw (Ext c) 15 (oz 15 0 []) (Ext.drew c) ?_;refine Q3 rfl (XG gU M rfl ω λp y m n=>?_);obtain rfl:z=y:=Option.some.inj (A.symm.trans m);refine Qx (v:=.string (Qb z.1)) (λo I=>I.cell (by have:=n 0 _ rfl;simpa [Addr.add] using this)) (XG gU M rfl T λp y m n=>?_);obtain rfl:x=y:=Option.some.inj (E.symm.trans m);refine Qx (v:=.string (Qb x.1)) (λo I=>I.cell (by have:=n 0 _ rfl;simpa [Addr.add] using this)) (QF k ?_);refine⟨(k+1, !decide (Qb z.1=Qb x.1)),rfl,⟨O,t,N _ ?_⟩,QL⟩;rw[YF];by_cases e:z.1=x.1;simp[e];have:¬Qb z.1=Qb x.1:=λY=>e (Jl W.n8 Q.n8 Y);simp[e,this]
  have t:k=i:=by simp only at F;omega
  subst t;refine Z0 (λl=>?_) λl=>?_;have l:b=false:=by simpa using l
  rw[Qf (d.2 (by rw[<-r,l]))] at f;refine Qo (K.ext g) λw7 C _ D=>?_;exact Qm D (B _ c w7 f.symm g C);have l:b=true:=by simpa using l
  rw[φ λZ=>by have:=d.1 Z;rw[<-r,l] at this;cases this] at f;refine Ql (λJ=>?_) λJ=>?_;rw[Qf (by rw[L] at J;omega)] at f;refine Qo (K.ext g) λw7 C _ D=>?_;exact Qm D (B _ c w7 f.symm g C);rw[φ (by rw[L] at J;omega)] at f;refine QF k ?_;have YS:(a.take (k+1)).map (·.1)=(a.take k).map (·.1)++ [x.1]:=by rw[JT,E];simp
  exact⟨k+1,rfl,⟨g,ω,by rw[YS];exact f⟩,QL⟩
 |true=>
  rw[hv,YF] at R;refine Q3 rfl ?_;by_cases p3:x.2=[]
  have e0:bB x.2=true:=by rw[p3]<;>rfl
  rw[e0] at R;subst R;refine JF (by rw[L,p3];rfl) (loop Qe [6,5] (λs:Nat×Bool=>[.int .i64 s.1,.bool s.2]) (λs o=>Ext U o/\s.1<=i/\s.2=(true && !(((a.take s.1).map (·.1)).any λs=>s==x.1))) (λs _=>i-s.1) (0,true) rfl ⟨S,Q9 _,by simp⟩ ?_);rintro⟨k,b⟩ c ⟨g,V,r⟩;have M:=h.ext (P.trans g);simp only at V r;refine Ql (λF=>?_) λF=>?_;have t:k<i:=by simp only at F;omega
  obtain⟨z,A⟩:∃z,a[k]? =some z:=⟨_,Q6 ω⟩
  have W:=hb z (Xd A);have X:(((a.take (k+1)).map (·.1)).any λs=>s==x.1)=(((a.take k).map (·.1)).any (λs=>s==x.1)||z.1==x.1):=by rw[JT,A];simp
  have N:∀G:Bool,G=(b && !(z.1==x.1))->G=(true && !(((a.take (k+1)).map (·.1)).any λs=>s==x.1)):=λG H=>by rw[H,r,X,Bool.not_or,Bool.and_assoc]
  have O:=g.trans (Ext.drew c);cases b with|false=>refine Xw (Ext c) 15 (oz 15 0 []) (Ext.drew c) ?_;refine QX rfl (QF k ?_);exact⟨(k+1,false),rfl,⟨O,t,N false rfl⟩,QL⟩|true=>refine Xw (Ext c) 15 (oz 15 0 []) (Ext.drew c) ?_;refine Q3 rfl (XG gU M rfl ω λp y m n=>?_);obtain rfl:z=y:=Option.some.inj (A.symm.trans m);refine Qx (v:=.string (Qb z.1)) (λo I=>I.cell (by have:=n 0 _ rfl;simpa [Addr.add] using this)) (XG gU M rfl T λp y m n=>?_);obtain rfl:x=y:=Option.some.inj (E.symm.trans m);refine Qx (v:=.string (Qb x.1)) (λo I=>I.cell (by have:=n 0 _ rfl;simpa [Addr.add] using this)) (QF k ?_);refine⟨(k+1, !decide (Qb z.1=Qb x.1)),rfl,⟨O,t,N _ ?_⟩,QL⟩;rw[YF];by_cases e:z.1=x.1;simp[e];have:¬Qb z.1=Qb x.1:=λY=>e (Jl W.n8 Q.n8 Y);simp[e,this]
  have t:k=i:=by simp only at F;omega
  subst t;refine Z0 (λl=>?_) λl=>?_;have l:b=false:=by simpa using l
  rw[Qf (d.2 (by rw[<-r,l]))] at f;refine Qo (K.ext g) λw7 C _ D=>?_;exact Qm D (B _ c w7 f.symm g C);have l:b=true:=by simpa using l
  rw[φ λZ=>by have:=d.1 Z;rw[<-r,l] at this;cases this] at f;refine Ql (λJ=>?_) λJ=>?_;rw[Qf (by rw[L] at J;omega)] at f;refine Qo (K.ext g) λw7 C _ D=>?_;exact Qm D (B _ c w7 f.symm g C);rw[φ (by rw[L] at J;omega)] at f;refine QF k ?_;have YS:(a.take (k+1)).map (·.1)=(a.take k).map (·.1)++ [x.1]:=by rw[JT,E];simp
  exact⟨k+1,rfl,⟨g,ω,by rw[YS];exact f⟩,QL⟩;have Ww:0<x.2.length:=mU.2 p3;refine X6 (by rw[L];omega) (XG gU h1 rfl T λp y m n=>?_);obtain rfl:x=y:=Option.some.inj (E.symm.trans m);refine load (n 1 _ rfl) (Qz ((x.2.length-1:Nat):Int) ?_ (hm:=by rw[L];omega));refine Wd (j:=x.2.length-1) ω λz A Wj=>?_;rw[We Q.t8] at A;have eT:x.2.getLast? =some z:=by rw[oW];exact A
  have e0:((z:Int)==10)=b0:=by
   rw[<-R];unfold bB;rw[XZ p3,eT];by_cases R:z=10;subst R;decide;have e1:((z:Int)==10)=false:=by simp;omega
   rw[e1];simp[R]
  refine loop Qe [6,5] (λs:Nat×Bool=>[.int .i64 s.1,.bool s.2]) (λs o=>Ext U o/\s.1<=i/\s.2=(b0 && !(((a.take s.1).map (·.1)).any λs=>s==x.1))) (λs _=>i-s.1) (0,((z:Int)==10)) rfl ⟨S,Q9 _,by simp[e0]⟩ ?_;rintro⟨k,b⟩ c ⟨g,V,r⟩;have M:=h.ext (P.trans g);simp only at V r;refine Ql (λF=>?_) λF=>?_;have t:k<i:=by simp only at F;omega
  obtain⟨z,A⟩:∃z,a[k]? =some z:=⟨_,Q6 ω⟩
  have W:=hb z (Xd A);have X:(((a.take (k+1)).map (·.1)).any λs=>s==x.1)=(((a.take k).map (·.1)).any (λs=>s==x.1)||z.1==x.1):=by rw[JT,A];simp
  have N:∀G:Bool,G=(b && !(z.1==x.1))->G=(b0 && !(((a.take (k+1)).map (·.1)).any λs=>s==x.1)):=λG H=>by rw[H,r,X,Bool.not_or,Bool.and_assoc]
  have O:=g.trans (Ext.drew c);cases b with|false=>refine Xw (Ext c) 15 (oz 15 0 []) (Ext.drew c) ?_;refine QX rfl (QF k ?_);exact⟨(k+1,false),rfl,⟨O,t,N false rfl⟩,QL⟩|true=>refine Xw (Ext c) 15 (oz 15 0 []) (Ext.drew c) ?_;refine Q3 rfl (XG gU M rfl ω λp y m n=>?_);obtain rfl:z=y:=Option.some.inj (A.symm.trans m);refine Qx (v:=.string (Qb z.1)) (λo I=>I.cell (by have:=n 0 _ rfl;simpa [Addr.add] using this)) (XG gU M rfl T λp y m n=>?_);obtain rfl:x=y:=Option.some.inj (E.symm.trans m);refine Qx (v:=.string (Qb x.1)) (λo I=>I.cell (by have:=n 0 _ rfl;simpa [Addr.add] using this)) (QF k ?_);refine⟨(k+1, !decide (Qb z.1=Qb x.1)),rfl,⟨O,t,N _ ?_⟩,QL⟩;rw[YF];by_cases e:z.1=x.1;simp[e];have:¬Qb z.1=Qb x.1:=λY=>e (Jl W.n8 Q.n8 Y);simp[e,this]
  have t:k=i:=by simp only at F;omega
  subst t;refine Z0 (λl=>?_) λl=>?_;have l:b=false:=by simpa using l
  rw[Qf (d.2 (by rw[<-r,l]))] at f;refine Qo (K.ext g) λw7 C _ D=>?_;exact Qm D (B _ c w7 f.symm g C);have l:b=true:=by simpa using l
  rw[φ λZ=>by have:=d.1 Z;rw[<-r,l] at this;cases this] at f;refine Ql (λJ=>?_) λJ=>?_;rw[Qf (by rw[L] at J;omega)] at f;refine Qo (K.ext g) λw7 C _ D=>?_;exact Qm D (B _ c w7 f.symm g C);rw[φ (by rw[L] at J;omega)] at f;refine QF k ?_;have YS:(a.take (k+1)).map (·.1)=(a.take k).map (·.1)++ [x.1]:=by rw[JT,E];simp
  exact⟨k+1,rfl,⟨g,ω,by rw[YS];exact f⟩,QL⟩
 have c:i=a.length:=by omega
 rw[c,Ft] at f;refine Qo (K.ext S) λw7 C _ D=>?_;refine Qm D ?_;have hM:Mod (·=w.heap.size) w2 w7:=vQB C rfl;exact⟨by rw[<-f];rfl,hM.ext (P.trans S) λi hi=>ω⟩
theorem eQu:∀(l:χ (Γ×Γ))(a:Λ)(i:Nat),dE l a i=none->(l.map (·.1)).Nodup/\∀x∈l,x.1∉a
 |[],_,_,_=>⟨List.nodup_nil,λx b=>by cases b⟩
 |y::l,a,i,h=>by
  unfold dE at h;split at h;cases h;split at h;cases h;rename_i c j;have c:=Decidable.not_not.1 c;obtain⟨g,f⟩:=eQu l _ _ h;refine⟨?_,λx b=>?_⟩;rw[YD,AQ];refine⟨λd=>?_,g⟩;obtain⟨x,b,e⟩:=Z5.1 d;exact f x b (by rw[e];simp);obtain rfl|b:=XI.1 b;exact c.2.1
  exactλd=>f x b (by simp[d])
theorem pQn {a:χ (Γ×Γ)}(h:V0 a=none):(a.map (·.1)).Nodup:=by unfold V0 at h;split at h;cases h;exact(eQu _ _ _ h).1
theorem eQv (k:Λ)(Q:Θ)(nn nc:Nat)(h:χ (Γ×Γ))(P:Θ)(N cf:Nat)(b:Γ)(w:θ)(hN:Sl w 1 Q nn nc (Xb k))(Kq:KH k)(hk:k.length<=12)(hF:SlS ci 2 w P N cf h)(xv:∀x∈h,FileB x)(ES:N<=1000000000000)(cr:∀x∈b,x<256):Fn ψ 73 [.slice Q nn nc,.slice P N cf,.string (Qb b)] w (cQW k.length w (W0 k h b)):=by
 refine QK c73 [] Tryz.func73 ?_;refine new λc Qd Q0 Qh=>?_;refine new λw2 Qg XR Qs=>?_;have Q1:=Qd.trans Qg;refine call (NT k Q nn nc w2 (hN.ext Q1) Kq) ?_;rintro _ A ⟨rfl,T⟩;have QT:=Q1.trans T;have qZ:=(Qh.ext Qg).ext T;have ET:=Qs.ext T;have o:c.heap.size≠w.heap.size:=by omega
 have qg:=T.size;have f:W0 k h b=if JG k=false then .error ⟨30, -1,0⟩else match V0 h with|some p=>.error p|none=>match ZS (h.map (·.1)) b with|none=>.error ⟨73, -1,0⟩|some n=>Yc k h 65 [] 0 n (λ_=>true) ⟨[],[],false⟩:=rfl
 have z:∀A w4 w5,Ext w A->A.grownBy w4 (some w.heap.size)->w4.grownBy w5 (some c.heap.size)->Ext w w5:=λA w4 w5 hE V Zx=>by have ZQ:Mod (·=w.heap.size) A w4:=vQB V rfl;have Zu:Mod (·=c.heap.size) w4 w5:=vQB Zx rfl;exact Zu.ext (ZQ.ext hE λi a=>ω) λi a=>ω
 cases Zb:JG k with|false=>rw[Qf Zb] at f;refine Q3 rfl (Qo qZ λw4 V _ QU=>?_);have ZQ:Mod (·=w.heap.size) A w4:=vQB V rfl;refine Qo (ET.mod ZQ o) λw5 Zx _ R=>?_;have Zu:Mod (·=c.heap.size) w4 w5:=vQB Zx rfl;refine Qm (QU.mod Zu o.symm) (Qm R ?_);rw[f];exact⟨z _ _ _ QT V Zx,rfl⟩|true=>
  rw[φ (by rw[Zb];decide)] at f;refine QX rfl (call (pQm h P N cf A (hF.ext QT) xv ES) ?_);rintro _ w4 ⟨rfl,Qq⟩;refine new λw5 QH KA R=>?_;refine Qo R λw6 Vg _ Xi=>?_;have X7:Ext w4 w6:=X1 QH R Vg;have W:=Qq.trans X7;have F:=QT.trans W;have DB:=qZ.ext W;have DC:=ET.ext W;have PU:=Qq.size;refine Qp Xi rfl ?_;cases E:V0 h with
  |some q=>
   rw[E] at f Xi;refine iX (OB E) ?_;have n4:¬w4.heap.size=w.heap.size:=by omega
   have RO:¬w4.heap.size=c.heap.size:=by omega
   have r:=Ext.drew w6;refine Xw (λC=>Mod (λi=>i=w.heap.size∨i=c.heap.size) w6 C) 4 [(true,0),(true,1),(false,2),(false,3)] (Mod.of_ext _ r) (Xe (vs:=ja q) rfl (λC Qa j u d=>by rw[(Xi.mod Qa λt=>t.elim n4 RO).cell];exact d) (Qo (DB.ext r) λw7 Zn _ Q2=>?_));have XH:Mod (·=w.heap.size) w6.drew w7:=vQB Zn rfl;have DD:Mod (λi=>i=w.heap.size∨i=c.heap.size) w6 w7:=(Mod.of_ext _ r).trans XH λi a=>.inl (.inl a);refine⟨DD,?_⟩;refine Qo ((DC.ext r).mod XH o) λw8 U _ XP=>?_;have Z:Mod (·=c.heap.size) w7 w8:=vQB U rfl;have td:=DD.trans Z λi a=>.inl (.inr a);refine⟨td,?_⟩;refine Qm (Q2.mod Z o.symm) (Qm XP ?_);rw[f];exact⟨td.ext F (λi a=>by obtain rfl|rfl:=a <;>omega),rfl⟩
  |none=>
  rw[E] at f;refine KT rfl ?_;obtain⟨Zj,iR⟩:=cQY E xv;have Xr:=hF.2;refine new λw7 X aa Q2=>?_;have JE:=F.trans X;let p:QP:=⟨w6.heap.size,Q,nn,nc,k,P,N,cf,h⟩
  let m:QM:=⟨none,0,none,0,[],λi=>i=w.heap.size∨i=c.heap.size⟩
  let v:QV:=⟨0,[],⟨[],[],false⟩,⟨0,0,0⟩⟩
  have hP:QPok w6 p:=⟨hN.ext F,Kq,hk,hF.ext F,iR,Zj,pQn E⟩
  have h7:Qr w6 w7 w7.heap.size p m v:=by refine⟨X,Qw _,?_,Qw _,Q2,Own.nil _ _ _ _,Own.nil _ _ _ _,rfl,(λj s x hs=>by simp[v] at hs),(Q9 _),(Q9 _),(λx hx=>by cases hx),λ_=>.inr rfl,(λi a=>by obtain a|a:=a <;>rw[a]<;>(have:=W.size;omega)),(Q9 _),(Q9 _)⟩;show w6.heap.size<w7.heap.size;omega
  refine call (eQq b w7 hP h7 cr) ?_;rintro _ _ ⟨rfl,rfl⟩;have D8:=DB.ext X;have J:=DC.ext X;show _;cases JL:ZS (h.map (·.1)) b with|none=>rw[JL] at f;refine Q3 rfl (Qo D8 λw8 U _ XP=>?_);have Z:Mod (·=w.heap.size) w7 w8:=vQB U rfl;refine Qo (J.mod Z o) λw9 J2 _ XX=>?_;have G:Mod (·=c.heap.size) w8 w9:=vQB J2 rfl;refine Qm (XP.mod G o.symm) (Qm XX ?_);rw[f];exact⟨z _ _ _ JE U J2,rfl⟩|some n=>
  rw[JL] at f;simp only at f;have JP:n<h.length:=by have:=ld JL;simpa using this
  refine XB (by show¬((n:Nat):Int)<0;omega) (call (vo true w7) ?_);rintro _ w8 ⟨rfl,S⟩;have h8:=h7.ext S;have Sz:DgO w8 (TQ p m) p.nm.length ⟨none,0,0,[],1⟩ (λ_=>true):=⟨SlS.nil _,Y0 _ true,λad e=>by cases e⟩
  refine call (eQt w6 w7.heap.size p hP ω 65 m v n ⟨none,0,0,[],1⟩ (λ_=>true) w8 h8 Sz JP (λt=>by cases t) (Q9 _) (Qw _) rfl (Q9 _)) ?_;rintro _ w9 ⟨B,O,Dh,l,G,_,_,uQP,y⟩;have y:match Yc k h 65 [] 0 n (λ_=>true) ⟨[],[],false⟩with|.ok g'=>O={v with g:=g'}|.error q=>O.b=q/\q.e≠0/\v.d<=O.d:=y
  have hQ:∀i,QS p m i->i=w6.heap.size:=λi a=>by obtain a|⟨_,e,_⟩|⟨_,e,_⟩:=a;exact a;cases e;cases e
  have C5:=X7.size;have uQQ:=F.size;have DE:Ext w w9:=G.ext (JE.trans S) (λi a=>by rw[hQ i a];omega);have K:=(D8.ext S).mod G (λa=>by have:=hQ _ a;omega);have L:=(J.ext S).mod G (λa=>by have:=hQ _ a;omega);refine lv l.blk rfl ?_;cases lZ:Yc k h 65 [] 0 n (λ_=>true) ⟨[],[],false⟩with
  |error q=>
   rw[lZ] at f y;obtain⟨rfl,hqe,_⟩:=y;refine iX hqe ?_;have r:=Ext.drew w9;have nr:∀i,(i=w.heap.size∨i=c.heap.size)->¬i=w6.heap.size:=λi a e=>by obtain a|a:=a <;>omega
   refine Xw (λC=>Mod (λi=>i=w.heap.size∨i=c.heap.size) w9 C) 7 (oz 5 0 [(false,5),(false,6)]) (Mod.of_ext _ r) ?_;refine Xe (vs:=ja O.b) rfl (λC Qa j u d=>by
    show C.cell? (((⟨p.r,0,none⟩:Addr).add 7).add j)=some u;rw[Addr.add_add,(l.blk.mod Qa λt=>nr _ t rfl).cell];match j,d with
    |0,d=>exact d
    |1,d=>exact d
    |2,d=>exact d) ?_
   refine Qo (K.ext r) λQu Y _ Zo=>?_;have I:Mod (·=w.heap.size) w9.drew Qu:=vQB Y rfl;have M:Mod (λi=>i=w.heap.size∨i=c.heap.size) w9 Qu:=(Mod.of_ext _ r).trans I λi a=>.inl (.inl a);refine⟨M,?_⟩;refine Qo ((L.ext r).mod I o) λQJ dS _ ZC=>?_;have H:Mod (·=c.heap.size) Qu QJ:=vQB dS rfl;have D:=M.trans H λi a=>.inl (.inr a);refine⟨D,?_⟩;refine Qm (Zo.mod H o.symm) (Qm ZC ?_);rw[f];exact⟨D.ext DE (λi a=>by obtain rfl|rfl:=a <;>omega),rfl⟩
  |ok g=>
   rw[lZ] at f y;have y:O={v with g:=g}:=y;subst y;refine KT rfl ?_;have I9:=l.rb;refine fS (vs:=[.string (Qb g.tx),.slice B.OA g.sg.length B.oc]) l.blk rfl (λj u d=>by match j,d with|0,d=>exact d|1,d=>exact d) (Qo K λQu Y _ Zo=>?_);have I:Mod (·=w.heap.size) w9 Qu:=vQB Y rfl;refine Qo (L.mod I o) λQJ dS _ ZC=>?_;have H:Mod (·=c.heap.size) Qu QJ:=vQB dS rfl;have D:Mod (λi=>i=w.heap.size∨i=c.heap.size) w9 QJ:=(I.mono (S':=λi=>i=w.heap.size∨i=c.heap.size) λi a=>.inl (.inl a)).trans H λi a=>.inl (.inr a);refine Qm (Zo.mod H o.symm) (Qm ZC ?_);rw[f];have nO:∀i,Qj B.OA i->¬(i=w.heap.size∨i=c.heap.size):=λi a t=>by have:=(l.out.rows i a).1;obtain rfl|rfl:=t <;>omega
   refine⟨z _ _ _ DE Y dS,⟨l.b8,l.tl,l.sl⟩,B.OA,B.oc,B.L,rfl,⟨(l.out.mod D nO).sl,rfl,l.len,λj s x h1 h2=>?_⟩⟩;have q9:=l.dgs j s x h1 h2;exact⟨SB.modo q9.sb D λad e h0 t=>q9.off ad e h0 (.inr (by rw[Dh];exact t)),q9.st⟩
def ii:Except Int (Γ)->τ|.ok l=>.tuple #[.string (Qb l),.int .i64 0]|.error e=>.tuple #[.string (Qb []),.int .i64 e]
theorem pQo (n:Nat)(o o':BF):QW n (λe=>o e && !o' e)=nL n (QW n o) o':=by unfold QW nL;rw[List.filter_filter];congr 1;funext c;rw[Bool.and_comm]
theorem CM {M:Nat}:∀{ls:Λ},(∀s∈ls,s.length<=M)->(Qk ls).length<=ls.length*(M+1)|[],_=>by simp[Qk]|s::ls,h=>by have a:=CM (ls:=ls) λt a=>h t (by simp[a]);have a:=h s (by simp);rw[YJ,Xa,xR,Nat.one_mul];simp only[Qy,Xa];omega
theorem lw:∀(l:Γ),(QN l).length<=l.length/\∀s∈QN l,s.length<=l.length|[]=>⟨by simp[QN],λs a=>by simp[QN] at a⟩|b::l=>by obtain⟨d,c⟩:=lw l;unfold QN;split;refine⟨by simp;omega,λs a=>?_⟩;obtain rfl|a:=XI.1 a;simp;have:=c s a;simp;omega;cases e:QN l with|nil=>refine⟨by simp,λs a=>?_⟩;rw[Xx.1 a];simp|cons t f=>rw[e] at d c;refine⟨by simp at d ⊢;omega,λs a=>?_⟩;obtain rfl|a:=XI.1 a;have:=c t (by simp);simp;omega;have:=c s (by simp[a]);simp;omega
theorem Pm {a:Λ}(h:∀s∈a,s.length<=1000)(v:Nat)(b:Bool):(KK a v b).length<=2100:=by
 unfold KK;have c:((a[v]?).getD []).length<=1000:=by cases c:a[v]? with|none=>simp|some s=>exact h s (Xd c)
 have a:(if b then [33] else([]:Γ)).length<=1:=by cases b<;>simp
 have a:Zd.length=4:=rfl;simp only[Qy];omega
theorem pQp {nm:Λ}{f:Nat->Γ}(d:∀s∈nm,s.length<=1000){S:Γ}(e:S≠ [])(g:S.length<=16)(h:∀c∈S,(f c).length<=2000)(k v:Nat):(Qk (XW nm f k v S)).length<=1000000000:=by
 obtain⟨i,j⟩:=sh (nm:=nm) (f:=f) (P:=λs=>s.length<=2100) (M:=2000) (λv j=>Pm d v j) δ δ k v S e (λc l=>by
  obtain⟨a,b⟩:=lw (f c);have:=h c l;exact⟨λs d=>by have:=b s d;omega,ω⟩)
 have d:=CM i;have d:S.length*(2000+3)<=16*2003:=aY _ g;have d:(XW nm f k v S).length*(2100+1)<=32048*2101:=aY _ ω;omega
theorem eQw (n:Nat)(o:BF):(QW n o).length<=2^n:=by unfold QW;refine XU (oZ _ _) ?_;rw[aQc];exact Qw _
theorem Po (NA:Θ)(nn nc:Nat)(f:Λ)(x:DV)(PA:Θ)(pn pc:Nat)(ps:χ (DV×Γ))(ju:f.length<=4)(Kq:KH f)(JP:∀s∈f,s.length<=1000)(fE:∀q∈ps,(∀b∈q.2,b<256)/\q.2.length<=2000)(w:θ)
  (hN:Sl w 1 NA nn nc (Xb f)) (hx:SB w x.A x.n x.c x.nd) (hP:SlS KX 3 w PA pn pc ps) (EW:∀q∈ps,SB w q.1.A q.1.n q.1.c q.1.nd):
  Fn ψ 24 [.slice NA nn nc,Q5 x.A x.n x.c x.r,.slice PA pn pc] w (λu m=>u=ii (pM f x ps)/\Ext w m):=by
 have Xr:f.length=nn:=by have:=hN.len;rw[az] at this;omega
 have hk:f.length<=12:=by omega
 have Jd:=hP.2;have tQM:=hP.1.cap;have vQs:=hP.1.le;simp only[maxLen] at tQM;refine Bz (c:={c24 with cuts:=[]}) Qe Tryz.func24 rfl rfl rfl ?_;refine JN (JC Qe ?_);refine new (λt Qd Q0 Qh=>?_);refine new (λy Qg XR Qs=>?_);refine new (λw3 Qi JI Qt=>?_);have KL:=Qg.trans Qi;have QT:=Qd.trans KL;have z:t.heap.size≠y.heap.size:=by omega
 refine JN (FZ Qe rfl rfl rfl rfl ⟨_,_,_,_,rfl,rfl,?_⟩);refine JN (JC Qe ?_);refine Qm (Qh.ext KL) (Zl (eQg NA nn nc f x hk Kq w3 (hN.ext QT) (hx.ext QT)) ?_ ?_)
 rotate_left
 ·rintro Y C ⟨Xo,rfl,F⟩;refine dz Qe rfl rfl (args:= #[.pointer (some ⟨t.heap.size,0,none⟩),.pointer (some ⟨y.heap.size,0,none⟩)]) (by simp) ((vv _ _ 1 C _ _ z ((Qs.ext Qi).ext F) (Qt.ext F)).mono ?_);rintro e Q w5 ⟨v,rfl,jo,Y5⟩;refine⟨v,rfl,jo,?_⟩;refine QQ Y5.1 rfl (QQ Y5.2.1 rfl ?_);have B:pM f x ps= .error 1:=by
   unfold pM;rw[Qf (by
    by_cases h1:JG f=true
    ·exact .inr (dt.2 (λh2=>Xo ⟨h1,h2⟩))
    ·exact .inl (by simpa using h1))]
  rw[B];exact⟨rfl,Y5.2.2.ext (QT.trans F) (λi Z=>by rcases Z with rfl | rfl<;>omega)⟩
 rintro _ C ⟨⟨Zb,YU⟩,F⟩;have X4:=QT.trans F;have sx:=gY YU;have Ko:=(Qh.ext KL).ext F;have mD:=(Qs.ext Qi).ext F;have eO:=Qt.ext F;have B:pM f x ps=if dK f.length (QW f.length (oD x)) ps=false then .error 290
   else if ps=[] then .ok []
   else if 1048576<(Qk (XW f (fP (Ja ps)) f.length 0 (QW f.length (oD x)))).length then .error 2
   else .ok (Qk (XW f (fP (Ja ps)) f.length 0 (QW f.length (oD x)))):=by
  rw[pM,φ (by rw[Zb,YU];simp)]
 generalize pM f x ps=M at*;have gQt:∀m,Ext C m->dK f.length (QW f.length (oD x)) ps=false->∀w5,Hl t.heap.size y.heap.size 290 m w5->Value.tuple #[.string ⟨#[]⟩,.int .i64 290]=ii M/\Ext w w5:=λm kO l w5 hR=>by
  refine⟨by rw[B,Qf l];rfl,hR.2.2.ext (X4.trans kO) (λi Z=>by rcases Z with rfl | rfl<;>omega)⟩
 refine JN (JC Qe ?_);refine Qm Ko (new (λw5 QH KA QC=>?_));refine Qo QC (λw6 Vg _ Xi=>?_);have X7:Ext C w6:=X1 QH QC Vg;have Ku:=F.size;have uQR:=X7.size;refine JN (JC Qe ?_);refine loop Qe [18] (λi:Nat=>[.int .i64 i]) (λi m=>Mod (·=C.heap.size) w6 m/\i<=pn/\∃(R:DV) (oR:BF),Blk m C.heap.size 32 R.cells/\SB m R.A R.n R.c R.nd/\Set1 f.length R.nd R.r oR/\(∀A,R.A=some A->0<R.n->A.block≠C.heap.size)/\dK f.length (QW f.length (oD x)) ps=dK f.length (QW f.length oR) (ps.drop i)) (λi _=>pn-i) 0 rfl ⟨Mod.refl _ _,Q9 _,x,oD x,Xi,(hx.ext X4).ext X7,sx,λA ea h0=>by have:=SB.lt (hx.ext X4) A ea h0;omega,rfl⟩ ?_;rintro i w7 ⟨XH,Z,R,oR,Q2,Ye,sR,hRn,K⟩;have T:Ext C w7:=XH.ext X7 (λj g=>ω);have D:=X4.trans T;have uQS:=T.size;have O:=mD.ext T;have P:=eO.ext T;refine Ql (λc1=>?_) (λc1=>?_)
 ·have QD:i<pn:=by omega
  refine XG OX (hP.ext D) rfl QD (λA q r l=>?_);have mv:=Xd r;obtain⟨q8,ql⟩:=fE q mv;have gB:ps.drop i=q::ps.drop (i+1):=by
   have Xn:=(ZK.1 r).1;rw[VU Xn];congr 1;rw[Q6 Xn] at r;exact Option.some.inj r
  rw[gB] at K;refine Jm (vs:=KX q) rfl l (new (λw8 X Wj XP=>?_));refine Qo XP (λw9 J2 _ XX=>?_);have S:Ext w7 w9:=X1 X XP J2;have uQT:=S.size;have Ii:=(EW q mv).ext (D.trans S);refine fS (vs:=[.slice q.1.A q.1.n q.1.c,.int .i64 q.1.r]) XX rfl (λj u g=>by match j,g with | 0,g=>exact g | 1,g=>exact g) ?_;rw[<-Xr];refine call (OT q.1.A q.1.n q.1.c f.length q.1.nd q.1.r w9 Ii) ?_;rintro _ N ⟨rfl,Xz⟩;have I:=S.trans Xz;have G:∀m,Ext w7 m->dK f.length (QW f.length oR) (q::ps.drop (i+1))=false->∀w5,Hl t.heap.size y.heap.size 290 m w5->Value.tuple #[.string ⟨#[]⟩,.int .i64 290]=ii M/\Ext w w5:=λm kO l w5 hR=>gQt m (T.trans kO) (K.trans l) w5 hR
  cases Mb:Ke f.length q.1.nd q.1.r with
  | false=>
   refine Q3 rfl (Zl (aK 290 δ N) (λ_ _ H=>H.elim) ?_);rintro Y _ ⟨rfl,rfl⟩;refine dz Qe rfl rfl (args:= #[.pointer (some ⟨t.heap.size,0,none⟩),.pointer (some ⟨y.heap.size,0,none⟩)]) (by simp) ((vv _ _ 290 N _ _ z (O.ext I) (P.ext I)).mono ?_);rintro e Q L ⟨v,rfl,sQr,SQ⟩;refine⟨v,rfl,sQr,?_⟩;refine QQ SQ.1 rfl (QQ SQ.2.1 rfl ?_);exact G N I (by
    refine dt.2 (λU=>?_);rw[(OS.1 U).1.1] at Mb;cases Mb) L SQ
  | true=>
  have sq:=gY Mb;have sS:=sq.root0;have Zo:=XX.ext Xz;refine QX rfl (lv (j:=0) (i:=1) Zo rfl ?_);have Mc:=OS (n:=f.length) (R:=QW f.length oR) (p:=q) (ps:=ps.drop (i+1));refine X0 (λV=>?_) (λV=>?_)
  ·refine Zl (aK 290 δ N) (λ_ _ H=>H.elim) ?_;rintro Y _ ⟨rfl,rfl⟩;refine dz Qe rfl rfl (args:= #[.pointer (some ⟨t.heap.size,0,none⟩),.pointer (some ⟨y.heap.size,0,none⟩)]) (by simp) ((vv _ _ 290 N _ _ z (O.ext I) (P.ext I)).mono ?_);rintro e Q E ⟨v,rfl,o,k⟩;refine⟨v,rfl,o,?_⟩;exact QQ k.1 rfl (QQ k.2.1 rfl (G N I (dt.2 (λU=>(Mc.1 U).1.2.1 (sS.1 V))) E k))
  ·refine fS (vs:=[.slice q.1.A q.1.n q.1.c,.int .i64 q.1.r]) Zo rfl (λj u g=>by match j,g with | 0,g=>exact g | 1,g=>exact g) (Qm (Q2.ext I) (call (cQ9 q.1.A q.1.n q.1.c q.1.nd q.1.r R.A R.n R.c R.nd R.r N (Ii.ext Xz) (Ye.ext I)) ?_));rintro _ L ⟨rfl,Zf⟩;have lK:=I.trans Zf;have hwi:lr q.1.nd q.1.r R.nd R.r=true↔∀c∈QW f.length (oD q.1),c∈QW f.length oR:=by
    rw[OY hk sq sR,dQx sq.dep sR.dep];exact⟨λh c l=>Kd.2 ⟨(Kd.1 l).1,h c l⟩,λh c l=>(Kd.1 (h c l)).2⟩
   cases Md:lr q.1.nd q.1.r R.nd R.r with
   | false=>
    refine Q3 rfl (Zl (aK 290 δ L) (λ_ _ H=>H.elim) ?_);rintro Y _ ⟨rfl,rfl⟩;refine dz Qe rfl rfl (args:= #[.pointer (some ⟨t.heap.size,0,none⟩),.pointer (some ⟨y.heap.size,0,none⟩)]) (by simp) ((vv _ _ 290 L _ _ z (O.ext lK) (P.ext lK)).mono ?_);rintro e Q E ⟨v,rfl,o,k⟩;refine⟨v,rfl,o,?_⟩;exact QQ k.1 rfl (QQ k.2.1 rfl (G L lK (dt.2 (λU=>by rw[hwi.2 (Mc.1 U).1.2.2.1] at Md;cases Md)) E k))
   | true=>
    refine QX rfl ?_;have ZC:=Zo.ext Zf;refine Qp ZC rfl (call (dQF q.2 L q8 ω) ?_);rintro _ Xk ⟨rfl,XS⟩;have J:=lK.trans XS;cases SR:Ve q.2 with
    | false=>
     refine Q3 rfl (Zl (aK 290 δ Xk) (λ_ _ H=>H.elim) ?_);rintro Y _ ⟨rfl,rfl⟩;refine dz Qe rfl rfl (args:= #[.pointer (some ⟨t.heap.size,0,none⟩),.pointer (some ⟨y.heap.size,0,none⟩)]) (by simp) ((vv _ _ 290 Xk _ _ z (O.ext J) (P.ext J)).mono ?_);rintro e Q E ⟨v,rfl,o,k⟩;refine⟨v,rfl,o,?_⟩;exact QQ k.1 rfl (QQ k.2.1 rfl (G Xk J (dt.2 (λU=>by rw[(Mc.1 U).1.2.2.2] at SR;cases SR)) E k))
    | true=>
     refine QX rfl (Qm (Q2.ext J) (fS (vs:=[.slice q.1.A q.1.n q.1.c,.int .i64 q.1.r]) (ZC.ext XS) rfl (λj u g=>by match j,g with | 0,g=>exact g | 1,g=>exact g) (call (jg hk R q.1 Xk (Ye.ext J) ((EW q mv).ext (D.trans J)) sR sq) ?_)));rintro _ Zy ⟨QA,Qn,Qc,Qnd,Qr,rfl,Xc,SS,sQ,Me⟩;refine Qo ((Q2.ext J).ext Xc) (λZe lD _ Ko=>?_);have cq:Mod (·=C.heap.size) Zy Ze:=vQB lD rfl;refine QF i ?_;have V5:∀A,QA=some A->0<Qn->A.block≠C.heap.size:=λA ea h0=>by
      have:=Me A.block ⟨A,ea,rfl⟩;have:=J.size;have:=Q2.lt;omega
     have sQs:=J.trans Xc;refine⟨i+1,rfl,⟨(XH.trans (Mod.of_ext (·=C.heap.size) sQs) (λ_=>.inl)).trans cq (λ_=>.inl),QD,⟨QA,Qn,Qc,Qnd,Qr⟩,_,Ko,SS.modo cq V5,sQ,V5,?_⟩,QL⟩;rw[K,pQo];have h1:Ke f.length q.1.nd q.1.r=true/\QW f.length (oD q.1)≠ []/\(∀c∈QW f.length (oD q.1),c∈QW f.length oR)/\Ve q.2=true:=⟨Mb,λe=>V (sS.2 e),hwi.1 Md,SR⟩
     have h2:dK f.length (QW f.length oR) (q::ps.drop (i+1))=true↔dK f.length (nL f.length (QW f.length oR) (oD q.1)) (ps.drop (i+1))=true:=Mc.trans ⟨λh=>h.2,λh=>⟨h1,h⟩⟩;exact mN.2 h2
 have QD:i=pn:=by omega
 have gB:ps.drop i=[]:=ux ω;rw[gB] at K;have hR0:=sR.root0;have K:dK f.length (QW f.length (oD x)) ps=decide (QW f.length oR=[]):=K;refine JN (JC Qe ?_);refine Qp Q2 rfl ?_;refine Ya (λV=>?_) (λV=>?_)
 ·refine Zl (aK 290 δ w7) (λ_ _ H=>H.elim) ?_;rintro Y _ ⟨rfl,rfl⟩;refine dz Qe rfl rfl (args:= #[.pointer (some ⟨t.heap.size,0,none⟩),.pointer (some ⟨y.heap.size,0,none⟩)]) (by simp) ((vv _ _ 290 w7 _ _ z O P).mono ?_);rintro e Q E ⟨v,rfl,o,k⟩;refine⟨v,rfl,o,?_⟩;exact QQ k.1 rfl (QQ k.2.1 rfl (gQt w7 T (by rw[K];exact XZ (λe=>V (hR0.2 e))) E k))
 have AA:dK f.length (QW f.length (oD x)) ps=true:=by rw[K];exact Zg (hR0.1 V)
 rw[φ (by rw[AA];decide)] at B;refine JN (JC Qe ?_);refine X0 (λh0=>?_) (λh0=>?_)
 ·have Li:ps=[]:=VT ω;rw[Qf Li] at B;refine VW O (by simp[Ki]) (λw8 ZB XP=>?_);refine VW (P.mod ZB z.symm) (by simp[Ki]) (λw9 Xy XX=>?_);refine yq Qe rfl rfl (.inl rfl) (args:= #[.pointer (some ⟨t.heap.size,0,none⟩),.pointer (some ⟨y.heap.size,0,none⟩)]) (by simp) ((eQi _ _ w9).mono ?_);rintro e Q E ⟨v,rfl,o,rfl⟩;refine⟨v,rfl,o,?_⟩;refine QQ (XP.mod Xy z) rfl (QQ XX rfl ?_);exact⟨by rw[B];rfl,Xy.ext (ZB.ext D (λj g=>ω)) (λj g=>ω)⟩
 ·have Li:ps≠ []:=λe=>h0 (by rw[<-Jd,e];rfl)
  rw[φ Li] at B;obtain⟨bM,gQu⟩:=dQD (λc l=>(Kd.1 l).1) AA;have gQv:QW f.length (oD x)≠ []:=λe=>by
   obtain⟨q,r⟩:=ME _ Li;obtain⟨_,n1,_,n2⟩:=gQu q r;obtain⟨c,l⟩:=ME _ n1;have:=n2 c l;rw[e] at this;cases this
  refine JC Qe (Qm (Ko.ext T) ?_);refine call (dQK NA nn nc f x (oD x) PA pn pc ps f.length ju rfl Kq (λs hs=>by have:=JP s hs;omega) (λq r=>by
   obtain⟨a,b,c,d⟩:=gQu q r;obtain⟨e1,e2⟩:=fE q r;exact⟨a,c,e1,ω⟩) w7 (hN.ext D) (hx.ext D) sx (hP.ext D) (λq r=>(EW q r).ext D) gQv bM) ?_
  rintro _ w8 ⟨A8,c8,rfl,X,fw⟩;have Zj:∀c∈QW f.length (oD x),(fP (Ja ps) c).length<=2000:=λc l=>by
   obtain⟨p,hp,Vy⟩:=bM.cov c l;rw[bM.get l hp Vy];obtain⟨q,r,rfl⟩:=Z5.1 hp;exact(fE q r).2
  have Wa:(QW f.length (oD x)).length<=16:=XU (eQw _ _) (XU (bZ δ ju) δ);have vQt:=pQp JP gQv Wa Zj f.length 0;generalize XW f (fP (Ja ps)) f.length 0 (QW f.length (oD x))=W at*;refine Zl (eQf A8 _ c8 W w8 fw ω) ?_ ?_
  rotate_left
  ·rintro Y _ ⟨dW,rfl,rfl⟩;rw[Qf dW] at B;refine dz Qe rfl rfl (args:= #[.pointer (some ⟨t.heap.size,0,none⟩),.pointer (some ⟨y.heap.size,0,none⟩)]) (by simp) ((vv _ _ 2 w8 _ _ z (O.ext X) (P.ext X)).mono ?_);rintro e Q E ⟨v,rfl,o,k⟩;refine⟨v,rfl,o,?_⟩;refine QQ k.1 rfl (QQ k.2.1 rfl ?_);exact⟨by rw[B];rfl,k.2.2.ext (D.trans X) (λi Z=>by rcases Z with rfl | rfl<;>omega)⟩
  rintro _ w9 ⟨Vv,rfl,Xm⟩;rw[φ ω] at B;have S:=X.trans Xm;refine VW (O.ext S) (by simp[Ki]) (λN ZI Zo=>?_);refine VW ((P.ext S).mod ZI z.symm) (by simp[Ki]) (λL ZH ZC=>?_);refine yq Qe rfl rfl (.inl rfl) (args:= #[.pointer (some ⟨t.heap.size,0,none⟩),.pointer (some ⟨y.heap.size,0,none⟩)]) (by simp) ((eQi _ _ L).mono ?_);rintro e Q E ⟨v,rfl,o,rfl⟩;refine⟨v,rfl,o,?_⟩;refine QQ (Zo.mod ZH z) rfl (QQ ZC rfl ?_);exact⟨by rw[B];rfl,ZH.ext (ZI.ext (D.trans S) (λj g=>ω)) (λj g=>ω)⟩
theorem eQx {c:Λ}(g:pE c){a:Nat}{s:Γ}(h:(a,s)∈JH 0 c):∃d f,Qk c=d++(s++10::f)/\d.length=a/\Y1 d/\10∉s:=by
 obtain⟨i,d,f⟩:=dQ9 h;have f:=(ZK.1 d).1;have j:c[i]=s:=by rw[Q6 f] at d;exact Option.some.inj d
 refine⟨Qk (c.take i),Qk (c.drop (i+1)),?_,ω,cQm _,g s (Xd d)⟩;have d:∀a b:Λ,Qk (a++b)=Qk a++Qk b:=λa b=>by simp[Qk]
 have e:c=c.take i++s::c.drop (i+1):=by have:=(jK i c).symm;rw[VU f,j] at this;exact this
 have c:=QG Qk e;rw[d,YJ] at c;exact c
theorem Pp {l:Γ}(a:∀x∈l,x<256){j b:Nat}(h:l[j]? =some b):(((Qb l).data[j]!).toNat:Int)=b:=by
 have c:=(ZK.1 h).1;have c:=a b (Xd h);have e:(Qb l).data[j]! =UInt8.ofNat b:=by have:(Qb l).data=(l.map UInt8.ofNat).toArray:=rfl;rw[this,getElem!_def,UY,Wy,h]<;>rfl
 rw[e];have:(UInt8.ofNat b).toNat=b:=by simp[mR c]
 rw[this]
theorem eQy {c:Λ}(d:pE c)(g:∀x∈Qk c,x<256){a x:Nat}{s:Γ}(h:(a,s)∈JH 0 c)(f:a<=x)(k:x<=a+s.length):Lib.lastIndexByte (Qb ((Qk c).take x)) 10=(a:Int)-1:=by
 obtain⟨l,m,e,k,f,o⟩:=eQx d h;have d:x<=(Qk c).length:=by rw[e];simp;omega
 have l:(Qb ((Qk c).take x)).size=x:=by rw[QZ,KR];omega
 have m:∀y∈(Qk c).take x,y<256:=λy d=>g y (aw d);have n:∀j,j<x->((Qk c).take x)[j]? =(Qk c)[j]? :=λj g=>mT g
 have p:∀j,a<=j->j<x->((Qk c).take x)[j]? ≠some 10:=λj q g d=>by rw[n j g,e,aZ ω,k,eW ω] at d;exact o (Xd d)
 have q:∀j,j<x->∃b,((Qk c).take x)[j]? =some b:=λj g=>⟨_,Q6 (by rw[KR];omega)⟩
 have g:0<a->((Qk c).take x)[a-1]? =some 10∨x<a:=λo=>by left;rw[n (a-1) ω,e,eW ω];obtain f|f:=f;subst f;simp at k;omega;rw[oW,k] at f;exact f
 obtain⟨n,r⟩|⟨i,f,t,k,u⟩:=Lib.lastIndexByte_spec (Qb ((Qk c).take x)) 10;rw[n];by_cases o:a=0;subst o;rfl;exfalso;obtain d|d:=g ω;have:=Pp m d;exact r (a-1) (by rw[l];omega) (by rw[this];rfl);omega;rw[l] at f;obtain⟨b,c⟩:=q i f;have n:b=10:=by
  have:=Pp m c;rw[this] at k
  exact_mod_cast k
 subst n;rw[t];have k:i<a:=by apply Classical.byContradiction;intro d;exact p i ω f c
 obtain d|d:=g ω;have c:i=a-1:=by apply Classical.byContradiction;intro c;have:=Pp m d;exact u (a-1) ω (by rw[l];omega) (by rw[this];rfl)
 omega;omega
theorem Pq {c:Λ}(f:pE c){a:Nat}{s:Γ}(h:(a,s)∈JH 0 c):lg 10 ((Qk c).drop a)=s.length/\((Qk c).drop a).take (s.length+1)=s++ [10]:=by
 obtain⟨i,cA,e,g,j,d⟩:=eQx f h;have f:(Qk c).drop a=s++10::cA:=by rw[e,<-g,AU]
 rw[f];constructor;unfold lg;rw[Qf (by simp)];congr 1;clear e f h;induction s with|nil=>simp|cons b s c=>simp only[XI,not_or] at d;rw[dZ,cI,Qf (by simpa using λe:b=10=>d.1 e.symm),Xa,c d.2,Xa]
 rw[show s++10::cA=(s++ [10])++cA by simp,uw (by simp)]
theorem pQq {b:Λ}(c:pE b){a:Nat}{s:Γ}(h:(a,s)∈JH 0 b):Jg (Qk b) a (a+s.length+1)=s++ [10]:=by unfold Jg;rw[show a+s.length+1-a=s.length+1 by omega];exact(Pq c h).2
theorem za {b:Λ}{e:Ed}(h:(JH 0 b).any (WG e)=true):0<=e.fr/\e.fr<=e.to_/\e.to_<(Qk b).length:=by obtain⟨⟨a,s⟩,b,c⟩:=rD.1 h;obtain⟨d,f,g,i⟩:=WY c;have:=sk b;simp only at d f;omega
def XE (e:EdV):χ τ:=[.int .i64 e.fr,.int .i64 e.to_,.string (Qb e.tx),.slice e.x.A e.x.n e.x.c,.int .i64 e.x.r]
theorem WJ (e:EdV):(XE e).length=5:=rfl
structure EP where
 eb:Nat
 NA:Θ
 nn:Nat
 nc:Nat
 nm:Λ
 x:DV
 f:Γ
 EA:Θ
 en:Nat
 ec:Nat
 es:List EdV
structure EK (w:World) (p:EP):Prop where
 blk:Blk w p.eb 99 [.slice p.NA p.nn p.nc,.slice p.x.A p.x.n p.x.c,.int .i64 p.x.r,.string (Qb p.f),.slice p.EA p.en p.ec]
 nms:Sl w 1 p.NA p.nn p.nc (Xb p.nm)
 eds:SlS XE 5 w p.EA p.en p.ec p.es
 sbs:∀e∈p.es,SB w e.x.A e.x.n e.x.c e.x.nd
theorem EK.ext {w a:θ}{p:EP}(h:EK w p)(k:Ext w a):EK a p:=⟨h.blk.ext k,h.nms.ext k,h.eds.ext k,λe a=>(h.sbs e a).ext k⟩
structure EB (p:EP):Prop where
 n4:p.nm.length<=4
 nb:KH p.nm
 nl:∀s∈p.nm,s.length<=1000
 f8:∀b∈p.f,b<256
 fl:p.f.length<=60000
 ok:Y1 p.f
 i64:∀e∈p.es, -9223372036854775808<=e.fr/\e.fr<=9223372036854775807/\ -9223372036854775808<=e.to_/\e.to_<=9223372036854775807
 t8:∀e∈p.es,∀b∈e.tx,b<256
 tl:∀e∈p.es,e.tx.length<=1000
 el:p.es.length<=10
abbrev zb (p:EP):Prop:=p.es.all (λe=>Ke p.nm.length e.x.nd e.x.r)=true/\ie p.nm.length p.f 0 (p.es.map EdV.ed)=true
def ij (p:EP)(i:Nat):Int:=if i=0 then 0 else((p.es[i-1]?).map (·.fr)).getD 0
abbrev ik (p:EP)(i:Nat):Prop:=(p.es.drop i).all (λe=>Ke p.nm.length e.x.nd e.x.r)=true/\ie p.nm.length p.f (ij p i) ((p.es.drop i).map EdV.ed)=true
theorem eQz {p:EP}{i:Nat}{e:EdV}(h:p.es[i]? =some e):ik p i↔(Ke p.nm.length e.x.nd e.x.r=true/\QW p.nm.length (oD e.x)≠ []/\(JH 0 (QN p.f)).any (WG e.ed)=true/\ij p i<=e.fr)/\ik p (i+1):=by
 have g:=(ZK.1 h).1;have j:p.es.drop i=e::p.es.drop (i+1):=by rw[VU g];congr 1;rw[Q6 g] at h;exact Option.some.inj h
 have g:ij p (i+1)=e.fr:=by unfold ij;rw[φ ω,show i+1-1=i by omega,h]<;>rfl
 unfold ik;rw[j,g];simp only[xT,YD,ie,CF,Z4,YX];constructor;rintro⟨⟨a,b⟩,⟨⟨c,d⟩,g⟩,f⟩;exact⟨⟨a,c,d,g⟩,b,f⟩;rintro⟨⟨a,c,d,g⟩,b,f⟩;exact⟨⟨a,b⟩,⟨⟨c,d⟩,g⟩,f⟩
theorem eQA (l:Γ)(w:θ)(b:l.length<=1000000000):Fn ψ 93 [.string (Qb l),.int .u8 10] w (λv a=>v= .int .i64 (Lib.lastIndexByte (Qb l) 10)/\w=a):=
 Co (Tryz.strings_LastIndexByte (Qb l) 10 (by rw[QZ];omega) w)
theorem pQr (p:EP)(k:EB p)(w:θ)(K:EK w p):FnP ψ 45 [.pointer (some ⟨p.eb,0,none⟩)] w (λ_ f=>zb p/\Ext w f) (λn f=>¬zb p/\n=nN 291/\Ext w f):=by
 have d:=K.eds.2;have d:=K.eds.1.cap;have g:=K.eds.1.le;simp only[maxLen] at d;have q:p.nm.length=p.nn:=by have:=K.nms.len;rw[az] at this;omega
 refine d7 (c:={c45 with cuts:=[]}) Qe Tryz.func45 rfl rfl rfl ?_;refine Qp K.blk rfl (loop Qe [11] (λi:Nat=>[.int .i64 i]) (λi f=>Ext w f/\i<=p.en/\(zb p↔ik p i)) (λi _=>p.en-i) 0 rfl ⟨Ext.refl _,Q9 _,Iff.rfl⟩ ?_);rintro i g ⟨S,d,G⟩;refine Ql (λd=>?_) λd=>?_;have O:i<p.en:=by omega
 refine XG WJ (K.eds.ext S) rfl O λm e d l=>?_;have m:=Xd d;obtain⟨o,r,t,y⟩:=k.i64 e m;rw[eQz d] at G;refine Jm (vs:=XE e) rfl l (new λr o t d=>?_);refine Qo d λw3 l _ r=>?_;have t:Ext g w3:=X1 o d l;have P:=S.trans t;have o:=K.ext P;have l:=Ext.drew w3;have A:∀{f:θ} (d:Ext w3 f) (j:Nat) (u:τ),(XE e)[3+j]? =some u->f.cell? (((⟨g.heap.size,0,none⟩:Addr).add 3).add j)=some u:=λd j u g=>by rw[add_add,(r.ext d).cell];exact g
 refine Xw (Ext w3) 55 ((oz 7 0 ((false,7)::(oz 47 8 [])))) l (Xe (vs:=[.slice e.x.A e.x.n e.x.c,.int .i64 e.x.r]) rfl (λf d j u g=>A d j u (by match j,g with|0,g=>exact g|1,g=>exact g)) (Qx (v:=.slice p.NA p.nn p.nc) (λf d=>(o.blk.ext d).cell 0) ?_));rw[<-q];refine call (OT e.x.A e.x.n e.x.c p.nm.length e.x.nd e.x.r w3.drew ((o.sbs e m).ext l)) ?_;rintro _ m ⟨rfl,g⟩;have C:=l.trans g;have q:=P.trans C;refine⟨C,?_⟩;have t:¬(Ke p.nm.length e.x.nd e.x.r=true/\QW p.nm.length (oD e.x)≠ []/\(JH 0 (QN p.f)).any (WG e.ed)=true/\ij p i<=e.fr)->¬zb p:=λl g=>l (G.1 g).1;have z:(JH 0 (QN p.f)).any (WG e.ed)=true->0<=e.fr/\e.fr<=e.to_/\e.to_<p.f.length:=λh=>by have:=za h;rw[Wh k.ok] at this;exact this
 have y:=QZ p.f;cases Q:Ke p.nm.length e.x.nd e.x.r with|false=>refine Q3 rfl ?_;refine Zl (aK 291 δ m) (λ_ _ l=>l.elim) ?_;rintro n _ ⟨rfl,rfl⟩;exact⟨t (λg=>by rw[Q] at g;cases g.1),rfl,q⟩|true=>
  refine QX rfl ?_;have B:=gY Q;have T:=B.root0;refine Qx (v:=.int .i64 e.x.r) (λf d=>A d 1 _ rfl) (X0 (λR=>?_) λR=>?_);refine Zl (aK 291 δ m) (λ_ _ l=>l.elim) ?_;rintro n _ ⟨rfl,rfl⟩;exact⟨t λg=>g.2.1 (T.1 R),rfl,q⟩;refine Qx (v:=.int .i64 e.fr) (λf d=>(r.ext d).cell 0) (Ql (λA=>?_) λA=>?_);refine Zl (aK 291 δ m) (λ_ _ l=>l.elim) ?_;rintro n _ ⟨rfl,rfl⟩;exact⟨t (λg=>by have:=z g.2.2.1;omega),rfl,q⟩;refine Qx (v:=.int .i64 e.to_) (λf d=>(r.ext d).cell 1) (Qx (v:=.int .i64 e.fr) (λf d=>(r.ext d).cell 0) (Ql (λA=>?_) λA=>?_));refine Zl (aK 291 δ m) (λ_ _ l=>l.elim) ?_;rintro n _ ⟨rfl,rfl⟩;exact⟨t (λg=>by have:=z g.2.2.1;omega),rfl,q⟩;refine Qx (v:=.int .i64 e.to_) (λf d=>(r.ext d).cell 1) (Qx (v:=.string (Qb p.f)) (λf d=>(o.blk.ext d).cell 3) (Ql (λA=>?_) λA=>?_));refine Zl (aK 291 δ m) (λ_ _ l=>l.elim) ?_;rintro n _ ⟨rfl,rfl⟩;exact⟨t (λg=>by have:=z g.2.2.1;omega),rfl,q⟩;have z:(i:Int)<=9223372036854775807:=by omega
  refine Ql (λz=>?_) λz=>?_;have Ea:0<i:=by omega
  refine Qx (v:=.int .i64 e.fr) (λf d=>(r.ext d).cell 0) (Qx (v:=.slice p.EA p.en p.ec) (λf d=>(o.blk.ext d).cell 4) (Qz ((i-1:Nat):Int) (XG WJ o.eds rfl ω λD B A z=>?_)));refine Qx (v:=.int .i64 B.fr) (λf d=>(d.cell (z 0 _ rfl))) ?_;have z:ij p i=B.fr:=by unfold ij;rw[φ ω,A]<;>rfl
  refine Ql (λA=>?_) λA=>?_;refine Zl (aK 291 δ m) (λ_ _ l=>l.elim) ?_;rintro n _ ⟨rfl,rfl⟩;exact⟨t (λg=>by have:=g.2.2.2;rw[z] at this;omega),rfl,q⟩;have U:ij p i<=e.fr:=by rw[z];omega
  have fy:e.fr=(e.fr.toNat:Int):=by omega
  obtain⟨a,s,z,V,W⟩:=Pe (ls:=QN p.f) (p:=0) (x:=e.fr.toNat) (Q9 _) (by rw[Wh k.ok];omega);have H:=nE p.f;have I:=Wh k.ok;have J:=eQy H (by rw[I];exact k.f8) z V W;have A:=Pq H z;have X:=sk z;rw[I] at J A X;have D:=eQb (e:=e.ed) z (by show(a:Int)<=e.fr;omega) (by show e.fr<=a+s.length;omega) (by show e.fr<=e.to_;omega);have E:=Ext.drew m;refine Xw (Ext m) 10 (oz 7 0 [(false,7),(true,8),(true,9)]) E (Qx (v:=.string (Qb p.f)) (λf d=>((o.blk.ext C).ext d).cell 3) (Qx (v:=.int .i64 e.fr) (λf d=>((r.ext C).ext d).cell 0) (XF (v':=.string (Qb (p.f.take e.fr.toNat))) ⟨ω,ω,by rw[y];omega⟩ (by rw[Kj];rfl) (call (eQA (p.f.take e.fr.toNat) m.drew (by rw[KR];have:=k.fl;omega)) ?_))));rintro _ _ ⟨rfl,rfl⟩;refine⟨E,?_⟩;rw[J];refine Ky (a:Int) ω (by have:=k.fl;omega) ?_;have B:=C.trans E;have L:=P.trans B;refine Qp (o.blk.ext B) rfl ?_;refine XF (v':=.string (Qb (p.f.drop a))) ⟨ω,by rw[y];omega,by rw[y];omega⟩ (by
   rw[Kj,y];show Value.string (Qb ((p.f.take p.f.length).drop _))=_;rw[ZJ (Qw _)];rfl) ?_
  refine call (Oh (p.f.drop a) 10 m.drew (λx Y=>k.f8 x (a8 Y)) δ) ?_;rintro _ _ ⟨rfl,rfl⟩;rw[A.1];refine Ky ((a+s.length:Nat):Int) ω (by have:=k.fl;omega) (Qp (r.ext B) rfl (Ql (λZ=>?_) λZ=>?_));refine Zl (aK 291 δ m.drew) (λ_ _ l=>l.elim) ?_;rintro n _ ⟨rfl,rfl⟩;exact⟨t (λg=>by have q:=g.2.2.1;rw[D,YX] at q;have h8:e.to_<=_:=q.1;omega),rfl,L⟩;refine Qp (o.blk.ext B) rfl (Ky ((a+s.length+1:Nat):Int) ω (by have:=k.fl;omega) ?_);refine XF (v':=.string (Qb (s++ [10]))) ⟨ω,ω,by rw[y];omega⟩ (by
   rw[Kj];show Value.string (Qb ((p.f.take (a+s.length+1)).drop a))=_;rw[dm,show a+s.length+1-a=s.length+1 by omega,A.2]) ?_
  have oq:∀b∈s++ [10],b<256:=λb M=>by rw[<-A.2] at M;exact k.f8 b (a8 (aw M))
  refine call (GY (s++ [10]) m.drew oq) ?_;rintro _ w6 ⟨rfl,Q7⟩;have N:=L.trans Q7;rw[vm];refine Ql (λF=>?_) λF=>?_;refine Zl (aK 291 δ w6) (λ_ _ l=>l.elim) ?_;rintro n _ ⟨rfl,rfl⟩;exact⟨t (λg=>by have q:=g.2.2.1;rw[D,YX] at q;exact F q.2),rfl,N⟩;refine QF i ?_;have E5:(JH 0 (QN p.f)).any (WG e.ed)=true:=by rw[D,YX];exact⟨by show e.to_<=_;omega,Decidable.not_not.1 F⟩
  exact⟨i+1,rfl,⟨N,O,G.trans ⟨λh=>h.2,λh=>⟨⟨Q,λe0=>R (T.2 e0),E5,U⟩,h⟩⟩⟩,QL⟩;have Ea:i=0:=by omega
  have U:ij p i<=e.fr:=by unfold ij;rw[Qf Ea];omega
  have fy:e.fr=(e.fr.toNat:Int):=by omega
  obtain⟨a,s,z,V,W⟩:=Pe (ls:=QN p.f) (p:=0) (x:=e.fr.toNat) (Q9 _) (by rw[Wh k.ok];omega);have H:=nE p.f;have I:=Wh k.ok;have J:=eQy H (by rw[I];exact k.f8) z V W;have A:=Pq H z;have X:=sk z;rw[I] at J A X;have D:=eQb (e:=e.ed) z (by show(a:Int)<=e.fr;omega) (by show e.fr<=a+s.length;omega) (by show e.fr<=e.to_;omega);have E:=Ext.drew m;refine Xw (Ext m) 10 (oz 7 0 [(false,7),(true,8),(true,9)]) E (Qx (v:=.string (Qb p.f)) (λf d=>((o.blk.ext C).ext d).cell 3) (Qx (v:=.int .i64 e.fr) (λf d=>((r.ext C).ext d).cell 0) (XF (v':=.string (Qb (p.f.take e.fr.toNat))) ⟨ω,ω,by rw[y];omega⟩ (by rw[Kj];rfl) (call (eQA (p.f.take e.fr.toNat) m.drew (by rw[KR];have:=k.fl;omega)) ?_))));rintro _ _ ⟨rfl,rfl⟩;refine⟨E,?_⟩;rw[J];refine Ky (a:Int) ω (by have:=k.fl;omega) ?_;have B:=C.trans E;have L:=P.trans B;refine Qp (o.blk.ext B) rfl ?_;refine XF (v':=.string (Qb (p.f.drop a))) ⟨ω,by rw[y];omega,by rw[y];omega⟩ (by
   rw[Kj,y];show Value.string (Qb ((p.f.take p.f.length).drop _))=_;rw[ZJ (Qw _)];rfl) ?_
  refine call (Oh (p.f.drop a) 10 m.drew (λx Y=>k.f8 x (a8 Y)) δ) ?_;rintro _ _ ⟨rfl,rfl⟩;rw[A.1];refine Ky ((a+s.length:Nat):Int) ω (by have:=k.fl;omega) (Qp (r.ext B) rfl (Ql (λZ=>?_) λZ=>?_));refine Zl (aK 291 δ m.drew) (λ_ _ l=>l.elim) ?_;rintro n _ ⟨rfl,rfl⟩;exact⟨t (λg=>by have q:=g.2.2.1;rw[D,YX] at q;have h8:e.to_<=_:=q.1;omega),rfl,L⟩;refine Qp (o.blk.ext B) rfl (Ky ((a+s.length+1:Nat):Int) ω (by have:=k.fl;omega) ?_);refine XF (v':=.string (Qb (s++ [10]))) ⟨ω,ω,by rw[y];omega⟩ (by
   rw[Kj];show Value.string (Qb ((p.f.take (a+s.length+1)).drop a))=_;rw[dm,show a+s.length+1-a=s.length+1 by omega,A.2]) ?_
  have oq:∀b∈s++ [10],b<256:=λb M=>by rw[<-A.2] at M;exact k.f8 b (a8 (aw M))
  refine call (GY (s++ [10]) m.drew oq) ?_;rintro _ w6 ⟨rfl,Q7⟩;have N:=L.trans Q7;rw[vm];refine Ql (λF=>?_) λF=>?_;refine Zl (aK 291 δ w6) (λ_ _ l=>l.elim) ?_;rintro n _ ⟨rfl,rfl⟩;exact⟨t (λg=>by have q:=g.2.2.1;rw[D,YX] at q;exact F q.2),rfl,N⟩;refine QF i ?_;have E5:(JH 0 (QN p.f)).any (WG e.ed)=true:=by rw[D,YX];exact⟨by show e.to_<=_;omega,Decidable.not_not.1 F⟩
  exact⟨i+1,rfl,⟨N,O,G.trans ⟨λh=>h.2,λh=>⟨⟨Q,λe0=>R (T.2 e0),E5,U⟩,h⟩⟩⟩,QL⟩
 have O:i=p.en:=by omega
 have d:p.es.drop i=[]:=ux ω;exact⟨G.2 (by unfold ik;rw[d];exact⟨rfl,rfl⟩),S⟩
def ga (n:Nat)(f:Γ)(o:BF)(a:Nat)(b:χ Ed):χ AV:=b.foldl (λc e=>c.flatMap (WI n f e)) [⟨o,[],a⟩]
theorem pQs (n:Nat)(f:Γ)(o:BF)(a:Nat)(b:χ Ed)(e:Ed):ga n f o a (b++ [e])=(ga n f o a b).flatMap (WI n f e):=by unfold ga;rw[Fx]<;>rfl
theorem fm {α:Type}{l:χ α}{i:Nat}{x:α}(h:l[i]? =some x):l.take (i+1)=l.take i++ [x]:=by rw[JT,h]<;>rfl
theorem Hq {n:Nat}{f:Γ}{o:BF}{a:Nat}(i:QW n o≠ []):∀(es:χ Ed),VI n f (QW n o) a es (ga n f o a es):=by
 have g:∀(es d:χ Ed) (b:χ AV),VI n f (QW n o) a d b->VI n f (QW n o) a (d++es) (es.foldl (λb e=>b.flatMap (WI n f e)) b):=by intro es;induction es with|nil=>intro d b h;simpa using h|cons e es j=>intro d b h;have:=j (d++ [e]) (b.flatMap (WI n f e)) (h.step (λc k=>(Kd.1 k).1) e);simpa using this
 intro es;have:=g es [] _ (VI.start (f:=f) (a:=a) i);rw[d4] at this;exact this
theorem pQt (n:Nat)(f:Γ)(e:Ed)(v:AV):(WI n f e v).length<=2:=by
 unfold WI;split;split<;>simp
 simp only[Xa];split<;>simp
theorem Pt (n:Nat)(f:Γ)(e:Ed):∀a:χ AV,(a.flatMap (WI n f e)).length<=2*a.length|[]=>by simp|v::a=>by rw[dk,Qy,Xa];have:=pQt n f e v;have:=Pt n f e a;omega
theorem pQu (n:Nat)(f:Γ)(o:BF)(a:Nat):∀(es:χ Ed),(ga n f o a es).length<=2^es.length:=by
 have c:∀(es:χ Ed) (b:χ AV),(es.foldl (λb e=>b.flatMap (WI n f e)) b).length<=2^es.length*b.length:=by intro es;induction es with|nil=>intro b;simp|cons e es d=>intro b;have g:=d (b.flatMap (WI n f e));have d:=Pt n f e b;have b:=Nat.mul_le_mul_left (2^es.length) d;rw[rx,Xa,rC,Nat.mul_assoc];omega
 intro es;have:=c es [⟨o,[],a⟩];simpa [ga] using this
structure VB (B T:Nat) (v:AV):Prop where
 b8:∀b∈v.d,b<256
 ln:v.d.length<=B
 at_:v.a<=T
theorem pR (f:Γ)(a b:Nat):(Jg f a b).length<=f.length:=by unfold Jg;rw[KR,Wz];omega
theorem zd {f:Γ}(h:∀b∈f,b<256)(x y:Nat):∀b∈Jg f x y,b<256:=λb a=>h b (a8 (aw a))
theorem VB.step {B T:Nat}{v:AV}(h:VB B T v){n:Nat}{f:Γ}{e:Ed}(d:∀b∈f,b<256)(a:f.length<=60000)(g:∀b∈e.tx,b<256)(c:e.tx.length<=1000)(i:e.to_.toNat<=T):∀u∈WI n f e v,VB (B+70000) T u:=λu a=>by unfold WI at a;split at a;split at a;cases a;rw[Xx.1 a];exact⟨h.b8,by have:=h.ln;omega,h.at_⟩;obtain rfl|a:=XI.1 a;refine⟨λb c=>?_,?_,i⟩;simp only[X2] at c;obtain(c|c)|c:=c;exact h.b8 b c;exact zd d _ _ b c;exact g b c;simp only[Qy];have:=h.ln;have:=pR f v.a e.fr.toNat;omega;split at a;cases a;rw[Xx.1 a];exact⟨h.b8,by have:=h.ln;simp only;omega,h.at_⟩
theorem pQv {n:Nat}{f:Γ}{o:BF}{a T:Nat}(l:∀b∈f,b<256)(m:f.length<=60000)(i:a<=T):∀(es:χ Ed),(∀e∈es,(∀b∈e.tx,b<256)/\e.tx.length<=1000/\e.to_.toNat<=T)->∀v∈ga n f o a es,VB (es.length*70000) T v:=by
 have j:∀(es:χ Ed) (c:χ AV) (B:Nat),(∀e∈es,(∀b∈e.tx,b<256)/\e.tx.length<=1000/\e.to_.toNat<=T)->(∀v∈c,VB B T v)->∀v∈es.foldl (λc e=>c.flatMap (WI n f e)) c,VB (B+es.length*70000) T v:=by
  intro es;induction es with|nil=>intro c B _ h v d;simpa using h v d|cons e es p=>
   intro c B g h v d;obtain⟨q,r,s⟩:=g e (by simp);have:=p (c.flatMap (WI n f e)) (B+70000) (λb k=>g b (by simp[k])) (λu c=>by
    obtain⟨p,t,c⟩:=ay.1 c;exact(h p t).step l m q r s u c) v d
   rw[Xa,xR,Nat.one_mul];rw[show B+(es.length*70000+70000)=B+70000+es.length*70000 by omega];exact this
 intro es g v d;have:=j es [⟨o,[],a⟩] 0 g (λv d=>by rw[Xx.1 d];exact⟨(λb k=>by cases k),Q9 _,i⟩) v d;rwa [YW] at this
theorem pQw {n:Nat}{f:Γ}{o:BF}{a i:Nat}{d:χ Ed}{e:Ed}(h:QW n o≠ [])(j:cj (QW n o) d=true)(k:d[i]? =some e)(l:(a:Int)<=e.fr)(m:∀b∈d,0<=b.to_){v:AV}(p:v∈ga n f o a (d.take i))(g:QW n (Jw v.o e.o)≠ []):(v.a:Int)<=e.fr:=by obtain⟨c,q⟩:=ME _ g;obtain⟨r,g⟩:=Kd.1 q;have g:(v.o (bits c)&&e.o (bits c))=true:=g;rw[Z4] at g;obtain⟨q,s⟩:=(Hq (f:=f) (a:=a) h (d.take i)).st v p c (Kd.2 ⟨r,g.1⟩);have:=oQT (f:=f) j (a:=a) k q g.2 l m;rw[s] at this;exact this
theorem pQx {n:Nat}{f:Γ}{o:BF}{a stop:Nat}{es:χ Ed}(b:QW n o≠ []):((QW n o).all (λc=>Ve (aI f stop a es c))=true)↔∀v∈ga n f o a es,Ve (v.d++Jg f v.a stop)=true:=by have d:=Hq (f:=f) (a:=a) b es;constructor;intro h v b;obtain⟨c,e⟩:=ME _ (d.ne v b);obtain⟨i,g⟩:=d.st v b c e;have:=Vb.1 h c i;unfold aI at this;rw[g] at this;exact this;intro h;refine Vb.2 λc e=>?_;obtain⟨v,b,i⟩:=d.cov c e;obtain⟨_,g⟩:=d.st v b c (Kd.2 ⟨(Kd.1 e).1,i⟩);unfold aI;rw[g];exact h v b
def pS (f:Γ)(a:Nat)(b:χ AV):χ Pr:=b.foldl (λc v=>fZ c v.o (v.d++Jg f v.a a)) []
theorem pQy (f:Γ)(a:Nat)(b:χ AV)(v:AV):pS f a (b++ [v])=fZ (pS f a b) v.o (v.d++Jg f v.a a):=by unfold pS;rw[Fx]<;>rfl
theorem pQz {n:Nat}{f:Γ}{o:BF}{a stop:Nat}{es:χ Ed}(b:QW n o≠ []):QI n (QW n o) (aI f stop a es) (ga n f o a es) (pS f stop (ga n f o a es)):=by
 have i:=Hq (f:=f) (a:=a) b es;generalize ga n f o a es=V at*;have e:∀(vs d:χ AV) (b:χ Pr),(∀v∈vs,v∈V)->QI n (QW n o) (aI f stop a es) d b->QI n (QW n o) (aI f stop a es) (d++vs) (vs.foldl (λb v=>fZ b v.o (v.d++Jg f v.a stop)) b):=by
  intro vs;induction vs with|nil=>intro d b _ h;simpa using h|cons v vs j=>
   intro d b g h;have:=j (d++ [v]) _ (λu b=>g u (by simp[b])) (h.ins (v:=v) (t:=v.d++Jg f v.a stop) (λc b=>by
    obtain⟨d,j⟩:=i.st v (g v (by simp)) c b;refine⟨d,?_⟩;unfold aI;rw[j]))
   simpa using this
 have:=e V [] [] (λv b=>b) QI.nil;rw[d4] at this;exact this
theorem eQB {f:Γ}{a:Nat}{P:Γ->Prop}:∀(vs:χ AV),(∀v∈vs,P (v.d++Jg f v.a a))->∀q∈pS f a vs,P q.t:=by
 have e:∀(vs:χ AV) (c:χ Pr),(∀v∈vs,P (v.d++Jg f v.a a))->(∀q∈c,P q.t)->∀q∈vs.foldl (λc v=>fZ c v.o (v.d++Jg f v.a a)) c,P q.t:=by intro vs;induction vs with|nil=>intro c _ h;exact h|cons v vs j=>intro c d h;refine j _ (λu i=>d u (by simp[i])) λq b=>?_;have b:q∈fZ c v.o (v.d++Jg f v.a a):=b;unfold fZ at b;split at b;rename_i p g;obtain b|rfl:=aQb b;exact h q b;exact h p (Xd g);obtain b|b:=X2.1 b;exact h q b;rw[Xx.1 b];exact d v (by simp)
 intro vs d;exact e vs [] d (λq b=>by cases b)
theorem eQC {α:Type}{f:α->χ τ}{a:Nat}(b:∀x,(f x).length=a):∀(l:Nat)(L:χ α),(L.drop l).flatMap f=(L.flatMap f).drop (l*a)|0,L=>by simp|l+1,[]=>by simp|l+1,x::L=>by rw[U5,eQC b l L,dk,xR,Nat.one_mul,Fe,<-mP];congr 1;rw[<-b x,AU]
theorem SlS.from {α:Type}{f:α->χ τ}{a:Nat}(b:∀x,(f x).length=a){w:θ}{A:Θ}{n c l:Nat}{L:χ α}(h:SlS f a w A n c L)(d:l<=n):SlS f a w (if c=l then A else A.map (·.add (l*a))) (n-l) (c-l) (L.drop l):=by have d:=h.1.len;have e:=h.1.le;have e:=h.1.cap;refine⟨?_,by rw[Wz,h.2]⟩;rw[eQC b];refine⟨by rw[Wz,d,<-Nat.sub_mul],ω,ω,λb=>?_⟩;obtain⟨b,rfl,d⟩:=h.1.at_ ω;refine⟨b.add (l*a),by rw[φ ω];rfl,λj u a=>?_⟩;rw[Addr.add_add];exact d _ _ (by rw[xV] at a;exact a)
theorem Ht {n:Nat}(g:n<=12){x y:DV}{o a:BF}(s:Set1 n x.nd x.r o)(b:Set1 n y.nd y.r a):pL x.nd x.r y.nd y.r= !(W7 (QW n a) o):=by cases i:W7 (QW n a) o with|true=>obtain⟨c,d,f⟩:=rD.1 i;refine Cv (λh=>h.2.2 ⟨bits c,by rw[s.mean];exact f,by rw[b.mean];exact(Kd.1 d).2⟩)|false=>refine OI ⟨s.chk g,b.chk g,λ⟨e,f,j⟩=>?_⟩;rw[s.mean] at f;rw[b.mean] at j;obtain⟨c,d,g⟩:=G6 n e;have:W7 (QW n a) o=true:=rD.2 ⟨c,Kd.2 ⟨d,by rw[b.dep _ e g];exact j⟩,by rw[s.dep _ e g];exact f⟩;rw[i] at this;cases this
theorem pQA {k:Nat}(c:k<=12)(x y:DV){o a:BF}(w:θ)(h:SB w x.A x.n x.c x.nd)(d:SB w y.A y.n y.c y.nd)(s:Set1 k x.nd x.r o)(b:Set1 k y.nd y.r a):Fn ψ 101 [Q5 x.A x.n x.c x.r,Q5 y.A y.n y.c y.r] w (r5 w k λe=>o e||a e):=by refine(cQt x.A x.n x.c x.nd x.r y.A y.n y.c y.nd y.r w h d).mono ?_;rw[i9 c s b 1];have c:Set1 k _ _ (λe=>o e||a e):=(fj s b 1).congr (λe=>by simp[J5]);generalize Wg x.nd x.r y.nd y.r 1=D at*;obtain⟨a,b⟩:=D;rintro v l ⟨d,q,f,rfl,g,i,j⟩;exact⟨d,q,f,a,b,rfl,g,i,c,j⟩
theorem pQB (q:DV×Γ)(t:Γ)(a:Nat)(w:θ)(c:∀b∈q.2,b<256)(d:∀b∈t,b<256)(f:Blk w a 9 [.string (Qb t)]):Fn ψ 99 [.agg (KX q).toArray,.pointer (some ⟨a,0,none⟩)] w (λu g=>u= .bool (decide (q.2=t))/\Ext w g):=by refine QK c99 [] Tryz.func99 ?_;refine new λh a i g=>?_;refine Qp g rfl ?_;refine QQ (f.ext a) rfl ?_;refine⟨?_,a⟩;refine QG Value.bool ?_;refine o0.2 ⟨λe=>Jl c d e,λe=>by rw[e]⟩
theorem pQC (d:Θ)(pn e:Nat)(a:χ (DV×Γ))(t:Γ)(f:Nat)(w:θ)(h:SlS KX 3 w d pn e a)(j:∀q∈a,∀b∈q.2,b<256)(k:∀b∈t,b<256)(l:Blk w f 9 [.string (Qb t)]):Fn ψ 98 [.slice d pn e,.func (.func 99) #[] #[.pointer (some ⟨f,0,none⟩)]] w (λu c=>u= .int .i64 (if bF (Ja a) t<pn then(bF (Ja a) t:Int)else -1)/\Ext w c):=by
 have d:=h.2;have d:=h.1.le;have m:=h.1.cap;have d:(Ja a).length=a.length:=by simp[Ja]
 obtain⟨e,n⟩:=Hj t (Ja a);refine QK c98 [] Tryz.func98 ?_;refine loop Qe [8] (λi:Nat=>[.int .i64 i]) (λi c=>Ext w c/\i<=pn/\∀q∈a.take i,q.2≠t) (λi _=>pn-i) 0 rfl ⟨Ext.refl _,Q9 _,λq c=>by simp at c⟩ ?_;rintro i o ⟨d,p,g⟩;have p:i<=bF (Ja a) t:=by
  apply Classical.byContradiction;intro p;have r:bF (Ja a) t<a.length:=by omega
  obtain⟨q,c⟩:∃q,a[bF (Ja a) t]? =some q:=⟨_,Q6 r⟩
  have:=e ⟨oD q.1,q.2⟩ (by unfold Ja;rw[Wy];show Option.map _ (a[bF (Ja a) t]?)=_;rw[c];rfl);exact g q (Xd (i:=bF (Ja a) t) (by rw[mT ω];exact c)) this
 refine Ql (λe=>?_) λe=>?_;have e:i<pn:=by omega
 refine XG OX (h.ext d) rfl e λs q c r=>?_;have s:=Xd c;refine Jm (vs:=KX q) rfl r (call (pQB q t f o (j q s) k (l.ext d)) ?_);rintro _ f ⟨rfl,j⟩;have k:(Ja a)[i]? =some ⟨oD q.1,q.2⟩:=by unfold Ja;rw[Wy,c]<;>rfl
 refine Ql (λf=>?_) λf=>?_;have l:bF (Ja a) t=i:=by apply Classical.byContradiction;intro p;exact n i _ k ω f
 rw[l,Qf e];exact⟨rfl,d.trans j⟩;simp only[maxLen] at m;refine QF i ?_;refine⟨i+1,rfl,⟨d.trans j,e,λk a=>?_⟩,QL⟩;rw[JT,c] at a;obtain a|a:=X2.1 a;exact g k a;have:k=q:=by simpa using a
 rw[this];exact f;have e:i=pn:=by omega
 rw[φ ω];exact⟨rfl,d⟩
theorem pQD {j:Nat}{a l:χ τ}{c:τ}(h:l[j+a.length]? =some c):Ym j a l=Ym j (a++ [c]) l:=by
 have b:=(ZK.1 h).1;rw[nv j a l ω,nv j (a++ [c]) l (by simp;omega)];rw[WW,WW,WW];congr 2;rw[VU b,Qy,mV];have:l[j+a.length]=c:=by rw[Q6 b] at h;exact Option.some.inj h
 rw[this]<;>rfl
theorem pQE (f:Γ)(a:Nat):∀vs:χ AV,(pS f a vs).length<=vs.length:=by
 have c:∀(vs:χ AV) (b:χ Pr),(vs.foldl (λb v=>fZ b v.o (v.d++Jg f v.a a)) b).length<=b.length+vs.length:=by
  intro vs;induction vs with|nil=>intro b;simp|cons v vs d=>
   intro b;have e:=d (fZ b v.o (v.d++Jg f v.a a));have d:(fZ b v.o (v.d++Jg f v.a a)).length<=b.length+1:=by unfold fZ;split;rw[jL];omega;simp
   rw[rx,Xa];omega
 intro vs;have:=c vs [];simpa [pS] using this
theorem Pu {n:Nat}{a:χ (DV×Pr)}(h:∀q∈a,Set1 n q.1.nd q.1.r q.2.o):Ja (a.map λq=>(q.1,q.2.t))=a.map (·.2):=by unfold Ja;rw[xP];refine List.map_congr_left λq a=>?_;have:oD q.1=q.2.o:=funext λe=>(h q a).mean e;show(⟨oD q.1,q.2.t⟩:Pr)=q.2;rw[this]
theorem aM {a:Addr}{n j b:Nat}{K:Addr->Prop}(h:j<n)(k:K (a.add (j*b))):be (some a) n (j:Int) b K:=by unfold be;exact⟨a,rfl,ω,ω,by simpa using k⟩
end
section
def Y3 (v:DV×AV):χ τ:=[.slice v.1.A v.1.n v.1.c,.int .i64 v.1.r,.string (Qb v.2.d),.int .i64 v.2.a]
theorem eQD (v:DV×AV):(Y3 v).length=4:=rfl
def WM (q:DV×Pr):χ τ:=KX (q.1,q.2.t)
theorem Hu (q:DV×Pr):(WM q).length=3:=rfl
theorem Pv (l:χ (DV×Pr)):l.flatMap WM=(l.map λq=>(q.1,q.2.t)).flatMap KX:=by rw[List.flatMap_map]<;>rfl
theorem pQF (e:EdV):∀u∈XE e,Kb u=true:=sc rfl
theorem Pw (v:DV×AV):∀u∈Y3 v,Kb u=true:=sc rfl
theorem pQG (v:DV×Γ):∀u∈KX v,Kb u=true:=sc rfl
theorem pQH {p:EP}(a:zb p):∀e∈p.es,Ke p.nm.length e.x.nd e.x.r=true/\(JH 0 (QN p.f)).any (WG e.ed)=true:=by
 obtain⟨d,f⟩:=a;have c:∀(es:χ Ed) (q:Int),ie p.nm.length p.f q es=true->∀e∈es,(JH 0 (QN p.f)).any (WG e)=true:=by
  intro es;induction es with
  |nil=>intro q _ e a;cases a
  |cons b es g=>intro q h e a;rw[ie,Z4,Z4,CF,Z4] at h;obtain rfl|a:=XI.1 a;exact h.1.1.2;exact g _ h.2 e a
 exactλe a=>⟨Vb.1 d e a,c _ 0 f e.ed (Z5.2 ⟨e,a,rfl⟩)⟩
theorem pQI (b:χ EdV)(S:Γ)(a:Nat)(s:Γ):W8 (b.map EdV.ed) S a s=(b.filter λe=>aJ a s e.ed&&W7 S e.ed.o).map EdV.ed:=by unfold W8;rw[List.filter_map]<;>rfl
theorem pQJ {α:Type}{l:χ α}{i:Nat}{x:α}(h:l[i]? =some x):l.drop i=x::l.drop (i+1):=by have a:=(ZK.1 h).1;rw[VU a];congr 1;rw[Q6 a] at h;exact Option.some.inj h
theorem pQK (p:EP)(Y:EB p)(hV:zb p)(a:Nat)(s:Γ)(hm:(a,s)∈JH 0 (QN p.f))(d:DV)(o:BF)(w:θ)(K:EK w p)(hd:SB w d.A d.n d.c d.nd)(sd:Set1 p.nm.length d.nd d.r o):
  FnP ψ 48 [.pointer (some ⟨p.eb,0,none⟩),.string (Qb (s++ [10])),.int .i64 a,Q5 d.A d.n d.c d.r] w
   (λu r=>∃L,dM p.nm p.f (p.es.map EdV.ed) (QW p.nm.length o) a s=some L/\nH w u (L.map (·++ [10])) r)
   (λch r=>dM p.nm p.f (p.es.map EdV.ed) (QW p.nm.length o) a s=none/\ch=nN 291/\Ext w r):=by
 have jH:=nE p.f;have JX:=Wh Y.ok;have E4:=sk hm;rw[JX] at E4;have Zj:=Y.fl;have g:p.nm.length<=12:=by have:=Y.n4;omega
 have oT:=K.eds.2;have uQU:=Y.el;have Uz:=K.eds.1.cap;have tQN:=K.eds.1.le;simp only[maxLen] at Uz;have mJ:(Qb (s++ [10])).size=s.length+1:=by rw[QZ];simp
 have bP:=QZ p.f;have N:=pQH hV;generalize AG:QW p.nm.length o=S at*;have xI:∀e∈p.es,0<=e.fr/\e.fr<=e.to_/\e.to_<p.f.length:=λe G=>by
  have:=za (N e G).2;rw[JX] at this;exact this
 refine d7 (c:={c48 with cuts:=[]}) Qe Tryz.func48 rfl rfl rfl ?_;refine new (λw1 Qd Q0 Qh=>?_);have K1:=K.ext Qd;refine Qp K1.blk rfl (loop Qe [33,9] (λt:Nat×χ EdV×Θ×Nat=>[.int .i64 t.1,.slice t.2.2.1 t.2.1.length t.2.2.2]) (λt r=>Ext w1 r/\t.1<=p.en/\t.2.1=(p.es.take t.1).filter (λe=>aJ a s e.ed&&W7 S e.ed.o)/\Own r w1.heap.size 58 5 t.2.2.1 t.2.1.length t.2.2.2 (t.2.1.flatMap XE)) (λt _=>p.en-t.1) (0,[],none,0) rfl ⟨Ext.refl _,Q9 _,by simp,Own.nil _ _ _ _⟩ ?_);rintro⟨i,m,MA,mc⟩ w2 ⟨Qg,M,ao,hO⟩;simp only at M ao hO;have Q1:=Qd.trans Qg;have L1:m.length<=i:=by rw[ao];exact XU (oZ _ _) (by rw[KR];omega)
 refine Ql (λc1=>?_) (λc1=>?_)
 ·have U:i<p.en:=by simp only at c1;omega
  refine XG WJ (K.ext Q1).eds rfl U (λD e G hc=>?_);have bW:=Xd G;obtain⟨e1,e2,e3⟩:=xI e bW;have se:=gY (N e bW).1;refine Jm (vs:=XE e) rfl hc (new (λw3 Qi JI Qt=>?_));refine Qo Qt (λw4 Vt _ QU=>?_);have JU:Ext w2 w4:=X1 Qi Qt Vt;refine QQ QU rfl ?_;refine Ql (λd1=>?_) (λd1=>?_)
  ·refine Qp QU rfl (Qz ((a+s.length+1:Nat):Int) ?_ (hm:=by rw[mJ];omega));refine Ql (λd2=>?_) (λd2=>?_)
   ·refine fS (vs:=[.slice e.x.A e.x.n e.x.c,.int .i64 e.x.r]) QU rfl (λj u hj=>by match j,hj with | 0,hj=>exact hj | 1,hj=>exact hj) (Qm (Qh.ext (Qg.trans JU)) (call (cQ6 e.x.A e.x.n e.x.c e.x.nd e.x.r d.A d.n d.c d.nd d.r w4 ((K.sbs e bW).ext (Q1.trans JU)) (hd.ext (Q1.trans JU))) ?_));rintro _ w5 ⟨rfl,QH⟩;have bH:=JU.trans QH;rw[Ht g se sd,AG];have KF:aJ a s e.ed=true:=Zg ⟨by show(a:Int)<=e.fr;omega,by show e.to_<=a+s.length;omega⟩;cases wX:W7 S (oD e.x)with
    | false=>
     refine QX rfl (QF i ?_);refine⟨(i+1,m,MA,mc),rfl,⟨Qg.trans bH,U,?_,hO.ext bH⟩,QL⟩;simp only;rw[fm G,xY,<-ao,xX,φ (by show¬(aJ a s e.ed&&W7 S (oD e.x))=true;rw[wX,Bool.and_false];decide),AX,YE]
    | true=>
     refine Q3 rfl (Qm (QU.ext QH) (XM (XE e) ?_));intro w6 Q eC Xi;have zT:=bH.trans Q;have C5:Sl w6 5 (some ⟨w5.heap.size,0,none⟩) 1 1 (XE e):=Sl.own (sz:=5) (n:=1) Xi (Qw _) δ (by simp[XE]);refine XV (n:=m.length) (hO.ext zT) C5 (pQF e) (by unfold maxLen;omega) (by have:=Qg.size;have:=zT.size;omega) ?_ (b:=(by show(m.length+1)*64<=_;omega));intro A' c' w7 cm zq tk;refine QF i ?_;refine⟨(i+1,m++ [e],A',c'),by simp only[Qy];rfl,⟨cm.ext (Qg.trans zT) (λk g=>(hO.rows k g).1),U,?_,?_⟩,QL⟩
     ·simp only;rw[fm G,xY,<-ao,xX,Qf (by show(aJ a s e.ed&&W7 S (oD e.x))=true;rw[wX,KF];rfl),AX]
     ·simp only;rw[Qy,cJ];simpa using zq
   ·refine QF i ?_;refine⟨(i+1,m,MA,mc),rfl,⟨Qg.trans JU,U,?_,hO.ext JU⟩,QL⟩;simp only;rw[fm G,xY,<-ao,xX,φ (by intro hh;rw[Z4] at hh;have h3:(a:Int)<=e.fr/\e.to_<=a+s.length:=WY hh.1;omega),AX,YE]
  ·refine QF i ?_;refine⟨(i+1,m,MA,mc),rfl,⟨Qg.trans JU,U,?_,hO.ext JU⟩,QL⟩;simp only;rw[fm G,xY,<-ao,xX,φ (by intro hh;rw[Z4] at hh;have h3:(a:Int)<=e.fr/\e.to_<=a+s.length:=WY hh.1;omega),AX,YE]
 have U:i=p.en:=by simp only at c1;omega
 have ao:m=p.es.filter (λe=>aJ a s e.ed&&W7 S e.ed.o):=by rw[ao,ZJ ω]
 have mK:=pQI p.es S a s;rw[<-ao] at mK;have oS:∀e∈m,e∈p.es/\(a:Int)<=e.fr/\e.to_<=a+s.length/\W7 S (oD e.x)=true:=λe G=>by
  rw[ao] at G;obtain⟨h1,h2⟩:=VE.1 G;rw[Z4] at h2;have h3:(a:Int)<=e.fr/\e.to_<=a+s.length:=WY h2.1;exact⟨h1,h3.1,h3.2,h2.2⟩
 have Z7:m.length<=10:=by omega
 have hM:SlS XE 5 w2 MA m.length mc m:=⟨hO.sl,rfl⟩
 clear ao M c1;have xJ:dM p.nm p.f (p.es.map EdV.ed) S a s=if m.map EdV.ed=[] then some [s] else if cj S (m.map EdV.ed)=false then none else if S.all (λc=>Ve (aI p.f (a+s.length+1) a (m.map EdV.ed) c))=false then none else some (XW p.nm (aI p.f (a+s.length+1) a (m.map EdV.ed)) p.nm.length 0 S):=by
  unfold dM;rw[mK]
 generalize dM p.nm p.f (p.es.map EdV.ed) S a s=RES at*;refine X0 (λF=>?_) (λF=>?_)
 ·have zU:m=[]:=VT (by simp only at F;omega);refine XM [Value.string (Qb (s++ [10]))] ?_;intro w3 Qi JI Qt;refine⟨[s],by rw[xJ,zU];rfl,_,_,rfl,Q1.trans Qi,Sl.own' (n:=1) Qt rfl δ,λ_=>⟨_,_,rfl⟩⟩
 have Jo:m≠ []:=λe=>F (by rw[e];rfl)
 have zk:m.map EdV.ed≠ []:=λe=>Jo (List.map_eq_nil_iff.1 e)
 rw[φ zk] at xJ;have Mf:S≠ []:=by
  obtain⟨e,G⟩:=ME _ Jo;intro e0;have:=(oS e G).2.2.2;rw[e0] at this;cases this
 refine loop Qe [69] (λi:Nat=>[.int .i64 i]) (λi r=>Ext w2 r/\i<=m.length/\cj S (m.map EdV.ed)=cj S ((m.drop i).map EdV.ed)) (λi _=>m.length-i) 0 rfl ⟨Ext.refl _,Q9 _,rfl⟩ ?_;rintro i w3 ⟨Qi,M,YC⟩;have QT:=Q1.trans Qi;refine Ql (λc1=>?_) (λc1=>?_)
 ·have U:i<m.length:=by simp only at c1;omega
  refine XG WJ (hM.ext Qi) rfl U (λD e G hc=>?_);have bW:=Xd G;obtain⟨e1,e2,e3,e4⟩:=oS e bW;have se:=gY (N e e1).1;rw[pQJ G,YD,cj] at YC;refine Jm (vs:=XE e) rfl hc (new (λw4 Qq Ku QU=>?_));refine Qo QU (λw5 Zx _ QC=>?_);have Jc:Ext w3 w5:=X1 Qq QU Zx;have bH:=Qi.trans Jc;refine QF i (uN Qe rfl rfl rfl rfl rfl rfl ω ?_);have hFr:=(hM.ext bH).from WJ (l:=i+1) ω
  have kI:=hM.1.le;refine loop Qe [79] (λj:Nat=>[.int .i64 j]) (λj r=>Ext w5 r/\j<=m.length-(i+1)/\((m.drop (i+1)).take j).all (λb=>bE S e.ed b.ed)=true) (λj _=>m.length-(i+1)-j) 0 rfl ⟨Ext.refl _,Q9 _,by simp⟩ ?_;rintro j w6 ⟨Q,hj,hall⟩;refine Ql (λc2=>?_) (λc2=>?_)
  ·have Jr:j<m.length-(i+1):=by simp only at c2;omega
   refine XG WJ (hFr.ext Q) rfl Jr (λEb b E Vj=>?_);have rg:b∈m:=a8 (Xd E);obtain⟨b1,b2,b3,b4⟩:=oS b rg;have sb:=gY (N b b1).1;refine Jm (vs:=XE b) rfl Vj (new (λw7 Xq aa Q2=>?_));refine Qo Q2 (λw8 Vi _ XP=>?_);have ct:Ext w6 w8:=X1 Xq Q2 Vi;have tu:=Q.trans ct;have Wl:=QT.trans (Jc.trans tu);have Le:=QC.ext tu;have jx:=Ext.drew w8;have next:∀r,Ext w8 r->bE S e.ed b.ed=true->Ext w5 r/\j+1<=m.length-(i+1)/\((m.drop (i+1)).take (j+1)).all (λb=>bE S e.ed b.ed)=true:=λr kO h2=>by
    refine⟨tu.trans kO,ω,?_⟩;rw[fm E,Mw,hall];simp only[xT,List.all_nil,Fq,YF];exact h2
   refine Xw (Ext w8) 15 (oz 10 0 [(true,11),(false,10),(false,12),(true,13),(true,14)]) jx (Qx (v:=.int .i64 e.to_) (λr A=>(Le.ext A).cell 1) (Qx (v:=.int .i64 b.fr) (λr A=>(XP.ext A).cell 0) ?_));refine Ql (λd1=>?_) (λd1=>?_)
   ·refine Xe (vs:=[.slice e.x.A e.x.n e.x.c,.int .i64 e.x.r]) rfl (λr A k u g=>by rw[add_add,(Le.ext A).cell];match k,g with | 0,g=>exact g | 1,g=>exact g) (Xe (vs:=[.slice b.x.A b.x.n b.x.c,.int .i64 b.x.r]) rfl (λr A k u g=>by rw[add_add,(XP.ext A).cell];match k,g with | 0,g=>exact g | 1,g=>exact g) (Xe (vs:=d.cells) rfl (λr A k u g=>by rw[((Qh.ext (Qg.trans (Qi.trans (Jc.trans tu)))).ext A).cell];exact g) ?_));have aV:=Wl.trans jx;refine call (sf g e.x b.x w8.drew ((K.sbs e e1).ext aV) ((K.sbs b b1).ext aV) se sb) ?_;rintro _ w9 ⟨QA,Qn,Qc,Qnd,Qr,rfl,Xm,hQ9,sQ,_⟩;refine⟨jx.trans Xm,?_⟩;refine call (cQ6 QA Qn Qc Qnd Qr d.A d.n d.c d.nd d.r w9 hQ9 (hd.ext (aV.trans Xm))) ?_;rintro _ Qu ⟨rfl,Xz⟩;have dU:=(jx.trans Xm).trans Xz;refine⟨dU,?_⟩;rw[Ht (x:=⟨QA,Qn,Qc,Qnd,Qr⟩) g sQ sd,AG];cases wX:W7 S (λv=>oD e.x v&&oD b.x v)with
    | false=>
     refine QX rfl (QF j ?_);exact⟨j+1,rfl,next Qu dU (by show(!(decide (b.fr<e.to_)&&W7 S (λv=>oD e.x v&&oD b.x v)))=true;rw[wX,Bool.and_false];rfl),by show m.length-(i+1)-(j+1)<m.length-(i+1)-j;omega⟩
    | true=>
     refine Q3 rfl (Zl (aK 291 δ Qu) (λ_ _ hf=>hf.elim) ?_);rintro ch _ ⟨rfl,rfl⟩;have Xo:bE S e.ed b.ed=false:=by
      show(!(decide (b.fr<e.to_)&&W7 S (λv=>oD e.x v&&oD b.x v)))=false;rw[wX,Zg (by omega:b.fr<e.to_)]<;>rfl
     have JM:(m.drop (i+1)).all (λb=>bE S e.ed b.ed)=false:=List.all_eq_false.2 ⟨b,Xd E,by rw[Xo];decide⟩;refine⟨?_,rfl,Wl.trans dU⟩;have:cj S (m.map EdV.ed)=false:=by
      rw[YC,List.all_map];show((m.drop (i+1)).all (λb=>bE S e.ed b.ed)&&_)=false;rw[JM]<;>rfl
     rw[xJ,Qf this]
   ·refine QF j ?_;exact⟨j+1,rfl,next w8.drew jx (by show(!(decide (b.fr<e.to_)&&W7 S (λv=>oD e.x v&&oD b.x v)))=true;rw[XZ (by omega:¬b.fr<e.to_)];rfl),by show m.length-(i+1)-(j+1)<m.length-(i+1)-j;omega⟩
  ·have Jr:j=m.length-(i+1):=by simp only at c2;omega
   rw[ZJ (by rw[Wz];omega)] at hall;refine QF i ?_;refine⟨i+1,rfl,⟨bH.trans Q,U,?_⟩,QL⟩;rw[YC,List.all_map];show((m.drop (i+1)).all (λb=>bE S e.ed b.ed)&&_)=_;rw[hall,YF]
 have U:i=m.length:=by simp only at c1;omega
 have hQf:cj S (m.map EdV.ed)=true:=by rw[YC,U,ux (Qw _)]<;>rfl
 clear YC c1 M;rw[φ (by rw[hQf];decide)] at xJ;have Xc:=Qg.trans Qi;refine Qm (Qh.ext Xc) (XM (Y3 (d,⟨o,[],a⟩)) ?_);intro w4 Qq Ku QU;have X4:=QT.trans Qq;have QR:QW p.nm.length o≠ []:=by rw[AG];exact Mf
 have tQO:cj (QW p.nm.length o) (m.map EdV.ed)=true:=by rw[AG];exact hQf
 have hep:∀b∈m.map EdV.ed,0<=b.to_:=λb E=>by
  obtain⟨e,G,rfl⟩:=Z5.1 E;have:=xI e (oS e G).1;show 0<=e.to_;omega
 have hVB:∀i,i<=m.length->∀v∈ga p.nm.length p.f o a ((m.map EdV.ed).take i),VB (i*70000) (a+s.length) v:=λi M v J=>by
  have:=pQv (n:=p.nm.length) (o:=o) (a:=a) (T:=a+s.length) Y.f8 Zj ω ((m.map EdV.ed).take i) (λb E=>by
   obtain⟨e,G,rfl⟩:=Z5.1 (aw E);obtain⟨h1,h2,h3,h4⟩:=oS e G;exact⟨Y.t8 e h1,Y.tl e h1,by show e.to_.toNat<=_;omega⟩) v J
  rw[KR,JS,oV M] at this;exact this
 have hVL:∀i,i<=m.length->(ga p.nm.length p.f o a ((m.map EdV.ed).take i)).length<=1024:=λi M=>by
  refine XU (pQu _ _ _ _ _) ?_;rw[KR,JS,oV M];exact XU (bZ δ (show i<=10 by omega)) δ
 refine loop Qe [107,16] (λt:Nat×χ (DV×AV)×Θ×Nat=>[.int .i64 t.1,.slice t.2.2.1 t.2.1.length t.2.2.2]) (λt r=>Ext w4 r/\t.1<=m.length/\t.2.1.map (·.2)=ga p.nm.length p.f o a ((m.map EdV.ed).take t.1)/\SlS Y3 4 r t.2.2.1 t.2.1.length t.2.2.2 t.2.1/\∀v∈t.2.1,SB r v.1.A v.1.n v.1.c v.1.nd/\Set1 p.nm.length v.1.nd v.1.r v.2.o) (λt _=>m.length-t.1) (0,[(d,⟨o,[],a⟩)],some ⟨w3.heap.size,0,none⟩,1) rfl ⟨Ext.refl _,Q9 _,rfl,⟨Sl.own (sz:=4) (n:=1) QU (Qw _) (by show 1<=maxLen;decide) (by simp[Y3]),rfl⟩,λv J=>by
  rw[Xx.1 J];exact⟨hd.ext X4,sd⟩⟩ ?_
 rintro⟨i,vs,VA,vc⟩ w5 ⟨QH,M,jG,UB,UC⟩;simp only at M jG UB UC;have Jh:=X4.trans QH;have hvl:vs.length<=1024:=by have:=hVL i M;rw[<-jG,JS] at this;exact this
 have kL:∀v∈vs,VB (i*70000) (a+s.length) v.2:=λv J=>hVB i M v.2 (by rw[<-jG];exact Z5.2 ⟨v,J,rfl⟩)
 refine Ql (λc1=>?_) (λc1=>?_)
 ·have U:i<m.length:=by simp only at c1;omega
  refine XG WJ (hM.ext (Qi.trans (Qq.trans QH))) rfl U (λD e G hc=>?_);have bW:=Xd G;obtain⟨e1,e2,e3,e4⟩:=oS e bW;obtain⟨e5,e6,e7⟩:=xI e e1;have se:=gY (N e e1).1;have heg:(m.map EdV.ed)[i]? =some e.ed:=by rw[Wy,G]<;>rfl
  refine Jm (vs:=XE e) rfl hc (new (λw6 Q eC Xi=>?_));refine Qo Xi (λw7 Zn _ Q2=>?_);have K6:Ext w5 w7:=X1 Q Xi Zn;have JE:=Jh.trans K6;refine loop Qe [113,19] (λt:Nat×χ (DV×AV)×Θ×Nat=>[.int .i64 t.1,.slice t.2.2.1 t.2.1.length t.2.2.2]) (λt r=>Ext w7 r/\t.1<=vs.length/\t.2.1.map (·.2)=((vs.map (·.2)).take t.1).flatMap (WI p.nm.length p.f e.ed)/\Own r w7.heap.size 166 4 t.2.2.1 t.2.1.length t.2.2.2 (t.2.1.flatMap Y3)/\∀v∈t.2.1,DgO r (Qj t.2.2.1) p.nm.length v.1 v.2.o) (λt _=>vs.length-t.1) (0,[],none,0) rfl ⟨Ext.refl _,Q9 _,rfl,Own.nil _ _ _ _,λv J=>by cases J⟩ ?_;rintro⟨j,H,I,nxc⟩ w8 ⟨QY,hj,gu,tv,wH⟩;simp only at hj gu tv wH;have Wl:=JE.trans QY;have tu:=K6.trans QY;have vQu:H.length<=2*j:=by
   have h1:=QG List.length gu;have h2:=Pt p.nm.length p.f e.ed ((vs.map (·.2)).take j);rw[JS] at h1;rw[KR] at h2;omega
  refine Ql (λc2=>?_) (λc2=>?_)
  ·have Jr:j<vs.length:=by simp only at c2;omega
   refine XG eQD (UB.ext tu) rfl Jr (λEb v J Vj=>?_);have ri:=Xd J;obtain⟨O,X⟩:=UC v ri;obtain⟨vb8,vbl,vba⟩:=kL v ri;have UD:(vs.map (·.2))[j]? =some v.2:=by rw[Wy,J]<;>rfl
   refine Jm (vs:=Y3 v) rfl Vj (new (λw9 Xm VL XX=>?_));refine Qo XX (λQu Y9 _ Zo=>?_);have dU:Ext w8 Qu:=X1 Xm XX Y9;have lW:=QY.trans dU;have jt:=Wl.trans dU;refine fS (vs:=[.slice v.1.A v.1.n v.1.c,.int .i64 v.1.r]) Zo rfl (λk u g=>by match k,g with | 0,g=>exact g | 1,g=>exact g) (fS (vs:=[.slice e.x.A e.x.n e.x.c,.int .i64 e.x.r]) (Q2.ext lW) rfl (λk u g=>by match k,g with | 0,g=>exact g | 1,g=>exact g) (call (sf g v.1 e.x Qu (O.ext (tu.trans dU)) ((K.sbs e e1).ext jt) X se) ?_));rintro _ QJ ⟨QA,Qn,Qc,Qnd,Qr,rfl,Zf,sQt,sQ,Me⟩;refine new (λXk XS Dl Kn=>?_);refine Qo Kn (λZy Dm _ KB=>?_);have qw:Ext QJ Zy:=X1 XS Kn Dm;have qA:=Zf.trans qw;have tw:=dU.trans qA;have SU:=QY.trans tw;have vS:=Wl.trans tw;have Ec:=Zo.ext qA;have SS:=sQt.ext qw;have P8:=Zf.size;have uQV:=qw.size;have uQW:=dU.size;have z8:=QY.size;have V:=tv.rows;have hQ0:=sQ.root0;have bR:(vs.map (·.2)).take (j+1)=(vs.map (·.2)).take j++ [v.2]:=fm UD;refine Qp KB rfl ?_;refine Ya (λhz=>?_) (λhz=>?_)
   ·have UE:QW p.nm.length (Jw v.2.o (oD e.x))≠ []:=λe0=>hz (hQ0.2 e0)
    have jI:=pQw (f:=p.f) (a:=a) QR tQO heg (by show(a:Int)<=e.fr;omega) hep (v:=v.2) (by rw[<-jG];exact Z5.2 ⟨v,ri,rfl⟩) UE;have jI:(v.2.a:Int)<=e.fr:=jI;have YT:=Ext.drew Zy;have dl:=pR p.f v.2.a e.fr.toNat;have tl:=Y.tl e e1;have hto:((e.to_.toNat:Nat):Int)=e.to_:=by omega
    refine Xw (Mod (Qj I) Zy) 23 (oz 20 0 [(false,20),(false,21),(true,22)]) (Mod.of_ext _ YT) ?_;have H5:¬Qj I QJ.heap.size:=λh=>by have:=V _ h;omega
    have SV:¬Qj I w8.heap.size:=λh=>by have:=V _ h;omega
    have SW:¬Qj I w5.heap.size:=λh=>by have:=V _ h;have:=K6.size;have:=Q2.lt;omega
    have neb:¬Qj I p.eb:=λh=>by have:=V _ h;have:=K.blk.lt;have:=JE.size;omega
    have ds:=QZ v.2.d;have cs:=QZ (Jg p.f v.2.a e.fr.toNat);have dcs:=QZ (v.2.d++Jg p.f v.2.a e.fr.toNat);have txs:=QZ e.tx;rw[Qy] at dcs;refine Xe (vs:=[.slice QA Qn Qc,.int .i64 Qr]) rfl (λr A k u g=>by rw[(KB.mod A H5).cell];exact g) (Qx (v:=.string (Qb v.2.d)) (λr A=>(Ec.mod A SV).cell 2) (Qx (v:=.string (Qb p.f)) (λr A=>((K.blk.ext vS).mod A neb).cell 3) (Qx (v:=.int .i64 v.2.a) (λr A=>(Ec.mod A SV).cell 3) (Qx (v:=.int .i64 e.fr) (λr A=>((Q2.ext SU).mod A SW).cell 0) ?_))));refine XF (v':=.string (Qb (Jg p.f v.2.a e.fr.toNat))) ⟨ω,ω,by rw[bP];omega⟩ (by
     rw[Kj];show Value.string (Qb ((p.f.take e.fr.toNat).drop v.2.a))=_;rw[dm];rfl) ?_
    refine XF (v':=.string (Qb (v.2.d++Jg p.f v.2.a e.fr.toNat))) (by rw[ds,cs];unfold maxLen;omega) (by rw[ZR]) (Qx (v:=.string (Qb e.tx)) (λr A=>((Q2.ext SU).mod A SW).cell 2) (XF (v':=.string (Qb (v.2.d++Jg p.f v.2.a e.fr.toNat++e.tx))) (by rw[dcs,txs];unfold maxLen;omega) (by rw[ZR]) (Qx (v:=.int .i64 ((e.to_.toNat:Nat):Int)) (λr A=>by rw[hto];exact((Q2.ext SU).mod A SW).cell 1) (XM (Y3 (⟨QA,Qn,Qc,Qnd,Qr⟩,⟨Jw v.2.o (oD e.x),v.2.d++Jg p.f v.2.a e.fr.toNat++e.tx,e.to_.toNat⟩)) ?_))));generalize wn:(((⟨QA,Qn,Qc,Qnd,Qr⟩:DV),(⟨Jw v.2.o (oD e.x),v.2.d++Jg p.f v.2.a e.fr.toNat++e.tx,e.to_.toNat⟩:AV)):DV×AV)=V1;intro Ze J1 HY Ko;have oC:=YT.trans J1;have wI:=tw.trans oC;refine⟨Mod.of_ext _ oC,?_⟩;have SY:Sl Ze 4 (some ⟨Zy.drew.heap.size,0,none⟩) 1 1 (Y3 V1):=Sl.own (sz:=4) (n:=1) Ko (Qw _) δ (by simp[Y3]);refine XV (n:=H.length) (tv.ext wI) SY (Pw _) (by unfold maxLen;omega) (by have:=(QY.trans wI).size;omega) ?_ (b:=(by show(H.length+1)*56<=_;omega));intro B SZ Ju zV lX S3;have zW:Mod (Qj I) Zy Ju:=(Mod.of_ext (Qj I) oC).trans zV (λ_=>.inl);refine⟨zW,?_⟩;have zX:Mod (Qj I) w8 Ju:=(Mod.of_ext (Qj I) tw).trans zW (λ_=>.inl);have Ee:Ext w7 Ju:=zX.ext QY (λk g=>(V k g).1);have tz:=JE.trans Ee;have sQu:=K6.trans Ee;have uQX:=zW.size;have Ef:∀k,Qj B k->Qj I k∨Ze.heap.size<=k:=S3.rows
    have z14:=oC.size;have Eg:∀u∈H,DgO Ju (Qj B) p.nm.length u.1 u.2.o:=λu y=>(wH u y).step zX (λk g=>by
     rcases Ef k g with h | h
     ·exact .inl h
     ·exact .inr ω)
    have gQw:DgO Ju (Qj B) p.nm.length V1.1 V1.2.o:=by
     rw[<-wn];have F:DgO Zy (Qj I) p.nm.length ⟨QA,Qn,Qc,Qnd,Qr⟩ (Jw v.2.o (oD e.x)):=⟨SS,sQ,λD W F h=>by have:=Me D.block ⟨D,W,rfl⟩;have:=V _ h;omega⟩
     exact F.step zW (λk g=>by
      rcases Ef k g with h | h
      ·exact .inl h
      ·exact .inr ω)
    have gQx:=lX.rows;rw[show H.flatMap Y3++Y3 V1=(H++ [V1]).flatMap Y3 by rw[cJ];simp] at lX;have sZ:=Ec.mod zW SV;have wg:=KB.mod zW H5;refine fS (vs:=[.slice v.1.A v.1.n v.1.c,.int .i64 v.1.r]) sZ rfl (λk u g=>by match k,g with | 0,g=>exact g | 1,g=>exact g) (Qm wg ?_);have sQv:SB Ju QA Qn Qc Qnd:=by have:=gQw.sb;rw[<-wn] at this;exact this
    refine call (jg g v.1 ⟨QA,Qn,Qc,Qnd,Qr⟩ Ju (O.ext sQu) sQv X sQ) ?_;rintro _ KC ⟨PA,Pn,Pc,Pnd,Pr',rfl,KD,sQw,sP,hPR⟩;have hP0:=sP.root0;refine iY (j:=0) (sZ.ext KD) (by show 0+2<=4;decide) (sc rfl) (λJO vX S4 fB=>?_);have oe:Mod (·=w8.heap.size) KC JO:=vQB vX rfl;have S5:Ext w7 JO:=oe.ext (Ee.trans KD) (λk g=>ω);have z16:=KD.size;have sQx:∀k,Qj B k->¬k=w8.heap.size:=λk g hh=>by
     rcases Ef k g with h | h
     ·have:=V _ h;omega
     ·omega
    have lY:=(lX.ext KD).mod oe sQx;have uQY:=Zo.lt;have gQy:∀u∈H++ [V1],DgO JO (Qj B) p.nm.length u.1 u.2.o:=λu y=>by
     have S8:DgO Ju (Qj B) p.nm.length u.1 u.2.o:=by
      rcases X2.1 y with y | y
      ·exact Eg u y
      ·rw[Xx.1 y];exact gQw
     have sQy:∀D,u.1.A=some D->0<u.1.n->¬D.block=w8.heap.size:=λD W F hh=>by
      rcases X2.1 y with y | y
      ·have:=SB.lt (wH u y).sb D W F;omega
      ·rw[Xx.1 y,<-wn] at W F;have:=Me D.block ⟨D,W,rfl⟩;omega
     exact⟨SB.modo (S8.sb.ext KD) oe sQy,S8.st,S8.off⟩
    refine lv (j:=0) (i:=1) fB rfl ?_;refine Ya (λhy=>?_) (λhy=>?_)
    ·refine Qm fB (XM (Y3 (⟨PA,Pn,Pc,Pnd,Pr'⟩,⟨Vm v.2.o (Jw v.2.o (oD e.x)),v.2.d,v.2.a⟩)) ?_);generalize Ik:(((⟨PA,Pn,Pc,Pnd,Pr'⟩:DV),(⟨Vm v.2.o (Jw v.2.o (oD e.x)),v.2.d,v.2.a⟩:AV)):DV×AV)=V2;intro KO dV S9 gj;have sQz:Sl KO 4 (some ⟨JO.heap.size,0,none⟩) 1 1 (Y3 V2):=Sl.own (sz:=4) (n:=1) gj (Qw _) δ (by simp[Y3]);refine XV (n:=H.length+1) (lY.ext dV) sQz (Pw _) (by unfold maxLen;omega) (by have:=(S5.trans dV).size;omega) ?_ (b:=(by show(H.length+1+1)*56<=_;omega));intro NX3 nc3 Yu sQA gQz sQB;have Ta:Mod (Qj B) JO Yu:=(Mod.of_ext (Qj B) dV).trans sQA (λ_=>.inl);have r19:∀k,Qj NX3 k->Qj B k∨KO.heap.size<=k:=sQB.rows
     have z18:=dV.size;have sQC:Ext w7 Yu:=Ta.ext S5 (λk g=>(gQx k g).1);have sQD:SB JO PA Pn Pc Pnd:=SB.modo sQw oe (λD W F hh=>by have:=hPR D.block ⟨D,W,rfl⟩;omega);have sQE:DgO Yu (Qj NX3) p.nm.length V2.1 V2.2.o:=by
      rw[<-Ik];have F:DgO JO (Qj B) p.nm.length ⟨PA,Pn,Pc,Pnd,Pr'⟩ (Vm v.2.o (Jw v.2.o (oD e.x))):=⟨sQD,sP,λD W F h=>by have:=hPR D.block ⟨D,W,rfl⟩;have:=(gQx _ h).2;omega⟩
      exact F.step Ta (λk g=>by
       rcases r19 k g with h | h
       ·exact .inl h
       ·exact .inr ω)
     refine QF j ?_;rw[show(H++ [V1]).flatMap Y3++Y3 V2=(H++ [V1]++ [V2]).flatMap Y3 by rw[cJ];simp] at gQz;refine⟨(j+1,H++ [V1]++ [V2],NX3,nc3),by simp only[Qy];rfl,⟨sQC,Jr,?_,by simp only;rw[Qy,Qy];exact gQz,λu y=>?_⟩,QL⟩
     ·simp only;rw[bR,cJ,<-gu,fL,fL,dk,Fw,YE,WW];congr 1;have h9:QW p.nm.length (Vm v.2.o (Jw v.2.o (oD e.x)))≠ []:=λe0=>hy (hP0.2 e0)
      unfold WI;rw[φ (by exact UE),φ (by exact h9),<-wn,<-Ik]<;>rfl
     ·rcases X2.1 y with y | y
      ·exact(gQy u y).step Ta (λk g=>by
        rcases r19 k g with h | h
        ·exact .inl h
        ·exact .inr ω)
      ·rw[Xx.1 y];exact sQE
    ·refine QF j ?_;refine⟨(j+1,H++ [V1],B,SZ),by simp only[Qy];rfl,⟨S5,Jr,?_,by simp only;rw[Qy];exact lY,gQy⟩,QL⟩;simp only;rw[bR,cJ,<-gu,fL,dk,Fw,YE];congr 1;have h9:QW p.nm.length (Vm v.2.o (Jw v.2.o (oD e.x)))=[]:=hP0.1 hy;unfold WI;rw[φ (by exact UE),Qf (by exact h9),<-wn]<;>rfl
   ·have Wo:QW p.nm.length (Jw v.2.o (oD e.x))=[]:=hQ0.1 hz;have iw:=X.root0;refine lv (j:=0) (i:=1) Ec rfl ?_;refine Ya (λhy=>?_) (λhy=>?_)
    ·refine Qm Ec (XM (Y3 v) ?_);intro Ze J1 HY Ko;have wI:=tw.trans J1;have SY:Sl Ze 4 (some ⟨Zy.heap.size,0,none⟩) 1 1 (Y3 v):=Sl.own (sz:=4) (n:=1) Ko (Qw _) δ (by simp[Y3]);refine XV (n:=H.length) (tv.ext wI) SY (Pw _) (by unfold maxLen;omega) (by have:=(QY.trans wI).size;omega) ?_ (b:=(by show(H.length+1)*56<=_;omega));intro B SZ Ju zV lX S3;have zX:Mod (Qj I) w8 Ju:=(Mod.of_ext (Qj I) wI).trans zV (λ_=>.inl);have Ee:Ext w7 Ju:=zX.ext QY (λk g=>(V k g).1);have Ef:∀k,Qj B k->Qj I k∨Ze.heap.size<=k:=S3.rows
     have uQZ:=wI.size;have gQA:∀k,Qj B k->Qj I k∨w8.heap.size<=k:=λk g=>by
      rcases Ef k g with h | h
      ·exact .inl h
      ·exact .inr ω
     refine QF j ?_;rw[show H.flatMap Y3++Y3 v=(H++ [v]).flatMap Y3 by rw[cJ];simp] at lX;refine⟨(j+1,H++ [v],B,SZ),by simp only[Qy];rfl,⟨Ee,Jr,?_,by simp only;rw[Qy];exact lX,λu y=>?_⟩,QL⟩
     ·simp only;rw[bR,cJ,<-gu,fL,dk,Fw,YE];congr 1;unfold WI;rw[Qf (by exact Wo),φ (λe0=>hy (iw.2 e0))]<;>rfl
     ·rcases X2.1 y with y | y
      ·exact(wH u y).step zX gQA
      ·rw[Xx.1 y];have F:DgO w8 (Qj I) p.nm.length v.1 v.2.o:=⟨O.ext tu,X,λD W F h=>by have:=SB.lt (O.ext K6) D W F;have:=(V _ h).1;omega⟩
       exact F.step zX gQA
    ·refine QF j ?_;refine⟨(j+1,H,I,nxc),rfl,⟨QY.trans tw,Jr,?_,tv.ext tw,λu y=>(wH u y).ext tw⟩,QL⟩;simp only;rw[bR,cJ,<-gu,dk,Fw,YE];unfold WI;rw[Qf (by exact Wo),Qf (iw.1 hy),YE]
  ·have Jr:j=vs.length:=by simp only at c2;omega
   rw[ZJ (by rw[JS];omega),jG,<-pQs,<-fm heg] at gu;refine QF i ?_;exact⟨(i+1,H,I,nxc),rfl,⟨QH.trans (K6.trans QY),U,gu,⟨tv.sl,rfl⟩,λv J=>⟨(wH v J).sb,(wH v J).st⟩⟩,QL⟩
 have U:i=m.length:=by simp only at c1;omega
 rw[ZJ (by rw[JS];omega)] at jG;have Mg:=pQx (f:=p.f) (a:=a) (stop:=a+s.length+1) (es:=m.map EdV.ed) QR;rw[AG] at Mg;have UF:=pQz (f:=p.f) (a:=a) (stop:=a+s.length+1) (es:=m.map EdV.ed) QR;have hvi:=Hq (f:=p.f) (a:=a) QR (m.map EdV.ed);rw[<-jG] at Mg UF hvi;refine loop Qe [165,23] (λt:Nat×χ (DV×Pr)×Θ×Nat=>[.int .i64 t.1,.slice t.2.2.1 t.2.1.length t.2.2.2]) (λt r=>Ext w5 r/\t.1<=vs.length/\t.2.1.map (·.2)=pS p.f (a+s.length+1) ((vs.map (·.2)).take t.1)/\Own r w5.heap.size 56 3 t.2.2.1 t.2.1.length t.2.2.2 (t.2.1.flatMap WM)/\(∀q∈t.2.1,DgO r (Qj t.2.2.1) p.nm.length q.1 q.2.o)/\∀v∈(vs.map (·.2)).take t.1,Ve (v.d++Jg p.f v.a (a+s.length+1))=true) (λt _=>vs.length-t.1) (0,[],none,0) rfl ⟨Ext.refl _,Q9 _,rfl,Own.nil _ _ _ _,(λq C=>by cases C),λv J=>by simp at J⟩ ?_;rintro⟨k,z,PA,pc⟩ w6 ⟨Q,Dr,mL,iv,tC,Eh⟩;simp only at Dr mL iv tC Eh;have XJ:=Jh.trans Q;have hql:z.length<=k:=by
  have h1:=QG List.length mL;have h2:=pQE p.f (a+s.length+1) ((vs.map (·.2)).take k);rw[JS] at h1;rw[KR] at h2;omega
 have V:=iv.rows;refine Ql (λc2=>?_) (λc2=>?_)
 ·have Xu:k<vs.length:=by simp only at c2;omega
  refine XG eQD (UB.ext Q) rfl Xu (λEb v J Vj=>?_);have ri:=Xd J;obtain⟨O,X⟩:=UC v ri;obtain⟨vb8,vbl,vba⟩:=kL v ri;have UD:(vs.map (·.2))[k]? =some v.2:=by rw[Wy,J]<;>rfl
  have hvV:v.2∈vs.map (·.2):=Z5.2 ⟨v,ri,rfl⟩;have bR:(vs.map (·.2)).take (k+1)=(vs.map (·.2)).take k++ [v.2]:=fm UD;refine Jm (vs:=Y3 v) rfl Vj (new (λw7 Xq aa Q2=>?_));refine Qo Q2 (λw8 Vi _ XP=>?_);have ct:Ext w6 w8:=X1 Xq Q2 Vi;have Wl:=XJ.trans ct;have YT:=Ext.drew w8;have ds:=QZ v.2.d;have cs:=QZ (Jg p.f v.2.a (a+s.length+1));have dl:=pR p.f v.2.a (a+s.length+1);refine Xw (Ext w8) 16 (oz 14 0 [(false,14),(false,15)]) YT (Qx (v:=.string (Qb v.2.d)) (λr A=>(XP.ext A).cell 2) (Qx (v:=.string (Qb p.f)) (λr A=>((K.blk.ext Wl).ext A).cell 3) (Qx (v:=.int .i64 v.2.a) (λr A=>(XP.ext A).cell 3) (Qz ((a+s.length+1:Nat):Int) ?_ (hm:=by rw[mJ];omega)))));refine XF (v':=.string (Qb (Jg p.f v.2.a (a+s.length+1)))) ⟨ω,ω,by rw[bP];omega⟩ (by
   rw[Kj];show Value.string (Qb ((p.f.take (a+s.length+1)).drop v.2.a))=_;rw[dm];rfl) ?_
  refine XF (v':=.string (Qb (v.2.d++Jg p.f v.2.a (a+s.length+1)))) (by rw[ds,cs];unfold maxLen;omega) (by rw[ZR]) ?_;have Vs:∀b∈v.2.d++Jg p.f v.2.a (a+s.length+1),b<256:=λb E=>by
   rcases X2.1 E with E | E
   ·exact vb8 b E
   ·exact zd Y.f8 _ _ b E
  have VR:(v.2.d++Jg p.f v.2.a (a+s.length+1)).length<=1000000:=by rw[Qy];omega
  generalize hT:v.2.d++Jg p.f v.2.a (a+s.length+1)=T at*;refine new (λw9 Xm VL XX=>?_);refine⟨YT.trans Xm,?_⟩;refine VW XX δ (λQu ZI Zo=>?_);have dU:Ext w8 Qu:=ZI.ext (YT.trans Xm) (λi M=>by have:=YT.size;omega);refine⟨dU,?_⟩;have Zo:Blk Qu w8.drew.heap.size 9 [.string (Qb T)]:=Zo;refine QQ Zo rfl (call (dQF T Qu Vs ω) ?_);rintro _ QJ ⟨rfl,Zf⟩;have zA:=ct.trans (dU.trans Zf);have eF:=XJ.trans zA;cases Jd:Ve T with
  | false=>
   refine Q3 rfl (Zl (aK 291 δ QJ) (λ_ _ hf=>hf.elim) ?_);rintro ch _ ⟨rfl,rfl⟩;refine⟨?_,rfl,eF⟩;rw[xJ,Qf];refine dt.2 (λhh=>?_);have:=Mg.1 hh v.2 hvV;rw[hT,Jd] at this;cases this
  | true=>
  refine QX rfl ?_;have ZC:=Zo.ext Zf;have iF:=iv.ext zA;have hPS:SlS KX 3 QJ PA z.length pc (z.map (λq=>(q.1,q.2.t))):=⟨by rw[<-Pv];exact iF.sl,by rw[JS]⟩
  have Mh:∀q∈z,(∀b∈q.2.t,b<256)/\q.2.t.length<=1000000:=λq C=>by
   refine eQB (P:=λt=>(∀b∈t,b<256)/\t.length<=1000000) ((vs.map (·.2)).take k) (λu y=>?_) q.2 (by rw[<-mL];exact Z5.2 ⟨q,C,rfl⟩);obtain⟨u0,Tb,rfl⟩:=Z5.1 (aw y);obtain⟨a1,a2,a3⟩:=kL u0 Tb;refine⟨λb E=>?_,?_⟩
   ·rcases X2.1 E with E | E
    ·exact a1 b E
    ·exact zd Y.f8 _ _ b E
   ·have:=pR p.f u0.2.a (a+s.length+1);rw[Qy];omega
  have Mi:Ja (z.map (λq=>(q.1,q.2.t)))=z.map (·.2):=Pu (λq C=>(tC q C).st);refine call (pQC PA z.length pc (z.map (λq=>(q.1,q.2.t))) T w8.drew.heap.size QJ hPS (λq C=>by
   obtain⟨q0,WT,rfl⟩:=Z5.1 C;exact(Mh q0 WT).1) Vs ZC) ?_
  rintro _ Xk ⟨rfl,XS⟩;rw[Mi];have qC:=zA.trans XS;have gh:=XJ.trans qC;have sQF:=(dU.trans Zf).trans XS;have jy:=iv.ext qC;have Kn:=ZC.ext XS;have De:=XP.ext sQF;have uQ0:=qC.size;obtain⟨s1,s2⟩:=Hj T (z.map (·.2));have tQP:=oQU (z.map (·.2)) T;rw[JS] at tQP;have hQg:pS p.f (a+s.length+1) ((vs.map (·.2)).take (k+1))=fZ (z.map (·.2)) v.2.o T:=by rw[bR,pQy,<-mL,hT]
  have gQB:∀u∈(vs.map (·.2)).take (k+1),Ve (u.d++Jg p.f u.a (a+s.length+1))=true:=λu y=>by
   rw[bR] at y;rcases X2.1 y with y | y
   ·exact Eh u y
   ·rw[Xx.1 y,hT];exact Jd
  generalize JL:bF (z.map (·.2)) T=Z at*;by_cases Xn:Z<z.length
  ·rw[Qf Xn];refine XB ω ?_;have Ww:0<z.length:=by omega
   obtain⟨q0,WT⟩:∃q0,z[Z]? =some q0:=⟨_,Q6 Xn⟩
   have tQQ:=Xd WT;obtain⟨pa,bM,_⟩:=jy.sl.at_ Ww;subst bM;have n25:¬Qj (some pa) w6.heap.size:=λh=>by have:=(V _ h).2;omega
   have wJ:=Ext.drew Xk;have sQG:∀q∈z,DgO Xk (Qj (some pa)) p.nm.length q.1 q.2.o:=λq C=>(tC q C).ext qC
   refine Xw (Mod (Qj (some pa)) Xk) 16 (oz 6 0 [(true,7),(true,8),(false,6),(false,9),(true,10),(true,11),(false,12),(true,13),(true,14),(false,15)]) (Mod.of_ext _ wJ) (aM (j:=Z) Xn (Xe (vs:=[.slice v.1.A v.1.n v.1.c,.int .i64 v.1.r]) rfl (λr A k u g=>by rw[add_add,(De.mod A n25).cell];match k,g with | 0,g=>exact g | 1,g=>exact g) ?_));have hOd:=jy.ext wJ;refine Jm (vs:=[.slice q0.1.A q0.1.n q0.1.c,.int .i64 q0.1.r]) rfl (λk u g=>by
    rw[add_add];refine GP (o:=Z*3) (i:=0+k) hOd Ww ?_;rw[YW];refine gK Hu z Z q0 k u WT ?_
    match k,g with
    | 0,g=>exact g
    | 1,g=>exact g) ?_
   refine⟨Mod.of_ext _ wJ,?_⟩;have sq0:=(sQG q0 tQQ)
   refine call (pQA g q0.1 v.1 Xk.drew (sq0.sb.ext wJ) ((O.ext (Q.trans qC)).ext wJ) sq0.st X) ?_;rintro _ Zy ⟨OA,On,Oc,Ond,R,rfl,Xc,hOs,sO,hOR⟩;have tD:=wJ.trans Xc;refine⟨Mod.of_ext _ tD,?_⟩;refine call (G7 ⟨OA,On,Oc,Ond,R⟩ Zy) ?_;rintro _ Ze ⟨rfl,J1⟩;have jw:=tD.trans J1;refine⟨Mod.of_ext _ jw,?_⟩;refine aM (j:=Z) Xn ?_;show o6 _ _ ((pa.add (Z*3)).add 0) _ _;rw[add_add];have uQ1:=gJ Hu z;refine cQS (jy.ext jw) (by show Z*3+0+2<=z.length*3;omega) (sc rfl) (λJu zV lX=>?_);have gQC:Mod (Qj (some pa)) Xk Ju:=(Mod.of_ext _ jw).trans zV (λ_=>.inl);refine⟨gQC,?_⟩;have gQD:Mod (Qj (some pa)) w6 Ju:=(Mod.of_ext _ qC).trans gQC (λ_=>.inl);have gQE:(z.flatMap WM)[Z*3+0+ [Value.slice OA On Oc,.int .i64 R].length]? =some (.string (Qb q0.2.t)):=gK Hu z Z q0 2 _ WT rfl;rw[show(#[Value.slice OA On Oc,Value.int IntKind.i64 R]:Array τ).toList=[Value.slice OA On Oc,.int .i64 R] from rfl,pQD gQE] at lX;have lX:Own Ju w5.heap.size 56 3 (some pa) z.length pc ((z.set Z (⟨OA,On,Oc,Ond,R⟩,Pr.mk (λe=>q0.2.o e||v.2.o e) q0.2.t)).flatMap WM):=by
    rw[<-N8 Hu z _ Xn];exact lX
   refine QF k ?_;have tQR:(z.map (·.2))[Z]? =some q0.2:=by rw[Wy,WT]<;>rfl
   have uQ2:=jw.size;have uQ3:=wJ.size;refine⟨(k+1,z.set Z (⟨OA,On,Oc,Ond,R⟩,Pr.mk (λe=>q0.2.o e||v.2.o e) q0.2.t),some pa,pc),by simp only[jL];rfl,⟨gQD.ext Q (λi M=>(V i M).1),Xu,?_,by simp only;rw[jL];exact lX,λq C=>?_,gQB⟩,QL⟩
   ·simp only;rw[hQg];unfold fZ;rw[JL,tQR,List.map_set]
   ·rcases aQb C with C | rfl
    ·exact(tC q C).step gQD (λ_=>.inl)
    ·have F:DgO Ze (Qj (some pa)) p.nm.length ⟨OA,On,Oc,Ond,R⟩ (λe=>q0.2.o e||v.2.o e):=⟨hOs.ext J1,sO,λD W F h=>by have:=hOR D.block ⟨D,W,rfl⟩;have:=(V _ h).2;omega⟩
     exact F.step zV (λ_=>.inl)
  ·rw[φ Xn];refine Zm δ (fS (vs:=[.slice v.1.A v.1.n v.1.c,.int .i64 v.1.r]) De rfl (λk u g=>by match k,g with | 0,g=>exact g | 1,g=>exact g) (QQ Kn rfl (XM (WM (v.1,Pr.mk v.2.o T)) ?_)));intro Zy Xc sU KB;have Lj:=qC.trans Xc;have DG:Sl Zy 3 (some ⟨Xk.heap.size,0,none⟩) 1 1 (WM (v.1,Pr.mk v.2.o T)):=Sl.own (sz:=3) (n:=1) KB (Qw _) δ (by simp[WM,KX]);refine XV (n:=z.length) (iv.ext Lj) DG (pQG _) (by unfold maxLen;omega) (by have:=(Q.trans Lj).size;omega) ?_ (b:=(by show(z.length+1)*48<=_;omega));intro PA2 pc2 Ze wh gQF Lh;have Td:Mod (Qj PA) w6 Ze:=(Mod.of_ext (Qj PA) Lj).trans wh (λ_=>.inl);have r14:∀k,Qj PA2 k->Qj PA k∨Zy.heap.size<=k:=Lh.rows
   have sQH:=Lj.size;have gQG:∀k,Qj PA2 k->Qj PA k∨w6.heap.size<=k:=λk g=>by
    rcases r14 k g with h | h
    ·exact .inl h
    ·exact .inr ω
   refine QF k ?_;rw[show z.flatMap WM++WM (v.1,Pr.mk v.2.o T)=(z++ [(v.1,Pr.mk v.2.o T)]).flatMap WM by rw[cJ];simp] at gQF;have Ar:(z.map (·.2))[Z]? =none:=List.getElem?_eq_none_iff.2 (by rw[JS];omega);refine⟨(k+1,z++ [(v.1,Pr.mk v.2.o T)],PA2,pc2),by simp only[Qy];rfl,⟨Td.ext Q (λi M=>(V i M).1),Xu,?_,by simp only;rw[Qy];exact gQF,λq C=>?_,gQB⟩,QL⟩
   ·simp only;rw[hQg];unfold fZ;rw[JL,Ar,fL]<;>rfl
   ·rcases X2.1 C with C | C
    ·exact(tC q C).step Td gQG
    ·rw[Xx.1 C];have F:DgO w6 (Qj PA) p.nm.length v.1 v.2.o:=⟨O.ext Q,X,λD W F h=>by have:=SB.lt O D W F;have:=(V _ h).1;omega⟩
     exact F.step Td gQG
 have Xu:k=vs.length:=by simp only at c2;omega
 rw[ZJ (by rw[JS];omega)] at mL Eh;rw[<-mL] at UF;obtain⟨bM,hfP⟩:=UF.pa hvi (λc hc=>(Kd.1 hc).1);have Mi:Ja (z.map (λq=>(q.1,q.2.t)))=z.map (·.2):=Pu (λq C=>(tC q C).st);rw[φ (by rw[Mg.2 Eh];decide)] at xJ;have Mh:∀q∈z,Ve q.2.t=true/\(∀b∈q.2.t,b<256)/\q.2.t.length<=1000000:=λq C=>by
  refine eQB (P:=λt=>Ve t=true/\(∀b∈t,b<256)/\t.length<=1000000) (vs.map (·.2)) (λu y=>?_) q.2 (by rw[<-mL];exact Z5.2 ⟨q,C,rfl⟩);have hu1:=Eh u y;obtain⟨u0,Tb,rfl⟩:=Z5.1 y;obtain⟨a1,a2,a3⟩:=kL u0 Tb;refine⟨hu1,λb E=>?_,?_⟩
  ·rcases X2.1 E with E | E
   ·exact a1 b E
   ·exact zd Y.f8 _ _ b E
  ·have:=pR p.f u0.2.a (a+s.length+1);rw[Qy];omega
 have YT:=Ext.drew w6;refine Xw (Ext w6) 8 (oz 6 0 [(false,6),(true,7)]) YT (Qx (v:=.slice p.NA p.nn p.nc) (λr A=>((K.blk.ext XJ).ext A).cell 0) (Xe (vs:=d.cells) rfl (λr A k u g=>by rw[((Qh.ext (Xc.trans (Qq.trans (QH.trans Q)))).ext A).cell];exact g) ?_));have aV:=XJ.trans YT;refine call (dQK p.NA p.nn p.nc p.nm d o PA z.length pc (z.map (λq=>(q.1,q.2.t))) p.nm.length Y.n4 rfl Y.nb (λs hs=>by have:=Y.nl s hs;omega) (λq C=>by
  obtain⟨q0,WT,rfl⟩:=Z5.1 C;obtain⟨t1,t2,t3⟩:=Mh q0 WT;exact⟨(nK g (tC q0 WT).st).1,t1,t2,t3⟩) w6.drew (K.nms.ext aV) (hd.ext aV) sd ⟨by rw[<-Pv];exact(iv.ext YT).sl,by rw[JS]⟩ (λq C=>by
  obtain⟨q0,WT,rfl⟩:=Z5.1 C;exact(tC q0 WT).sb.ext YT) QR (by rw[Mi];exact bM)) ?_
 rintro _ w7 ⟨A7,c7,rfl,Xq,Yr⟩;refine⟨YT.trans Xq,?_⟩;rw[Mi,Hi p.nm.length 0 (QW p.nm.length o) QR hfP,AG] at Yr ⊢;exact⟨_,xJ,A7,c7,rfl,aV.trans Xq,Yr⟩
theorem eQE {nm:Λ}{n d0:Nat}{inc:lm}(j:∀r c d k g q,inc r c d k g= .error q->q.e≠0):∀(i:Λ)(c b:Nat)(k:BF)(a:χ Se)(g:Gs)(q:Pl),Z9 nm n d0 inc i c b k a g= .error q->q.e≠0
 |[],c,b,k,a,g,q,h=>by
  cases a with
  |nil=>simp[Z9] at h
  |cons x a=>simp only[Z9,Except.error.injEq] at h;rw[<-h];exact(by decide:(72:Int)≠0)
 |s::i,c,b,k,a,g,q,h=>by
  have f:=λk a g h=>eQE (nm:=nm) (n:=n) (d0:=d0) j i (c+1) (b+s.length+1) k a g q h;rw[Z9.eq_def] at h;simp only at h;cases i:X3 s with
  |txt=>
   rw[i] at h;simp only at h;cases l:Yo (s++ [10]) n b k g with
   |none=>rw[l] at h;cases h;exact(by decide:(2:Int)≠0)
   |some m=>rw[l] at h;exact f _ _ _ h
  |ifd r=>
   rw[i] at h;simp only at h;cases b:Jn nm r with
   |error e=>rw[b] at h;cases h;exact Hp b
   |ok d=>rw[b] at h;simp only at h;split at h;cases h;exact(by decide:(2:Int)≠0);exact f _ _ _ h
  |inc r=>
   rw[i] at h;simp only at h;cases b:inc r (c+1) (d0+a.length) k g with
   |error e=>rw[b] at h;cases h;exact j _ _ _ _ _ _ b
   |ok m=>rw[b] at h;exact f _ _ _ h
  |elif r=>
   rw[i] at h;cases a with
   |nil=>cases h;exact(by decide:(72:Int)≠0)
   |cons y a=>
    simp only at h;split at h;cases h;exact(by decide:(71:Int)≠0);cases b:Jn nm r with
    |error e=>rw[b] at h;cases h;exact Hp b
    |ok d=>rw[b] at h;exact f _ _ _ h
  |els=>
   rw[i] at h;cases a with
   |nil=>cases h;exact(by decide:(72:Int)≠0)
   |cons y a=>simp only at h;split at h;cases h;exact(by decide:(71:Int)≠0);exact f _ _ _ h
  |en=>rw[i] at h;cases a with|nil=>cases h;exact(by decide:(72:Int)≠0)|cons y a=>exact f y.ou a {g with fr:=true} h
theorem pQL {a:Γ->Option Nat}{b s:Γ}{e:Int}(h:eo a b s= .error e):e≠0:=by rw[cQM] at h;split at h;cases h;decide;split at h;cases h;decide;split at h;cases h;decide;cases h
theorem eQF {l:Λ}{t:Γ}{q:Pl}(h:W0 l (fF t) [102]= .error q):q.e≠0:=by
 unfold W0 at h;split at h;cases h;decide;cases b:V0 (fF t)with|some p=>rw[b] at h;cases h;exact OB b|none=>
  rw[b] at h;simp only at h;cases a:ZS ((fF t).map (·.1)) [102] with|none=>rw[a] at h;cases h;decide|some n=>
   rw[a] at h;simp only at h;have j:n<(fF t).length:=by have:=ld a;simpa using this
   have i:n=0:=by simpa [fF] using j
   subst i;rw[Yc] at h;refine eQE (λr o d k g q f=>?_) _ _ _ _ _ _ _ h;split at f;rename_i e c;cases f;exact pQL c;rename_i m c;exact Xg c (Pb t (by simp) (e:=0) _)
theorem vx:∀(l:Γ),∀s∈QN l,∀b∈s,b∈l|[]=>λs a=>by simp[QN] at a|c::l=>by have e:=vx l;intro s a b d;unfold QN at a;split at a;obtain rfl|a:=XI.1 a;cases d;exact xW _ (e s a b d);cases f:QN l with|nil=>rw[f] at a;rw[Xx.1 a] at d;rw[Xx.1 d];simp|cons t g=>rw[f] at a e;obtain rfl|a:=XI.1 a;obtain rfl|d:=XI.1 d;simp;exact xW _ (e t (by simp) b d);exact xW _ (e s (by simp[a]) b d)
theorem eQG {f:Γ}(i:∀b∈f,b<256)(j:f.length<=60000)(c:Nat):∀(g:χ Ed)(a:Γ×Nat),(∀e∈g,(∀b∈e.tx,b<256)/\e.tx.length<=1000)->(∀b∈a.1,b<256)->(∀b∈(g.foldl (YN f c) a).1,b<256)/\(g.foldl (YN f c) a).1.length<=a.1.length+g.length*70000
 |[],a,_,h=>⟨h,by simp⟩
 |e::g,a,he,h=>by
  obtain⟨k,d⟩:=he e (by simp);have d:=pR f a.2 e.fr.toNat;have l:(∀b∈(YN f c a e).1,b<256)/\(YN f c a e).1.length<=a.1.length+70000:=by unfold YN;split;refine⟨λb d=>?_,by simp only[Qy];omega⟩;simp only[X2] at d;obtain(d|d)|d:=d;exact h b d;exact zd i _ _ b d;exact k b d;exact⟨h,ω⟩
  obtain⟨k,m⟩:=eQG i j c g (YN f c a e) (λb d=>he b (by simp[d])) l.1;rw[rx,Xa,xR,Nat.one_mul];exact⟨k,ω⟩
theorem eQH {f:Γ}(h:∀b∈f,b<256)(i:f.length<=60000){stop a:Nat}{g:χ Ed}(j:∀e∈g,(∀b∈e.tx,b<256)/\e.tx.length<=1000)(k:g.length<=10)(c:Nat):(∀b∈aI f stop a g c,b<256)/\(aI f stop a g c).length<=1000000:=by obtain⟨l,m⟩:=eQG h i c g ([],a) j (λb d=>by cases d);unfold aI;refine⟨λb d=>?_,?_⟩;obtain d|d:=X2.1 d;exact l b d;exact zd h _ _ b d;have:=pR f (g.foldl (YN f c) ([],a)).2 stop;have:=aY 70000 k;rw[Qy];simp only[Jz] at m;omega
def sn (s:Γ):Prop:=(∀b∈s,b<256)/\s.length<=1000000
theorem eQI {c:Λ}(f:KH c)(h:∀s∈c,s.length<=1000)(v:Nat)(e:Bool):sn (KK c v e):=by
 refine⟨λb a=>?_,?_⟩;unfold KK at a;simp only[X2] at a;obtain a|a|a:=a;exact(by decide:∀b∈Zd,b<256) b a;cases e with
 |true=>
      have:b=33:=by simpa using a
      rw[this];decide
 |false=>simp at a
 cases d:c[v]? with|none=>rw[d] at a;simp at a|some s=>rw[d] at a;exact(f s (Xd d)).1 b a
 unfold KK;have a:((c[v]?).getD []).length<=1000:=by cases d:c[v]? with|none=>simp|some s=>exact h s (Xd d)
 have a:(if e then [33] else([]:Γ)).length<=1:=by cases e<;>simp
 have a:Zd.length=4:=rfl;simp only[Qy];omega
theorem eQJ {nm:Λ}(l:KH nm)(k:∀s∈nm,s.length<=1000){f:Γ}(w:∀b∈f,b<256)(o:f.length<=60000){d:χ Ed}(t:∀e∈d,(∀b∈e.tx,b<256)/\e.tx.length<=1000)(x:d.length<=10){S:Γ}(r:S.length<=16){a:Nat}{s:Γ}(y:sn s){L:Λ}(h:dM nm f d S a s=some L):L.length<=16000048/\∀u∈L,sn u:=by
 unfold dM at h;split at h;rw[<-Option.some.inj h];exact⟨by show 1<=16000048;decide,λu g=>by rw[Xx.1 g];exact y⟩;rename_i p;split at h;cases h;split at h;cases h;rw[<-Option.some.inj h];have n:S≠ []:=λe=>by apply p;unfold W8;rw[Fu];intro b j;rw[e];simp[W7]
 have i:∀e∈W8 d S a s,(∀b∈e.tx,b<256)/\e.tx.length<=1000:=λe i=>t e (VE.1 i).1;have m:(W8 d S a s).length<=10:=XU (oZ _ _) x;obtain⟨q,C⟩:=sh (nm:=nm) (f:=aI f (a+s.length+1) a (W8 d S a s)) (P:=sn) (M:=1000000) (λv A=>eQI l k v A) ⟨δ,δ⟩ ⟨δ,δ⟩ nm.length 0 S n (λc D=>by
  obtain⟨B,F⟩:=eQH w o (stop:=a+s.length+1) (a:=a) i m c;obtain⟨E,z⟩:=lw (aI f (a+s.length+1) a (W8 d S a s) c);exact⟨λu g=>⟨λb j=>B b (vx _ u g b j),by have:=z u g;omega⟩,ω⟩)
 have:=aY (1000000+3) r;exact⟨ω,q⟩
def ApR (b:Λ)(d:BF)(g:Gs)(f:Γ)(c:χ Ed)(a:Λ)(i:Nat)(L:Λ):Prop:=
 ib b d g f c a 0=match ib b d g f c (a.drop i) (Qk (a.take i)).length with|none=>none|some m=>some (L++m)
theorem ApR.zero {a:Λ}{d:BF}{g:Gs}{f:Γ}{b:χ Ed}{c:Λ}:ApR a d g f b c 0 []:=by
 unfold ApR;show ib a d g f b c 0=match ib a d g f b c 0 with|none=>none|some m=>some ([]++m)
 cases ib a d g f b c 0<;>rfl
theorem pT {a:Λ}{i:Nat}{s:Γ}(h:a[i]? =some s):(Qk (a.take (i+1))).length=(Qk (a.take i)).length+s.length+1:=by rw[JT,h];show(Qk (a.take i++ [s])).length=_;rw[dQk];simp only[Qy,mV];omega
theorem ApR.next {b:Λ}{d:BF}{g:Gs}{f:Γ}{c:χ Ed}{a:Λ}{i:Nat}{L l:Λ}{s:Γ}(h:ApR b d g f c a i L)(e:a[i]? =some s)(k:(if X3 s= .txt then dM b f c (QW b.length (Jw d (jh g (Qk (a.take i)).length))) (Qk (a.take i)).length s else some [s])=some l):ApR b d g f c a (i+1) (L++l):=by
 have j:=(ZK.1 e).1;have n:a.drop i=s::a.drop (i+1):=by rw[VU j];congr 1;rw[Q6 j] at e;exact Option.some.inj e
 unfold ApR at h ⊢;rw[n,ib,k] at h;rw[pT e,h];simp only;cases ib b d g f c (a.drop (i+1)) ((Qk (a.take i)).length+s.length+1)with|none=>rfl|some m=>simp only[WW]
theorem ApR.none {b:Λ}{d:BF}{g:Gs}{f:Γ}{c:χ Ed}{a:Λ}{i:Nat}{L:Λ}{s:Γ}(h:ApR b d g f c a i L)(e:a[i]? =some s)(j:(if X3 s= .txt then dM b f c (QW b.length (Jw d (jh g (Qk (a.take i)).length))) (Qk (a.take i)).length s else some [s])=Option.none):ib b d g f c a 0=Option.none:=by
 have b:=(ZK.1 e).1;have c:a.drop i=s::a.drop (i+1):=by rw[VU b];congr 1;rw[Q6 b] at e;exact Option.some.inj e
 unfold ApR at h;rw[c,ib,j] at h;exact h
theorem ApR.fin {b:Λ}{d:BF}{g:Gs}{f:Γ}{c:χ Ed}{a:Λ}{i:Nat}{L:Λ}(h:ApR b d g f c a i L)(e:a.length<=i):ib b d g f c a 0=some L:=by unfold ApR at h;rw[ux e] at h;rw[h];show some (L++ [])=some L;rw[YE]
theorem Hv:∀{ls:Λ}{p i:Nat}{s:Γ},ls[i]? =some s->(p+(Qk (ls.take i)).length,s)∈JH p ls
 |[],p,i,s,h=>by simp at h|t::ls,p,0,s,h=>by
  have:t=s:=by simpa using h
  subst this;simp[JH,Qk]
 |t::ls,p,i+1,s,h=>by have:=Hv (p:=p+t.length+1) (ls:=ls) (i:=i) (s:=s) (by simpa using h);refine xW _ ?_;rw[xQ,YJ];simp only[Qy,Xa];rw[show p+(t.length+((Qk (ls.take i)).length+1))=p+t.length+1+(Qk (ls.take i)).length by omega];exact this
theorem eQK {nm:Λ}{n d0:Nat}{inc:lm}(o:∀r i d k g f,inc r i d k g≠ .ok f):∀(j:Λ)(i b:Nat)(k:BF)(c:χ Se)(g f:Gs),Z9 nm n d0 inc j i b k c g= .ok f->∀q∈JH b j,X3 q.2= .txt->∃m,(q.1,q.2,m)∈j8 nm j b k (opM c)
 |[],i,b,k,c,g,f,_,q,a,_=>by cases a
 |s::j,i,b,k,c,g,f,h,q,a,ru=>by
  have l:=λk c g h a=>eQK (nm:=nm) (n:=n) (d0:=d0) o j (i+1) (b+s.length+1) k c g f h q a ru;rw[Z9.eq_def] at h;simp only at h;rw[j8.eq_def];simp only;rw[JH] at a;cases f:X3 s with
  |txt=>
   rw[f] at h;simp only at h ⊢;cases j:Yo (s++ [10]) n b k g with
   |none=>rw[j] at h;cases h
   |some p=>rw[j] at h;obtain rfl|a:=XI.1 a;exact⟨k,aQa⟩;obtain⟨m,b⟩:=l _ _ _ h a;exact⟨m,xW _ b⟩
  |ifd r=>
   rw[f] at h;simp only at h ⊢;obtain rfl|a:=XI.1 a;rw[f] at ru;cases ru;cases b:Jn nm r with
   |error e=>rw[b] at h;cases h
   |ok d=>rw[b] at h;simp only at h ⊢;split at h;cases h;exact l _ _ _ h a
  |inc r=>
   rw[f] at h;simp only at h;cases b:inc r (i+1) (d0+c.length) k g with
   |error e=>rw[b] at h;cases h
   |ok p=>exact Xg b (o _ _ _ _ _ _)
  |elif r=>
   rw[f] at h;obtain rfl|a:=XI.1 a;rw[f] at ru;cases ru;cases c with
   |nil=>cases h
   |cons y c=>
    simp only at h ⊢;split at h;cases h;cases b:Jn nm r with
    |error e=>rw[b] at h;cases h
    |ok d=>rw[b] at h;exact l _ _ _ h a
  |els=>
   rw[f] at h;obtain rfl|a:=XI.1 a;rw[f] at ru;cases ru;cases c with
   |nil=>cases h
   |cons y c=>simp only at h ⊢;split at h;cases h;exact l y.re ({y with ot:=true}::c) {g with fr:=true} h a
  |en=>
   rw[f] at h;obtain rfl|a:=XI.1 a;rw[f] at ru;cases ru;cases c with
   |nil=>cases h
   |cons y c=>exact l y.ou c {g with fr:=true} h a
theorem eQL {l:Λ}{t:Γ}{g:Gs}(a:W0 l (fF t) [102]= .ok g){q:Nat×Γ}(A:q∈JH 0 (QN t))(w:X3 q.2= .txt):∃k i x,SegAt g q.1 k i x:=by
 obtain⟨G,s,u,v⟩:=Pd a;have d:∃b,(q.1,q.2,b)∈j8 l (QN t) 0 (λ_=>true) []:=by
  unfold W0 at a;split at a;cases a;cases f:V0 (fF t)with
  |some p=>rw[f] at a;cases a
  |none=>
   rw[f] at a;simp only at a;cases c:ZS ((fF t).map (·.1)) [102] with
   |none=>rw[c] at a;cases a
   |some n=>
    rw[c] at a;simp only at a;have z:n<(fF t).length:=by have:=ld c;simpa using this
    have o:n=0:=by simpa [fF] using z
    subst o;have C:(fF t)[0]? =some ([102],t):=rfl;rw[Yc,C] at a;simp only[AL,kR] at a;exact eQK (λr H D b E F h=>by
     split at h;cases h;rename_i m y;exact Pb t (by simp) (e:=0) _ y) (QN t) 0 0 (λ_=>true) [] ⟨[],[],true⟩ g a q A w
 obtain⟨b,j⟩:=d;rw[<-s] at j;obtain⟨i,x,B,_⟩:=oQS v u j;exact⟨b,i,x,B⟩
end
section
section
variable {P:Program} {ops:Array Oper} {md:Region.Mode} {C:World->Prop} {Q:Exit->Act->World->Prop}
def PanE (N:Slots)(T:Env)(b:χ PanicEntry->θ->Prop)(Q:Exit->Act->θ->Prop):Exit->Act->θ->Prop|.panic c,a,w=>Fits N T a/\b c w|e,a,w=>Q e a w
def CN (T:Env)(d:Option Tmp):Bool:=match d with|none=>true|some d=> !(o9 d T)
theorem PanE.put {N:Slots}{T:Env}{b:χ PanicEntry->θ->Prop}{Q:Exit->Act->θ->Prop}{c:χ PanicEntry}{a:Act}{d:Option Tmp}{v:τ}{w:θ}(g:CN T d=true)(h:PanE N T b Q (.panic c) (a.put d v) w):PanE N T b Q (.panic c) a w:=by
 obtain⟨b,f⟩:=h;cases d with|none=>exact⟨b,f⟩|some d=>
  refine⟨⟨by simpa [Act.put] using b.size,by simpa [Act.put] using b.defers,λk x c=>?_⟩,f⟩;have f:=b.has k x c;have b:d≠k:=λe=>by
   subst e;have i:o9 d T=false:=by simpa [CN] using g
   rw[aQu i] at c;cases c
  simpa [Act.put,b] using f
theorem PanE.imp {c:Cx}{T:Env}{b:χ PanicEntry->θ->Prop}{Q:ZD}(f:∀d w,b d w->Q (.panic d) T w):∀(e:Exit)(a:Act)(w:θ),PanE c.N T b (Up c Q) e a w->Up c Q e a w:=λe a w h=>by cases e<;>first|exact h|(obtain⟨b,d⟩:=h;exact⟨T,b,f _ _ d⟩)
theorem pQM {N:Slots}{T:Env}{d:χ PanicEntry->θ->Prop}{n i:Nat}{m:Oper}{v:τ}{L:Array Bool->Act->θ->Prop}(z:ops[i]? =some m)(D:∀(j:Nat)(o:Oper) s b,ops[j]? =some o->o.op≠ .select s b)(G:CN T m.dst=true)(y:ni md ops n) (A:i<n) (B:∀c a w,L c a w->∀j∈Region.ready md ops c,n<=j):∀(f:Nat) (c:Array Bool) (a:Act) (w:θ),HeadInv md ops n c->(∀j p,ops[j]? =some p->j≠i->c.getD j true=false->(∀e∈p.after,Region.binds md e=true->e.on≠i)->m.apart ops p=true)->i∈Region.ready md ops c->YieldsIf P ops C m v a->C w->WB P md ops (PanE N T d Q) C n L f (c.setIfInBounds i true) (a.put m.dst v) w->WB P md ops (PanE N T d Q) C n L (f+1) c a w:=by
 intro f;induction f with|zero=>intro c a w d _ g u t H;have q:=(mem_ready.1 g).1;refine⟨λh=>(by rw[h] at g;cases g),λj r=>?_⟩;have x:=yj y d A q j r;refine⟨x,?_⟩;by_cases l:j=i;subst l;exact u.wpOp z t ⟨t,H⟩;have:=B _ _ _ H j (ready_mono r l);omega|succ f I=>
  intro c a w d E g u t H;have q:=(mem_ready.1 g).1;refine⟨λh=>(by rw[h] at g;cases g),λj r=>?_⟩;have x:=yj y d A q j r;refine⟨x,?_⟩;by_cases l:j=i;subst l;exact u.wpOp z t ⟨t,H⟩;have y:=(H.2 j (ready_mono r l)).2;obtain⟨F,p,A,t⟩:=mem_ready.1 r;have J:∀e∈p.after,Region.binds md e=true->e.on≠i:=λe K M B=>by have y:=t e K M;rw[B,getD_both q] at y;cases y
  have t:=wpOp_putIf A (E j p A l F J) (λs b=>D i m s b z) (λs b=>D j p s b A) (λ_ _ _ h=>PanE.put G h) u y;have p:∀k ok,ops[k]? =some ok->k≠i->(c.setIfInBounds j true).getD k true=false->
    (∀e∈ok.after,Region.binds md e=true->e.on≠i)->m.apart ops ok=true:=λk ok m s q u=>by
   refine E k ok m s ?_ u;by_cases m:j=k;subst m;exact F;rw[getD_set_ne true m] at q;exact q
  refine wpOp_mono (λq s m=>⟨m.2.1,I (c.setIfInBounds j true) q s (d.set r x) p (ready_mono g (Ne.symm l)) m.1 m.2.1 ?_⟩) t;rw[hQn _ _ l];exact m.2.2
end
section
variable {c:Cx} {S:Env} {a:Act}
def pU (c:Cx)(T:Env)(b:χ PanicEntry->θ->Prop)(a:χ Oper)(C:θ->Prop):χ (Bool×Nat)->Env->θ->(Env->θ->Prop)->Prop
 |[],S,w,K=>K S w|(true,k)::l,S,w,K=>match V9 a k with
  |some o=>jS a o S (λS=>uQ c o S C λS=>pU c T b a C l S w K) λS=>XD c S o.dst (.v undef) λS=>pU c T b a C l S w K
  |none=>False
 |(false,k)::l,S,w,K=>match V9 a k with
  |some o=>jS a o S (λS=>gF c o S w (λS w=>C w/\pU c T b a C l S w K) (λe S w=>match e with
   |.panic d=>Has T S/\b d w
   |_=>False)) λS=>XD c S o.dst (.v undef) λS=>pU c T b a C l S w K
  |none=>False
theorem Hw (D:c.g.Ok){p:Region.Mode}{b:χ Oper}{C:θ->Prop}{Q:Exit->Act->θ->Prop}{n:Nat}(H:Region.noSelect b.toArray=true){T:Env}(I:b.all (λo=>CN T o.dst)=true)(J:ni p b.toArray n){K:Env->θ->Prop}{L:χ PanicEntry->θ->Prop}:∀(l:χ (Bool×Nat)) (listed:Array Bool) (S:Env) (a:Act) (w:θ),HeadInv p b.toArray n listed->fR p b.toArray n l listed=true->pU c T L b C l S w K->Fits c.N S a->C w->WB c.g.P p b.toArray (PanE c.N T L Q) C n (λM q g=>Region.seqB p b.toArray (b.toArray.size-n) n M=true/\∃f,Fits c.N f q/\K f g) l.length listed a w
 |[],listed,S,a,w,j,s,h,E,A=>⟨s,S,E,h⟩|(true,k)::l,listed,S,a,w,j,s,h,E,A=>by
  simp only[fR,Z4] at s;obtain⟨⟨⟨m,F⟩,W⟩,N⟩:=s;have m:k<n:=by rw[kQ] at m;exact m
  have B:k∈Region.ready p b.toArray listed:=by simpa using F
  obtain⟨_,o,t,_⟩:=mem_ready.1 B;have O:V9 b k=some o:=by rw[jR];simpa using t
  simp only[pU,O] at h;have P:∃v,YieldsIf c.g.P b.toArray C o v a/\∃f,Fits c.N f (a.put o.dst v)/\pU c T L b C l f w K:=by obtain⟨u,R,y,z⟩|⟨u,R,y,z⟩:=np h E;obtain⟨v,U,d⟩:=Bj D z y;exact⟨v,.inl ⟨u,U⟩,d⟩;exact⟨undef,.inr ⟨u,rfl⟩,Jf (e:=.v undef) z y⟩
  obtain⟨v,X,f,G,V⟩:=P;exact pQM t (Region.noSelect_spec H) (Vb.1 I o (Xd (by simpa using t))) J m (λM q g P=>seqB_ready P.1) l.length listed a w j (Region.free_spec t W) B X A
   (Hw D H I J l _ f _ w (j.set B m) N V G A)
 |(false,k)::l,listed,S,a,w,j,s,h,E,A=>by
  simp only[fR,Z4,YX] at s;obtain⟨⟨m,F⟩,N⟩:=s;have m:k<n:=by rw[kQ] at m;exact m
  have B:k∈Region.ready p b.toArray listed:=by rw[F];simp
  obtain⟨_,o,t,_⟩:=mem_ready.1 B;have O:V9 b k=some o:=by rw[jR];simpa using t
  simp only[pU,O] at h;have s:=j.set B m;refine⟨λj=>(by rw[F] at j;cases j),λi B=>?_⟩;rw[F] at B;have j:i=k:=by simpa using B
  subst j;refine⟨m,?_⟩;unfold wpOp;simp only[t];obtain⟨u,R,y,z⟩|⟨u,R,y,z⟩:=np h E;rw[Qf u];refine .inl ?_;have U:=uI D z y;have d:=Oper.wp_mono (K':=λq g=>C g/\WB c.g.P p b.toArray (PanE c.N T L Q) C n (λM q g=>Region.seqB p b.toArray (b.toArray.size-n) n M=true/\∃f,Fits c.N f q/\K f g) l.length (listed.setIfInBounds i true) q g)
   (λq g ⟨f,G,b,j⟩=>⟨b,Hw D H I J l _ f q g s N j G b⟩) U
  unfold Oper.wp at d ⊢;generalize (execOp a.eval o).run c.g.P w=r at*;cases r with
  |ok nx g=>
   cases nx<;>simp only[Oper.upon] at d ⊢ <;> try exact d
   exact d.mono λe j b=>by
    cases e with
    |returned v=>exact b
    |panicked j=>obtain⟨_,j,b⟩:=b;exact⟨b.1.fits j,b.2⟩
    |outgrown=>obtain⟨_,_,_,_,b⟩:=b;exact b.elim
  |halt x g=>cases x<;>simp only[Oper.upon] at d ⊢ <;> first|exact d|(obtain⟨_,j,d⟩:=d;exact⟨d.1.fits j,d.2⟩)|(obtain⟨_,_,d⟩:=d;exact d.elim)
  rw[φ (by rw[u];decide)];obtain⟨f,G,V⟩:=Jf (e:=.v undef) z y;exact⟨A,Hw D H I J l _ f _ w s N V G A⟩
theorem pQN (l:c.g.Ok){id:Nat}{ops:χ Oper}{w:θ}{Q:ZD}(T:Env)(m:ops.all (λo=>CN T o.dst)=true)(i:χ PanicEntry->θ->Prop)(p:∀k w,i k w->Q (.panic k) T w)(C:θ->Prop)(n:Nat)(b:χ (Bool×Nat))
  (hB:(Region.noSelect ops.toArray&&Nat.beq b.length n&&rM .any ops.toArray n&&fR .any ops.toArray n b (Array.replicate ops.toArray.size false))=true) (hC:C w.drew)
  (h:pU {c with named:=1000000} T i ops C b S w.drew λS w=>WA c ops (ops.drop n) S w (λS w=>Q .normal S w) λe S w=>match e with|.panic k=>Has T S/\i k w|_=>False):bf c id ops S w Q:=by
 unfold bf;intro a q;simp only[Z4] at hB;obtain⟨⟨⟨r,d⟩,s⟩,u⟩:=hB;have d:=YV d;have f:=Bi s;have s:n<=ops.length:=by obtain f|f:=f;rw[f];simp;have:=f.1;simp at this;omega
 refine Code.wp_mono (PanE.imp p) (wp_region_any l.mixed ?_);have p:HeadInv .any ops.toArray n (Array.replicate ops.toArray.size false):=
  ⟨by simp,λj s _ d=>(by rw[getD_replicate_false] at d;cases d),λt _ s=>getD_in (by simpa using s) (getD_replicate_false _ _)⟩
 have H:=Hw (c:={c with named:=1000000}) l (Q:=Up c Q) r m f b _ S a _ p u h q hC;have m:(ops.drop n).length=ops.toArray.size-n:=by simp
 have p:=yi (Q:=PanE c.N T i (Up c Q)) (g:=ops.toArray.size-n) (λf q r s=>by
  obtain⟨b,x,u,v⟩:=s;have s:=m7 (c:=c) l ops _ _ _ _ v u;have:=wpAny_of_seq (P:=c.g.P) (md:=.any) (ops:=ops.toArray) (Q':=PanE c.N T i (Up c Q)) (ops.drop n) n f q r (λj=>by simp) (by rw[m];exact b) (pm (λe a w b=>by
   cases e with|normal=>exact b|panic k=>obtain⟨_,f,h⟩:=b;exact⟨h.1.fits f,h.2⟩|_=>exact Xg b (by rintro⟨_,_,h⟩;exact h)) s)
  rwa [m] at this) _ _ _ _ H
 rw[d,show n+(ops.toArray.size-n)=ops.toArray.size by simp;omega] at p;exact p
end
end
section
theorem eQM {a:Λ}{x:DV}{f:Γ}{es:χ EdV}(h:Hk a x):ig a x f es=match W0 a (fF f) [102] with
  |.error p=>.error p.e
  |.ok g=>if¬(es.all (λe=>Ke a.length e.x.nd e.x.r)=true/\ie a.length f 0 (es.map EdV.ed)=true)then .error 291
   else match ib a (oD x) g f (es.map EdV.ed) (QN f) 0 with
    |none=>.error 291
    |some l=>if 1048576<(Qk l).length then .error 2
     else match W0 a (fF (Qk l)) [102] with
      |.error p=>if p.e=2 then .error 2 else .ok (Qk l)
      |.ok _=>.ok (Qk l):=by
 unfold ig;rw[φ (by rw[h.1,h.2];simp)];by_cases c:es.all (λe=>Ke a.length e.x.nd e.x.r)=true;rw[Qf c];unfold CG;cases W0 a (fF f) [102] with|error p=>rfl|ok g=>simp only;by_cases d:ie a.length f 0 (es.map EdV.ed)=true;rw[φ (by rw[d];decide),φ λb=>b ⟨c,d⟩];rfl;rw[Qf (by simpa using d),Qf λb=>d b.2]
 rw[φ c];cases W0 a (fF f) [102] with|error p=>rfl|ok g=>simp only;rw[Qf λb=>c b.1]
theorem Hx {w:θ}{a:θ}{t:Γ}{g:Nat}(b:Blk a g 85 (ci ([102],t))):SlS ci 2 a (some ⟨g,0,none⟩) 1 1 (fF t):=⟨Sl.own (sz:=2) (n:=1) b (Qw _) δ (by simp[ci]),rfl⟩
theorem Hy {t:Γ}(h:∀b∈t,b<256)(a:t.length<=9223372036854775807):∀x∈fF t,FileB x:=λx c=>by rw[Xx.1 c];exact⟨(by decide:∀b∈ [102],b<256),h,by show 1<=_;decide,a⟩
theorem Px (NA:Θ)(nn nc:Nat)(d:Λ)(x:DV)(f:Γ)(EA:Θ)(en ec:Nat)(H:χ EdV)(ju:d.length<=4)(Kq:KH d)(JP:∀s∈d,s.length<=1000)(bI:∀b∈f,b<256)(Zj:f.length<=60000)(Te:∀e∈H, -9223372036854775808<=e.fr/\e.fr<=9223372036854775807/\ -9223372036854775808<=e.to_/\e.to_<=9223372036854775807) (ht:∀e∈H,(∀b∈e.tx,b<256)/\e.tx.length<=1000) (oT:H.length<=10) (w:θ)(hN:Sl w 1 NA nn nc (Xb d)) (hx:SB w x.A x.n x.c x.nd) (kP:SlS XE 5 w EA en ec H) (kK:∀e∈H,SB w e.x.A e.x.n e.x.c e.x.nd):Fn ψ 15 [.slice NA nn nc,Q5 x.A x.n x.c x.r,.string (Qb f),.slice EA en ec] w (λu D=>u=ii (ig d x f H)/\Ext w D):=by
 have I:d.length<=12:=by omega
 have Xr:d.length=nn:=by have:=hN.len;rw[az] at this;omega
 refine Bz (c:={c15 with cuts:=[]}) Qe Tryz.func15 rfl rfl rfl ?_;refine JN (JC Qe ?_);refine new λw0 HU VM zY=>?_;refine new λw1' Qd Q0 Qh=>?_;refine new λw3 Qi JI Qt=>?_;obtain⟨C,hw1⟩:∃C,C=w0:=⟨_,rfl⟩
 obtain⟨E,hw2⟩:∃E,E=w1':=⟨_,rfl⟩
 subst hw1;subst hw2;have KL:=Qd.trans Qi;have QT:=HU.trans KL;have O:C.heap.size≠E.heap.size:=by omega
 refine JN (FZ Qe rfl rfl rfl rfl ⟨_,_,_,_,rfl,rfl,?_⟩);refine JN (JC Qe ?_);refine Qm (zY.ext KL) ?_;generalize m:ig d x f H=M;refine Zl (eQg NA nn nc d x I Kq w3 (hN.ext QT) (hx.ext QT)) ?_ ?_;rotate_left;rintro ch w4 ⟨Xo,rfl,Y⟩;refine dz Qe (asx:= #[]) (cap:= #[.pointer (some ⟨C.heap.size,0,none⟩),.pointer (some ⟨E.heap.size,0,none⟩)]) rfl rfl (args:= #[.pointer (some ⟨C.heap.size,0,none⟩),.pointer (some ⟨E.heap.size,0,none⟩)]) (by simp) ((yY _ _ 1 w4 _ _ O ((Qh.ext Qi).ext Y) (Qt.ext Y)).mono ?_);rintro e u' wK ⟨v,rfl,G,l⟩;refine⟨v,rfl,G,?_⟩;refine QQ l.1 rfl (QQ l.2.1 rfl ?_);have N:M= .error 1:=by
    rw[<-m];unfold ig;rw[Qf (by
     by_cases h1:JG d=true;exact .inr (dt.2 λR=>Xo ⟨h1,R⟩);exact .inl (by simpa using h1))]
 rw[N];exact⟨rfl,l.2.2.ext (QT.trans Y) λi r=>by obtain rfl|rfl:=r <;>omega⟩;rintro _ w4 ⟨Zb,Y⟩;have X4:=QT.trans Y;rw[eQM Zb] at m;have sx:=gY Zb.2;have oU:=(zY.ext KL).ext Y;have mD:=(Qh.ext Qi).ext Y;have eO:=Qt.ext Y;refine JN (JC Qe ?_);refine XM (ci ([102],f)) ?_;intro w5 QH KA QC;have Jh:=X4.trans QH;refine call (cQZ d NA nn nc (fF f) _ 1 1 [102] w5 (hN.ext Jh) Kq I (Hx (w:=w) QC) (Hy bI ω) δ δ) ?_;rintro u6 T ⟨Q7,dN⟩;have XJ:=Jh.trans Q7;have X7:=QH.trans Q7;cases Jq:W0 d (fF f) [102] with
 |error q=>
  rw[Jq] at dN m;have hq:=eQF Jq;subst dN;refine new λw7 Xq aa Q2=>?_;refine new λw8 QY Wj XP=>?_;refine Qo (Q2.ext QY) λw9 J2 VL XX=>?_;have Xy:Mod (·=T.heap.size) w8 w9:=vQB J2 rfl;have jz:¬w7.heap.size=T.heap.size:=by omega
  refine Qo (XP.mod Xy jz) λQu Y9 fu Zo=>?_;have ZI:Mod (·=w7.heap.size) w9 Qu:=vQB Y9 rfl;have kr:Ext T Qu:=ZI.ext (Xy.ext (Xq.trans QY) λi r=>ω) λi r=>ω;have wL:=X7.trans kr;refine JN (JC Qe ?_);refine QQ Zo rfl (Zl (aK q.e hq Qu) (λ_ _ hf=>hf.elim) ?_);rintro ch _ ⟨rfl,rfl⟩;refine dz Qe (asx:= #[]) (cap:= #[.pointer (some ⟨C.heap.size,0,none⟩),.pointer (some ⟨E.heap.size,0,none⟩)]) rfl rfl (args:= #[.pointer (some ⟨C.heap.size,0,none⟩),.pointer (some ⟨E.heap.size,0,none⟩)]) (by simp) ((yY _ _ q.e Qu _ _ O (mD.ext wL) (eO.ext wL)).mono ?_);rintro e u' wK ⟨v,rfl,G,l⟩;refine⟨v,rfl,G,?_⟩;refine QQ l.1 rfl (QQ l.2.1 rfl ?_);have N:M= .error q.e:=m.symm;rw[N];exact⟨rfl,l.2.2.ext (X4.trans wL) λi r=>by obtain rfl|rfl:=r <;>omega⟩
 |ok g=>
  rw[Jq] at dN m;simp only at m;obtain⟨E6,SA,X,SL,rfl,cC⟩:=dN;obtain⟨kM,tQS,tQT,UG⟩:=Pd Jq;obtain⟨MX,ue,xK⟩:=dQd cC;have hMl:=xK.len;refine new λw7 Xq aa Q2=>?_;refine new λw8 QY Wj XP=>?_;refine Qo (Q2.ext QY) λw9 J2 VL XX=>?_;have Xy:Mod (·=T.heap.size) w8 w9:=vQB J2 rfl;have jz:¬w7.heap.size=T.heap.size:=by omega
  refine Qo (XP.mod Xy jz) λQu Y9 fu Zo=>?_;have ZI:Mod (·=w7.heap.size) w9 Qu:=vQB Y9 rfl;have kr:Ext T Qu:=ZI.ext (Xy.ext (Xq.trans QY) λi r=>ω) λi r=>ω;have qZ:=XX.mod ZI λh=>jz h.symm;refine JN (JC Qe ?_);refine QQ Zo rfl (call (OU Qu) ?_);rintro _ _ rfl;have wL:=X7.trans kr;have jt:=X4.trans wL;refine JN (JC Qe ?_);refine Qm (oU.ext wL) (new λQJ Zf kl ZC=>?_);have eF:=jt.trans Zf;have lH:=wL.trans Zf;let p:EP:=⟨Qu.heap.size,NA,nn,nc,d,x,f,EA,en,ec,H⟩
  have hB:EB p:=⟨ju,Kq,JP,bI,Zj,kM,Te,λe he=>(ht e he).1,λe he=>(ht e he).2,oT⟩
  have K:EK QJ p:=⟨ZC,hN.ext eF,kP.ext eF,λe he=>(kK e he).ext eF⟩
  refine JN (JC Qe ?_);refine Zl (pQr p hB QJ K) ?_ ?_;rotate_left;rintro ch Xk ⟨Xo,rfl,Q⟩;refine dz Qe (asx:= #[]) (cap:= #[.pointer (some ⟨C.heap.size,0,none⟩),.pointer (some ⟨E.heap.size,0,none⟩)]) rfl rfl (args:= #[.pointer (some ⟨C.heap.size,0,none⟩),.pointer (some ⟨E.heap.size,0,none⟩)]) (by simp) ((yY _ _ 291 Xk _ _ O ((mD.ext lH).ext Q) ((eO.ext lH).ext Q)).mono ?_);rintro e u' wK ⟨v,rfl,G,l⟩;refine⟨v,rfl,G,?_⟩;refine QQ l.1 rfl (QQ l.2.1 rfl ?_);have N:M= .error 291:=by rw[<-m,Qf Xo]
  rw[N];exact⟨rfl,l.2.2.ext (eF.trans Q) λi r=>by obtain rfl|rfl:=r <;>omega⟩;rintro _ Xk ⟨hV,Q⟩;rw[φ λhh=>hh hV] at m;have gh:=eF.trans Q;have sQI:=lH.trans Q;have K12:=K.ext Q;refine JN (JC Qe ?_);refine JN (JC Qe ?_);refine JN (JC Qe ?_);refine call (GI f Xk bI ω) ?_;rintro _ Zy ⟨PA,pc,rfl,Xc,qD⟩;have aU:=nG kM;have Wc:(Vo f).length=(QN f).length:=by rw[aU,JS]
  rw[Wc] at qD;have qD:Sn Zy PA (QN f).length pc (Z3 (QN f)):=by rw[aU] at qD;exact qD
  have jH:=nE f;have JX:=Wh kM;have uf:=lw f;have vS:=gh.trans Xc;have zZ:=sQI.trans Xc;have K13:=K12.ext Xc;have Lk:=qZ.ext (Zf.trans (Q.trans Xc));have sQJ:=ue.ext (kr.trans (Zf.trans (Q.trans Xc)));have vQv:(QN f).length<=60000:=by have:=uf.1;omega
  have UH:∀s∈(QN f),sn s:=λs S=>by exact⟨λb hb=>bI b (vx _ s S b hb),by have:=uf.2 s S;omega⟩
  have tQU:∀e∈H.map EdV.ed,(∀b∈e.tx,b<256)/\e.tx.length<=1000:=λe he=>by obtain⟨e0,tE,rfl⟩:=Z5.1 he;exact ht e0 tE
  have SP:∀o:BF,(QW d.length o).length<=16:=λo=>XU (eQw _ _) (XU (bZ δ ju) δ);have hQh:g.sg.length<=65536:=E6.sl;have xL:∀i,(Qk ((QN f).take i)).length<=60000:=λi=>by
   have A:∀a b:Λ,Qk (a++b)=Qk a++Qk b:=λa b=>by simp[Qk]
   have e5:Qk (QN f)=Qk ((QN f).take i)++Qk ((QN f).drop i):=by rw[<-A,jK]
   have:=QG List.length e5;rw[JX,Qy] at this;omega
  refine loop Qe [46,13,14,15] (λt:Nat×Λ×Θ×Nat×Nat=>[.int .i64 t.1,.slice t.2.2.1 t.2.1.length t.2.2.2.1,.int .i64 (Qk ((QN f).take t.1)).length,.int .i64 t.2.2.2.2]) (λt D=>Lo Zy D t.2.2.1 t.2.1.length t.2.2.2.1 t.2.1/\t.1<=(QN f).length/\ApR d (oD x) g f (H.map EdV.ed) (QN f) t.1 t.2.1/\(∀j y,g.sg[j]? =some y->j<t.2.2.2.2->y.at_+(y.t-y.f)<=(Qk ((QN f).take t.1)).length)/\t.2.1.length<=t.1*16000048/\(∀u∈t.2.1,sn u)/\t.2.2.2.2<=g.sg.length) (λt _=>(QN f).length-t.1) (0,[],none,0,0) rfl ⟨⟨Ext.refl _,Own.nil _ _ _ _⟩,Q9 _,ApR.zero,λj y _ W=>Xg W (Nat.not_lt_zero _),Q9 _,(λu A=>by cases A),Q9 _⟩ ?_;rintro⟨i,L,LA,lc,seg⟩ Ze ⟨xM,r,YC,UI,rh,mM,hQi⟩;simp only at xM r YC UI rh mM hQi;have oC:=xM.e;have lL:=vS.trans oC;have Ll:=zZ.trans oC;refine Ql (λc1=>?_) λc1=>?_
  ·have QD:i<(QN f).length:=by simp only at c1;omega
   obtain⟨s,S⟩:∃s,(QN f)[i]? =some s:=⟨_,Q6 QD⟩
   have eP:=Xd S;have bJ:=UH s eP;have rv:=pT S;have Tf:=xL (i+1);have V5:=Hv (p:=0) S;rw[YW] at V5;refine Zq (cs:=Z3 (QN f)) (by rw[Wc];exact qD.1.ext oC) (by rw[Wc];exact QD) λad u hA A QO=>?_;rw[VH S] at A;cases A;refine load QO (call (GY (s++ [10]) Ze (dL bJ.1)) ?_);rintro _ Ju ⟨rfl,Zi⟩;have mJ:(Qb (s++ [10])).size=s.length+1:=by rw[QZ];simp
   have tV:(i+1)*16000048=i*16000048+16000048:=by omega
   rw[vm];refine Ql (λd1=>?_) λd1=>?_;refine XM [Value.string (Qb (s++ [10]))] ?_;intro KC KD Ds Yt;have vW:=Zi.trans KD;have RT:Sl KC 1 (some ⟨Ju.heap.size,0,none⟩) 1 1 (Z3 [s]):=Sl.own' (n:=1) Yt rfl δ;refine XV (n:=L.length) (xM.ext vW).ow RT (Vq _) (by unfold maxLen;omega) (xM.ext vW).e.size ?_ (b:=(by show(L.length+1)*16<=_;omega));intro LA2 Tg JO sQK lY uQ4;have sQL:=(xM.ext vW).app sQK lY;refine Qz ((Qk ((QN f).take (i+1))).length:Int) ?_ (hm:=by show((Qk ((QN f).take i)).length:Int)+((Qb (s++ [10])).size:Int)=_;rw[mJ,rv];omega);refine QF i ?_;refine⟨(i+1,L++ [s],LA2,Tg,seg),by simp only[Qy];rfl,⟨by simp only[Qy];exact sQL,QD,YC.next S (by rw[φ d1]),λj y hy W=>by have:=UI j y hy W;simp only;omega,by simp only[Qy,mV];omega,λu A=>?_,hQi⟩,QL⟩;obtain A|A:=X2.1 A;exact mM u A;rw[Xx.1 A];exact bJ
   ·have jJ:X3 s= .txt:=Decidable.not_not.1 d1;obtain⟨kk,σ,y,J⟩:=eQL Jq V5 jJ;have J:SegAt g (Qk ((QN f).take i)).length kk σ y:=J;have tQV:=J.cnd;have hσ:σ<g.sg.length:=(ZK.1 J.get).1;have hsσ:seg<=σ:=by
     apply Classical.byContradiction;intro hh;have:=UI σ y J.get ω;have:=J.hi;omega
    have Ac:=oC.trans Zi;have RR:=Lk.ext Ac;have sQM:=sQJ.ext Ac;have QO:∀{D:θ} (_:Ext Ju D) (B:Nat) (z:Sx),MX[B]? =some z->∃q,g.sg[B]? =some q/\z.f=q.f/\z.t=q.t/\z.at_=q.at_/\Set1 d.length z.x.nd z.x.r q.o:=λ_ B z hz=>by
     have Xn:=(ZK.1 hz).1;obtain⟨q,hq⟩:∃q,g.sg[B]? =some q:=⟨_,Q6 ω⟩
     obtain⟨a1,a2,a3,a4,a5⟩:=xK.get hq hz;exact⟨q,hq,a1,a2,a4,a5⟩
    refine loop Qe [15] (λB:Nat=>[.int .i64 B]) (λB D=>Ext Ju D/\B<=σ) (λB _=>σ-B) seg rfl ⟨Ext.refl _,hsσ⟩ ?_;rintro B KC ⟨KD,cC⟩;have Th:=RR.ext KD;have Ti:=sQM.ext KD;have Tj:=Ext.drew KC;obtain⟨q0,WT⟩:∃q0,g.sg[B]? =some q0:=⟨_,Q6 ω⟩
    have xN:=UG.ok q0 (Xd WT);have hqf:=xN.ft;have Mh:=xN.tl;obtain⟨x0,fy,Yq,_⟩:=xN.src;have tQW:x0.2.length<=60000:=by
     have:q0.fl=0:=by have:=(ZK.1 fy).1;simpa [fF] using this
     rw[this] at fy;have:x0=([102],f):=(Option.some.inj fy).symm;rw[this];exact Zj
    have vQw:=E6.tl;refine Xw (Ext KC) 22 (oz 22 0 []) Tj (Qx (v:=.slice SA g.sg.length X) (λD F=>(Th.ext F).cell 1) (XG Cu Ti.sl rfl ω λpd z hz hc=>?_));obtain⟨q1,tg,z1,z2,z3,z4⟩:=QO KD B z hz;rw[WT] at tg;cases tg;refine Qx (v:=.int .i64 z.at_) (λD F=>F.cell (hc 3 _ rfl)) (Qx (v:=.slice SA g.sg.length X) (λD F=>(Th.ext F).cell 1) (XG Cu Ti.sl rfl ω λpd2 z' Z JW=>?_));rw[hz] at Z;cases Z;refine Qx (v:=.int .i64 z.t) (λD F=>F.cell (JW 1 _ rfl)) (Qz ((q0.at_+q0.t:Nat):Int) (Qx (v:=.slice SA g.sg.length X) (λD F=>(Th.ext F).cell 1) (XG Cu Ti.sl rfl ω λpd3 z' Z gl=>?_)));rw[hz] at Z;cases Z;refine Qx (v:=.int .i64 z.f) (λD F=>F.cell (gl 0 _ rfl)) (Qz ((q0.at_+(q0.t-q0.f):Nat):Int) (Ql (λc3=>?_) λc3=>?_));have Xn:B<σ:=by
     apply Classical.byContradiction;intro hh;have:B=σ:=by omega
     subst this;rw[J.get] at WT;cases WT;have:=J.hi;simp only at c3;omega
    refine QF B ?_;exact⟨B+1,rfl,⟨KD.trans Tj,ω⟩,QL⟩
    ·have Xn:B=σ:=by
      apply Classical.byContradiction;intro hh;have:=J.first B q0 WT ω;simp only at c3;omega
     subst Xn;rw[J.get] at WT;cases WT;have fH:QW d.length (λe=>oD x e&&y.o e)=QW d.length (Jw (oD x) (jh g (Qk ((QN f).take i)).length)):=by rw[tQV,<-J.o]
     have sW:Ext Ze KC.drew:=Zi.trans (KD.trans Tj);have oE:=lL.trans sW;have qE:=oC.trans sW;have gQH:=xM.ext sW;have di:=gQH.ow.rows;generalize KC.drew=JO at*;have YT:=Ext.drew JO;have z13:=zZ.size;have sQN:=oU.ext (zZ.trans qE);have gQI:Ext T JO:=(kr.trans (Zf.trans (Q.trans Xc))).trans qE;have sQH:=(kr.trans (Zf.trans (Q.trans Xc))).size;have nx:¬Qj LA w.heap.size:=λh=>by have:=(di _ h).1;have:=oU.lt;omega
     have nS:¬Qj LA T.heap.size:=λh=>by have:=(di _ h).1;have:=Lk.lt;omega
     have sQO:=Lk.ext qE;have hcL:LA=LA:=rfl;refine pQN Qe [(8,.v (.pointer (some ⟨C.heap.size,0,none⟩))),(9,.v (.pointer (some ⟨E.heap.size,0,none⟩)))] rfl (λch D=>dM d f (H.map EdV.ed) (QW d.length λe=>oD x e&&y.o e) (Qk ((QN f).take i)).length s=none/\ch=nN 291/\Ext JO D) (λch V hp=>by
      obtain⟨Xo,rfl,wM⟩:=hp;refine dz Qe (asx:= #[]) (cap:= #[.pointer (some ⟨C.heap.size,0,none⟩),.pointer (some ⟨E.heap.size,0,none⟩)]) rfl rfl (args:= #[.pointer (some ⟨C.heap.size,0,none⟩),.pointer (some ⟨E.heap.size,0,none⟩)]) (by simp) ((yY _ _ 291 V _ _ O (mD.ext (zZ.trans (qE.trans wM))) (eO.ext (zZ.trans (qE.trans wM)))).mono ?_);rintro e u' wK ⟨v,rfl,G,l⟩;refine⟨v,rfl,G,?_⟩;refine QQ l.1 rfl (QQ l.2.1 rfl ?_);have N:M= .error 291:=by rw[<-m,YC.none S (by rw[Qf jJ,<-fH];exact Xo)]
      rw[N];exact⟨rfl,l.2.2.ext (X4.trans (zZ.trans (qE.trans wM))) λi r=>by obtain rfl|rfl:=r <;>omega⟩) (Mod (Qj LA) JO) 15 (oz 11 0 [(false,11),(false,12),(false,13),(true,14)]) κ (Mod.of_ext _ YT) ?_
     refine Xe (vs:=x.cells) rfl (λD F k u I=>by rw[(sQN.mod F nx).cell];exact I) (Qx (v:=.slice SA g.sg.length X) (λD F=>(sQO.mod F nS).cell 1) (XG Cu ue.sl rfl ω λpd4 z' Z Il=>?_));rw[hz] at Z;cases Z;have Mj:pd4.block<T.heap.size:=by have:=World.block_lt_of_cell? T _ (Il 4 _ rfl);rwa [fQ] at this
     have npd:¬Qj LA pd4.block:=λh=>by have:=(di _ h).1;have:=Lk.lt;omega
     refine Xe (vs:=[.slice z.x.A z.x.n z.x.c,.int .i64 z.x.r]) rfl (λD F k u I=>by
      rw[add_add];refine F.cell (gQI.cell (Il (4+k) u (by match k,I with|0,I=>exact I|1,I=>exact I))) (by rw[fQ];exact npd)) ?_
     have Ku:Set1 d.length z.x.nd z.x.r y.o:=z4;have qY:=(ue.dg z (Xd hz)).ext gQI;refine call (sf I x z.x JO.drew ((hx.ext oE).ext YT) (qY.ext YT) sx Ku) ?_;rintro _ U ⟨QA,Qn,Qc,Qnd,Qr,rfl,dV,sQP,sQ,_⟩;have Lm:=YT.trans dV;refine⟨Mod.of_ext _ Lm,?_⟩;have sY:=qE.trans Lm;refine Zl (pQK p hB hV (Qk ((QN f).take i)).length s V5 ⟨QA,Qn,Qc,Qnd,Qr⟩ _ U (K13.ext sY) sQP sQ) ?_ ?_;rotate_left;rintro ch V ⟨Xo,rfl,jr⟩;exact⟨rfl,Xo,rfl,Lm.trans jr⟩;rintro u19 V ⟨Lx,t7,A19,c19,rfl,jr,Tk⟩;have wM:=Lm.trans jr;refine⟨Mod.of_ext _ wM,?_⟩;have t7:dM d f (H.map EdV.ed) (QW d.length λe=>oD x e&&y.o e) (Qk ((QN f).take i)).length s=some Lx:=t7;rw[fH] at t7;obtain⟨lx1,Tl⟩:=eQJ Kq JP bI Zj tQU (by rw[JS];exact oT) (SP _) bJ t7;have hmx:(Lx.map (·++ [10])).length=Lx.length:=by rw[JS]
     have Lp:i*16000048<=60000*16000048:=aY _ ω;have Tm:=gQH.ext wM;refine XV (n:=L.length) Tm.ow Tk.1 (Vq _) (by unfold maxLen;omega) Tm.e.size ?_ (b:=(by show(L.length+(Lx.map (·++ [10])).length)*16<=_;omega));intro LA2 Tg Jx zG Lq Ie;have sQQ:Mod (Qj LA) JO Jx:=(Mod.of_ext (Qj LA) wM).trans zG λ_=>.inl;refine⟨sQQ,?_⟩;have gQJ:=Tm.app zG Lq;refine Qz ((Qk ((QN f).take (i+1))).length:Int) ?_ (hm:=by show((Qk ((QN f).take i)).length:Int)+((Qb (s++ [10])).size:Int)=_;rw[mJ,rv];omega);refine QF i ?_;refine⟨(i+1,L++Lx,LA2,Tg,B),by simp only[Qy,JS];rfl,⟨by simp only[Qy];rw[hmx] at gQJ;exact gQJ,QD,YC.next S (by rw[Qf jJ];exact t7),λj y' qQ W=>by have:=J.first j y' qQ W;simp only;omega,by simp only[Qy];omega,λu A=>?_,by simp only;omega⟩,QL⟩;obtain A|A:=X2.1 A;exact mM u A;exact Tl u A
  ·have QD:i=(QN f).length:=by simp only at c1;omega
   have Aw:=YC.fin ω;rw[Aw] at m;simp only at m;obtain⟨LA',lc',DM,_,Lt⟩:=xM.fin (Ext.refl Zy);simp only[Value.slice.injEq,JS] at DM;obtain⟨rfl,_,rfl⟩:=DM;have Lp:L.length<=60000*16000048:=XU rh (aY _ ω);have hub:(Qk L).length<=1000000000000000000:=by have h1:=CM (M:=1000000) λu A=>(mM u A).2;have R:=aY (1000000+1) Lp;omega
   have Lt:Sn Ze LA L.length lc (Z3 L):=by rw[JS] at Lt;exact Lt
   have wz:∀b∈Qk L,b<256:=λb hb=>by obtain⟨u,A,hb⟩:=ay.1 hb;exact dL (mM u A).1 b hb
   refine JN (JC Qe ?_);refine Zl (eQf LA L.length lc L Ze Lt hub) ?_ ?_;rotate_left;rintro ch _ ⟨dW,rfl,rfl⟩;refine dz Qe (asx:= #[]) (cap:= #[.pointer (some ⟨C.heap.size,0,none⟩),.pointer (some ⟨E.heap.size,0,none⟩)]) rfl rfl (args:= #[.pointer (some ⟨C.heap.size,0,none⟩),.pointer (some ⟨E.heap.size,0,none⟩)]) (by simp) ((yY _ _ 2 Ze _ _ O (mD.ext Ll) (eO.ext Ll)).mono ?_);rintro e u' wK ⟨v,rfl,G,l⟩;refine⟨v,rfl,G,?_⟩;refine QQ l.1 rfl (QQ l.2.1 rfl ?_);have N:M= .error 2:=by rw[<-m,Qf dW]
   rw[N];exact⟨rfl,l.2.2.ext (X4.trans Ll) λi r=>by obtain rfl|rfl:=r <;>omega⟩;rintro _ Ju ⟨Vv,rfl,Zi⟩;rw[φ ω] at m;have gQK:=Ll.trans Zi;have tz:=lL.trans Zi;refine VW (mD.ext gQK) (by simp[Ki]) λKC qx Yt=>?_;have Yt:Blk KC C.heap.size 9 [.string (Qb (Qk L))]:=Yt;have tF:Ext w KC:=qx.ext tz λi r=>ω;have gQL:=(eO.ext gQK).mod qx O.symm;refine JN (JC Qe ?_);refine QQ Yt rfl (XM (ci ([102],Qk L)) ?_);intro JO Y6 S4 fB;have oE:=tF.trans Y6;refine call (cQZ d NA nn nc (fF (Qk L)) _ 1 1 [102] JO (hN.ext oE) Kq I (Hx (w:=w) fB) (Hy wz ω) δ δ) ?_;rintro u18 U ⟨dV,Lu⟩;have gQM:=Y6.trans dV;have fin:∀(P:τ) (q:Pl) (U:θ),True:=λ_ _ _=>trivial;cases YO:W0 d (fF (Qk L)) [102] with
   |error q=>
    rw[YO] at Lu m;simp only at m;subst Lu;refine new λV jr RG qr=>?_;refine new λJx ah s6 cU=>?_;refine Qo (qr.ext ah) λdR Du gQN sZ=>?_;have og:Mod (·=U.heap.size) Jx dR:=vQB Du rfl;have Tn:¬V.heap.size=U.heap.size:=by omega
    refine Qo (cU.mod og Tn) λWq To sQR wg=>?_;have Tp:Mod (·=V.heap.size) dR Wq:=vQB To rfl;have Tq:Ext U Wq:=Tp.ext (og.ext (jr.trans ah) λi r=>ω) λi r=>ω;have wN:=gQM.trans Tq;have Ad:=Yt.ext wN;have Mk:=gQL.ext wN;have Ae:=tF.trans wN;refine QQ wg rfl (X0 (λR=>?_) λR=>?_);have R:q.e=2:=R;rw[Qf R] at m;refine Zl (aK 2 δ Wq) (λ_ _ hf=>hf.elim) ?_;rintro ch _ ⟨rfl,rfl⟩;refine dz Qe (asx:= #[]) (cap:= #[.pointer (some ⟨C.heap.size,0,none⟩),.pointer (some ⟨E.heap.size,0,none⟩)]) rfl rfl (args:= #[.pointer (some ⟨C.heap.size,0,none⟩),.pointer (some ⟨E.heap.size,0,none⟩)]) (by simp) ((yY _ _ 2 Wq _ _ O Ad Mk).mono ?_);rintro e u' wK ⟨v,rfl,G,l⟩;refine⟨v,rfl,G,?_⟩;refine QQ l.1 rfl (QQ l.2.1 rfl ?_);have N:M= .error 2:=m.symm;rw[N];exact⟨rfl,l.2.2.ext Ae λi r=>by obtain rfl|rfl:=r <;>omega⟩;have R:q.e≠2:=R;rw[φ R] at m;refine JC Qe (QQ Ad rfl (VW Ad (by simp) λEi Ej lF=>?_));refine VW (Mk.mod Ej O.symm) (by simp[Ki]) λEk qe lI=>?_;refine yq Qe rfl rfl (.inl rfl) (args:= #[.pointer (some ⟨C.heap.size,0,none⟩),.pointer (some ⟨E.heap.size,0,none⟩)]) (by simp) ((eQj _ _ Ek).mono ?_);rintro e u' wK ⟨v,rfl,G,rfl⟩;refine⟨v,rfl,G,?_⟩;refine QQ (lF.mod qe O) rfl (QQ lI rfl ?_);exact⟨by rw[<-m];rfl,qe.ext (Ej.ext Ae λj W=>ω) λj W=>ω⟩
   |ok g2=>
    rw[YO] at Lu m;simp only at m;obtain⟨_,SA2,sc2,SL2,rfl,_⟩:=Lu;refine new λV jr RG qr=>?_;refine new λJx ah s6 cU=>?_;refine Qo (qr.ext ah) λdR Du gQN sZ=>?_;have og:Mod (·=U.heap.size) Jx dR:=vQB Du rfl;have Tn:¬V.heap.size=U.heap.size:=by omega
    refine Qo (cU.mod og Tn) λWq To sQR wg=>?_;have Tp:Mod (·=V.heap.size) dR Wq:=vQB To rfl;have Tq:Ext U Wq:=Tp.ext (og.ext (jr.trans ah) λi r=>ω) λi r=>ω;have wN:=gQM.trans Tq;have Ad:=Yt.ext wN;have Mk:=gQL.ext wN;have Ae:=tF.trans wN;refine QQ wg rfl (X6 δ (JC Qe (QQ Ad rfl (VW Ad (by simp) λEi Ej lF=>?_))));refine VW (Mk.mod Ej O.symm) (by simp[Ki]) λEk qe lI=>?_;refine yq Qe rfl rfl (.inl rfl) (args:= #[.pointer (some ⟨C.heap.size,0,none⟩),.pointer (some ⟨E.heap.size,0,none⟩)]) (by simp) ((eQj _ _ Ek).mono ?_);rintro e u' wK ⟨v,rfl,G,rfl⟩;refine⟨v,rfl,G,?_⟩;refine QQ (lF.mod qe O) rfl (QQ lI rfl ?_);exact⟨by rw[<-m];rfl,qe.ext (Ej.ext Ae λj W=>ω) λj W=>ω⟩
theorem pV {k:Nat}{x:DV}{o:BF}(s:Set1 k x.nd x.r o):oD x=o:=funext λe=>s.mean e
theorem Py {k v:Nat}(a:v<k)(b:k<=12)(w:θ):Fn ψ 34 [.int .i64 v] w (r5 w k λe=>e v):=by refine(N0 (v:Int) w ω ω).mono ?_;rintro u g ⟨A,n,c,rfl,b,d,f⟩;exact⟨A,n,c,_,_,rfl,b,d,GW a ω,f⟩
theorem Pz {k:Nat}(b:k<=12)(x:DV){o:BF}(w:θ)(h:SB w x.A x.n x.c x.nd)(s:Set1 k x.nd x.r o):Fn ψ 35 [Q5 x.A x.n x.c x.r] w (r5 w k λe=> !o e):=by refine(N7 x.A x.n x.c x.nd x.r w h).mono ?_;have a:Set1 k [] 0 (λ_=>false):=Y0 k false;rw[i9 b s a 3];have b:Set1 k _ _ (λe=> !o e):=(fj s a 3).congr (λe=>by simp[J5]);generalize Wg x.nd x.r [] 0 3=D at*;obtain⟨a,d⟩:=D;rintro u g ⟨A,n,c,rfl,a,d,f⟩;exact⟨A,n,c,_,_,rfl,a,d,b,f⟩
theorem eQN {k:Nat}(c:k<=12)(x y:DV){o a:BF}(w:θ)(h:SB w x.A x.n x.c x.nd)(d:SB w y.A y.n y.c y.nd)(s:Set1 k x.nd x.r o)(b:Set1 k y.nd y.r a):Fn ψ 36 [Q5 x.A x.n x.c x.r,Q5 y.A y.n y.c y.r] w (r5 w k λe=>o e&&a e):=by refine(Cj x.A x.n x.c x.nd x.r y.A y.n y.c y.nd y.r w h d).mono ?_;rw[i9 c s b 0];have c:Set1 k _ _ (λe=>o e&&a e):=(fj s b 0).congr (λe=>by simp[J5]);generalize Wg x.nd x.r y.nd y.r 0=D at*;obtain⟨a,b⟩:=D;rintro v l ⟨d,q,f,rfl,g,i,j⟩;exact⟨d,q,f,a,b,rfl,g,i,c,j⟩
def pQO (r:Except Int (Γ))(t:Γ):Bool:=match r with|.ok l=>decide (l=t)|.error _=>false
def Yd:Λ:=[[65],[66]]
theorem PB:KH Yd:=λs a=>by simp only[Yd,XI,d5,eX] at a;obtain rfl|rfl:=a <;>exact⟨δ,δ⟩
theorem PC:∀s∈Yd,s.length<=1000:=by decide
def Hz (a b:Γ):Except Int (Γ):=lu Yd (λ_=>true) [⟨λe=>e 0,a⟩,⟨λe=> !e 0,b⟩]
theorem PD (c i want:Γ)(O:(∀b∈c,b<256)/\c.length<=2000)(P:(∀b∈i,b<256)/\i.length<=2000)(w:θ)(Q:Hz c i= .ok want):Fn ψ 38 [.string (Qb c),.string (Qb i),.string (Qb want)] w (λu a=>u= .bool true/\Ext w a):=by
 refine QK c38 [] Tryz.func38 ?_;refine call (Py (k:=2) (v:=0) δ δ w) ?_;rintro _ g ⟨l,m,o,t,p,rfl,h,J,s,_⟩;refine new λf j r d=>?_;refine Qo d λw3 r _ f=>?_;have E:Ext g w3:=X1 j d r;refine Qm f (call (Pz (k:=2) δ ⟨l,m,o,t,p⟩ w3 (J.ext E) s) ?_);rintro _ g ⟨y,z,A,C,B,rfl,j,F,K,_⟩;refine new λD r G d=>?_;refine Qo d λw6 D _ R=>?_;have L:Ext g w6:=X1 r d D;have G:=j.trans L;have D:=h.trans (E.trans G);have I:=f.ext G;have H:=Ext.drew w6;have j:∀(f:Θ) (g:Nat) (h:Θ) (r:Nat) (a:θ),Ext w6 a->Sl a 1 f 2 g (Xb Yd)->SlS KX 3 a h 2 r [(⟨l,m,o,t,p⟩,c),(⟨y,z,A,C,B⟩,i)]->
   Fn ψ 24 [.slice f 2 g,Q5 none 0 0 1,.slice h 2 r] a (λu M=>u= .tuple #[.string (Qb want),.int .i64 0]/\Ext a M):=λf g h r a N S T=>by
  refine(Po f 2 g Yd ⟨none,0,0,[],1⟩ h 2 r _ δ PB PC (λq d=>by
   simp only[XI,d5,eX] at d;obtain rfl|rfl:=d;exact O;exact P) a S (SlS.nil _) T (λq d=>by
   simp only[XI,d5,eX] at d;obtain rfl|rfl:=d;exact J.ext (E.trans (G.trans N));exact F.ext (L.trans N))).mono ?_
  rintro u M ⟨rfl,f⟩;refine⟨?_,f⟩;have sc:Set1 2 [] 1 (λ_=>true):=Y0 2 true;rw[eQe (nm:=Yd) (x:=⟨none,0,0,[],1⟩) δ (nK (x:=⟨none,0,0,[],1⟩) δ sc).1 (λq d=>by
   simp only[XI,d5,eX] at d;obtain rfl|rfl:=d;exact(nK δ s).1;exact(nK δ K).1)]
  have d:oD ⟨none,0,0,[],1⟩=λ_=>true:=pV (x:=⟨none,0,0,[],1⟩) sc;have f:oD ⟨l,m,o,t,p⟩=λe=>e 0:=pV (x:=⟨l,m,o,t,p⟩) s
  have g:oD ⟨y,z,A,C,B⟩=λe=> !e 0:=pV (x:=⟨y,z,A,C,B⟩) K;rw[d];have d:Ja [((⟨l,m,o,t,p⟩:DV),c),(⟨y,z,A,C,B⟩,i)]=[⟨λe=>e 0,c⟩,⟨λe=> !e 0,i⟩]:=by simp only[Ja,YD,List.map_nil,f,g]
  rw[d];have:lu Yd (λ_=>true) [⟨λe=>e 0,c⟩,⟨λe=> !e 0,i⟩]= .ok want:=Q;rw[this]<;>rfl
 refine nM Qe (Ext w6) 15 (.quiet 2 (.quiet 3 (.quiet 4 (.quiet 5 (.quiet 6 (.quiet 7 (.fork 0 (.fork 1 (.fork 8 (.fork 9 (.quiet 10 (.quiet 11 (.quiet 12 (.quiet 13 (.quiet 14 .done))))) .skip) .skip) (.fork 8 (.fork 1 (.fork 9 (.quiet 10 (.quiet 11 (.quiet 12 (.quiet 13 (.quiet 14 .done))))) .skip) .skip) .skip)) (.fork 1 (.fork 0 (.fork 8 (.fork 9 (.quiet 10 (.quiet 11 (.quiet 12 (.quiet 13 (.quiet 14 .done))))) .skip) .skip) (.fork 8 (.fork 0 (.fork 9 (.quiet 10 (.quiet 11 (.quiet 12 (.quiet 13 (.quiet 14 .done))))) .skip) .skip) .skip)) (.fork 8 (.fork 0 (.fork 1 (.fork 9 (.quiet 10 (.quiet 11 (.quiet 12 (.quiet 13 (.quiet 14 .done))))) .skip) .skip) (.fork 1 (.fork 0 (.fork 9 (.quiet 10 (.quiet 11 (.quiet 12 (.quiet 13 (.quiet 14 .done))))) .skip) .skip) .skip)) .skip))))))))) κ H (Xe (vs:=[.slice l m o,.int .i64 p]) rfl (λa d k u f=>by rw[(I.ext d).cell];exact f) (Xe (vs:=[.slice y z A,.int .i64 B]) rfl (λa d k u f=>by rw[(R.ext d).cell];exact f) ?_));refine⟨?_,?_,?_,trivial⟩;refine WC [Value.string (Qb [65])] [Value.string (Qb [66])] ?_;intro L E _ K;have r:=H.trans E;refine⟨r,?_⟩;refine⟨?_,?_,trivial⟩;refine call (fW true _) ?_;rintro _ F ⟨rfl,h⟩;have f:=r.trans h;refine⟨f,?_⟩;refine⟨?_,trivial⟩;refine WC (KX (⟨l,m,o,t,p⟩,c)) (KX (⟨y,z,A,C,B⟩,i)) ?_;intro s d _ I;have a:=f.trans d;refine⟨a,?_⟩;refine⟨?_,trivial⟩;refine call (j _ 2 _ 2 s a (Sl.own' (n:=2) (K.ext (h.trans d)) rfl δ) ⟨Sl.own (sz:=3) (n:=2) I (Qw _) δ (by simp[KX]),rfl⟩) ?_;rintro _ G ⟨rfl,g⟩;refine⟨a.trans g,?_⟩;refine Q3 rfl ?_;exact⟨QG Value.bool (Zg rfl),D.trans (a.trans g)⟩;refine WC (KX (⟨l,m,o,t,p⟩,c)) (KX (⟨y,z,A,C,B⟩,i)) ?_;intro F h _ J;have f:=r.trans h;refine⟨f,?_⟩;refine⟨?_,trivial⟩;refine call (fW true _) ?_;rintro _ s ⟨rfl,d⟩;have a:=f.trans d;refine⟨a,?_⟩;refine⟨?_,trivial⟩;refine call (j _ 2 _ 2 s a (Sl.own' (n:=2) (K.ext (h.trans d)) rfl δ) ⟨Sl.own (sz:=3) (n:=2) (J.ext d) (Qw _) δ (by simp[KX]),rfl⟩) ?_;rintro _ G ⟨rfl,g⟩;refine⟨a.trans g,?_⟩;refine Q3 rfl ?_;exact⟨QG Value.bool (Zg rfl),D.trans (a.trans g)⟩;refine call (fW true _) ?_;rintro _ L ⟨rfl,E⟩;have r:=H.trans E;refine⟨r,?_⟩;refine⟨?_,?_,trivial⟩;refine WC [Value.string (Qb [65])] [Value.string (Qb [66])] ?_;intro F h _ K;have f:=r.trans h;refine⟨f,?_⟩;refine⟨?_,trivial⟩;refine WC (KX (⟨l,m,o,t,p⟩,c)) (KX (⟨y,z,A,C,B⟩,i)) ?_;intro s d _ I;have a:=f.trans d;refine⟨a,?_⟩;refine⟨?_,trivial⟩;refine call (j _ 2 _ 2 s a (Sl.own' (n:=2) (K.ext d) rfl δ) ⟨Sl.own (sz:=3) (n:=2) I (Qw _) δ (by simp[KX]),rfl⟩) ?_;rintro _ G ⟨rfl,g⟩;refine⟨a.trans g,?_⟩;refine Q3 rfl ?_;exact⟨QG Value.bool (Zg rfl),D.trans (a.trans g)⟩;refine WC (KX (⟨l,m,o,t,p⟩,c)) (KX (⟨y,z,A,C,B⟩,i)) ?_;intro F h _ J;have f:=r.trans h;refine⟨f,?_⟩;refine⟨?_,trivial⟩;refine WC [Value.string (Qb [65])] [Value.string (Qb [66])] ?_;intro s d _ I;have a:=f.trans d;refine⟨a,?_⟩;refine⟨?_,trivial⟩;refine call (j _ 2 _ 2 s a (Sl.own' (n:=2) I rfl δ) ⟨Sl.own (sz:=3) (n:=2) (J.ext d) (Qw _) δ (by simp[KX]),rfl⟩) ?_;rintro _ G ⟨rfl,g⟩;refine⟨a.trans g,?_⟩;refine Q3 rfl ?_;exact⟨QG Value.bool (Zg rfl),D.trans (a.trans g)⟩;refine WC (KX (⟨l,m,o,t,p⟩,c)) (KX (⟨y,z,A,C,B⟩,i)) ?_;intro L E _ c;have r:=H.trans E;refine⟨r,?_⟩;refine⟨?_,?_,trivial⟩;refine WC [Value.string (Qb [65])] [Value.string (Qb [66])] ?_;intro F h _ K;have f:=r.trans h;refine⟨f,?_⟩;refine⟨?_,trivial⟩;refine call (fW true _) ?_;rintro _ s ⟨rfl,d⟩;have a:=f.trans d;refine⟨a,?_⟩;refine⟨?_,trivial⟩;refine call (j _ 2 _ 2 s a (Sl.own' (n:=2) (K.ext d) rfl δ) ⟨Sl.own (sz:=3) (n:=2) (c.ext (h.trans d)) (Qw _) δ (by simp[KX]),rfl⟩) ?_;rintro _ G ⟨rfl,g⟩;refine⟨a.trans g,?_⟩;refine Q3 rfl ?_;exact⟨QG Value.bool (Zg rfl),D.trans (a.trans g)⟩;refine call (fW true _) ?_;rintro _ F ⟨rfl,h⟩;have f:=r.trans h;refine⟨f,?_⟩;refine⟨?_,trivial⟩;refine WC [Value.string (Qb [65])] [Value.string (Qb [66])] ?_;intro s d _ I;have a:=f.trans d;refine⟨a,?_⟩;refine⟨?_,trivial⟩;refine call (j _ 2 _ 2 s a (Sl.own' (n:=2) I rfl δ) ⟨Sl.own (sz:=3) (n:=2) (c.ext (h.trans d)) (Qw _) δ (by simp[KX]),rfl⟩) ?_;rintro _ G ⟨rfl,g⟩;refine⟨a.trans g,?_⟩;refine Q3 rfl ?_;exact⟨QG Value.bool (Zg rfl),D.trans (a.trans g)⟩
def vy (a:Γ)(e:Ed):Except Int (Γ):=CG Yd (λ_=>true) a [e]
theorem eQO (a:Γ)(e:EdV){o:BF}(i:(∀b∈a,b<256)/\a.length<=60000)(l: -9223372036854775808<=e.fr/\e.fr<=9223372036854775807/\ -9223372036854775808<=e.to_/\e.to_<=9223372036854775807)(m:(∀b∈e.tx,b<256)/\e.tx.length<=1000)(j:Set1 2 e.x.nd e.x.r o)(d:Θ) (f:Nat) (g:Θ) (h:Nat) (w:θ) (c:SB w e.x.A e.x.n e.x.c e.x.nd) (p:Sl w 1 d 2 f (Xb Yd)) (q:SlS XE 5 w g 1 h [e]):Fn ψ 15 [.slice d 2 f,Q5 none 0 0 1,.string (Qb a),.slice g 1 h] w (λu k=>u=ii (vy a ⟨e.fr,e.to_,e.tx,o⟩)/\Ext w k):=by
 refine(Px d 2 f Yd ⟨none,0,0,[],1⟩ a g 1 h [e] δ PB PC i.1 i.2 (λb c=>by rw[Xx.1 c];exact l) (λb c=>by rw[Xx.1 c];exact m) (by show 1<=10;decide) w p (SlS.nil _) q λb a=>by rw[Xx.1 a];exact c).mono ?_;rintro u k ⟨rfl,a⟩;refine⟨?_,a⟩;have sc:Set1 2 [] 1 (λ_=>true):=Y0 2 true;have a:oD ⟨none,0,0,[],1⟩=λ_=>true:=pV (x:=⟨none,0,0,[],1⟩) sc;have c:Ke Yd.length [] 1=true:=(nK (x:=⟨none,0,0,[],1⟩) (n:=2) δ sc).1;have d:Ke Yd.length e.x.nd e.x.r=true:=(nK (n:=2) δ j).1;have f: [e].map EdV.ed=[⟨e.fr,e.to_,e.tx,o⟩]:=by show [(⟨e.fr,e.to_,e.tx,oD e.x⟩:Ed)]=_;rw[pV j]
 unfold ig vy;rw[φ (by rw[show JG Yd=true from by decide];show¬(true=false∨Ke Yd.length [] 1=false);rw[c];decide),Qf (by simp only[xT,List.all_nil,Fq];exact d),a,f]
theorem PE (a c:Γ)(e:EdV){o:BF}(q:(∀b∈a,b<256)/\a.length<=60000)(s: -9223372036854775808<=e.fr/\e.fr<=9223372036854775807/\ -9223372036854775808<=e.to_/\e.to_<=9223372036854775807)(t:(∀b∈e.tx,b<256)/\e.tx.length<=1000)(v:Set1 2 e.x.nd e.x.r o)(w:θ)(x:SB w e.x.A e.x.n e.x.c e.x.nd)(y:vy a ⟨e.fr,e.to_,e.tx,o⟩= .ok c):Fn ψ 39 [.string (Qb a),.agg (XE e).toArray,.string (Qb c)] w (λu d=>u= .bool true/\Ext w d):=by
 refine QK c39 [] Tryz.func39 ?_;refine new λm l f z=>?_;have r:=Ext.drew m;have h:∀(f:Θ) (g:Nat) (i:Θ) (j:Nat) (d:θ),Ext m d->Sl d 1 f 2 g (Xb Yd)->SlS XE 5 d i 1 j [e]->
   Fn ψ 15 [.slice f 2 g,Q5 none 0 0 1,.string (Qb a),.slice i 1 j] d (λu p=>u= .tuple #[.string (Qb c),.int .i64 0]/\Ext d p):=λf g i j d c A B=>by
  refine(eQO a e q s t v f g i j d (x.ext (l.trans c)) A B).mono ?_;rintro u p ⟨rfl,a⟩;rw[y];exact⟨rfl,a⟩
 refine nM Qe (Ext m) 11 (.quiet 2 (.quiet 3 (.fork 0 (.fork 1 (.fork 4 (.fork 5 (.quiet 6 (.quiet 7 (.quiet 8 (.quiet 9 (.quiet 10 .done))))) .skip) .skip) (.fork 4 (.fork 1 (.fork 5 (.quiet 6 (.quiet 7 (.quiet 8 (.quiet 9 (.quiet 10 .done))))) .skip) .skip) .skip)) (.fork 1 (.fork 0 (.fork 4 (.fork 5 (.quiet 6 (.quiet 7 (.quiet 8 (.quiet 9 (.quiet 10 .done))))) .skip) .skip) (.fork 4 (.fork 0 (.fork 5 (.quiet 6 (.quiet 7 (.quiet 8 (.quiet 9 (.quiet 10 .done))))) .skip) .skip) .skip)) (.fork 4 (.fork 0 (.fork 1 (.fork 5 (.quiet 6 (.quiet 7 (.quiet 8 (.quiet 9 (.quiet 10 .done))))) .skip) .skip) (.fork 1 (.fork 0 (.fork 5 (.quiet 6 (.quiet 7 (.quiet 8 (.quiet 9 (.quiet 10 .done))))) .skip) .skip) .skip)) .skip))))) κ r (Xe (vs:=XE e) rfl (λd a k u c=>by rw[(z.ext a).cell];exact c) ?_);refine⟨?_,?_,?_,trivial⟩;refine WC [Value.string (Qb [65])] [Value.string (Qb [66])] ?_;intro x m _ v;have i:=r.trans m;refine⟨i,?_⟩;refine⟨?_,?_,trivial⟩;refine call (fW true _) ?_;rintro _ p ⟨rfl,g⟩;have d:=i.trans g;refine⟨d,?_⟩;refine⟨?_,trivial⟩;refine XM (XE e) ?_;intro j c _ s;have a:=d.trans c;refine⟨a,?_⟩;refine⟨?_,trivial⟩;refine call (h _ 2 _ 1 j a (Sl.own' (n:=2) (v.ext (g.trans c)) rfl δ) ⟨Sl.own (sz:=5) (n:=1) s (Qw _) δ (by simp[XE]),rfl⟩) ?_;rintro _ q ⟨rfl,f⟩;refine⟨a.trans f,?_⟩;refine Q3 rfl ?_;exact⟨QG Value.bool (Zg rfl),l.trans (a.trans f)⟩;refine XM (XE e) ?_;intro p g _ t;have d:=i.trans g;refine⟨d,?_⟩;refine⟨?_,trivial⟩;refine call (fW true _) ?_;rintro _ j ⟨rfl,c⟩;have a:=d.trans c;refine⟨a,?_⟩;refine⟨?_,trivial⟩;refine call (h _ 2 _ 1 j a (Sl.own' (n:=2) (v.ext (g.trans c)) rfl δ) ⟨Sl.own (sz:=5) (n:=1) (t.ext c) (Qw _) δ (by simp[XE]),rfl⟩) ?_;rintro _ q ⟨rfl,f⟩;refine⟨a.trans f,?_⟩;refine Q3 rfl ?_;exact⟨QG Value.bool (Zg rfl),l.trans (a.trans f)⟩;refine call (fW true _) ?_;rintro _ x ⟨rfl,m⟩;have i:=r.trans m;refine⟨i,?_⟩;refine⟨?_,?_,trivial⟩;refine WC [Value.string (Qb [65])] [Value.string (Qb [66])] ?_;intro p g _ v;have d:=i.trans g;refine⟨d,?_⟩;refine⟨?_,trivial⟩;refine XM (XE e) ?_;intro j c _ s;have a:=d.trans c;refine⟨a,?_⟩;refine⟨?_,trivial⟩;refine call (h _ 2 _ 1 j a (Sl.own' (n:=2) (v.ext c) rfl δ) ⟨Sl.own (sz:=5) (n:=1) s (Qw _) δ (by simp[XE]),rfl⟩) ?_;rintro _ q ⟨rfl,f⟩;refine⟨a.trans f,?_⟩;refine Q3 rfl ?_;exact⟨QG Value.bool (Zg rfl),l.trans (a.trans f)⟩;refine XM (XE e) ?_;intro p g _ t;have d:=i.trans g;refine⟨d,?_⟩;refine⟨?_,trivial⟩;refine WC [Value.string (Qb [65])] [Value.string (Qb [66])] ?_;intro j c _ s;have a:=d.trans c;refine⟨a,?_⟩;refine⟨?_,trivial⟩;refine call (h _ 2 _ 1 j a (Sl.own' (n:=2) s rfl δ) ⟨Sl.own (sz:=5) (n:=1) (t.ext c) (Qw _) δ (by simp[XE]),rfl⟩) ?_;rintro _ q ⟨rfl,f⟩;refine⟨a.trans f,?_⟩;refine Q3 rfl ?_;exact⟨QG Value.bool (Zg rfl),l.trans (a.trans f)⟩;refine XM (XE e) ?_;intro x m _ t;have i:=r.trans m;refine⟨i,?_⟩;refine⟨?_,?_,trivial⟩;refine WC [Value.string (Qb [65])] [Value.string (Qb [66])] ?_;intro p g _ v;have d:=i.trans g;refine⟨d,?_⟩;refine⟨?_,trivial⟩;refine call (fW true _) ?_;rintro _ j ⟨rfl,c⟩;have a:=d.trans c;refine⟨a,?_⟩;refine⟨?_,trivial⟩;refine call (h _ 2 _ 1 j a (Sl.own' (n:=2) (v.ext c) rfl δ) ⟨Sl.own (sz:=5) (n:=1) (t.ext (g.trans c)) (Qw _) δ (by simp[XE]),rfl⟩) ?_;rintro _ q ⟨rfl,f⟩;refine⟨a.trans f,?_⟩;refine Q3 rfl ?_;exact⟨QG Value.bool (Zg rfl),l.trans (a.trans f)⟩;refine call (fW true _) ?_;rintro _ p ⟨rfl,g⟩;have d:=i.trans g;refine⟨d,?_⟩;refine⟨?_,trivial⟩;refine WC [Value.string (Qb [65])] [Value.string (Qb [66])] ?_;intro j c _ s;have a:=d.trans c;refine⟨a,?_⟩;refine⟨?_,trivial⟩;refine call (h _ 2 _ 1 j a (Sl.own' (n:=2) s rfl δ) ⟨Sl.own (sz:=5) (n:=1) (t.ext (g.trans c)) (Qw _) δ (by simp[XE]),rfl⟩) ?_;rintro _ q ⟨rfl,f⟩;refine⟨a.trans f,?_⟩;refine Q3 rfl ?_;exact⟨QG Value.bool (Zg rfl),l.trans (a.trans f)⟩
def pQP (r:Except Int (Γ))(k:Int):Bool:=match r with|.ok _=>false|.error e=>decide (e=k)
theorem sr {r:Except Int (Γ)}{t:Γ}(h:pQO r t=true):r= .ok t:=by cases r with|ok l=>rw[WY h]|error e=>cases h
theorem PF {r:Except Int (Γ)}{k:Int}(h:pQP r k=true):r= .error k:=by
 cases r with
 |ok l=>cases h
 |error e=>rw[WY h]
theorem eQP (x:DV){o:BF}(Q:χ (DV×Pr))(a:Θ)(c:Nat)(d:Θ)(f g:Nat)(w:θ)(k:Sl w 1 a 2 c (Xb Yd))(l:SB w x.A x.n x.c x.nd)(h:Set1 2 x.nd x.r o)(i:SlS WM 3 w d f g Q)(e:∀q∈Q,SB w q.1.A q.1.n q.1.c q.1.nd/\Set1 2 q.1.nd q.1.r q.2.o/\(∀b∈q.2.t,b<256)/\q.2.t.length<=2000):Fn ψ 24 [.slice a 2 c,Q5 x.A x.n x.c x.r,.slice d f g] w (λu j=>u=ii (lu Yd o (Q.map (·.2)))/\Ext w j):=by
 refine(Po a 2 c Yd x d f g (Q.map λq=>(q.1,q.2.t)) δ PB PC (λq a=>by
  obtain⟨c,d,rfl⟩:=Z5.1 a;exact(e c d).2.2) w k l ⟨by rw[<-Pv];exact i.1,by rw[JS];exact i.2⟩ (λq a=>by
  obtain⟨c,d,rfl⟩:=Z5.1 a;exact(e c d).1)).mono ?_
 rintro u j ⟨rfl,f⟩;refine⟨?_,f⟩;rw[eQe (nm:=Yd) δ (nK (n:=2) δ h).1 (λq a=>by
  obtain⟨c,d,rfl⟩:=Z5.1 a;exact(nK (n:=2) δ (e c d).2.1).1),pV h,Pu λq a=>(e q a).2.1]
theorem eQQ (x:DV){o:BF}(Q:χ (DV×Pr))(a:Θ)(c:Nat)(d:Θ)(e f:Nat)(w:θ)(i:Sl w 1 a 2 c (Xb Yd))(j:SB w x.A x.n x.c x.nd)(k:Set1 2 x.nd x.r o)(l:SlS WM 3 w d e f Q)(m:∀q∈Q,SB w q.1.A q.1.n q.1.c q.1.nd/\Set1 2 q.1.nd q.1.r q.2.o/\(∀b∈q.2.t,b<256)/\q.2.t.length<=2000) {g:χ Pr} (n:Q.map (·.2)=g) {t:Γ} (p:lu Yd o g= .ok t):Fn ψ 24 [.slice a 2 c,Q5 x.A x.n x.c x.r,.slice d e f] w (λu h=>u= .tuple #[.string (Qb t),.int .i64 0]/\Ext w h):=by refine(eQP x Q a c d e f w i j k l m).mono ?_;rintro u h ⟨rfl,a⟩;exact⟨by rw[n,p];rfl,a⟩
theorem eQR (x:DV){o:BF}(Q:χ (DV×Pr))(a:Θ)(c:Nat)(d:Θ)(e f:Nat)(w:θ)(i:Sl w 1 a 2 c (Xb Yd))(j:SB w x.A x.n x.c x.nd)(l:Set1 2 x.nd x.r o)(m:SlS WM 3 w d e f Q)(n:∀q∈Q,SB w q.1.A q.1.n q.1.c q.1.nd/\Set1 2 q.1.nd q.1.r q.2.o/\(∀b∈q.2.t,b<256)/\q.2.t.length<=2000) {g:χ Pr} (p:Q.map (·.2)=g) {k:Int} (r:lu Yd o g= .error k):Fn ψ 24 [.slice a 2 c,Q5 x.A x.n x.c x.r,.slice d e f] w (λu h=>u= .tuple #[.string (Qb []),.int .i64 k]/\Ext w h):=by refine(eQP x Q a c d e f w i j l m n).mono ?_;rintro u h ⟨rfl,a⟩;exact⟨by rw[p,r];rfl,a⟩
theorem pQQ (a:Θ)(b:Nat)(w:θ)(e:Sl w 1 a 2 b (Xb [[65],[65]])):Fn ψ 24 [.slice a 2 b,Q5 none 0 0 1,.slice none 0 0] w (λu c=>u= .tuple #[.string (Qb []),.int .i64 1]/\Ext w c):=by
 refine(Po a 2 b [[65],[65]] ⟨none,0,0,[],1⟩ none 0 0 [] δ (λs d=>by
  simp only[XI,d5,eX] at d;obtain rfl|rfl:=d <;>exact⟨δ,δ⟩) δ (λq a=>by cases a) w e (SlS.nil _) (SlS.nil _) λq a=>by cases a).mono ?_
 rintro u c ⟨rfl,a⟩;exact⟨by unfold pM;rw[Qf (.inl (by decide+kernel))];rfl,a⟩
abbrev tA:BF:=λe=>e 0
abbrev tB:BF:=λe=>e 1
abbrev tX:Γ:=[120,10]
theorem sn1:Hz [120,10,121,10] [120,10,122,10]= .ok [120,10,35,105,102,32,65,10,121,10,35,101,108,115,101,10,122,10,35,101,110,100,10]:=sr (by decide+kernel)
theorem sn2:Hz [120,10,121,10] [120,10]= .ok [120,10,35,105,102,32,65,10,121,10,35,101,110,100,10]:=sr (by decide+kernel)
theorem sn3:Hz [120,10] [120,10,121,10]= .ok [120,10,35,105,102,32,33,65,10,121,10,35,101,110,100,10]:=sr (by decide+kernel)
theorem sn4:lu Yd (λ_=>true) [⟨λe=>e 0&&e 1,tX⟩,⟨λe=> !(e 0&&e 1),[]⟩]= .ok [35,105,102,32,65,10,35,105,102,32,66,10,120,10,35,101,110,100,10,35,101,110,100,10]:=sr (by decide+kernel)
theorem sn5:lu Yd tB [⟨λe=>e 0&&e 1,tX⟩,⟨λe=> !e 0&&e 1,[121,10]⟩]= .ok [35,105,102,32,65,10,120,10,35,101,108,115,101,10,121,10,35,101,110,100,10]:=sr (by decide+kernel)
theorem sn6:lu Yd (λ_=>true) [⟨tA,tX⟩]= .error 290:=PF (by decide+kernel)
theorem sn7:lu Yd (λ_=>true) [⟨λ_=>true,[35,101,110,100,10]⟩]= .error 290:=PF (by decide+kernel)
def ss:Γ:=[35,105,102,32,65,10,120,10,35,101,110,100,10]
theorem sn8:vy [120,32,121,10,122,10] ⟨2,3,[119],tA⟩= .ok [35,105,102,32,65,10,120,32,119,10,35,101,108,115,101,10,120,32,121,10,35,101,110,100,10,122,10]:=sr (by decide+kernel)
theorem sn9:vy ss ⟨6,7,[121],λe=> !e 0⟩= .ok ss:=sr (by decide+kernel)
theorem pQR:vy ss ⟨6,7,[121],λ_=>true⟩= .ok [35,105,102,32,65,10,121,10,35,101,110,100,10]:=sr (by decide+kernel)
theorem pQS:vy ss ⟨0,1,[121],tA⟩= .error 291:=PF (by decide+kernel)
theorem pQT (a:θ):Fn ψ 11 [] a (λu c=>u= .bool true/\Ext a c):=by
 refine QK Bn [] Tryz.func11 ?_;refine call (Py (k:=2) (v:=0) δ δ a) ?_;rintro _ c ⟨W,X,Y,Z,ra,rfl,g,ba,sa,_⟩;refine new λf d h c=>?_;refine Qo c λw1 f _ Ba=>?_;have h1:Ext a w1:=g.trans (X1 d c f);have ba:=ba.ext (X1 d c f);refine call (Py (k:=2) (v:=1) δ δ w1) ?_;rintro _ a ⟨Ab,nb,cb,db,rb,rfl,f,bb,sb,_⟩;refine new λd c g a=>?_;refine Qo a λw2 d _ Bb=>?_;have D:Ext w1 w2:=f.trans (X1 c a d);have bb:=bb.ext (X1 c a d);refine Qm (Ba.ext D) (call (Pz (k:=2) δ (⟨W,X,Y,Z,ra⟩:DV) w2 (ba.ext D) sa) ?_);rintro _ a ⟨K,L,M,N,O,rfl,f,C,P,_⟩;refine new λd c g a=>?_;refine Qo a λw3 d _ Q=>?_;have z:Ext w2 w3:=f.trans (X1 c a d);have C:=C.ext (X1 c a d);refine Qm (Ba.ext (D.trans z)) (Qm (Bb.ext z) (call (eQN (k:=2) δ (⟨W,X,Y,Z,ra⟩:DV) (⟨Ab,nb,cb,db,rb⟩:DV) w3 (ba.ext (D.trans z)) (bb.ext z) sa sb) ?_));rintro _ a ⟨j,l,m,o,p,rfl,f,r,A,_⟩;refine new λd c g a=>?_;refine Qo a λw4 d _ s=>?_;have B:Ext w3 w4:=f.trans (X1 c a d);have r:=r.ext (X1 c a d);refine Qm s (call (Pz (k:=2) δ (⟨j,l,m,o,p⟩:DV) w4 r A) ?_);rintro _ a ⟨E,F,G,H,I,rfl,f,i,srest,_⟩;refine new λd c g a=>?_;refine Qo a λw5 d _ g=>?_;have t:Ext w4 w5:=f.trans (X1 c a d);have i:=i.ext (X1 c a d);refine Qm (Q.ext (B.trans t)) (Qm (Bb.ext ((z.trans B).trans t)) (call (eQN (k:=2) δ (⟨K,L,M,N,O⟩:DV) (⟨Ab,nb,cb,db,rb⟩:DV) w5 (C.ext (B.trans t)) (bb.ext ((z.trans B).trans t)) P sb) ?_));rintro _ a ⟨R,S,T,U,V,rfl,f,J,soth,_⟩;refine new λd c h a=>?_;refine Qo a λw6 d _ Both=>?_;have x:Ext w5 w6:=f.trans (X1 c a d);have J:=J.ext (X1 c a d);refine call (fW true w6) ?_;rintro _ c ⟨rfl,d⟩;refine new λf h w a=>?_;refine Qo a λw7 y _ f=>?_;have w:Ext w6 w7:=d.trans (X1 h a y);have f:Blk w7 c.heap.size 32 (⟨none,0,0,[],1⟩:DV).cells:=f;have y:Set1 2 [] 1 (λ_=>true):=Y0 2 true;refine WC [Value.string (Qb [65])] [Value.string (Qb [66])] ?_;intro a h _ c;have hN:Sl a 1 (some ⟨w7.heap.size,0,none⟩) 2 2 (Xb Yd):=Sl.own' (n:=2) c rfl δ;refine call (PD [120,10,121,10] [120,10,122,10] _ δ δ a sn1) ?_;rintro _ c ⟨rfl,a⟩;refine Q3 rfl (call (PD [120,10,121,10] [120,10] _ δ δ c sn2) ?_);rintro _ d ⟨rfl,c⟩;refine Q3 rfl (call (PD [120,10] [120,10,121,10] _ δ δ d sn3) ?_);rintro _ QJ ⟨rfl,d⟩;refine Qm (f.ext (((h.trans a).trans c).trans d)) (Qm (s.ext ((((((t.trans x).trans w).trans h).trans a).trans c).trans d)) (Qm (g.ext (((((x.trans w).trans h).trans a).trans c).trans d)) (WC (WM ((⟨j,l,m,o,p⟩:DV),Pr.mk (λe=>e 0&&e 1) tX)) (WM ((⟨E,F,G,H,I⟩:DV),Pr.mk (λe=> !(e 0&&e 1)) [])) ?_)));intro Xk g _ BP12;refine call (eQQ ⟨none,0,0,[],1⟩ [((⟨j,l,m,o,p⟩:DV),Pr.mk (λe=>e 0&&e 1) tX),((⟨E,F,G,H,I⟩:DV),Pr.mk (λe=> !(e 0&&e 1)) [])] _ 2 _ 2 2 Xk (hN.ext (((a.trans c).trans d).trans g)) (SlS.nil _) y ⟨Sl.own (sz:=3) (n:=2) BP12 (Qw _) δ (by simp[WM,KX]),rfl⟩ (λq E=>by
  simp only[XI,d5,eX] at E;obtain rfl|rfl:=E;exact⟨(r.ext (((((((t.trans x).trans w).trans h).trans a).trans c).trans d).trans g)),A,(show(∀b∈(tX:Γ),b<256)/\(tX:Γ).length<=2000 by decide)⟩;exact⟨(i.ext ((((((x.trans w).trans h).trans a).trans c).trans d).trans g)),srest,(show(∀b∈([]:Γ),b<256)/\([]:Γ).length<=2000 by decide)⟩) rfl sn4) ?_
 rintro _ F ⟨rfl,i⟩;refine Qm (Bb.ext ((((((((((z.trans B).trans t).trans x).trans w).trans h).trans a).trans c).trans d).trans g).trans i)) (Qm (s.ext ((((((((t.trans x).trans w).trans h).trans a).trans c).trans d).trans g).trans i)) (Qm (Both.ext ((((((w.trans h).trans a).trans c).trans d).trans g).trans i)) (WC (WM ((⟨j,l,m,o,p⟩:DV),Pr.mk (λe=>e 0&&e 1) tX)) (WM ((⟨R,S,T,U,V⟩:DV),Pr.mk (λe=> !e 0&&e 1) [121,10])) ?_)));intro G s _ F;refine call (eQQ (⟨Ab,nb,cb,db,rb⟩:DV) [((⟨j,l,m,o,p⟩:DV),Pr.mk (λe=>e 0&&e 1) tX),((⟨R,S,T,U,V⟩:DV),Pr.mk (λe=> !e 0&&e 1) [121,10])] _ 2 _ 2 2 G (hN.ext (((((a.trans c).trans d).trans g).trans i).trans s)) (bb.ext (((((((((((z.trans B).trans t).trans x).trans w).trans h).trans a).trans c).trans d).trans g).trans i).trans s)) sb ⟨Sl.own (sz:=3) (n:=2) F (Qw _) δ (by simp[WM,KX]),rfl⟩ (λq E=>by
  simp only[XI,d5,eX] at E;obtain rfl|rfl:=E;exact⟨(r.ext (((((((((t.trans x).trans w).trans h).trans a).trans c).trans d).trans g).trans i).trans s)),A,(show(∀b∈(tX:Γ),b<256)/\(tX:Γ).length<=2000 by decide)⟩;exact⟨(J.ext (((((((w.trans h).trans a).trans c).trans d).trans g).trans i).trans s)),soth,(show(∀b∈([121,10]:Γ),b<256)/\([121,10]:Γ).length<=2000 by decide)⟩) rfl sn5) ?_
 rintro _ l ⟨rfl,j⟩;refine Qm (f.ext (((((((h.trans a).trans c).trans d).trans g).trans i).trans s).trans j)) (Qm (Ba.ext (((((((((((((D.trans z).trans B).trans t).trans x).trans w).trans h).trans a).trans c).trans d).trans g).trans i).trans s).trans j)) (XM (WM ((⟨W,X,Y,Z,ra⟩:DV),Pr.mk (λe=>e 0) tX)) ?_));intro o l _ m;refine call (eQR ⟨none,0,0,[],1⟩ [((⟨W,X,Y,Z,ra⟩:DV),Pr.mk (λe=>e 0) tX)] _ 2 _ 1 1 o (hN.ext (((((((a.trans c).trans d).trans g).trans i).trans s).trans j).trans l)) (SlS.nil _) y ⟨Sl.own (sz:=3) (n:=1) m (Qw _) δ (by simp[WM,KX]),rfl⟩ (λq E=>by
  simp only[XI,d5,eX] at E;obtain rfl:=E;exact⟨(ba.ext ((((((((((((((D.trans z).trans B).trans t).trans x).trans w).trans h).trans a).trans c).trans d).trans g).trans i).trans s).trans j).trans l)),sa,(show(∀b∈(tX:Γ),b<256)/\(tX:Γ).length<=2000 by decide)⟩) rfl sn6) ?_
 rintro _ o ⟨rfl,m⟩;refine Qm (f.ext (((((((((h.trans a).trans c).trans d).trans g).trans i).trans s).trans j).trans l).trans m)) (Qm (f.ext (((((((((h.trans a).trans c).trans d).trans g).trans i).trans s).trans j).trans l).trans m)) (XM (WM ((⟨none,0,0,[],1⟩:DV),Pr.mk (λ_=>true) [35,101,110,100,10])) ?_));intro r o _ p;refine call (eQR ⟨none,0,0,[],1⟩ [((⟨none,0,0,[],1⟩:DV),Pr.mk (λ_=>true) [35,101,110,100,10])] _ 2 _ 1 1 r (hN.ext (((((((((a.trans c).trans d).trans g).trans i).trans s).trans j).trans l).trans m).trans o)) (SlS.nil _) y ⟨Sl.own (sz:=3) (n:=1) p (Qw _) δ (by simp[WM,KX]),rfl⟩ (λq E=>by
  simp only[XI,d5,eX] at E;obtain rfl:=E;exact⟨SlS.nil _,y,(show(∀b∈([35,101,110,100,10]:Γ),b<256)/\([35,101,110,100,10]:Γ).length<=2000 by decide)⟩) rfl sn7) ?_
 rintro _ r ⟨rfl,p⟩;refine WC [Value.string (Qb [65])] [Value.string (Qb [65])] ?_;intro A r _ E;refine Qm (f.ext ((((((((((((h.trans a).trans c).trans d).trans g).trans i).trans s).trans j).trans l).trans m).trans o).trans p).trans r)) (call (pQQ _ 2 A (Sl.own' (n:=2) E rfl δ)) ?_);rintro _ E ⟨rfl,A⟩;refine JF rfl (Zm rfl (JF rfl (Zm rfl (JF rfl (JF rfl (Qm (Ba.ext (((((((((((((((((((D.trans z).trans B).trans t).trans x).trans w).trans h).trans a).trans c).trans d).trans g).trans i).trans s).trans j).trans l).trans m).trans o).trans p).trans r).trans A)) (call (PE [120,32,121,10,122,10] _ ⟨2,3,[119],(⟨W,X,Y,Z,ra⟩:DV)⟩ δ (show(-9223372036854775808:Int)<=2/\(2:Int)<=9223372036854775807/\(-9223372036854775808:Int)<=3/\(3:Int)<=9223372036854775807 by decide) (show(∀b∈([119]:Γ),b<256)/\([119]:Γ).length<=1000 by decide) sa E (ba.ext (((((((((((((((((((D.trans z).trans B).trans t).trans x).trans w).trans h).trans a).trans c).trans d).trans g).trans i).trans s).trans j).trans l).trans m).trans o).trans p).trans r).trans A)) sn8) ?_)))))));rintro _ F ⟨rfl,E⟩;refine Q3 rfl (Qm (Q.ext ((((((((((((((((((B.trans t).trans x).trans w).trans h).trans a).trans c).trans d).trans g).trans i).trans s).trans j).trans l).trans m).trans o).trans p).trans r).trans A).trans E)) (call (PE ss ss ⟨6,7,[121],(⟨K,L,M,N,O⟩:DV)⟩ δ (show(-9223372036854775808:Int)<=6/\(6:Int)<=9223372036854775807/\(-9223372036854775808:Int)<=7/\(7:Int)<=9223372036854775807 by decide) (show(∀b∈([121]:Γ),b<256)/\([121]:Γ).length<=1000 by decide) P F (C.ext ((((((((((((((((((B.trans t).trans x).trans w).trans h).trans a).trans c).trans d).trans g).trans i).trans s).trans j).trans l).trans m).trans o).trans p).trans r).trans A).trans E)) sn9) ?_));rintro _ F ⟨rfl,C⟩;refine Q3 rfl (Qm (f.ext (((((((((((((((h.trans a).trans c).trans d).trans g).trans i).trans s).trans j).trans l).trans m).trans o).trans p).trans r).trans A).trans E).trans C)) (call (PE ss _ ⟨6,7,[121],⟨none,0,0,[],1⟩⟩ δ (show(-9223372036854775808:Int)<=6/\(6:Int)<=9223372036854775807/\(-9223372036854775808:Int)<=7/\(7:Int)<=9223372036854775807 by decide) (show(∀b∈([121]:Γ),b<256)/\([121]:Γ).length<=1000 by decide) y F (SlS.nil _) pQR) ?_));rintro _ F ⟨rfl,y⟩;refine Qm (f.ext ((((((((((((((((h.trans a).trans c).trans d).trans g).trans i).trans s).trans j).trans l).trans m).trans o).trans p).trans r).trans A).trans E).trans C).trans y)) (Qm (Ba.ext ((((((((((((((((((((((D.trans z).trans B).trans t).trans x).trans w).trans h).trans a).trans c).trans d).trans g).trans i).trans s).trans j).trans l).trans m).trans o).trans p).trans r).trans A).trans E).trans C).trans y)) (XM (XE ⟨0,1,[121],(⟨W,X,Y,Z,ra⟩:DV)⟩) ?_));intro F f _ G;refine call (eQO ss ⟨0,1,[121],(⟨W,X,Y,Z,ra⟩:DV)⟩ δ (show(-9223372036854775808:Int)<=0/\(0:Int)<=9223372036854775807/\(-9223372036854775808:Int)<=1/\(1:Int)<=9223372036854775807 by decide) (show(∀b∈([121]:Γ),b<256)/\([121]:Γ).length<=1000 by decide) sa _ 2 _ 1 F (ba.ext (((((((((((((((((((((((D.trans z).trans B).trans t).trans x).trans w).trans h).trans a).trans c).trans d).trans g).trans i).trans s).trans j).trans l).trans m).trans o).trans p).trans r).trans A).trans E).trans C).trans y).trans f)) (hN.ext ((((((((((((((((a.trans c).trans d).trans g).trans i).trans s).trans j).trans l).trans m).trans o).trans p).trans r).trans A).trans E).trans C).trans y).trans f)) ⟨Sl.own (sz:=5) (n:=1) G (Qw _) δ (by simp[XE]),rfl⟩) ?_;rintro _ G ⟨rfl,F⟩;rw[pQS];refine Q3 rfl (Q3 rfl (Q3 rfl ?_));exact⟨rfl,(((((((((((((((((((((((((h1.trans D).trans z).trans B).trans t).trans x).trans w).trans h).trans a).trans c).trans d).trans g).trans i).trans s).trans j).trans l).trans m).trans o).trans p).trans r).trans A).trans E).trans C).trans y).trans f).trans F)⟩
theorem pQU:((List.range 256).all λf=>(List.range 8).all λc=>fk [f] 3 0 0 (jb c)==f.testBit c)=true:=by decide+kernel
theorem eQS {f c:Nat}(b:f<=255)(a:c<8):fk [f] 3 0 0 (bits c)=f.testBit c:=by have:=Vb.1 pQU f (oY.2 ω);have:=Vb.1 this c (oY.2 a);rw[nQN] at this;simpa using this
theorem pQV {o o':BF}(h:∀c,c<8->o (bits c)=o' (bits c)):QW 3 o=QW 3 o':=by unfold QW;refine MF λc a=>?_;exact h c (oY.1 a)
def eu (b:Nat):BF:=if b=0 then λ_=>true else fk [b] 3 0 0
theorem pQW {b c:Nat}(a:b<=255)(d:c<8):eu b (bits c)=Cy b c:=by
 unfold eu Cy;by_cases h:b=0;rw[Qf h,Zg ω]<;>rfl
 rw[φ h,eQS a d,XZ ω]<;>rfl
theorem pQX {b:Nat}(a:b<=255):QW 3 (eu b)=OQ b:=by unfold QW OQ;refine MF λc d=>?_;exact pQW a (oY.1 d)
theorem eQT {b:Nat}(d:b<=255):QW 3 (fk [b] 3 0 0)=[]↔b=0:=by constructor;intro h;apply Classical.byContradiction;intro e;have a:=pQX d;unfold eu at a;rw[φ e,h] at a;exact nQM d a.symm;rintro rfl;rw[pQV (o':=λ_=>false) λc a=>by rw[eQS δ a,Nat.zero_testBit]];decide
theorem pQY (b:Nat)(a:b<=255)(w:θ):Fn ψ 14 [.int .u8 b] w (jd w 3 (eu b)):=by
 refine QK c14 [] Tryz.func14 ?_;refine new λd g f j=>?_;refine XM [Value.int .u8 b] ?_;intro d f k h;refine call (j7 [b] _ 1 1 3 d (Sl.own' (n:=1) h rfl δ) (λx d=>by rw[Xx.1 d];exact a) δ) ?_;rintro _ k ⟨A,n,c,u,r,rfl,d,v,l,m⟩;have s:=g.trans (f.trans d);have h:=f.trans d;refine new λg p o d=>?_;refine Qo d λw5 q _ o=>?_;have g:Ext k w5:=X1 p d q;have p:=j.ext (h.trans g);have q:=s.trans g;have d:=h.size;refine Qp o rfl ?_;have s:=l.root0.trans (eQT a);refine X0 (λh=>?_) λh=>?_;refine call (vo true w5) ?_;rintro _ a ⟨rfl,t⟩;refine Qo (p.ext t) λw7 j _ k=>?_;have d:Mod (·=w.heap.size) a w7:=vQB j rfl;refine Qm k ?_;refine⟨none,0,0,[],1,rfl,d.ext (q.trans t) λi a=>ω,SlS.nil _,?_,λi a=>by obtain⟨_,e,_⟩:=a;cases e⟩;have e:eu b=λ_=>true:=by unfold eu;rw[Qf (s.1 h)]
 rw[e];exact Y0 3 true;refine Qm o (Qo p λw7 j _ k=>?_);have d:Mod (·=w.heap.size) w5 w7:=vQB j rfl;refine Qm k ?_;have j:=f.size;refine⟨A,n,c,u,r,rfl,d.ext q λi a=>ω,SB.mod (v.ext g) d (λi a e=>by have:=m i a;omega),?_,λi a=>by have:=m i a;omega⟩;have e:eu b=fk [b] 3 0 0:=by unfold eu;rw[φ λa=>h (s.2 a)]
 rw[e];exact l
theorem ly (w:θ):Fn ψ 16 [] w (λu a=>∃A c,u= .slice A 3 c/\Ext w a/\Sl a 1 A 3 c (Xb (Jv.take 3))):=by refine QK c16 [] Tryz.func16 ?_;refine call (lQT 3 w δ) ?_;rintro _ d ⟨A,c,rfl,a,b⟩;exact⟨A,c,rfl,a,b⟩
abbrev ew:Λ:=Jv.take 3
theorem HB:KH ew:=(lQU 3 δ).1
theorem pQZ:JG ew=true:=by decide+kernel
theorem HC:∀s∈ew,s.length<=1000:=by decide
end
section
open Go Go.RowKit Go.ChangeShapes
variable {H:Type} {enc:TypeId×Value->H}
theorem eQU {W:θ}{b t e:Nat}{v:τ}{D:DataW H×χ MemPlace}(d:ψ.underlying t=some (.slice e))(h:DataW.trod enc ψ W 0 (λ_=>true) true b t [v]=some D):∃a n c,v= .slice a n c:=by obtain⟨b,_⟩|⟨x,l,c,m,n,D,Pl,b,_⟩:=Go.Deep.open_slice d h;simp at b;exact⟨_,_,_,b⟩;simp at b;exact⟨_,_,_,b⟩
end
end Go.Proofs.YtjabbbcdgmlojaaGreatDoor
