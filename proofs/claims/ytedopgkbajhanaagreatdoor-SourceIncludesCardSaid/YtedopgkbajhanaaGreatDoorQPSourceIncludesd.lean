/-
  What PSourceIncludes rests on, part 4: the texts of this work, without what it does not use; printed by a program (wip/shake.py).
  Conditions: none.
-/
import Derived.Test.YtedopgkbajhanaaGreatDoorQPSourceIncludesc
namespace Go.Proofs.YtedopgkbajhanaaGreatDoor
section
section
open Go Go.RowKit

/-! ### The reader in memory -/
/-- What stays as it is: names, files, the maps' places. -/
structure RP where
  r : Nat
  q : Nat
  nq : Nat
  NA : Option Addr
  nn : Nat
  nc : Nat
  nm : List (List Nat)
  FA : Option Addr
  nf : Nat
  cf : Nat
  fs : List (List Nat × List Nat)
def fileC (x : List Nat × List Nat) : List Value := [.string (strOf x.1), .string (strOf x.2)]
theorem file_len (x : List Nat × List Nat) : (fileC x).length = 2 := rfl
structure FileOk (x : List Nat × List Nat) : Prop where
  n8 : ∀ b ∈ x.1, b < 256
  t8 : ∀ b ∈ x.2, b < 256
  nl : x.1.length ≤ 9223372036854775807
  tl : x.2.length ≤ 1048576
  ok : TextOk x.2
structure RPok (w0 : World) (p : RP) : Prop where
  nms : Sl w0 1 p.NA p.nn p.nc (strsV p.nm)
  nmb : NamesOk p.nm
  nmk : p.nm.length ≤ 12
  fls : SlS fileC 2 w0 p.FA p.nf p.cf p.fs
  flb : ∀ x ∈ p.fs, FileOk x
  nqm : MapAt strK w0 p.nq (nameM (p.fs.map (·.1)) 0 [])
/-- Where the rows lie. -/
structure RM where
  OA : Option Addr
  oc : Nat
  BA : Option Addr
  bc : Nat
  L : List DV
  pa : Value
  T : Nat → Prop
structure RV where
  d : Nat
  fl : Nat
  ln : Nat
  rd : List Nat
  g : Gs
def sgC (x : Sg × DV) : List Value := [.int .i64 x.1.f, .int .i64 x.1.t, .int .i64 x.1.fl, .int .i64 x.1.at_, .slice x.2.A x.2.n x.2.c, .int .i64 x.2.r]
theorem sg_len (x : Sg × DV) : (sgC x).length = 6 := rfl
def sgV (l : List Sg) (L : List DV) : List Value := (l.zip L).flatMap sgC
abbrev rdC (p : RP) (m : RM) (v : RV) : List Value := [.slice p.NA p.nn p.nc, .slice p.FA p.nf p.cf, .map (some p.nq), .map (some p.q), .int .i64 v.d, m.pa, .slice m.BA v.g.tx.length m.bc, .slice m.OA v.g.sg.length m.oc, .bool v.g.fr, .int .i64 v.fl, .int .i64 v.ln]
/-- What the reader writes. -/
def RS (p : RP) (m : RM) : Nat → Prop := fun k => k = p.r ∨ k = p.q ∨ rowS m.OA k ∨ rowS m.BA k
/-- And what else is written while the reader is at work. -/
def TS (p : RP) (m : RM) : Nat → Prop := fun k => RS p m k ∨ m.T k
structure Rr (w0 w : World) (base : Nat) (p : RP) (m : RM) (v : RV) : Prop where
  e0 : Ext w0 w
  lor : w0.heap.size ≤ p.r
  loq : w0.heap.size ≤ p.q
  rb : p.r < base
  qb : p.q < base
  ne : p.r ≠ p.q
  top : base ≤ w.heap.size
  pa : m.pa = .pointer none ∨ m.pa = .pointer (some (adr p.r 5))
  blk : Blk w p.r 88 (rdC p m v)
  txt : Own w base 5 1 m.BA v.g.tx.length m.bc (bytesV v.g.tx)
  out : Own w base 45 6 m.OA v.g.sg.length m.oc (sgV v.g.sg m.L)
  len : m.L.length = v.g.sg.length
  dgs : ∀ (j : Nat) (s : Sg) (x : DV), v.g.sg[j]? = some s → m.L[j]? = some x → DgO w (TS p m) p.nm.length x s.o
  rdm : ∃ mp, MapAt intK w p.q mp ∧ (mp.map (·.1)).Nodup ∧ ∀ n : Nat, assoc (n : Int) mp = if n ∈ v.rd then some (.bool true) else none
  tl : v.g.tx.length ≤ 1048576
  sl : v.g.sg.length ≤ 65536
  b8 : ∀ x ∈ v.g.tx, x < 256
  nf : v.g.fr = false → v.g.sg ≠ [] ∨ v.rd = []
  tt : ∀ i, m.T i → i < w.heap.size
section
variable {w0 w w' : World} {base : Nat} {p : RP} {m : RM} {v : RV}
theorem Rr.lo (h : Rr w0 w base p m v) : ∀ i, RS p m i → w0.heap.size ≤ i := fun i hi => by
  have := h.lor; have := h.loq; have := h.rb
  rcases hi with rfl | rfl | hi | hi
  · assumption
  · assumption
  · have := (h.out.rows i hi).1; omega
  · have := (h.txt.rows i hi).1; omega
theorem Rr.hi (h : Rr w0 w base p m v) : ∀ i, RS p m i → i < w.heap.size := fun i hi => by
  have := h.rb; have := h.qb; have := h.top
  rcases hi with rfl | rfl | hi | hi
  · omega
  · omega
  · exact (h.out.rows i hi).2
  · exact (h.txt.rows i hi).2
theorem Rr.ext (h : Rr w0 w base p m v) (k : Ext w w') : Rr w0 w' base p m v :=
  ⟨h.e0.trans k, h.lor, h.loq, h.rb, h.qb, h.ne, Nat.le_trans h.top k.size, h.pa, h.blk.ext k, h.txt.ext k, h.out.ext k, h.len, fun j s x h1 h2 => (h.dgs j s x h1 h2).ext k, let ⟨mp, h1, h2⟩ := h.rdm; ⟨mp, h1.ext k, h2⟩, h.tl, h.sl, h.b8, h.nf, fun i hi => Nat.lt_of_lt_of_le (h.tt i hi) k.size⟩
theorem RS.moved {m' : RM} (h1 : Moved w m.OA m'.OA) (h2 : Moved w m.BA m'.BA) : ∀ k, RS p m' k → RS p m k ∨ w.heap.size ≤ k := by
  rintro k (rfl | rfl | hk | hk)
  · exact .inl (.inl rfl)
  · exact .inl (.inr (.inl rfl))
  · rcases h1.rows k hk with h | h
    · exact .inl (.inr (.inr (.inl h)))
    · exact .inr h
  · rcases h2.rows k hk with h | h
    · exact .inl (.inr (.inr (.inr h)))
    · exact .inr h
theorem TS.moved {m' : RM} (hT : m'.T = m.T) (h1 : Moved w m.OA m'.OA) (h2 : Moved w m.BA m'.BA) : ∀ k, TS p m' k → TS p m k ∨ w.heap.size ≤ k := by
  rintro k (hk | hk)
  · rcases RS.moved (p := p) h1 h2 k hk with h | h
    · exact .inl (.inl h)
    · exact .inr h
  · exact .inl (.inr (by rw [← hT]; exact hk))
theorem Rr.hiT (h : Rr w0 w base p m v) : ∀ i, TS p m i → i < w.heap.size := fun i hi => hi.elim (h.hi i) (h.tt i)
/-- A field of the reader is written. -/
theorem Rr.nrow (h : Rr w0 w base p m v) : ¬ rowS m.OA p.r ∧ ¬ rowS m.BA p.r := by
  have := h.rb
  exact ⟨fun hi => by have := (h.out.rows _ hi).1; omega, fun hi => by have := (h.txt.rows _ hi).1; omega⟩
theorem Rr.put (h : Rr w0 w base p m v) {v' : RV} (hm : Mod (· = p.r) w w') (hB : Blk w' p.r 88 (rdC p m v')) (h1 : v'.g.tx = v.g.tx) (h2 : v'.g.sg = v.g.sg) (h3 : v'.rd = v.rd) (h4 : v'.g.fr = false → v'.g.sg ≠ [] ∨ v'.rd = []) : Rr w0 w' base p m v' := by
  have hE := hm.ext h.e0 (fun i hi => by subst hi; exact h.lor)
  refine ⟨hE, h.lor, h.loq, h.rb, h.qb, h.ne, Nat.le_trans h.top hm.size, h.pa, hB, ?_, ?_, by rw [h2]; exact h.len, fun j s x hs hx => ?_, ?_, by rw [h1]; exact h.tl, by rw [h2]; exact h.sl, by rw [h1]; exact h.b8, h4, fun i hi => Nat.lt_of_lt_of_le (h.tt i hi) hm.size⟩
  · rw [h1]; exact h.txt.mod hm (fun i hi e => by subst e; exact h.nrow.2 hi)
  · rw [h2]; exact h.out.mod hm (fun i hi e => by subst e; exact h.nrow.1 hi)
  · rw [h2] at hs; exact (h.dgs j s x hs hx).keep hm (fun i hi => .inl (.inl (.inl hi)))
  · obtain ⟨mp, k1, k2⟩ := h.rdm
    rw [h3]
    exact ⟨mp, k1.mod hm (fun e => h.ne e.symm), k2⟩
end
/-- The reader has gone on. -/
def GTo (w0 w : World) (base : Nat) (p : RP) (m : RM) (v : RV) (w' : World) : Prop := ∃ m', m'.T = m.T ∧ Rr w0 w' base p m' v ∧ Mod (RS p m) w w' ∧ Moved w m.OA m'.OA ∧ Moved w m.BA m'.BA

/-! ### fail, want, set, split -/
def failPan (e f l : Int) : List PanicEntry := [{ v := .iface 90 (.agg #[.int .i64 e, .int .i64 f, .int .i64 l]), recovered := false }]
section
variable {w0 : World} {base : Nat} {p : RP} {m : RM} {v : RV}

theorem fail_fn (e : Int) (w : World) (h : Rr w0 w base p m v) :
    FnP Tryz.prog 78 [.pointer (some ⟨p.r, 0, none⟩), .int .i64 e] w (fun _ _ => False) (fun ch w' => ch = failPan e v.fl v.ln ∧ Ext w w') := by
  refine fnP_of_exec (c := { c78 with cuts := [] }) gx_ok Tryz.func78 rfl rfl rfl ?_
  have hB := h.blk
  refine draw_tail gx_ok 12 (by kernel_rfl) ?_
  refine qload (v := .int .i64 v.fl) (fun w' hw' => by subst hw'; rw [(hB.ext (Ext.drew w)).cell]; rfl) ?_
  refine qload (v := .int .i64 v.ln) (fun w' hw' => by subst hw'; rw [(hB.ext (Ext.drew w)).cell]; rfl) ?_
  exact at_panic rfl rfl ⟨rfl, Ext.drew w⟩

theorem want_fn (x : DV) (w : World) : Fn Tryz.prog 115 [.pointer (some ⟨p.r, 0, none⟩), dgV x.A x.n x.c x.r, .int .i64 0] w (fun u w' => u = dgV x.A x.n x.c x.r ∧ Ext w w') := by
  refine fn_of_exec (c := { c115 with cuts := [] }) gx_ok Tryz.func115 rfl rfl rfl ?_
  refine new (fun w1 hE1 hz1 hB1 => ?_)
  refine new (fun w2 hE2 hz2 hB2 => ?_)
  refine wif_nef rfl ?_
  refine loadN_blk0 (hB1.ext hE2) rfl ?_
  refine storeN_blk0 hB2 rfl (sc rfl) (fun w3 hg3 _ hB3 => ?_)
  have hE3 : Ext w1 w3 := newBox hE2 hB2 hg3
  refine loadN_blk0 hB3 rfl ?_
  exact ⟨rfl, hE1.trans hE3⟩

/-- A set that the call made. -/
def DgF (w : World) (k : Nat) (o : BF) (u : Value) (w' : World) : Prop := ∃ x : DV, u = dgV x.A x.n x.c x.r ∧ Ext w w' ∧ SB w' x.A x.n x.c x.nd ∧ Set1 k x.nd x.r o ∧ ∀ i, rowS x.A i → w.heap.size ≤ i

theorem set_fn (s : List Nat) (w : World) (hP : RPok w0 p) (h : Rr w0 w base p m v) (h8 : ∀ x ∈ s, x < 256) (hl : s.length ≤ 1000000000000) :
    FnP Tryz.prog 74 [.pointer (some ⟨p.r, 0, none⟩), .string (strOf s)] w (fun u w' => ∃ o, setE p.nm s = .ok o ∧ DgF w p.nm.length o u w') (fun ch w' => ∃ e, setE p.nm s = .error e ∧ ch = failPan e v.fl v.ln ∧ Ext w w') := by
  refine fnP_of_exec (c := { c74 with cuts := [] }) gx_ok Tryz.func74 rfl rfl rfl ?_
  refine new (fun w1 hE1 hz1 hB1 => ?_)
  refine load_blk0 (h.blk.ext hE1) rfl ?_
  refine call (parse_fn p.nm p.NA p.nn p.nc s w1 ((hP.nms.ext h.e0).ext hE1) hP.nmb h8 hl) ?_
  rw [parse_T]
  have hse : setE p.nm s = match parseT p.nm s with
    | .ok t => .ok (evF t)
    | .error e => .error (if e = 2 then 2 else 71) := rfl
  cases hpt : parseT p.nm s with
  | ok t =>
    rw [hpt] at hse
    obtain ⟨k1, k2, k3⟩ := parseT_ok hpt
    rintro _ w2 ⟨G, mg, cG, rfl, hE2, hG⟩
    have hk := hP.nmk
    refine wif_eqt rfl ?_
    refine call (fdiagram_fn G mg cG _ p.nm.length hk w2 hG (post_FV (k2.mono (by omega)) k3) (post_vars t _ 0 k2)) ?_
    rintro _ w3 ⟨D, md, cD, nd, r, rfl, hE3, hD, hS, hR⟩
    rw [treeOf_post] at hS
    refine call (want_fn ⟨D, md, cD, nd, r⟩ w3) ?_
    rintro _ w4 ⟨rfl, hE4⟩
    have hE14 := (hE2.trans hE3).trans hE4
    refine storeN_blk0 (hB1.ext hE14) rfl (sc rfl) (fun w5 hg5 _ hB5 => ?_)
    have hM5 : Mod (· = w.heap.size) w4 w5 := Mod.of_grown hg5 rfl
    refine loadN_blk0 hB5 rfl ?_
    have hz2 := hE2.size
    exact ⟨_, hse, ⟨D, md, cD, nd, r⟩, rfl, hM5.ext (hE1.trans hE14) (fun i hi => by omega), SB.mod (hD.ext hE4) hM5 (fun i hi e => by have := hR i hi; omega), hS, fun i hi => by have := hR i hi; omega⟩
  | error e =>
    rw [hpt] at hse
    rintro _ w2 ⟨G, mg, cG, rfl, hE2, hG⟩
    have hE12 := hE1.trans hE2
    have h2 := h.ext hE12
    rcases parseT_err hpt with rfl | rfl | rfl | rfl
    · refine wif_eqf (by decide) ?_
      refine wif_eqf (by decide) ?_
      refine callP (fail_fn 71 w2 h2) (fun _ _ hf => hf.elim) ?_
      rintro ch w3 ⟨rfl, hE3⟩
      exact ⟨_, hse, rfl, hE12.trans hE3⟩
    · refine wif_eqf (by decide) ?_
      refine wif_eqt rfl ?_
      refine callP (fail_fn 2 w2 h2) (fun _ _ hf => hf.elim) ?_
      rintro ch w3 ⟨rfl, hE3⟩
      exact ⟨_, hse, rfl, hE12.trans hE3⟩
    · refine wif_eqf (by decide) ?_
      refine wif_eqf (by decide) ?_
      refine callP (fail_fn 71 w2 h2) (fun _ _ hf => hf.elim) ?_
      rintro ch w3 ⟨rfl, hE3⟩
      exact ⟨_, hse, rfl, hE12.trans hE3⟩
    · refine wif_eqf (by decide) ?_
      refine wif_eqf (by decide) ?_
      refine callP (fail_fn 71 w2 h2) (fun _ _ hf => hf.elim) ?_
      rintro ch w3 ⟨rfl, hE3⟩
      exact ⟨_, hse, rfl, hE12.trans hE3⟩

theorem split_fn (k : Nat) (hk : k ≤ 12) (x y : DV) (o o' : BF) (w : World) (hx : SB w x.A x.n x.c x.nd) (hxs : Set1 k x.nd x.r o) (hy : SB w y.A y.n y.c y.nd) (hys : Set1 k y.nd y.r o') :
    Fn Tryz.prog 76 [.pointer (some ⟨p.r, 0, none⟩), dgV x.A x.n x.c x.r, dgV y.A y.n y.c y.r] w (fun u w' => ∃ a b : DV, u = .tuple #[dgV a.A a.n a.c a.r, dgV b.A b.n b.c b.r] ∧ Ext w w' ∧ SB w' a.A a.n a.c a.nd ∧ Set1 k a.nd a.r (bAnd o o') ∧ (∀ i, rowS a.A i → w.heap.size ≤ i) ∧ SB w' b.A b.n b.c b.nd ∧ Set1 k b.nd b.r (bSub o o') ∧ ∀ i, rowS b.A i → w.heap.size ≤ i) := by
  refine fn_of_exec (c := { c76 with cuts := [] }) gx_ok Tryz.func76 rfl rfl rfl ?_
  refine new (fun w1 hE1 hz1 hB1 => ?_)
  refine new (fun w2 hE2 hz2 hB2 => ?_)
  refine new (fun w3 hE3 hz3 hB3 => ?_)
  refine new (fun w4 hE4 hz4 hB4 => ?_)
  have hE34 := hE3.trans hE4
  have hE24 := hE2.trans hE34
  have hE04 := hE1.trans hE24
  refine loadN_blk0 (hB1.ext hE24) rfl ?_
  refine loadN_blk0 (hB2.ext hE34) rfl ?_
  have hx4 := hx.ext hE04
  have hy4 := hy.ext hE04
  refine call (dand_fn x.A x.n x.c x.nd x.r y.A y.n y.c y.nd y.r w4 hx4 hy4) ?_
  rw [op_set hk hxs hys 0]
  have c1 : Set1 k _ _ (bAnd o o') := (comb_set hxs hys 0).congr (fun e => by simp [opB])
  generalize combD x.nd x.r y.nd y.r 0 = D at *
  obtain ⟨D1, D2⟩ := D
  rintro _ w5 ⟨PA, pn, pc, rfl, hE5, hP5, hR5⟩
  refine call (want_fn ⟨PA, pn, pc, D1, D2⟩ w5) ?_
  rintro _ w6 ⟨rfl, hE6⟩
  have hE46 := hE5.trans hE6
  refine storeN_blk0 ((hB3.ext hE4).ext hE46) rfl (sc rfl) (fun w7 hg7 _ hB7 => ?_)
  have hM7 : Mod (· = w2.heap.size) w6 w7 := Mod.of_grown hg7 rfl
  have hE06 := hE04.trans hE46
  have hE07 : Ext w w7 := hM7.ext hE06 (fun i hi => by omega)
  have n12 : ¬ w.heap.size = w2.heap.size := by omega
  have n22 : ¬ w1.heap.size = w2.heap.size := by omega
  have hB17 := ((hB1.ext hE24).ext hE46).mod hM7 n12
  have hB27 := ((hB2.ext hE34).ext hE46).mod hM7 n22
  have hB47 := (hB4.ext hE46).mod hM7 (by show ¬ w3.heap.size = w2.heap.size; omega)
  have hP7 := SB.mod (hP5.ext hE6) hM7 (fun i hi e => by have := hR5 i hi; omega)
  refine draw_plan gx_ok (Ext w7) 12 [(true, 0), (true, 1), (true, 2), (true, 3), (false, 4), (true, 5), (true, 6), (false, 7), (false, 8), (true, 9), (true, 10), (false, 11)] (by kernel_rfl) (Ext.drew w7) ?_
  refine qloadN (vs := x.cells) rfl (fun w' hw' j u hj => by rw [(hB17.ext hw').cell]; exact hj) ?_
  refine qloadN (vs := y.cells) rfl (fun w' hw' j u hj => by rw [(hB27.ext hw').cell]; exact hj) ?_
  have hd := Ext.drew w7
  refine call (dnot_fn y.A y.n y.c y.nd y.r _ ((hy.ext hE07).ext hd)) ?_
  have c0 : Set1 k [] 0 (fun _ => false) := const_set k false
  rw [op_set hk hys c0 3]
  have c2 : Set1 k _ _ (fun e => !o' e) := (comb_set hys c0 3).congr (fun e => by simp [opB])
  generalize combD y.nd y.r [] 0 3 = F at *
  obtain ⟨F1, F2⟩ := F
  rintro _ w8 ⟨QA, qn, qc, rfl, hE8, hQ8, hR8⟩
  refine ⟨hd.trans hE8, ?_⟩
  refine call (want_fn ⟨QA, qn, qc, F1, F2⟩ w8) ?_
  rintro _ w9 ⟨rfl, hE9⟩
  have hE79 := (hd.trans hE8).trans hE9
  refine ⟨hE79, ?_⟩
  refine call (dand_fn x.A x.n x.c x.nd x.r QA qn qc F1 F2 w9 ((hx.ext hE07).ext hE79) (hQ8.ext hE9)) ?_
  rw [op_set hk hxs c2 0]
  have c3 : Set1 k _ _ (bSub o o') := (comb_set hxs c2 0).congr (fun e => by simp [opB])
  generalize combD x.nd x.r F1 F2 0 = G at *
  obtain ⟨G1, G2⟩ := G
  rintro _ w10 ⟨RA, rn, rc, rfl, hE10, hR10, hS10⟩
  refine ⟨hE79.trans hE10, ?_⟩
  refine call (want_fn ⟨RA, rn, rc, G1, G2⟩ w10) ?_
  rintro _ w11 ⟨rfl, hE11⟩
  have hE711 := (hE79.trans hE10).trans hE11
  refine ⟨hE711, ?_⟩
  refine storeN_blk0 (hB47.ext hE711) rfl (sc rfl) (fun w12 hg12 _ hB12 => ?_)
  have hM12 : Mod (· = w3.heap.size) w11 w12 := Mod.of_grown hg12 rfl
  have hE012 : Ext w w12 := hM12.ext (hE07.trans hE711) (fun i hi => by omega)
  have hB712 := (hB7.ext hE711).mod hM12 (by show ¬ w2.heap.size = w3.heap.size; omega)
  have hz7 := hE07.size
  have hz9 := hE79.size
  have hz12 := hM12.size
  have hz711 := hE711.size
  have hz46 := hE46.size
  have hz67 := hM7.size
  have hP12 := SB.mod (hP7.ext hE711) hM12 (fun i hi e => by have := hR5 i hi; omega)
  have hR12 := SB.mod (hR10.ext hE11) hM12 (fun i hi e => by have := hS10 i hi; omega)
  have hd12 := Ext.drew w12
  have n23 : ¬ w3.heap.size = w2.heap.size := by omega
  refine draw_plan gx_ok (fun w' => Mod (fun i => i = w2.heap.size ∨ i = w3.heap.size) w12 w' ∧ Blk w' w2.heap.size 42 (⟨PA, pn, pc, D1, D2⟩ : DV).cells ∧ Blk w' w3.heap.size 42 (⟨RA, rn, rc, G1, G2⟩ : DV).cells) 4 [(true, 0), (true, 1), (false, 2), (false, 3)] (by kernel_rfl) ⟨Mod.of_ext _ hd12, hB712.ext hd12, hB12.ext hd12⟩ ?_
  refine qloadN (vs := (⟨PA, pn, pc, D1, D2⟩ : DV).cells) rfl (fun w' hw' j u hj => by rw [hw'.2.1.cell]; exact hj) ?_
  refine qloadN (vs := (⟨RA, rn, rc, G1, G2⟩ : DV).cells) rfl (fun w' hw' j u hj => by rw [hw'.2.2.cell]; exact hj) ?_
  refine storeN_blk0 (hB712.ext hd12) rfl (sc rfl) (fun w13 hg13 _ hB13 => ?_)
  have hM13 : Mod (· = w2.heap.size) w12.drew w13 := Mod.of_grown hg13 rfl
  have hM13' : Mod (fun i => i = w2.heap.size ∨ i = w3.heap.size) w12 w13 := (Mod.of_ext _ hd12).trans hM13 (fun i hi => .inl (.inl hi))
  have hB313 := (hB12.ext hd12).mod hM13 n23
  refine ⟨⟨hM13', hB13, hB313⟩, ?_⟩
  refine storeN_blk0 hB313 rfl (sc rfl) (fun w14 hg14 _ hB14 => ?_)
  have hM14 : Mod (· = w3.heap.size) w13 w14 := Mod.of_grown hg14 rfl
  have hB214 := hB13.mod hM14 (fun e => n23 e.symm)
  have hM014 := hM13'.trans hM14 (fun i hi => .inl (.inr hi))
  refine ⟨⟨hM014, hB214, hB14⟩, ?_⟩
  refine loadN_blk0 hB214 rfl ?_
  refine loadN_blk0 hB14 rfl ?_
  have hE014 : Ext w w14 := hM014.ext hE012 (fun i hi => by rcases hi with rfl | rfl <;> omega)
  exact ⟨⟨PA, pn, pc, D1, D2⟩, ⟨RA, rn, rc, G1, G2⟩, rfl, hE014, SB.mod hP12 hM014 (fun i hi e => by have := hR5 i hi; omega), c1, fun i hi => by have := hR5 i hi; have := hE04.size; omega,
    SB.mod hR12 hM014 (fun i hi e => by have := hS10 i hi; omega), c3, fun i hi => by have := hS10 i hi; omega⟩

theorem deeper_fn (w : World) (h : Rr w0 w base p m v) (hd : v.d ≤ 64) :
    FnP Tryz.prog 75 [.pointer (some ⟨p.r, 0, none⟩)] w (fun _ w' => v.d ≠ 64 ∧ Rr w0 w' base p m { v with d := v.d + 1 } ∧ Mod (· = p.r) w w') (fun ch w' => v.d = 64 ∧ ch = failPan 2 v.fl v.ln ∧ Ext w w') := by
  refine fnP_of_exec (c := { c75 with cuts := [] }) gx_ok Tryz.func75 rfl rfl rfl ?_
  refine load_blk h.blk rfl ?_
  refine wif_eq (fun h1 => ?_) (fun h1 => ?_)
  · refine callP (fail_fn 2 w h) (fun _ _ hf => hf.elim) ?_
    rintro ch w1 ⟨rfl, hE1⟩
    exact ⟨by omega, rfl, hE1⟩
  · refine load_blk h.blk rfl ?_
    refine norm_i64_to ((v.d + 1 : Nat) : Int) (by show ((v.d : Nat) : Int) + 1 = _; omega) (by omega) ?_
    refine store_mod h.blk (show 4 < 11 by decide) (fun w1 hM1 hB1 => ?_)
    exact ⟨fun e => h1 (by omega), h.put hM1 hB1 rfl rfl rfl h.nf, hM1⟩

theorem incE_no {ix : List Nat → Option Nat} {rd s : List Nat} (h : s.length < 2 ∨ s.head? ≠ some 34 ∨ s.getLast? ≠ some 34 ∨ s.count 34 ≠ 2) : incE ix rd s = .error 71 := if_pos h
theorem fnames {p : RP} (hP : RPok w0 p) : NamesOk (p.fs.map (·.1)) := fun s hs => by
  obtain ⟨x, hx, rfl⟩ := List.mem_map.1 hs
  exact ⟨(hP.flb x hx).n8, (hP.flb x hx).nl⟩

theorem top_lookup_ok {α : Type} [DecidableEq α] {kv : α → Value} {c : Cx} {o : Oper} {S : Env} {t ke e : Nat} {r rk re : TyRow} {x y : Operand} {q : Nat} {mm : List (α × Value)} {a : α} {C : World → Prop} {K : Env → Prop} (hg : c.g.Ok) (ho : o.op = .lookup t x y true) (hr : rowOf c.g.tys t = some r) (hd : r.d = .map ke e) (hrk : rowOf c.g.tys ke = some rk) (hre : rowOf c.g.tys e = some re) (hk : KeyV rk.d kv)
    (hx : S.ev x = some (.map (some q))) (hy : S.ev y = some (kv a)) (hm : ∀ w, C w → MapAt kv w q mm) {v' : Value} {b : Bool} (hv : (assoc a mm).getD re.z = v') (hb : (assoc a mm).isSome = b) (k : putK c S o.dst (.v (.tuple #[v', .bool b])) K) : TOp c o S C K := by
  subst hv hb
  refine top_op (v := .tuple #[(assoc a mm).getD re.z, .bool (assoc a mm).isSome]) (fun b w hf hw => ?_) k
  have e1 := hf.ev hx
  have e2 := hf.ev hy
  have := run_lookup (w := w) (a := a) hg hr hd hrk hre hk (hm w hw) true
  simp only [execOp, ho, e1, e2]
  simp only [Sem.run_bind, this, Result.andThen_ok]
  cases assoc a mm <;> simp

theorem number_fn (s : List Nat) (w : World) (hP : RPok w0 p) (h : Rr w0 w base p m v) (h8 : ∀ x ∈ s, x < 256) (hl : s.length ≤ 1000000000000) :
    FnP Tryz.prog 77 [.pointer (some ⟨p.r, 0, none⟩), .string (strOf s)] w (fun u w' => ∃ n : Nat, incE (ixN (p.fs.map (·.1))) v.rd s = .ok n ∧ u = .int .i64 n ∧ Ext w w') (fun ch w' => ∃ e, incE (ixN (p.fs.map (·.1))) v.rd s = .error e ∧ ch = failPan e v.fl v.ln ∧ Ext w w') := by
  refine fnP_of_exec (c := { c77 with cuts := [] }) gx_ok Tryz.func77 rfl rfl rfl ?_
  have hsz := strOf_size s
  have hby := bytesOf_strOf h8
  refine wif_d (fun h1 => ?_) (fun h1 => ?_)
  · have hs : s.length < 2 := by rw [hsz] at h1; omega
    refine callP (fail_fn 71 w h) (fun _ _ hf => hf.elim) ?_
    rintro ch w1 ⟨rfl, hE1⟩
    exact ⟨_, incE_no (.inl hs), rfl, hE1⟩
  have hs : ¬ s.length < 2 := by rw [hsz] at h1; omega
  refine sindex' (j := 0) (by omega) (fun x hx hxl => ?_)
  rw [hby] at hx
  have hhead : s.head? = some x := by rw [List.head?_eq_getElem?]; exact hx
  refine wif_ne (fun h2 => ?_) (fun h2 => ?_)
  · refine callP (fail_fn 71 w h) (fun _ _ hf => hf.elim) ?_
    rintro ch w1 ⟨rfl, hE1⟩
    exact ⟨_, incE_no (.inr (.inl (by rw [hhead]; intro e; cases e; exact h2 rfl))), rfl, hE1⟩
  have hx34 : x = 34 := by omega
  refine norm_i64_to ((s.length - 1 : Nat) : Int) (by rw [hsz]; omega) (by omega) ?_
  refine sindex' (j := s.length - 1) (by omega) (fun y hy hyl => ?_)
  rw [hby] at hy
  have hlast : s.getLast? = some y := by rw [List.getLast?_eq_getElem?]; exact hy
  refine wif_ne (fun h3 => ?_) (fun h3 => ?_)
  · refine callP (fail_fn 71 w h) (fun _ _ hf => hf.elim) ?_
    rintro ch w1 ⟨rfl, hE1⟩
    exact ⟨_, incE_no (.inr (.inr (.inl (by rw [hlast]; intro e; cases e; exact h3 rfl)))), rfl, hE1⟩
  have hy34 : y = 34 := by omega
  refine call (count_fn s 34 w h8 (by decide)) ?_
  rintro _ _ ⟨rfl, rfl⟩
  refine wif_ne (fun h4 => ?_) (fun h4 => ?_)
  · refine callP (fail_fn 71 w h) (fun _ _ hf => hf.elim) ?_
    rintro ch w1 ⟨rfl, hE1⟩
    exact ⟨_, incE_no (.inr (.inr (.inr (by omega)))), rfl, hE1⟩
  have hcond : ¬ (s.length < 2 ∨ s.head? ≠ some 34 ∨ s.getLast? ≠ some 34 ∨ s.count 34 ≠ 2) := by
    rintro (h | h | h | h)
    · exact hs h
    · rw [hhead, hx34] at h; exact h rfl
    · rw [hlast, hy34] at h; exact h rfl
    · omega
  have hinc : incE (ixN (p.fs.map (·.1))) v.rd s = match ixN (p.fs.map (·.1)) ((s.drop 1).take (s.length - 2)) with
    | none => .error 73
    | some n => if n ∈ v.rd then .error 73 else .ok n := if_neg hcond
  have hn8 : ∀ b ∈ (s.drop 1).take (s.length - 2), b < 256 := fun b hb => h8 b (List.mem_of_mem_drop (List.mem_of_mem_take hb))
  have hlook := ixN_ok (fnames hP) _ hn8
  have hB := h.blk
  refine draw_plan gx_ok (Ext w) 15 [(true, 0), (true, 1), (true, 2), (true, 3), (true, 4), (true, 5), (true, 6), (true, 7), (true, 8), (true, 9), (true, 10), (true, 11), (true, 12), (true, 13), (true, 14)] (by kernel_rfl) (Ext.drew w) ?_
  refine qload (v := .map (some p.nq)) (fun w' hw' => by rw [(hB.ext hw').cell]; rfl) ?_
  refine norm_i64_to ((s.length - 1 : Nat) : Int) (by rw [hsz]; omega) (by omega) ?_
  refine need_to (v' := .string (strOf ((s.drop 1).take (s.length - 2)))) ⟨by omega, by omega, by rw [hsz]; omega⟩ ?_ ?_
  · rw [strOf_extract]
    simp only [Int.toNat_natCast, Int.toNat_one]
    rw [List.drop_take]
    congr 3
  generalize hnm : (s.drop 1).take (s.length - 2) = nm at *
  refine top_lookup_ok (kv := strK) (a := strOf nm) (v' := .int .i64 ((ixN (p.fs.map (·.1)) nm).getD 0 : Nat)) (b := (ixN (p.fs.map (·.1)) nm).isSome) gx_ok rfl rfl rfl rfl rfl KeyV.str rfl rfl (fun w' hw' => (hP.nqm.ext h.e0).ext hw') (by rw [hlook]; cases ixN (p.fs.map (·.1)) nm <;> rfl) (by rw [hlook]; cases ixN (p.fs.map (·.1)) nm <;> rfl) ?_
  have hE1 := Ext.drew w
  have h1' := h.ext hE1
  obtain ⟨mp, k1, k2, k3⟩ := h1'.rdm
  cases hix : ixN (p.fs.map (·.1)) nm with
  | none =>
    rw [hix] at hinc
    refine wif_t rfl ?_
    refine callP (fail_fn 73 _ h1') (fun _ _ hf => hf.elim) ?_
    rintro ch w1 ⟨rfl, hE2⟩
    exact ⟨_, hinc, rfl, hE1.trans hE2⟩
  | some n =>
    rw [hix] at hinc
    simp only at hinc
    refine wif_f rfl ?_
    refine load_blk h1'.blk rfl ?_
    refine at_lookup' (kv := intK) (a := (n : Int)) (v := .bool (decide (n ∈ v.rd))) gx_ok rfl rfl rfl rfl rfl (KeyV.int .i64) rfl rfl k1 (by rw [k3 n]; by_cases hm : n ∈ v.rd <;> simp [hm]) ?_
    by_cases hm : n ∈ v.rd
    · rw [if_pos hm] at hinc
      refine wif_dt hm ?_
      refine callP (fail_fn 73 _ h1') (fun _ _ hf => hf.elim) ?_
      rintro ch w1 ⟨rfl, hE2⟩
      exact ⟨_, hinc, rfl, hE1.trans hE2⟩
    · rw [if_neg hm] at hinc
      refine wif_df hm ?_
      exact ⟨n, hinc, rfl, hE1⟩
end
end

section
open Go Go.RowKit

theorem scalar_flat {α : Type} {f : α → List Value} (hf : ∀ x, ∀ u ∈ f x, scalar u = true) (l : List α) : ∀ u ∈ l.flatMap f, scalar u = true := fun u hu => by
  obtain ⟨x, _, hx⟩ := List.mem_flatMap.1 hu
  exact hf x u hx
theorem br_scalar (x : Br) : ∀ u ∈ x.cells, scalar u = true := sc rfl

theorem clone_fn (k : Nat) (hk : k ≤ 12) (x : DV) (o : BF) (w : World) (hx : SB w x.A x.n x.c x.nd) (hs : Set1 k x.nd x.r o) :
    Fn Tryz.prog 121 [dgV x.A x.n x.c x.r] w (DgF w k o) := by
  have hlen := hx.2
  have hl := hs.len hk
  refine fn_of_exec (c := { c121 with cuts := [] }) gx_ok Tryz.func121 rfl rfl rfl ?_
  refine new (fun w1 hE1 hz1 hB1 => ?_)
  refine new (fun w2 hE2 hz2 hB2 => ?_)
  have hE02 := hE1.trans hE2
  have hB12 := hB1.ext hE2
  refine draw_plan gx_ok (Ext w2) 6 [(true, 0), (true, 1), (true, 3), (true, 4), (false, 2), (true, 5)] (by kernel_rfl) (Ext.drew w2) ?_
  refine qload (v := .slice x.A x.n x.c) (fun w' hw' => by rw [(hB12.ext hw').cell]; rfl) ?_
  refine qload (v := .int .i64 x.r) (fun w' hw' => by rw [(hB12.ext hw').cell]; rfl) ?_
  have hd := Ext.drew w2
  have hz := hd.size
  refine at_app (base := w2.drew.heap.size) gx_ok rfl rfl rfl rfl rfl (by decide) rfl rfl ⟨_, rfl⟩ rfl rfl (Own.nil _ _ _ _) ((hx.ext hE02).ext hd).1 (scalar_flat br_scalar _) (by unfold maxLen; omega) (by show (0 + x.n) * 24 ≤ _; omega) (Nat.le_refl _) ?_
  intro A' c' w3 hm3 hown3 hmv3
  have hE23 : Ext w2 w3 := hm3.ext hd (fun i hi => by obtain ⟨_, e, _⟩ := hi; cases e)
  refine ⟨hE23, ?_⟩
  refine storeN_blk0 (hB2.ext hE23) rfl (sc rfl) (fun w4 hg4 _ hB4 => ?_)
  have hM4 : Mod (· = w1.heap.size) w3 w4 := Mod.of_grown hg4 rfl
  refine loadN_blk0 hB4 rfl ?_
  have hrow : ∀ i, rowS A' i → w2.heap.size ≤ i := fun i hi => by have := (hown3.rows i hi).1; omega
  refine ⟨⟨A', 0 + x.n, c', x.nd, x.r⟩, rfl, hM4.ext (hE02.trans hE23) (fun i hi => by omega), ?_, hs, fun i hi => by have := hrow i hi; have := hE02.size; omega⟩
  refine SB.mod ⟨?_, by show x.nd.length = 0 + x.n; omega⟩ hM4 (fun i hi e => by have := hrow i hi; omega)
  simpa using hown3.sl

/-! ### add -/
theorem sgV_snoc {l : List Sg} {L : List DV} (h : L.length = l.length) (s : Sg) (x : DV) : sgV (l ++ [s]) (L ++ [x]) = sgV l L ++ sgC (s, x) := by
  unfold sgV
  rw [List.zip_append h.symm]
  simp
theorem sgV_len {l : List Sg} {L : List DV} (h : L.length = l.length) : (sgV l L).length = l.length * 6 := by
  unfold sgV
  rw [flat_length sg_len]; simp [h]
theorem sgC_scalar (x : Sg × DV) : ∀ u ∈ sgC x, scalar u = true := sc rfl

/-- A cell of a row of the call's own is written. -/
theorem store_ownN {w : World} {base e sz n c j : Nat} {a : Addr} {xs : List Value} {v : Value} {K : World → Prop} (h : Own w base e sz (some a) n c xs) (hn : 0 < n) (hj : j < n * sz)
    (k : ∀ w1, Mod (rowS (some a)) w w1 → Own w1 base e sz (some a) n c (xs.set j v) → K w1) : Store w (a.add j) v K := by
  have _ := hn
  have hr := h.row
  have hlen := hr.1
  rcases hr.2 with ⟨hv, _⟩ | ⟨g, cap, cur, hv, hb, hg, hnc, hcm, hcs, htake⟩
  · cases hv
  · cases hv
    have hB : Blk w g e cur.toList := by unfold Blk; rw [hg]
    have hjc : j < cur.toList.length := by
      have : cur.size = c * sz := hcs
      have h2 : n * sz ≤ c * sz := Nat.mul_le_mul_right _ hnc
      simp only [Array.length_toList]; omega
    refine store_mod hB hjc (fun w1 hm hB1 => k w1 (hm.mono (fun i hi => .inl ⟨_, rfl, hi.symm⟩)) ⟨⟨by rw [List.length_set]; exact hlen, .inr ⟨g, c, (cur.toList.set j v).toArray, rfl, hb, hB1, hnc, hcm, by simpa using hcs, ?_⟩⟩⟩)
    have ht : cur.toList.take (n * sz) = xs := htake
    show ((cur.toList.set j v).toArray.toList).take (n * sz) = xs.set j v
    rw [← ht]
    simp only [List.take_set]

theorem sgV_setTo {l : List Sg} {L : List DV} (h : L.length = l.length) (s : Sg) (x : DV) (t : Nat) : (sgV (l ++ [s]) (L ++ [x])).set (l.length * 6 + 1) (.int .i64 t) = sgV (l ++ [{ s with t := t }]) (L ++ [x]) := by
  rw [sgV_snoc h, sgV_snoc h, List.set_append_right _ _ (by rw [sgV_len h]; omega), sgV_len h]
  congr 1
  rw [show l.length * 6 + 1 - l.length * 6 = 1 by omega]; rfl

theorem b8_app {a b : List Nat} (ha : ∀ x ∈ a, x < 256) (hb : ∀ x ∈ b, x < 256) : ∀ x ∈ a ++ b, x < 256 := fun x hx => by
  rcases List.mem_append.1 hx with h | h
  · exact ha x h
  · exact hb x h
section
variable {w0 : World} {base : Nat} {p : RP}
theorem addG_none {s : List Nat} {fl at_ : Nat} {k : BF} {g : Gs} (h : 1048576 < g.tx.length + s.length ∨ (g.fr = true ∧ g.sg.length = 65536)) : addG s fl at_ k g = none := if_pos h
theorem addG_some {s : List Nat} {fl at_ : Nat} {k : BF} {g : Gs} (h : ¬ (1048576 < g.tx.length + s.length ∨ (g.fr = true ∧ g.sg.length = 65536))) : addG s fl at_ k g = some ⟨g.tx ++ s, setTo (g.tx.length + s.length) (if g.fr then g.sg ++ [⟨g.tx.length, 0, fl, at_, k⟩] else g.sg), false⟩ := if_neg h
theorem liesR : LiesO 88 11 5 := by unfold LiesO; kernel_rfl

/-- A segment was appended, and the reader's slice is set. -/
theorem Rr.app {m : RM} {v v' : RV} {w w1 w2 : World} (h : Rr w0 w base p m v) (s : Sg) (x : DV) {A' : Option Addr} {c' : Nat} (hm1 : Mod (rowS m.OA) w w1) (ho : Own w1 base 45 6 A' (v.g.sg.length + 1) c' (sgV v.g.sg m.L ++ sgC (s, x))) (hv : Moved w m.OA A') (hm2 : Mod (· = p.r) w1 w2)
    (hx : DgO w (TS p m) p.nm.length x s.o) (hl : v.g.sg.length < 65536) (e1 : v'.g.tx = v.g.tx) (e2 : v'.g.sg = v.g.sg ++ [s]) (e3 : v'.rd = v.rd) (hB : Blk w2 p.r 88 (rdC p { m with OA := A', oc := c', L := m.L ++ [x] } v')) : Rr w0 w2 base p { m with OA := A', oc := c', L := m.L ++ [x] } v' := by
  have hrs := TS.moved (p := p) (m := m) (m' := { m with OA := A', oc := c', L := m.L ++ [x] }) rfl hv (Moved.refl w m.BA)
  have hmm : Mod (RS p m) w w2 := (hm1.mono (S' := RS p m) (fun i hi => .inl (.inr (.inr (.inl hi))))).trans hm2 (fun i hi => .inl (.inl hi))
  have hpr : ∀ i, rowS A' i → ¬ i = p.r := fun i hi e => by subst e; have := (ho.rows _ hi).1; have := h.rb; omega
  have hsz := h.top
  have hz1 := hm1.size
  have hz2 := hm2.size
  refine ⟨hmm.ext h.e0 h.lo, h.lor, h.loq, h.rb, h.qb, h.ne, by omega, h.pa, hB, ?_, ?_, ?_, ?_, ?_, by rw [e1]; exact h.tl, ?_, by rw [e1]; exact h.b8, fun _ => .inl (by rw [e2]; simp), fun i hi => Nat.lt_of_lt_of_le (h.tt i hi) (by omega)⟩
  · rw [e1]
    exact (h.txt.mod hm1 (fun i hi hj => h.txt.apart h.out (by decide) hi hj)).mod hm2 (fun i hi e => by subst e; exact h.nrow.2 hi)
  · rw [e2]
    have := ho.mod hm2 hpr
    rw [sgV_snoc h.len, List.length_append]; exact this
  · rw [e2]; show (m.L ++ [x]).length = _; rw [List.length_append, List.length_append, h.len]; rfl
  · rw [e2]
    intro j s1 x1 hs1 hx1
    have hx1 : (m.L ++ [x])[j]? = some x1 := hx1
    rcases app_cases hs1 with ⟨hj, hs1⟩ | ⟨hj, hs1⟩
    · rw [List.getElem?_append_left (by rw [h.len]; exact hj)] at hx1
      exact (h.dgs j s1 x1 hs1 hx1).step (hmm.mono (fun i hi => .inl (.inl hi))) hrs
    · rw [List.getElem?_append_right (by rw [h.len]; exact hj), h.len] at hx1
      obtain ⟨h0, rfl⟩ := one_cases hs1
      obtain ⟨_, rfl⟩ := one_cases hx1
      exact hx.step (hmm.mono (fun i hi => .inl (.inl hi))) hrs
  · obtain ⟨mp, k1, k2⟩ := h.rdm
    rw [e3]
    exact ⟨mp, (k1.mod hm1 (k1.apart h.out)).mod hm2 (fun e => h.ne e.symm), k2⟩
  · rw [e2, List.length_append]; simp; omega

theorem last_split {l : List Sg} {L : List DV} (h : L.length = l.length) (hn : l ≠ []) : ∃ l' s L' x, l = l' ++ [s] ∧ L = L' ++ [x] ∧ L'.length = l'.length := by
  rcases List.eq_nil_or_concat l with rfl | ⟨l', s, rfl⟩
  · exact absurd rfl hn
  rcases List.eq_nil_or_concat L with rfl | ⟨L', x, rfl⟩
  · simp at h
  · exact ⟨l', s, L', x, by simp, by simp, by simpa using h⟩

theorem add_fn (m : RM) (v : RV) (s : List Nat) (at_ : Nat) (k : DV) (o : BF) (w : World) (hP : RPok w0 p) (h : Rr w0 w base p m v) (hk : DgO w (RS p m) p.nm.length k o) (h8 : ∀ x ∈ s, x < 256) (hsl : s.length ≤ 1048577) (hrdn : v.rd ≠ []) :
    FnP Tryz.prog 80 [.pointer (some ⟨p.r, 0, none⟩), .string (strOf s), .int .i64 at_, dgV k.A k.n k.c k.r] w (fun _ w' => ∃ g', addG s v.fl at_ o v.g = some g' ∧ GTo w0 w base p m { v with g := g' } w') (fun ch w' => addG s v.fl at_ o v.g = none ∧ ch = failPan 2 v.fl v.ln ∧ Ext w w') := by
  have hss := strOf_size s
  have htl := h.tl
  have hsl' := h.sl
  refine fnP_of_exec (c := { c80 with cuts := [2, 4] }) gx_ok Tryz.func80 rfl rfl rfl ?_
  refine new (fun w1 hE1 hz1 hB1 => ?_)
  have h1 := h.ext hE1
  refine call (lenO_fn p.r 88 5 (rdC p m v) m.BA m.bc v.g.tx.length w1 h1.blk rfl) ?_
  rintro _ _ ⟨rfl, rfl⟩
  refine cut0In [] gx_ok (fun w2 => w1 = w2 ∧ ¬ (1048576 < v.g.tx.length + s.length ∨ (v.g.fr = true ∧ v.g.sg.length = 65536))) ?_ ?_
  · refine norm_i64_to ((v.g.tx.length + s.length : Nat) : Int) (by rw [hss]; omega) (by omega) ?_
    refine wif_d (fun c1 => ?_) (fun c1 => ?_)
    · refine callP (fail_fn 2 w1 h1) (fun _ _ hf => hf.elim) ?_
      rintro ch w2 ⟨rfl, hE2⟩
      exact ⟨addG_none (.inl (by omega)), rfl, hE1.trans hE2⟩
    refine load_blk h1.blk rfl ?_
    refine wif (fun f1 => ?_) (fun f1 => ?_)
    · refine load_blk h1.blk rfl ?_
      refine wif_eq (fun c2 => ?_) (fun c2 => ?_)
      · refine callP (fail_fn 2 w1 h1) (fun _ _ hf => hf.elim) ?_
        rintro ch w2 ⟨rfl, hE2⟩
        exact ⟨addG_none (.inr ⟨f1, by omega⟩), rfl, hE1.trans hE2⟩
      · exact ⟨rfl, rfl, by omega⟩
    · exact ⟨rfl, rfl, by rw [f1]; intro hh; rcases hh with hh | ⟨hh, _⟩; omega; cases hh⟩
  rintro _ ⟨rfl, hbig⟩
  have hadd := addG_some (s := s) (fl := v.fl) (at_ := at_) (k := o) (g := v.g) hbig
  refine cut0In [] gx_ok (GTo w0 w1 base p m { v with g := ⟨v.g.tx, if v.g.fr then v.g.sg ++ [⟨v.g.tx.length, 0, v.fl, at_, o⟩] else v.g.sg, false⟩ }) ?_ ?_
  · refine load_blk h1.blk rfl ?_
    refine wif (fun f1 => ?_) (fun f1 => ?_)
    · have f1 : v.g.fr = true := f1
      have hsg : v.g.sg.length < 65536 := by
        rcases Nat.lt_or_ge v.g.sg.length 65536 with hh | hh
        · exact hh
        · exact absurd (Or.inr ⟨f1, by omega⟩) hbig
      have hhi := h.hi
      have hbx : ¬ RS p m w.heap.size := fun hh => by have := hhi _ hh; omega
      have nrow := h.nrow
      refine draw_plan gx_ok (Mod (rowS m.OA) w1) 18 [(true, 0), (true, 1), (true, 2), (true, 3), (true, 4), (true, 5), (true, 6), (true, 7), (true, 8), (true, 9), (true, 10), (true, 11), (false, 12), (true, 13), (false, 14), (false, 15), (true, 16), (true, 17)] (by kernel_rfl) (Mod.of_ext _ (Ext.drew w1)) ?_
      refine qload (v := .slice m.OA v.g.sg.length m.oc) (fun w' hw' => by rw [(h1.blk.mod hw' nrow.1).cell]; rfl) ?_
      refine qload (v := .int .i64 v.fl) (fun w' hw' => by rw [(h1.blk.mod hw' nrow.1).cell]; rfl) ?_
      refine qloadN (vs := k.cells) rfl (fun w' hw' j u hj => by rw [(hB1.mod hw' (fun hh => hbx (.inr (.inr (.inl hh))))).cell]; exact hj) ?_
      have hd := Ext.drew w1
      have hk1 := hk.ext hE1
      refine call (clone_fn p.nm.length hP.nmk k o w1.drew (hk1.sb.ext hd) hk1.st) ?_
      rintro _ w2 ⟨x, rfl, hE2, hx2, hxs, hxr⟩
      have hE12 := hd.trans hE2
      refine ⟨Mod.of_ext _ hE12, ?_⟩
      refine at_buildN gx_ok [sgC (⟨v.g.tx.length, 0, v.fl, at_, o⟩, x)] rfl rfl rfl rfl rfl ⟨rfl, rfl, ⟨⟩⟩ rfl (fun cs hh => by simp only [List.mem_singleton] at hh; subst hh; rfl) rfl (by decide) (by decide) ?_
      intro w3 hE3 hz3 hB3
      have hE13 := hE12.trans hE3
      refine ⟨Mod.of_ext _ hE13, ?_⟩
      have h3 := h1.ext hE13
      have hs3 : Sl w3 6 (some ⟨w2.heap.size, 0, none⟩) 1 1 (sgC (⟨v.g.tx.length, 0, v.fl, at_, o⟩, x)) := Sl.own (sz := 6) (n := 1) hB3 (Nat.le_refl _) (by decide) (by simp [sgC])
      refine at_app gx_ok rfl rfl rfl rfl rfl (by decide) rfl rfl ⟨_, rfl⟩ rfl rfl h3.out hs3 (sgC_scalar _) (by unfold maxLen; omega) (by show (v.g.sg.length + 1) * 64 ≤ _; omega) h3.top ?_
      intro A' c' w4 hm4 hown4 hmv4
      refine ⟨(Mod.of_ext (rowS m.OA) hE13).trans hm4 (fun i hi => .inl hi), ?_⟩
      refine store_mod (h3.blk.mod hm4 nrow.1) (show 7 < 11 by decide) (fun w5 hm5 hB5 => ?_)
      refine store_mod hB5 (show 8 < 11 by decide) (fun w6 hm6 hB6 => ?_)
      have hm46 : Mod (· = p.r) w4 w6 := hm5.trans hm6 (fun i hi => .inl hi)
      have hhi1 := h1.hiT
      have hxo : DgO w3 (TS p m) p.nm.length x o := (DgO.new (S := TS p m) hx2 hxs hxr (fun i hi => by have := hhi1 i hi; have := hd.size; omega)).ext hE3
      have hx3 : DgO w3 (TS p m) p.nm.length x (⟨v.g.tx.length, 0, v.fl, at_, o⟩ : Sg).o := hxo
      rw [f1, if_pos rfl]
      refine ⟨rfl, ⟨{ m with OA := A', oc := c', L := m.L ++ [x] }, rfl, h3.app ⟨v.g.tx.length, 0, v.fl, at_, o⟩ x hm4 hown4 hmv4 hm46 hx3 hsg rfl rfl rfl ?_, ?_, hmv4.back hE13.size, Moved.refl _ _⟩⟩
      · have e : (v.g.sg ++ [(⟨v.g.tx.length, 0, v.fl, at_, o⟩ : Sg)]).length = v.g.sg.length + 1 := by simp
        show Blk w6 p.r 88 [.slice p.NA p.nn p.nc, .slice p.FA p.nf p.cf, .map (some p.nq), .map (some p.q), .int .i64 v.d, m.pa, .slice m.BA v.g.tx.length m.bc, .slice A' (v.g.sg ++ [(⟨v.g.tx.length, 0, v.fl, at_, o⟩ : Sg)]).length c', .bool false, .int .i64 v.fl, .int .i64 v.ln]
        rw [e]; exact hB6
      · exact ((Mod.of_ext (RS p m) hE13).trans hm4 (fun i hi => .inl (.inr (.inr (.inl hi))))).trans hm46 (fun i hi => .inl (.inl hi))
    · have f1 : v.g.fr = false := f1
      have e : ({ v with g := ⟨v.g.tx, if v.g.fr then v.g.sg ++ [⟨v.g.tx.length, 0, v.fl, at_, o⟩] else v.g.sg, false⟩ } : RV) = v := by
        obtain ⟨d, fl, ln, rd, ⟨tx, sg, fr⟩⟩ := v
        simp only at f1
        subst f1
        rfl
      rw [e]
      exact ⟨rfl, m, rfl, h1, Mod.refl _ _, Moved.refl _ _, Moved.refl _ _⟩
  rintro w2 ⟨m2, hT2, h2, hm2, hv2, hu2⟩
  generalize hsg2 : (if v.g.fr then v.g.sg ++ [(⟨v.g.tx.length, 0, v.fl, at_, o⟩ : Sg)] else v.g.sg) = sg2 at *
  have hne : sg2 ≠ [] := (h2.nf rfl).resolve_right hrdn
  have hl2 := h2.sl
  simp only at hl2
  obtain ⟨l', s0, L', x0, e1, e2, e3⟩ := last_split (l := sg2) h2.len hne
  have hn0 : 0 < sg2.length := List.length_pos_iff.2 hne
  obtain ⟨oa, hoa, _⟩ := h2.out.sl.at_ hn0
  have hoa : m2.OA = some oa := hoa
  have hlies : LiesO 88 (rdC p m2 { v with g := ⟨v.g.tx, sg2, false⟩ }).length 5 := by rw [show (rdC p m2 { v with g := ⟨v.g.tx, sg2, false⟩ }).length = 11 from rfl]; exact liesR
  refine call (writeStringO_fn base p.r 88 5 m2.pa (rdC p m2 { v with g := ⟨v.g.tx, sg2, false⟩ }) m2.BA m2.bc v.g.tx (strOf s) w2 hlies (show 6 < 11 by decide) h2.pa h2.blk rfl rfl h2.txt h2.rb h2.top (by rw [hss]; omega)) ?_
  rintro _ w3 ⟨B', b', hB3, ho3, hm3, hv3⟩
  rw [hss, bytesOf_strOf h8] at ho3
  rw [hss] at hB3
  have nrow2 := h2.nrow
  have hout3 : Own w3 base 45 6 m2.OA sg2.length m2.oc (sgV sg2 m2.L) := h2.out.mod hm3 (fun i hi hj => by
    rcases hj with rfl | hj
    · exact nrow2.1 hi
    · exact h2.out.apart h2.txt (by decide) hi hj)
  have hd := Ext.drew w3
  have hB3' := hB3.ext hd
  refine draw_tail gx_ok 16 (by kernel_rfl) ?_
  refine qload (v := .slice m2.OA sg2.length m2.oc) (fun w' hw' => by subst hw'; rw [hB3'.cell]; rfl) ?_
  refine qload (v := .slice m2.OA sg2.length m2.oc) (fun w' hw' => by subst hw'; rw [hB3'.cell]; rfl) ?_
  refine norm_i64_to ((sg2.length - 1 : Nat) : Int) (by omega) (by omega) ?_
  refine norm_i64_to ((v.g.tx.length + s.length : Nat) : Int) (by rw [hss]; omega) (by omega) ?_
  rw [hoa]
  refine index_n (j := sg2.length - 1) (by omega) ?_
  have hout4 := hout3.ext hd
  rw [hoa] at hout4
  have hle : sg2.length = l'.length + 1 := by rw [e1]; simp
  show Store _ ((oa.add ((sg2.length - 1) * 6)).add 1) _ _
  rw [add_add]
  refine store_ownN hout4 hn0 (by omega) (fun w4 hm4 hout5 => ?_)
  have hcell : (sgV sg2 m2.L).set ((sg2.length - 1) * 6 + 1) (.int .i64 ((v.g.tx.length + s.length : Nat) : Int)) = sgV (setTo (v.g.tx.length + s.length) sg2) m2.L := by
    have e : (l' ++ [s0]).length - 1 = l'.length := by simp
    rw [e1, e2, setTo_snoc, e, sgV_setTo e3]
  rw [hcell] at hout5
  have hsl2 : (setTo (v.g.tx.length + s.length) sg2).length = sg2.length := by rw [e1, setTo_snoc]; simp
  have hm34 : Mod (rowS m2.OA) w3 w4 := by rw [hoa]; exact (Mod.of_ext _ hd).trans hm4 (fun i hi => .inl hi)
  have hBrow : ∀ i, rowS B' i → ¬ rowS m2.OA i := fun i hi hj => hout3.apart ho3 (by decide) hj hi
  have hall : Mod (RS p m2) w2 w4 := (hm3.mono (S' := RS p m2) (fun i hi => by
      rcases hi with rfl | hi
      · exact .inl (.inl rfl)
      · exact .inl (.inr (.inr (.inr hi))))).trans hm34 (fun i hi => .inl (.inr (.inr (.inl hi))))
  have hz3 := hm3.size
  have hz4 := hm34.size
  have htop2 := h2.top
  refine ⟨_, hadd, { m2 with BA := B', bc := b', pa := .pointer (some (adr p.r 5)) }, hT2, ⟨hall.ext h2.e0 h2.lo, h2.lor, h2.loq, h2.rb, h2.qb, h2.ne, by omega, .inr rfl, ?_, ?_, ?_, ?_, ?_, ?_, ?_, ?_, ?_, fun _ => ?_, fun i hi => Nat.lt_of_lt_of_le (h2.tt i hi) (by omega)⟩, ?_, ?_, ?_⟩
  all_goals try simp only
  · have e : (v.g.tx ++ s).length = v.g.tx.length + s.length := by simp
    show Blk w4 p.r 88 [.slice p.NA p.nn p.nc, .slice p.FA p.nf p.cf, .map (some p.nq), .map (some p.q), .int .i64 v.d, .pointer (some (adr p.r 5)), .slice B' (v.g.tx ++ s).length b', .slice m2.OA (setTo (v.g.tx.length + s.length) sg2).length m2.oc, .bool false, .int .i64 v.fl, .int .i64 v.ln]
    rw [e, hsl2]
    exact hB3.mod hm34 nrow2.1
  · rw [List.length_append]; exact ho3.mod hm34 hBrow
  · rw [hsl2]; rw [← hoa] at hout5; exact hout5
  · rw [hsl2]; exact h2.len
  · intro j s1 x1 hs1 hx1
    have hrs := TS.moved (p := p) (m := m2) (m' := { m2 with BA := B', bc := b', pa := .pointer (some (adr p.r 5)) }) rfl (Moved.refl w2 m2.OA) hv3
    have key : ∃ s2, sg2[j]? = some s2 ∧ s2.o = s1.o := by
      rw [e1, setTo_snoc] at hs1
      rw [e1]
      rcases app_cases hs1 with ⟨hj, hs1⟩ | ⟨hj, hs1⟩
      · exact ⟨s1, by rw [List.getElem?_append_left hj]; exact hs1, rfl⟩
      · obtain ⟨h0, rfl⟩ := one_cases hs1
        exact ⟨s0, by rw [List.getElem?_append_right hj, h0]; rfl, rfl⟩
    obtain ⟨s2, hs2, hse⟩ := key
    rw [← hse]
    exact (h2.dgs j s2 x1 hs2 hx1).step (hall.mono (fun i hi => .inl (.inl hi))) hrs
  · obtain ⟨mp, k1, k2⟩ := h2.rdm
    refine ⟨mp, (k1.mod hm3 (fun hj => ?_)).mod hm34 (k1.apart h2.out), k2⟩
    rcases hj with e | hj
    · exact h2.ne e.symm
    · exact k1.apart h2.txt hj
  · rw [List.length_append]; omega
  · rw [hsl2]; exact hl2
  · exact b8_app h.b8 h8
  · exact .inl (by rw [← List.length_pos_iff, hsl2]; exact hn0)
  · exact (((Mod.of_ext (RS p m) hE1).trans hm2 (fun i hi => .inl hi)).trans hall (fun i hi => by
      rcases RS.moved (p := p) hv2 hu2 i hi with hh | hh
      · exact .inl hh
      · exact .inr (by have := hE1.size; omega)))
  · exact hv2.back hE1.size
  · exact (hu2.trans hv3 hm2.size).back hE1.size
end
end

section
open Go Go.RowKit

theorem Rr.modT {w0 w w' : World} {base : Nat} {p : RP} {m : RM} {v : RV} {U T' : Nat → Prop} (h : Rr w0 w base p m v) (hm : Mod U w w') (hU : ∀ i, U i → m.T i) (hoff : ∀ i, U i → ¬ RS p m i) (hlo : ∀ i, U i → w0.heap.size ≤ i) (hT : ∀ i, T' i → m.T i ∨ w.heap.size ≤ i) (hlt : ∀ i, T' i → i < w'.heap.size) :
    Rr w0 w' base p { m with T := T' } v :=
  ⟨hm.ext h.e0 hlo, h.lor, h.loq, h.rb, h.qb, h.ne, Nat.le_trans h.top hm.size, h.pa, h.blk.mod hm (fun hu => hoff _ hu (.inl rfl)), h.txt.mod hm (fun i hi hu => hoff _ hu (.inr (.inr (.inr hi)))), h.out.mod hm (fun i hi hu => hoff _ hu (.inr (.inr (.inl hi)))), h.len,
    fun j s x h1 h2 => (h.dgs j s x h1 h2).step (hm.mono (fun i hi => .inl (.inr (hU i hi)))) (fun i hi => hi.elim (fun hr => .inl (.inl hr)) (fun ht => (hT i ht).elim (fun h => .inl (.inr h)) .inr)),
    let ⟨mp, h1, h2⟩ := h.rdm; ⟨mp, h1.mod hm (fun hu => hoff _ hu (.inr (.inl rfl))), h2⟩, h.tl, h.sl, h.b8, h.nf, hlt⟩

theorem putL_take {j m : Nat} {vs l : List Value} (h : j + vs.length ≤ m) (hm : m ≤ l.length) : (putL j vs l).take m = putL j vs (l.take m) := by
  have hx : (l.take m).length = m := by rw [List.length_take]; omega
  rw [putL_spec j vs l (by omega), putL_spec j vs (l.take m) (by omega)]
  rw [List.take_append, List.take_append, List.length_append, List.length_take]
  rw [List.take_take, List.take_of_length_le (l := vs) (by omega), List.take_take]
  rw [show min m j = j by omega, show min j m = j by omega, List.drop_take]
  congr 2
  omega
theorem storeN_ownN {P : Program} {w : World} {base e sz n c j : Nat} {a : Addr} {xs vs : List Value} {K : World → Prop} (h : Own w base e sz (some a) n c xs) (hj : j + vs.length ≤ n * sz) (hsc : ∀ u ∈ vs, scalar u = true)
    (k : ∀ w1, Mod (rowS (some a)) w w1 → Own w1 base e sz (some a) n c (putL j vs xs) → K w1) : StoreN P w (a.add j) vs K := by
  have hr := h.row
  have hlen := hr.1
  rcases hr.2 with ⟨hv, _⟩ | ⟨g, cap, cur, hv, hb, hg, hnc, hcm, hcs, htake⟩
  · cases hv
  · cases hv
    have hB : Blk w g e cur.toList := by unfold Blk; rw [hg]
    have hcl : cur.toList.length = c * sz := by simpa using hcs
    have h2 : n * sz ≤ c * sz := Nat.mul_le_mul_right _ hnc
    refine storeN_blk hB (by omega) hsc (fun w1 hm _ hB1 => k w1 (Mod.of_grown hm ⟨_, rfl, rfl⟩) ⟨⟨by rw [putL_length _ _ _ (by omega)]; exact hlen, .inr ⟨g, c, (putL j vs cur.toList).toArray, rfl, hb, hB1, hnc, hcm, ?_, ?_⟩⟩⟩)
    · have := putL_length j vs cur.toList (by omega)
      simp only [List.size_toArray]; omega
    · have ht : cur.toList.take (n * sz) = xs := htake
      show ((putL j vs cur.toList).toArray.toList).take (n * sz) = _
      rw [← ht, ← putL_take hj (by omega)]
theorem load_own {w : World} {base e sz n c o i : Nat} {a : Addr} {xs : List Value} {u : Value} {K : Value → Prop} (h : Own w base e sz (some a) n c xs) (hn : 0 < n) (hv : xs[o + i]? = some u) (k : K u) : Load w ((a.add o).add i) K := by
  obtain ⟨ad, e1, hc⟩ := h.sl.at_ hn
  cases e1
  exact load (by rw [add_add]; exact hc _ _ hv) k
theorem cell_own {w : World} {base e sz n c o i : Nat} {a : Addr} {xs : List Value} {u : Value} (h : Own w base e sz (some a) n c xs) (hn : 0 < n) (hv : xs[o + i]? = some u) : w.cell? ((a.add o).add i) = some u := by
  obtain ⟨ad, e1, hc⟩ := h.sl.at_ hn
  cases e1
  rw [add_add]; exact hc _ _ hv

/-! ### Sections -/
structure SeV where
  s : Se
  x : DV
  y : DV
def SeV.cells (z : SeV) : List Value := [.slice z.x.A z.x.n z.x.c, .int .i64 z.x.r, .slice z.y.A z.y.n z.y.c, .int .i64 z.y.r, .bool z.s.ot, .int .i64 z.s.ln]
theorem sev_len (z : SeV) : z.cells.length = 6 := rfl
theorem sev_scalar (z : SeV) : ∀ u ∈ z.cells, scalar u = true := sc rfl
abbrev seT : TypeId := 135
theorem pre_get {pre : List Value} {z : SeV} {i : Nat} {u : Value} (h : z.cells[i]? = some u) : (pre ++ z.cells)[pre.length + i]? = some u := by rw [List.getElem?_append_right (by omega)]; rw [show pre.length + i - pre.length = i by omega]; exact h
theorem pre_set {pre : List Value} {z : SeV} {i : Nat} {u : Value} : (pre ++ z.cells).set (pre.length + i) u = pre ++ z.cells.set i u := by rw [List.set_append_right _ _ (by omega)]; rw [show pre.length + i - pre.length = i by omega]
theorem pre_putL (vs : List Value) (i : Nat) (z : List Value) : ∀ (pre : List Value), putL (pre.length + i) vs (pre ++ z) = pre ++ putL i vs z
  | [] => by simp
  | a :: pre => by
    rw [List.length_cons, show pre.length + 1 + i = (pre.length + i) + 1 by omega]
    show a :: putL (pre.length + i) vs (pre ++ z) = _
    rw [pre_putL vs i z pre]; rfl

section
variable {w0 : World} {base : Nat} {p : RP}
/-- What a further branch of a section is. -/
def BrOk (w : World) (k : Nat) (nm : List (List Nat)) (base n c : Nat) (a : Addr) (pre : List Value) (z : SeV) (other : Bool) (s : List Nat) (u : Value) (w' : World) : Prop :=
  z.s.ot = false ∧ Mod (rowS (some a)) w w' ∧ if other then u = dgV z.y.A z.y.n z.y.c z.y.r ∧ Own w' base seT 6 (some a) n c (pre ++ (⟨{ z.s with ot := true }, z.x, z.y⟩ : SeV).cells)
    else ∃ (o : BF) (b d : DV), setE nm s = .ok o ∧ u = dgV b.A b.n b.c b.r ∧ SB w' b.A b.n b.c b.nd ∧ Set1 k b.nd b.r (bAnd z.s.re o) ∧ (∀ i, rowS b.A i → w.heap.size ≤ i) ∧ SB w' d.A d.n d.c d.nd ∧ Set1 k d.nd d.r (bSub z.s.re o) ∧ (∀ i, rowS d.A i → w.heap.size ≤ i) ∧
      Own w' base seT 6 (some a) n c (pre ++ (⟨{ z.s with re := bSub z.s.re o }, z.x, d⟩ : SeV).cells)

theorem branch_fn (m : RM) (v : RV) (a : Addr) (n c : Nat) (pre : List Value) (z : SeV) (other : Bool) (s : List Nat) (w : World) (hP : RPok w0 p) (h : Rr w0 w base p m v) (ho : Own w base seT 6 (some a) n c (pre ++ z.cells)) (hT : ∀ i, rowS (some a) i → m.T i) (hpre : pre.length + 6 = n * 6)
    (hy : DgO w (TS p m) p.nm.length z.y z.s.re) (h8 : ∀ x ∈ s, x < 256) (hl : s.length ≤ 1000000000000) (hb0 : w0.heap.size ≤ base) :
    FnP Tryz.prog 79 [.pointer (some ⟨p.r, 0, none⟩), .pointer (some (a.add pre.length)), .bool other, .string (strOf s)] w (BrOk w p.nm.length p.nm base n c a pre z other s)
      (fun ch w' => ∃ e, (z.s.ot = true ∧ e = 71 ∨ z.s.ot = false ∧ other = false ∧ setE p.nm s = .error e) ∧ ch = failPan e v.fl v.ln ∧ Mod (rowS (some a)) w w') := by
  have hn0 : 0 < n := by omega
  have hra : rowS (some a) a.block := ⟨a, rfl, rfl⟩
  have hoff : ∀ i, rowS (some a) i → ¬ RS p m i := fun i hi hr => by
    have hb := (ho.rows i hi).1
    have := h.rb; have := h.qb
    rcases hr with rfl | rfl | hr | hr
    · omega
    · omega
    · exact ho.apart h.out (by decide) hi hr
    · exact ho.apart h.txt (by decide) hi hr
  have hlo : ∀ i, rowS (some a) i → w0.heap.size ≤ i := fun i hi => by have := (ho.rows i hi).1; omega
  refine fnP_of_exec (c := { c79 with cuts := [] }) gx_ok Tryz.func79 rfl rfl rfl ?_
  refine new (fun w1 hE1 hz1 hB1 => ?_)
  have ho1 := ho.ext hE1
  have h1 := h.ext hE1
  refine load_own ho1 hn0 (pre_get (i := 4) (u := .bool z.s.ot) rfl) ?_
  refine wif (fun ht => ?_) (fun ht => ?_)
  · refine callP (fail_fn 71 w1 h1) (fun _ _ hf => hf.elim) ?_
    rintro ch w2 ⟨rfl, hE2⟩
    exact ⟨71, .inl ⟨ht, rfl⟩, rfl, Mod.of_ext _ (hE1.trans hE2)⟩
  have ht : z.s.ot = false := ht
  have yget : ∀ (i : Nat) (u : Value), z.y.cells[i]? = some u → z.cells[2 + i]? = some u := fun i u hi => match i, hi with
    | 0, hi => hi
    | 1, hi => hi
    | _ + 2, hi => nomatch hi
  refine loadN_at (vs := z.y.cells) rfl (fun i u hi => ?_) ?_
  · show w1.cell? (((a.add pre.length).add 2).add i) = some u
    rw [add_add]
    exact cell_own ho1 hn0 (pre_get (yget i u hi))
  refine new (fun w2 hE2 hz2 hB2 => ?_)
  have ho2 := ho1.ext hE2
  have h2 := h1.ext hE2
  refine storeN_blk0 hB2 rfl (sc rfl) (fun w3 hg3 hz3 hB3 => ?_)
  have hE13 : Ext w1 w3 := newBox hE2 hB2 hg3
  have ho3 := ho1.ext hE13
  have h3 := h1.ext hE13
  show Store w3 ((a.add pre.length).add 4) _ _
  rw [add_add]
  refine store_ownN ho3 hn0 (by omega) (fun w4 hm4 ho4 => ?_)
  rw [pre_set] at ho4
  have ho4 : Own w4 base seT 6 (some a) n c (pre ++ (⟨{ z.s with ot := other }, z.x, z.y⟩ : SeV).cells) := ho4
  have hE03 := hE1.trans hE13
  have hm04 : Mod (rowS (some a)) w w4 := (Mod.of_ext _ hE03).trans hm4 (fun i hi => .inl hi)
  have h4 : Rr w0 w4 base p m v := h3.modT hm4 hT hoff hlo (fun i hi => .inl hi) (fun i hi => Nat.lt_of_lt_of_le (h3.tt i hi) hm4.size)
  have nb1 : ¬ rowS (some a) w.heap.size := fun hi => by have := (ho.rows _ hi).2; omega
  have nb2 : ¬ rowS (some a) w1.heap.size := fun hi => by have := (ho.rows _ hi).2; omega
  have hz13 := hE13.size
  have hB14 := (hB1.ext hE13).mod hm4 nb1
  have hB34 := hB3.mod hm4 nb2
  have hz4 := hm4.size
  cases other with
  | true =>
    refine wif_f rfl ?_
    refine loadN_blk0 hB34 rfl ?_
    refine storeN_blk0 hB14 rfl (sc rfl) (fun w5 hg5 _ hB5 => ?_)
    have hM5 : Mod (· = w.heap.size) w4 w5 := Mod.of_grown hg5 rfl
    refine loadN_blk0 hB5 rfl ?_
    exact ⟨ht, hm04.trans hM5 (fun i hi => .inr (by omega)), rfl, ho4.mod hM5 (fun i hi e => by subst e; exact nb1 hi)⟩
  | false =>
    refine wif_t rfl ?_
    have hzz : z.cells = (⟨{ z.s with ot := false }, z.x, z.y⟩ : SeV).cells := by
      obtain ⟨⟨ou, re, ot, ln⟩, x, y⟩ := z
      simp only at ht
      subst ht
      rfl
    have hoC : ∀ w', Mod (· = w1.heap.size) w4 w' → Own w' base seT 6 (some a) n c (pre ++ z.cells) := fun w' hw' => by
      rw [hzz]; exact ho4.mod hw' (fun i hi e => by subst e; exact nb2 hi)
    refine draw_planP gx_ok (fun ch w' => ∃ e, (z.s.ot = true ∧ e = 71 ∨ z.s.ot = false ∧ false = false ∧ setE p.nm s = .error e) ∧ ch = failPan e v.fl v.ln ∧ Mod (rowS (some a)) w w') (fun ch S w' hp => hp) (Mod (· = w1.heap.size) w4) 14 [(true, 0), (true, 1), (true, 2), (true, 3), (true, 4), (true, 5), (true, 6), (true, 7), (false, 8), (false, 9), (true, 10), (true, 11), (true, 12), (false, 13)] (by kernel_rfl) (Mod.of_ext _ (Ext.drew w4)) ?_
    refine qloadN (vs := z.y.cells) rfl (fun w' hw' i u hi => ?_) ?_
    · show w'.cell? (((a.add pre.length).add 2).add i) = some u
      rw [add_add]
      exact cell_own (hoC w' hw') hn0 (pre_get (yget i u hi))
    have hd := Ext.drew w4
    refine callP (set_fn s w4.drew hP (h4.ext hd) h8 hl) ?_ ?_
    rotate_left
    · rintro ch w5 ⟨e, he, rfl, hE5⟩
      exact ⟨e, .inr ⟨ht, rfl, he⟩, rfl, hm04.trans (Mod.of_ext _ (hd.trans hE5)) (fun i hi => .inl hi)⟩
    rintro _ w5 ⟨o, he, t, rfl, hE5, ht5, hts, htr⟩
    have hE45 := hd.trans hE5
    have hy4 : SB w4 z.y.A z.y.n z.y.c z.y.nd := SB.modo (hy.sb.ext hE03) hm4 (fun ad e h0 hi => hy.off ad e h0 (.inr (hT _ hi)))
    refine ⟨Mod.of_ext _ hE45, ?_⟩
    refine call (split_fn p.nm.length hP.nmk z.y t z.s.re o w5 (hy4.ext hE45) hy.st ht5 hts) ?_
    rintro _ w6 ⟨b, d, rfl, hE6, hb6, hbs, hbr, hd6, hds, hdr⟩
    have hE46 := hE45.trans hE6
    have hz46 := hE46.size
    have hz45 := hE45.size
    refine ⟨Mod.of_ext _ hE46, ?_⟩
    refine storeN_blk0 (hB34.ext hE46) rfl (sc rfl) (fun w7 hg7 _ hB7 => ?_)
    have hM7 : Mod (· = w1.heap.size) w6 w7 := Mod.of_grown hg7 rfl
    have hM47 : Mod (· = w1.heap.size) w4 w7 := (Mod.of_ext _ hE46).trans hM7 (fun i hi => .inl hi)
    refine ⟨hM47, ?_⟩
    have ho7 := hoC w7 hM47
    show StoreN _ w7 ((a.add pre.length).add 2) _ _
    rw [add_add]
    refine storeN_ownN ho7 (by show pre.length + 2 + 2 ≤ _; omega) (sc rfl) (fun w8 hm8 ho8 => ?_)
    rw [pre_putL] at ho8
    have ho8 : Own w8 base seT 6 (some a) n c (pre ++ (⟨{ z.s with re := bSub z.s.re o }, z.x, d⟩ : SeV).cells) := ho8
    have hB78 := hB7.mod hm8 nb2
    refine loadN_blk0 hB78 rfl ?_
    have hB18 := ((hB14.ext hE46).mod hM7 (by show ¬ w.heap.size = w1.heap.size; omega)).mod hm8 nb1
    refine storeN_blk0 hB18 rfl (sc rfl) (fun w9 hg9 _ hB9 => ?_)
    have hM9 : Mod (· = w.heap.size) w8 w9 := Mod.of_grown hg9 rfl
    refine loadN_blk0 hB9 rfl ?_
    have hz04 := hm04.size
    have keep : ∀ x : DV, (∀ i, rowS x.A i → w5.heap.size ≤ i) → SB w6 x.A x.n x.c x.nd → SB w9 x.A x.n x.c x.nd := fun x hr hx =>
      SB.mod (SB.mod (SB.mod hx hM7 (fun i hi e => by have := hr i hi; omega)) hm8 (fun i hi hj => by have := hr i hi; have := (ho.rows i hj).2; omega)) hM9 (fun i hi e => by have := hr i hi; omega)
    have hall : Mod (rowS (some a)) w w9 := ((hm04.trans hM47 (fun i hi => .inr (by omega))).trans hm8 (fun i hi => .inl hi)).trans hM9 (fun i hi => .inr (by omega))
    refine ⟨ht, hall, o, b, d, he, rfl, keep b hbr hb6, hbs, fun i hi => by have := hbr i hi; omega, keep d hdr hd6, hds, fun i hi => by have := hdr i hi; omega, ho8.mod hM9 (fun i hi e => by subst e; exact nb1 hi)⟩
end
end
end
end Go.Proofs.YtedopgkbajhanaaGreatDoor

namespace Go.Proofs.YtedopgkbajhanaaGreatDoor
section
section
open Go Go.RowKit

theorem scut2_fn (l : List Nat) (w : World) (hl : ∀ x ∈ l, x < 256) (hlen : l.length ≤ 1000000000000) :
    Fn Tryz.prog 73 [.string (strOf l), .string (strOf [32])] w (fun v w' => v = .tuple #[.string (strOf (cutH l)), .string (strOf (if 32 ∈ l then cutR l else [])), .bool (decide (32 ∈ l))] ∧ Ext w w') :=
  (scut_fn l w hl hlen).mono fun v w' h => by
    obtain ⟨h1, h2⟩ := h
    refine ⟨?_, h2⟩
    rw [h1]
    by_cases hm : 32 ∈ l
    · rw [if_pos hm, if_pos hm, decide_eq_true hm]
    · rw [if_neg hm, if_neg hm, decide_eq_false hm, cutH_no hm]

section
variable {nm : List (List Nat)} {fl d0 : Nat} {inc : List Nat → Nat → Nat → BF → Gs → Except Pl Gs} {s : List Nat} {ls : List (List Nat)} {ln at_ : Nat} {k : BF} {op : List Se} {g : Gs} {r : List Nat}
theorem rdL_ifd (h : dirOf s = .ifd r) : rdL nm fl d0 inc (s :: ls) ln at_ k op g = match setE nm r with
      | .error e => .error ⟨e, fl, ((ln + 1 : Nat) : Int)⟩
      | .ok d => if d0 + op.length = 64 then .error ⟨2, fl, ((ln + 1 : Nat) : Int)⟩ else rdL nm fl d0 inc ls (ln + 1) (at_ + s.length + 1) (bAnd k d) (⟨k, bSub k d, false, ln + 1⟩ :: op) { g with fr := true } := by
  rw [rdL.eq_def]; simp only [h]; rfl
theorem rdL_inc (h : dirOf s = .inc r) : rdL nm fl d0 inc (s :: ls) ln at_ k op g = match inc r (ln + 1) (d0 + op.length) k g with
      | .error p => .error p
      | .ok g' => rdL nm fl d0 inc ls (ln + 1) (at_ + s.length + 1) k op { g' with fr := true } := by
  rw [rdL.eq_def]; simp only [h]; rfl
theorem rdL_elif (h : dirOf s = .elif r) : rdL nm fl d0 inc (s :: ls) ln at_ k op g = match op with
      | [] => .error ⟨72, fl, ((ln + 1 : Nat) : Int)⟩
      | x :: op' => if x.ot then .error ⟨71, fl, ((ln + 1 : Nat) : Int)⟩ else match setE nm r with
        | .error e => .error ⟨e, fl, ((ln + 1 : Nat) : Int)⟩
        | .ok d => rdL nm fl d0 inc ls (ln + 1) (at_ + s.length + 1) (bAnd x.re d) ({ x with re := bSub x.re d } :: op') { g with fr := true } := by
  rw [rdL.eq_def]; simp only [h]; rfl
theorem rdL_els (h : dirOf s = .els) : rdL nm fl d0 inc (s :: ls) ln at_ k op g = match op with
      | [] => .error ⟨72, fl, ((ln + 1 : Nat) : Int)⟩
      | x :: op' => if x.ot then .error ⟨71, fl, ((ln + 1 : Nat) : Int)⟩ else rdL nm fl d0 inc ls (ln + 1) (at_ + s.length + 1) x.re ({ x with ot := true } :: op') { g with fr := true } := by
  rw [rdL.eq_def]; simp only [h]; rfl
theorem rdL_en (h : dirOf s = .en) : rdL nm fl d0 inc (s :: ls) ln at_ k op g = match op with
      | [] => .error ⟨72, fl, ((ln + 1 : Nat) : Int)⟩
      | x :: op' => rdL nm fl d0 inc ls (ln + 1) (at_ + s.length + 1) x.ou op' { g with fr := true } := by
  rw [rdL.eq_def]; simp only [h]; rfl
theorem rdL_txt (h : dirOf s = .txt) : rdL nm fl d0 inc (s :: ls) ln at_ k op g = match addG (s ++ [10]) fl at_ k g with
      | none => .error ⟨2, fl, ((ln + 1 : Nat) : Int)⟩
      | some g' => rdL nm fl d0 inc ls (ln + 1) (at_ + s.length + 1) k op g' := by
  rw [rdL.eq_def]; simp only [h]; rfl
end
theorem Own.take {w : World} {base e sz n c k : Nat} {A : Option Addr} {cs : List Value} (h : Own w base e sz A n c cs) (hk : k ≤ n) : Own w base e sz A k c (cs.take (k * sz)) := by
  have hr := h.row
  have hl := hr.1
  have hkn : k * sz ≤ n * sz := Nat.mul_le_mul_right _ hk
  refine ⟨⟨by rw [List.length_take]; omega, ?_⟩⟩
  rcases hr.2 with ⟨hv, hx⟩ | ⟨g, cap, cur, hv, hb, hg, hnc, hcm, hcs, htake⟩
  · cases hv
    obtain rfl : k = 0 := by omega
    exact .inl ⟨rfl, by simp⟩
  · cases hv
    refine .inr ⟨g, c, cur, rfl, hb, hg, by omega, hcm, hcs, ?_⟩
    have ht : cur.toList.take (n * sz) = cs := htake
    rw [← ht, List.take_take, Nat.min_eq_left hkn]
theorem incE_ok {ix : List Nat → Option Nat} {rd s : List Nat} {n : Nat} (h : incE ix rd s = .ok n) : n ∉ rd ∧ ∃ t, ix t = some n := by
  unfold incE at h
  split at h
  · cases h
  split at h
  · cases h
  · rename_i m hm
    split at h
    · cases h
    · rename_i hn; cases h; exact ⟨hn, _, hm⟩
/-- The state at the head of a line. -/
structure LS where
  k : DV
  o : BF
  z : List SeV
  m : RM
  g : Gs
  ln : Nat
  at_ : Nat
  ls : List (List Nat)
  A : Option Addr
  c : Nat
def seV (z : List SeV) : List Value := z.flatMap SeV.cells
theorem seV_len (z : List SeV) : (seV z).length = z.length * 6 := flat_length sev_len z
theorem seV_snoc (z : List SeV) (x : SeV) : seV (z ++ [x]) = seV z ++ x.cells := by simp [seV]
/-- What a file's reading writes. -/
def WrS (p : RP) (m : RM) (A : Option Addr) (bk : Nat) : Nat → Prop := fun i => RS p m i ∨ rowS A i ∨ i = bk
abbrev IncF := List Nat → Nat → Nat → BF → Gs → Except Pl Gs
structure FrI (w0 w : World) (base : Nat) (p : RP) (m : RM) (v : RV) (n bk : Nat) (text : List Nat) (inc : IncF) (res : Except Pl Gs) (s : LS) (w' : World) : Prop where
  rr : Rr w0 w' base p s.m ⟨v.d + s.z.length, n, s.ln, n :: v.rd, s.g⟩
  tt : s.m.T = fun i => m.T i ∨ rowS s.A i ∨ i = bk
  kb : Blk w' bk 42 s.k.cells
  kd : DgO w' (TS p s.m) p.nm.length s.k s.o
  ow : Own w' base seT 6 s.A s.z.length s.c (seV s.z)
  zx : ∀ z ∈ s.z, DgO w' (TS p s.m) p.nm.length z.x z.s.ou
  zy : ∀ z ∈ s.z, DgO w' (TS p s.m) p.nm.length z.y z.s.re
  dr : text.drop s.at_ = unl s.ls
  al : s.at_ + (unl s.ls).length = text.length
  li : Lines s.ls
  rs : rdL p.nm n v.d inc s.ls s.ln s.at_ s.o (s.z.reverse.map (·.s)) s.g = res
  mw : Mod (RS p m) w w'
  ma : Moved w m.OA s.m.OA
  mb : Moved w m.BA s.m.BA
  nw : ∀ i, rowS s.A i → w.heap.size ≤ i
  dl : v.d + s.z.length ≤ 64
  lb : s.ln + s.ls.length ≤ 1048576
section
variable {w0 w w' w'' : World} {base : Nat} {p : RP} {m : RM} {v : RV} {n bk : Nat} {text : List Nat} {inc : IncF} {res : Except Pl Gs} {s s' : LS}

theorem FrI.sub (h : FrI w0 w base p m v n bk text inc res s w') : ∀ i, WrS p s.m s.A bk i → TS p s.m i := fun i hi => by
  rcases hi with hi | hi | hi
  · exact .inl hi
  · exact .inr (by rw [h.tt]; exact .inr (.inl hi))
  · exact .inr (by rw [h.tt]; exact .inr (.inr hi))
/-- A set that stayed. -/
theorem FrI.kp (h : FrI w0 w base p m v n bk text inc res s w') (hm : Mod (WrS p s.m s.A bk) w' w'') (tt : s'.m.T = fun i => m.T i ∨ rowS s'.A i ∨ i = bk) (hA : Moved w' s.A s'.A) (hO : Moved w' s.m.OA s'.m.OA) (hB : Moved w' s.m.BA s'.m.BA) {x : DV} {o : BF} (hx : DgO w' (TS p s.m) p.nm.length x o) : DgO w'' (TS p s'.m) p.nm.length x o :=
  hx.step (hm.mono (fun i hi => .inl (h.sub i hi))) (fun i hi => by
    rcases hi with hi | hi
    · rcases RS.moved (p := p) hO hB i hi with h1 | h1
      · exact .inl (.inl h1)
      · exact .inr h1
    · rw [tt] at hi
      rcases hi with hi | hi | hi
      · exact .inl (.inr (by rw [h.tt]; exact .inl hi))
      · rcases hA.rows i hi with h1 | h1
        · exact .inl (.inr (by rw [h.tt]; exact .inr (.inl h1)))
        · exact .inr h1
      · exact .inl (.inr (by rw [h.tt]; exact .inr (.inr hi))))
theorem FrI.mw' (h : FrI w0 w base p m v n bk text inc res s w') (hbk : w.heap.size ≤ bk) (hm : Mod (WrS p s.m s.A bk) w' w'') : Mod (RS p m) w w'' :=
  h.mw.trans hm (fun i hi => by
    rcases hi with hi | hi | hi
    · exact RS.moved (p := p) h.ma h.mb i hi
    · exact .inr (h.nw i hi)
    · exact .inr (by omega))
theorem FrI.go (h : FrI w0 w base p m v n bk text inc res s w') (hbk : w.heap.size ≤ bk) (hm : Mod (WrS p s.m s.A bk) w' w'') (rr : Rr w0 w'' base p s'.m ⟨v.d + s'.z.length, n, s'.ln, n :: v.rd, s'.g⟩) (tt : s'.m.T = fun i => m.T i ∨ rowS s'.A i ∨ i = bk) (hA : Moved w' s.A s'.A) (hO : Moved w' s.m.OA s'.m.OA) (hB : Moved w' s.m.BA s'.m.BA)
    (kb : Blk w'' bk 42 s'.k.cells) (kd : DgO w'' (TS p s'.m) p.nm.length s'.k s'.o) (ow : Own w'' base seT 6 s'.A s'.z.length s'.c (seV s'.z)) (zx : ∀ z ∈ s'.z, DgO w'' (TS p s'.m) p.nm.length z.x z.s.ou) (zy : ∀ z ∈ s'.z, DgO w'' (TS p s'.m) p.nm.length z.y z.s.re)
    {l : List Nat} (hls : s.ls = l :: s'.ls) (hat : s'.at_ = s.at_ + l.length + 1) (rs : rdL p.nm n v.d inc s'.ls s'.ln s'.at_ s'.o (s'.z.reverse.map (·.s)) s'.g = res) (dl : v.d + s'.z.length ≤ 64) (hln : s'.ln = s.ln + 1) : FrI w0 w base p m v n bk text inc res s' w'' := by
  have hdr := h.dr
  have hal := h.al
  have hlb := h.lb
  have hli := h.li
  rw [hls, unl_cons] at hdr hal
  rw [hls] at hlb hli
  have hz := h.mw.size
  refine ⟨rr, tt, kb, kd, ow, zx, zy, ?_, ?_, fun t ht => hli t (by simp [ht]), rs, h.mw' hbk hm, h.ma.trans hO hz, h.mb.trans hB hz, fun i hi => ?_, dl, ?_⟩
  · rw [hat, show s.at_ + l.length + 1 = s.at_ + (l.length + 1) by omega, ← List.drop_drop, hdr, ← List.drop_drop, List.drop_left' rfl]; rfl
  · rw [hat]; simp only [List.length_append, List.length_cons] at hal; omega
  · rcases hA.rows i hi with h1 | h1
    · exact h.nw i h1
    · omega
  · rw [hln]; simp only [List.length_cons] at hlb; omega
theorem FrI.line (h : FrI w0 w base p m v n bk text inc res s w') (ht : text.length ≤ 1048576) {l : List Nat} {ls : List (List Nat)} (hls : s.ls = l :: ls) : 10 ∉ l ∧ s.at_ + l.length + 1 ≤ text.length ∧ text.drop s.at_ = l ++ 10 :: unl ls ∧ (text.drop s.at_).take l.length = l ∧ (text.drop s.at_).take (l.length + 1) = l ++ [10] := by
  have hdr := h.dr
  have hal := h.al
  have hli := h.li
  have _ := ht
  rw [hls, unl_cons] at hdr hal
  rw [hls] at hli
  simp only [List.length_append, List.length_cons] at hal
  refine ⟨hli l (by simp), by omega, hdr, by rw [hdr]; exact List.take_left' rfl, ?_⟩
  rw [hdr, show l ++ 10 :: unl ls = (l ++ [10]) ++ unl ls by simp]
  exact List.take_left' (by simp)
/-- Fields of the reader and the files that are being read are written. -/
theorem Rr.putq (h : Rr w0 w base p m v) {v' : RV} (hm : Mod (fun i => i = p.r ∨ i = p.q) w w') (hB : Blk w' p.r 88 (rdC p m v')) (h1 : v'.g.tx = v.g.tx) (h2 : v'.g.sg = v.g.sg) (h4 : v'.g.fr = false → v'.g.sg ≠ [] ∨ v'.rd = [])
    (hq : ∃ mp, MapAt intK w' p.q mp ∧ (mp.map (·.1)).Nodup ∧ ∀ n : Nat, assoc (n : Int) mp = if n ∈ v'.rd then some (.bool true) else none) : Rr w0 w' base p m v' := by
  have hE := hm.ext h.e0 (fun i hi => by rcases hi with rfl | rfl; exact h.lor; exact h.loq)
  have hb1 := h.rb; have hb2 := h.qb
  refine ⟨hE, h.lor, h.loq, h.rb, h.qb, h.ne, Nat.le_trans h.top hm.size, h.pa, hB, ?_, ?_, by rw [h2]; exact h.len, fun j s x hs hx => ?_, hq, by rw [h1]; exact h.tl, by rw [h2]; exact h.sl, by rw [h1]; exact h.b8, h4, fun i hi => Nat.lt_of_lt_of_le (h.tt i hi) hm.size⟩
  · rw [h1]; exact h.txt.mod hm (fun i hi e => by have := (h.txt.rows i hi).1; rcases e with rfl | rfl <;> omega)
  · rw [h2]; exact h.out.mod hm (fun i hi e => by have := (h.out.rows i hi).1; rcases e with rfl | rfl <;> omega)
  · rw [h2] at hs; exact (h.dgs j s x hs hx).keep hm (fun i hi => .inl (.inl (hi.elim .inl (fun e => .inr (.inl e)))))
end
end

section
open Go Go.RowKit

/-- What an include reads. -/
def incF (p : RP) (f n : Nat) (rd : List Nat) : IncF := fun r ln d k g => match incE (ixN (p.fs.map (·.1))) (n :: rd) r with
  | .error e => .error ⟨e, n, ln⟩
  | .ok m => if d = 64 then .error ⟨2, n, ln⟩ else rdF p.nm p.fs f (n :: rd) (d + 1) m k g
def ReadC (w0 : World) (base : Nat) (p : RP) (f : Nat) : Prop := ∀ (m : RM) (v : RV) (n : Nat) (k : DV) (o : BF) (w : World), Rr w0 w base p m v → DgO w (TS p m) p.nm.length k o → n < p.fs.length → n ∉ v.rd → v.d ≤ 64 → 65 ≤ f + v.d →
  FnP Tryz.prog 46 [.pointer (some ⟨p.r, 0, none⟩), .int .i64 n, dgV k.A k.n k.c k.r] w (fun _ w' => ∃ g', rdF p.nm p.fs f v.rd v.d n o v.g = .ok g' ∧ GTo w0 w base p m { v with g := g' } w') (fun ch w' => ∃ q, rdF p.nm p.fs f v.rd v.d n o v.g = .error q ∧ ch = failPan q.e q.f q.l ∧ Mod (RS p m) w w')

set_option maxRecDepth 2000 in
set_option maxHeartbeats 1600000 in
theorem read_fn (w0 : World) (base : Nat) (p : RP) (hP : RPok w0 p) (hb0 : w0.heap.size ≤ base) : ∀ f, ReadC w0 base p f
  | 0 => fun m v n k o w h hk hn hr hd hf => absurd hf (by omega)
  | f + 1 => fun m v n k o w h hk hn hr hd hf => by
    have ih := read_fn w0 base p hP hb0 f
    have hx : p.fs[n]? = some p.fs[n] := List.getElem?_eq_getElem hn
    have hfok := hP.flb _ (List.getElem_mem hn)
    have hunf : rdF p.nm p.fs (f + 1) v.rd v.d n o v.g = rdL p.nm n v.d (incF p f n v.rd) (linesOf (p.fs[n].2)) 0 0 o [] { v.g with fr := true } := by
      rw [rdF, hx]; rfl
    generalize hres : rdF p.nm p.fs (f + 1) v.rd v.d n o v.g = res at *
    generalize htext : p.fs[n].2 = text at *
    have ht8 : ∀ x ∈ text, x < 256 := by rw [← htext]; exact hfok.t8
    have htl : text.length ≤ 1048576 := by rw [← htext]; exact hfok.tl
    have htok : unl (linesOf text) = text := unl_linesOf (by rw [← htext]; exact hfok.ok)
    have hfs := hP.fls.2
    refine fnP_of_exec (c := { c46 with cuts := [] }) gx_ok Tryz.func46 rfl rfl rfl ?_
    refine new (fun w1 hE1 hz1 hB1 => ?_)
    let m1 : RM := { m with T := fun i => m.T i ∨ rowS (none : Option Addr) i ∨ i = w.heap.size }
    have htt := h.tt
    have h1 : Rr w0 w1 base p m1 v := h.modT (U := fun _ => False) (Mod.of_ext _ hE1) (fun i hi => hi.elim) (fun i hi => hi.elim) (fun i hi => hi.elim) (fun i hi => by
        rcases hi with hi | hi | hi
        · exact .inl hi
        · obtain ⟨_, e, _⟩ := hi; cases e
        · exact .inr (by omega)) (fun i hi => by
        rcases hi with hi | hi | hi
        · have := htt i hi; omega
        · obtain ⟨_, e, _⟩ := hi; cases e
        · omega)
    refine draw_plan gx_ok (Ext w1) 10 [(true, 0), (true, 1), (true, 2), (true, 3), (true, 4), (true, 5), (true, 6), (true, 7), (true, 8), (true, 9)] (by kernel_rfl) (Ext.drew w1) ?_
    refine qload (v := .int .i64 v.fl) (fun w' hw' => by rw [(h1.blk.ext hw').cell]; rfl) ?_
    refine qload (v := .int .i64 v.ln) (fun w' hw' => by rw [(h1.blk.ext hw').cell]; rfl) ?_
    have hd1 := Ext.drew w1
    have h2 := h1.ext hd1
    have hB2 := hB1.ext hd1
    generalize w1.drew = w2 at *
    obtain ⟨mp, hmp, hnd, hlk⟩ := h2.rdm
    refine load_blk h2.blk rfl ?_
    refine at_mapUpdate (kv := intK) (a := (n : Int)) gx_ok rfl rfl rfl rfl rfl (KeyV.int .i64) rfl rfl rfl hmp (fun w3 hg3 hz3 hm3 => ?_)
    have hM3 : Mod (· = p.q) w2 w3 := Mod.of_grown hg3 rfl
    have hmd3 : ((assocSet (n : Int) (Value.bool true) mp).map (·.1)).Nodup := (assocSet_keys _ _ _ hnd).1
    have hlk3 : ∀ j : Nat, assoc (j : Int) (assocSet (n : Int) (Value.bool true) mp) = if j ∈ n :: v.rd then some (.bool true) else none := fun j => by
      rw [assoc_set]
      by_cases hj : j = n
      · subst hj; simp
      · rw [if_neg (fun e => hj (by omega)), hlk j]
        simp [hj]
    have hbr := h2.blk.mod hM3 h2.ne
    refine store_mod hbr (show 9 < 11 by decide) (fun w4 hm4 hB4 => ?_)
    refine store_mod hB4 (show 10 < 11 by decide) (fun w5 hm5 hB5 => ?_)
    refine store_mod hB5 (show 8 < 11 by decide) (fun w6 hm6 hB6 => ?_)
    have hM36 : Mod (· = p.r) w3 w6 := (hm4.trans hm5 (fun i hi => .inl hi)).trans hm6 (fun i hi => .inl hi)
    have hM26 : Mod (fun i => i = p.r ∨ i = p.q) w2 w6 := (hM3.mono (S' := fun i => i = p.r ∨ i = p.q) (fun i hi => .inl (.inr hi))).trans hM36 (fun i hi => .inl (.inl hi))
    have h6 : Rr w0 w6 base p m1 ⟨v.d, n, 0, n :: v.rd, { v.g with fr := true }⟩ := h2.putq hM26 hB6 rfl rfl (fun e => by cases e) ⟨_, hm3.mod hM36 (fun e => h2.ne e.symm), hmd3, hlk3⟩
    have hbk : ¬ (w.heap.size = p.r ∨ w.heap.size = p.q) := fun e => by have := h.rb; have := h.qb; have := h.top; rcases e with e | e <;> omega
    have hB6k := hB2.mod hM26 hbk
    have hE06 : Mod (RS p m) w w6 := ((Mod.of_ext (RS p m) hE1).trans (Mod.of_ext (RS p m) hd1) (fun i hi => .inl hi)).trans (hM26.mono (S' := RS p m) (fun i hi => .inl (hi.elim .inl (fun e => .inr (.inl e))))) (fun i hi => .inl hi)
    refine load_blk hB6 rfl ?_
    refine index_sls file_len (hP.fls.ext h6.e0) rfl (by omega) (fun pp x hxx hc => ?_)
    obtain rfl : p.fs[n] = x := Option.some.inj (hx.symm.trans hxx)
    refine load (hc 1 _ rfl) ?_
    rw [htext]
    have hk1 : DgO w1 (TS p m1) p.nm.length k o := hk.step (Mod.of_ext _ hE1) (fun i hi => by
      rcases hi with hi | hi | hi | hi
      · exact .inl (.inl hi)
      · exact .inl (.inr hi)
      · obtain ⟨_, e, _⟩ := hi; cases e
      · exact .inr (by omega))
    have hk6 : DgO w6 (TS p m1) p.nm.length k o := (hk1.ext hd1).keep hM26 (fun i hi => .inl (.inl (hi.elim .inl (fun e => .inr (.inl e)))))
    have hll : (linesOf text).length ≤ text.length := by have := unl_le (linesOf text); rw [htok] at this; exact this
    refine loop gx_ok [8, 10] (fun s : LS => [.slice s.A s.z.length s.c, .int .i64 s.at_]) (fun s w' => FrI w0 w base p m v n w.heap.size text (incF p f n v.rd) res s w') (fun s _ => s.ls.length) ⟨k, o, [], m1, { v.g with fr := true }, 0, 0, linesOf text, none, 0⟩ rfl
      ⟨h6, rfl, hB6k, hk6, Own.nil _ _ _ _, (fun z hz => by cases hz), (fun z hz => by cases hz), (by rw [htok]; rfl), (by rw [htok]; simp), linesOf_lines text, hunf.symm, hE06, Moved.refl _ _, Moved.refl _ _, (fun i hi => by obtain ⟨_, e, _⟩ := hi; cases e), hd, (by show 0 + (linesOf text).length ≤ _; omega)⟩ ?_
    rintro s w7 hI
    have h7 := hI.rr
    have hal := hI.al
    refine wif_d (fun c1 => ?_) (fun c1 => ?_)
    rotate_left
    · have hls : s.ls = [] := by
        have hs := strOf_size text
        have := unl_le s.ls
        exact List.eq_nil_of_length_eq_zero (by omega)
      have h7z := hI.rr
      have hrs := hI.rs
      rw [hls] at hrs
      refine wif_d (fun hz => ?_) (fun hz => ?_)
      · obtain ⟨z', x, hzz⟩ : ∃ z' x, s.z = z' ++ [x] := by
          rcases List.eq_nil_or_concat s.z with h0 | ⟨z', x, h0⟩
          · rw [h0] at hz; exact absurd hz (by decide)
          · exact ⟨z', x, by rw [h0]; simp⟩
        have hzl : s.z.length = z'.length + 1 := by rw [hzz]; simp
        have hrev : s.z.reverse.map (·.s) = x.s :: z'.reverse.map (·.s) := by rw [hzz]; simp
        obtain ⟨oa, hoa, _⟩ := hI.ow.sl.at_ (by omega : 0 < s.z.length)
        have ho7 : Own w7 base seT 6 (some oa) s.z.length s.c (seV z' ++ x.cells) := by rw [← hoa, ← seV_snoc, ← hzz]; exact hI.ow
        have hdl := hI.dl
        refine norm_i64_to ((z'.length : Nat) : Int) (by omega) (by omega) ?_
        rw [hoa]
        refine index_n (j := z'.length) (by omega) ?_
        rw [show z'.length * 6 = (seV z').length from (seV_len z').symm]
        refine load_own ho7 (by omega) (pre_get (i := 5) (u := .int .i64 x.s.ln) rfl) ?_
        refine store_mod h7.blk (show 10 < 11 by decide) (fun w8 hm8 hB8 => ?_)
        have h8 : Rr w0 w8 base p s.m ⟨v.d + s.z.length, n, x.s.ln, n :: v.rd, s.g⟩ := h7.put hm8 hB8 rfl rfl rfl h7.nf
        refine callP (fail_fn 72 w8 h8) (fun _ _ hf => hf.elim) ?_
        rintro ch w9 ⟨rfl, hE9⟩
        refine ⟨⟨72, n, x.s.ln⟩, ?_, rfl, hI.mw' (Nat.le_refl _) ((hm8.mono (S' := WrS p s.m s.A w.heap.size) (fun i hi => .inl (.inl (.inl hi)))).trans (Mod.of_ext _ hE9) (fun i hi => .inl hi))⟩
        rw [← hrs, rdL.eq_def, hrev]
      · have hz0 : s.z = [] := List.eq_nil_of_length_eq_zero (by omega)
        obtain ⟨mq, k1, k2, k3⟩ := h7.rdm
        refine load_blk h7.blk rfl ?_
        refine at_delete (kv := intK) (a := (n : Int)) gx_ok rfl rfl rfl rfl rfl (KeyV.int .i64) rfl rfl k1 (fun w8 hM8 hz8 hm8 => ?_)
        refine store_mod (h7.blk.mod hM8 h7.ne) (show 9 < 11 by decide) (fun w9 hm9 hB9 => ?_)
        refine store_mod hB9 (show 10 < 11 by decide) (fun w10 hm10 hB10 => ?_)
        refine store_mod hB10 (show 8 < 11 by decide) (fun w11 hm11 hB11 => ?_)
        have hM811 : Mod (· = p.r) w8 w11 := (hm9.trans hm10 (fun i hi => .inl hi)).trans hm11 (fun i hi => .inl hi)
        have hM711 : Mod (fun i => i = p.r ∨ i = p.q) w7 w11 := (hM8.mono (S' := fun i => i = p.r ∨ i = p.q) (fun i hi => .inl (.inr hi))).trans hM811 (fun i hi => .inl (.inl hi))
        have hd0 : v.d + s.z.length = v.d := by rw [hz0]; rfl
        rw [hd0] at hB11
        have h11 : Rr w0 w11 base p s.m ⟨v.d, v.fl, v.ln, v.rd, { s.g with fr := true }⟩ := h7.putq hM711 hB11 rfl rfl (fun e => by cases e) ⟨_, hm8.mod hM811 (fun e => h7.ne e.symm), (k2.sublist ((assocDel_sub (n : Int) mq).map _)), fun j => by
          rw [assoc_del _ _ _ k2]
          by_cases hj : j = n
          · subst hj; rw [if_pos rfl, if_neg hr]
          · rw [if_neg (fun e => hj (by omega)), k3 j]
            simp [hj]⟩
        have h12 : Rr w0 w11 base p { s.m with T := m.T } ⟨v.d, v.fl, v.ln, v.rd, { s.g with fr := true }⟩ := h11.modT (U := fun _ => False) (Mod.refl _ _) (fun i hi => hi.elim) (fun i hi => hi.elim) (fun i hi => hi.elim) (fun i hi => .inl (by rw [hI.tt]; exact .inl hi)) (fun i hi => by
          have := htt i hi; have := hI.mw.size; have := hM711.size; omega)
        refine ⟨{ s.g with fr := true }, ?_, { s.m with T := m.T }, rfl, h12, hI.mw' (Nat.le_refl _) (hM711.mono (fun i hi => .inl (.inl (hi.elim .inl (fun e => .inr (.inl e)))))), hI.ma, hI.mb⟩
        rw [← hrs, rdL.eq_def, hz0]
        rfl
    · cases hls : s.ls with
      | nil =>
        have hs := strOf_size text
        rw [hls] at hal
        have : (unl ([] : List (List Nat))).length = 0 := rfl
        omega
      | cons l ls =>
        obtain ⟨l1, l2, l3, l4, l5⟩ := hI.line htl hls
        have hsz := strOf_size text
        have hl8 : ∀ x ∈ l, x < 256 := fun x hx => ht8 x (List.mem_of_mem_drop (by rw [l3]; simp [hx] : x ∈ text.drop s.at_))
        have hlb := hI.lb
        refine need_to (v' := .string (strOf (text.drop s.at_))) ⟨by omega, by rw [hsz]; omega, by rw [hsz]; omega⟩ ?_ ?_
        · rw [strOf_extract, hsz]
          simp only [Int.toNat_natCast]
          rw [List.take_of_length_le (Nat.le_refl _)]
        refine call (indexbyte_fn (text.drop s.at_) 10 w7 (fun x hx => ht8 x (List.mem_of_mem_drop hx)) (by decide)) ?_
        rintro _ _ ⟨rfl, rfl⟩
        have hix : ixB 10 (text.drop s.at_) = (l.length : Nat) := by
          unfold ixB
          rw [if_pos (by rw [l3]; simp), l3, List.takeWhile_append_of_pos (fun x hx => by simpa using fun e => l1 (by rw [← e]; exact hx))]
          simp
        rw [hix]
        refine norm_i64_to ((s.at_ + l.length : Nat) : Int) (by show ((s.at_ : Nat) : Int) + _ = _; omega) (by omega) ?_
        refine norm_i64_to ((s.at_ + l.length + 1 : Nat) : Int) (by omega) (by omega) ?_
        refine norm_i64_to ((s.at_ + l.length : Nat) : Int) (by omega) (by omega) ?_
        refine need_to (v' := .string (strOf l)) ⟨by omega, by omega, by rw [hsz]; omega⟩ ?_ ?_
        · rw [strOf_extract]
          simp only [Int.toNat_natCast]
          rw [List.drop_take, show s.at_ + l.length - s.at_ = l.length by omega, l4]
        refine load_blk h7.blk rfl ?_
        refine norm_i64_to ((s.ln + 1 : Nat) : Int) (by show ((s.ln : Nat) : Int) + 1 = _; omega) (by omega) ?_
        refine store_mod h7.blk (show 10 < 11 by decide) (fun w8 hm8 hB8 => ?_)
        have h8 : Rr w0 w8 base p s.m ⟨v.d + s.z.length, n, s.ln + 1, n :: v.rd, s.g⟩ := h7.put hm8 hB8 rfl rfl rfl h7.nf
        refine call (scut2_fn l w8 hl8 (by omega)) ?_
        rintro _ w9 ⟨rfl, hE9⟩
        have h9 := h8.ext hE9
        have hbkk : w.heap.size ≤ w.heap.size := Nat.le_refl _
        have hm79 : Mod (WrS p s.m s.A w.heap.size) w7 w9 := (hm8.mono (S' := WrS p s.m s.A w.heap.size) (fun i hi => .inl (.inl (.inl hi)))).trans (Mod.of_ext _ hE9) (fun i hi => .inl hi)
        have npr : ¬ w.heap.size = p.r := fun e => hbk (.inl e)
        have hkb9 : Blk w9 w.heap.size 42 s.k.cells := (hI.kb.mod hm8 npr).ext hE9
        have kp9 : ∀ {x : DV} {o : BF}, DgO w7 (TS p s.m) p.nm.length x o → DgO w9 (TS p s.m) p.nm.length x o := fun hx => hI.kp hm79 hI.tt (Moved.refl _ _) (Moved.refl _ _) (Moved.refl _ _) hx
        have hkd9 := kp9 hI.kd
        have nopr : ∀ i, rowS s.A i → ¬ i = p.r := fun i hi e => by have := (hI.ow.rows i hi).1; have := h7.rb; omega
        have how9 : Own w9 base seT 6 s.A s.z.length s.c (seV s.z) := (hI.ow.mod hm8 nopr).ext hE9
        have hrs := hI.rs
        rw [hls] at hrs
        have hsp : (((strOf (cutH l)).size : Int) < (strOf l).size) ↔ 32 ∈ l := by rw [strOf_size, strOf_size, ← cutH_lt]; omega
        have hdl := hI.dl
        have hll2 : l.length ≤ 1048576 := by omega
        have hzz9 := hm79.size
        have hzw7 := hI.mw.size
        have pan : ∀ (q : Pl) (ch : List PanicEntry) (w' : World), res = .error q → ch = failPan q.e q.f q.l → Mod (WrS p s.m s.A w.heap.size) w9 w' → ∃ q, res = .error q ∧ ch = failPan q.e q.f q.l ∧ Mod (RS p m) w w' := fun q ch w' h1 h2 h3 => ⟨q, h1, h2, hI.mw' hbkk (hm79.trans h3 (fun i hi => .inl hi))⟩
        have hloA : ∀ i, rowS s.A i → w0.heap.size ≤ i := fun i hi => by have := (how9.rows i hi).1; omega
        have hoffA : ∀ i, rowS s.A i → ¬ RS p s.m i := fun i hi hr => by
          have hb := (how9.rows i hi).1
          have := h9.rb; have := h9.qb
          rcases hr with rfl | rfl | hr | hr
          · omega
          · omega
          · exact how9.apart h9.out (by decide) hi hr
          · exact how9.apart h9.txt (by decide) hi hr
        have htA : ∀ i, rowS s.A i → s.m.T i := fun i hi => by rw [hI.tt]; exact .inr (.inl hi)
        have nbk : ¬ RS p s.m w.heap.size := fun hr => by
          have := h.rb; have := h.qb; have := h.top
          rcases hr with e | e | hr | hr
          · omega
          · omega
          · exact hkb9.apart h9.out (by decide) hr
          · exact hkb9.apart h9.txt (by decide) hr
        have hhA : ∀ i, rowS s.A i → i < w9.heap.size := fun i hi => (how9.rows i hi).2
        have nbA : ¬ rowS s.A w.heap.size := hkb9.apart how9 (by decide)
        have nprA : ¬ rowS s.A p.r := fun hi => nopr _ hi rfl
        by_cases P1 : cutH l = kIf ∧ 32 ∈ l
        · have hdir := dir_if P1.1 P1.2
          rw [if_pos P1.2]
          have hr8 : ∀ x ∈ cutR l, x < 256 := fun x hx => hl8 x (List.mem_of_mem_drop hx)
          have hrl : (cutR l).length ≤ 1000000000000 := by unfold cutR; rw [List.length_drop]; omega
          refine wif_dt (by rw [P1.1]; rfl) ?_
          refine wif_dt (hsp.2 P1.2) ?_
          refine callP (set_fn (cutR l) w9 hP h9 hr8 hrl) ?_ ?_
          rotate_left
          · rintro ch w10 ⟨e, he, rfl, hE10⟩
            refine pan ⟨e, n, ((s.ln + 1 : Nat) : Int)⟩ _ w10 ?_ rfl (Mod.of_ext _ hE10)
            rw [← hrs, rdL_ifd hdir, he]
          rintro _ w10 ⟨d, he, t, rfl, hE10, ht10, hts, htr⟩
          refine new (fun w11 hE11 hz11 hB11 => ?_)
          refine storeN_blk0 hB11 rfl (sc rfl) (fun w12 hg12 _ hB12 => ?_)
          have hE1012 : Ext w10 w12 := newBox hE11 hB11 hg12
          have hE912 := hE10.trans hE1012
          have h12 := h9.ext hE912
          have hz912 := hE912.size
          have hz910 := hE10.size
          refine callP (deeper_fn w12 h12 hdl) ?_ ?_
          rotate_left
          · rintro ch w13 ⟨e64, rfl, hE13⟩
            refine pan ⟨2, n, ((s.ln + 1 : Nat) : Int)⟩ _ w13 ?_ rfl (Mod.of_ext _ (hE912.trans hE13))
            have e64 : v.d + (s.z.reverse.map (·.s)).length = 64 := by simpa using e64
            rw [← hrs, rdL_ifd hdir, he]
            simp only [if_pos e64]
          rintro _ w13 ⟨n64, h13, hm13⟩
          have n64 : ¬ v.d + s.z.length = 64 := n64
          have hkb13 := (hkb9.ext hE912).mod hm13 npr
          have n10r : ¬ w10.heap.size = p.r := fun e => by have := h9.rb; have := h9.top; omega
          have hB1213 := hB12.mod hm13 n10r
          refine loadN_blk0 hkb13 rfl ?_
          refine loadN_blk0 hB1213 rfl ?_
          have hkd13 := (hkd9.ext hE912).keep hm13 (fun i hi => .inl (.inl (.inl hi)))
          have ht13 : SB w13 t.A t.n t.c t.nd := SB.mod (ht10.ext hE1012) hm13 (fun i hi e => by have := htr i hi; have := h9.rb; have := h9.top; omega)
          refine call (split_fn p.nm.length hP.nmk s.k t s.o d w13 hkd13.sb hkd13.st ht13 hts) ?_
          rintro _ w14 ⟨a, b, rfl, hE14, ha14, has, har, hb14, hbs, hbr⟩
          refine new (fun w15 hE15 hz15 hB15 => ?_)
          refine new (fun w16 hE16 hz16 hB16 => ?_)
          have hE1416 := hE15.trans hE16
          refine storeN_blk0 (hB15.ext hE16) rfl (sc rfl) (fun w17 hg17 _ hB17 => ?_)
          have hM17 : Mod (· = w14.heap.size) w16 w17 := Mod.of_grown hg17 rfl
          have hE1417 : Ext w14 w17 := hM17.ext hE1416 (fun i hi => by omega)
          refine storeN_blk0 (hB16.mod hM17 (by show ¬ w15.heap.size = w14.heap.size; omega)) rfl (sc rfl) (fun w18 hg18 _ hB18 => ?_)
          have hM18 : Mod (· = w15.heap.size) w17 w18 := Mod.of_grown hg18 rfl
          have hE1418 : Ext w14 w18 := hM18.ext hE1417 (fun i hi => by omega)
          have hB1718 := hB17.mod hM18 (by show ¬ w14.heap.size = w15.heap.size; omega)
          have hE1318 := hE14.trans hE1418
          have h18 := h13.ext hE1318
          have hkb18 := hkb13.ext hE1318
          have hkd18 := hkd13.ext hE1318
          have how13 := (how9.ext hE912).mod hm13 nopr
          have how18 := how13.ext hE1318
          have hd := Ext.drew w18
          have hz1318 := hE1318.size
          have hz1213 := hm13.size
          have hz1314 := hE14.size
          have hz1416 := hE1416.size
          have n15A : ¬ rowS s.A w15.heap.size := fun hi => by have := hhA _ hi; omega
          refine draw_plan gx_ok (Mod (rowS s.A) w18) 11 [(true, 0), (true, 1), (true, 2), (true, 3), (true, 4), (true, 5), (true, 6), (true, 7), (false, 8), (false, 9), (true, 10)] (by kernel_rfl) (Mod.of_ext _ hd) ?_
          refine qloadN (vs := s.k.cells) rfl (fun w' hw' j u hj => by rw [(hkb18.mod hw' nbA).cell]; exact hj) ?_
          refine qloadN (vs := b.cells) rfl (fun w' hw' j u hj => by rw [(hB18.mod hw' n15A).cell]; exact hj) ?_
          refine qload (v := .int .i64 ((s.ln + 1 : Nat) : Int)) (fun w' hw' => by rw [(h18.blk.mod hw' nprA).cell]; rfl) ?_
          let zn : SeV := ⟨⟨s.o, bSub s.o d, false, s.ln + 1⟩, s.k, b⟩
          refine at_buildN gx_ok [zn.cells] rfl rfl rfl rfl rfl ⟨rfl, rfl, ⟨⟩⟩ rfl (fun cs hh => by simp only [List.mem_singleton] at hh; subst hh; rfl) rfl (by decide) (by decide) ?_
          intro w19 hE19 hz19 hB19
          have hE1819 := hd.trans hE19
          refine ⟨Mod.of_ext _ hE1819, ?_⟩
          have hs19 : Sl w19 6 (some ⟨w18.drew.heap.size, 0, none⟩) 1 1 zn.cells := Sl.own (sz := 6) (n := 1) hB19 (Nat.le_refl _) (by decide) (by simp [SeV.cells])
          refine at_app gx_ok rfl rfl rfl rfl rfl (by decide) rfl rfl ⟨_, rfl⟩ rfl rfl (how18.ext hE1819) hs19 (sev_scalar zn) (by unfold maxLen; omega) (by show (s.z.length + 1) * 80 ≤ _; omega) (h18.ext hE1819).top ?_
          intro A' c' w20 hm20 hown20 hmv20
          have hm1820 : Mod (rowS s.A) w18 w20 := (Mod.of_ext (rowS s.A) hE1819).trans hm20 (fun i hi => .inl hi)
          refine ⟨hm1820, ?_⟩
          have n14A : ¬ rowS s.A w14.heap.size := fun hi => by have := hhA _ hi; omega
          refine loadN_blk0 (hB1718.mod hm1820 n14A) rfl ?_
          refine storeN_blk0 (hkb18.mod hm1820 nbA) rfl (sc rfl) (fun w21 hg21 _ hB21 => ?_)
          have hM21 : Mod (· = w.heap.size) w20 w21 := Mod.of_grown hg21 rfl
          have hM1821 : Mod (WrS p s.m s.A w.heap.size) w18 w21 := (hm1820.mono (S' := WrS p s.m s.A w.heap.size) (fun i hi => .inl (.inr (.inl hi)))).trans hM21 (fun i hi => .inl (.inr (.inr hi)))
          have hz20 := hm1820.size
          have h20 : Rr w0 w20 base p { s.m with T := fun i => m.T i ∨ rowS A' i ∨ i = w.heap.size } ⟨v.d + s.z.length + 1, n, s.ln + 1, n :: v.rd, s.g⟩ := h18.modT hm1820 htA hoffA hloA (fun i hi => by
              rcases hi with hi | hi | hi
              · exact .inl (by rw [hI.tt]; exact .inl hi)
              · rcases hmv20.rows i hi with h1 | h1
                · exact .inl (by rw [hI.tt]; exact .inr (.inl h1))
                · exact .inr (by have := hE1819.size; omega)
              · exact .inl (by rw [hI.tt]; exact .inr (.inr hi))) (fun i hi => by
              rcases hi with hi | hi | hi
              · have := htt i hi; omega
              · exact (hown20.rows i hi).2
              · have := hkb18.lt; omega)
          have h21 : Rr w0 w21 base p { s.m with T := fun i => m.T i ∨ rowS A' i ∨ i = w.heap.size } ⟨v.d + s.z.length + 1, n, s.ln + 1, n :: v.rd, s.g⟩ := h20.modT hM21 (fun i hi => .inr (.inr hi)) (fun i hi => by subst hi; exact nbk) (fun i hi => by have := h.e0.size; omega) (fun i hi => .inl hi) (fun i hi => Nat.lt_of_lt_of_le (h20.tt i hi) hM21.size)
          refine store_mod h21.blk (show 8 < 11 by decide) (fun w22 hm22 hB22 => ?_)
          have h22 : Rr w0 w22 base p { s.m with T := fun i => m.T i ∨ rowS A' i ∨ i = w.heap.size } ⟨v.d + s.z.length + 1, n, s.ln + 1, n :: v.rd, { s.g with fr := true }⟩ := h21.put hm22 hB22 rfl rfl rfl (fun e => by cases e)
          have hm9_18 : Mod (WrS p s.m s.A w.heap.size) w9 w18 := ((Mod.of_ext _ hE912).trans (hm13.mono (S' := WrS p s.m s.A w.heap.size) (fun i hi => .inl (.inl (.inl hi)))) (fun i hi => .inl hi)).trans (Mod.of_ext _ hE1318) (fun i hi => .inl hi)
          have hm18_22 : Mod (WrS p s.m s.A w.heap.size) w18 w22 := hM1821.trans hm22 (fun i hi => .inl (.inl (.inl hi)))
          have hm7_22 : Mod (WrS p s.m s.A w.heap.size) w7 w22 := (hm79.trans hm9_18 (fun i hi => .inl hi)).trans hm18_22 (fun i hi => .inl hi)
          have hmvA : Moved w7 s.A A' := hmv20.back (by have := hm79.size; have := hm9_18.size; have := hE1819.size; omega)
          have htt' : (fun i => m.T i ∨ rowS A' i ∨ i = w.heap.size) = (fun i => m.T i ∨ rowS A' i ∨ i = w.heap.size) := rfl
          let s' : LS := ⟨a, bAnd s.o d, s.z ++ [zn], { s.m with T := fun i => m.T i ∨ rowS A' i ∨ i = w.heap.size }, { s.g with fr := true }, s.ln + 1, s.at_ + l.length + 1, ls, A', c'⟩
          have kp : ∀ {x : DV} {o : BF}, DgO w7 (TS p s.m) p.nm.length x o → DgO w22 (TS p s'.m) p.nm.length x o := fun hx => hI.kp (s' := s') hm7_22 rfl hmvA (Moved.refl _ _) (Moved.refl _ _) hx
          have hlen' : (s.z ++ [zn]).length = s.z.length + 1 := by simp
          have hTlt : ∀ i, TS p s.m i → i < w13.heap.size := fun i hi => by
            have := h9.hiT i hi; omega
          have fresh : ∀ (x : DV) (ox : BF), (∀ i, rowS x.A i → w13.heap.size ≤ i) → SB w14 x.A x.n x.c x.nd → Set1 p.nm.length x.nd x.r ox → DgO w22 (TS p s'.m) p.nm.length x ox := fun x ox hr hx hs => by
            have e1 : DgO w18 (TS p s.m) p.nm.length x ox := ⟨hx.ext hE1418, hs, fun ad e _ hh => by have := hr _ ⟨ad, e, rfl⟩; have := hTlt _ hh; omega⟩
            exact e1.step (hm18_22.mono (fun i hi => .inl (hI.sub i hi))) (fun i hi => by
              rcases hi with hi | hi
              · exact .inl (.inl hi)
              · rcases hi with hi | hi | hi
                · exact .inl (.inr (by rw [hI.tt]; exact .inl hi))
                · rcases hmv20.rows i hi with h1 | h1
                  · exact .inl (.inr (by rw [hI.tt]; exact .inr (.inl h1)))
                  · exact .inr (by have := hE1819.size; omega)
                · exact .inl (.inr (by rw [hI.tt]; exact .inr (.inr hi))))
          refine ⟨s', ?_, ?_, ?_⟩
          · show Has _ _
            have e : (((s.z ++ [zn]).length : Nat) : Int) = ((s.z.length + 1 : Nat) : Int) := by rw [hlen']
            simp only [s', hlen']
            rfl
          · refine hI.go (s' := s') hbkk hm7_22 ?_ rfl hmvA (Moved.refl _ _) (Moved.refl _ _) ?_ ?_ ?_ ?_ ?_ hls rfl ?_ ?_ rfl
            · show Rr w0 w22 base p _ ⟨v.d + (s.z ++ [zn]).length, n, s.ln + 1, n :: v.rd, { s.g with fr := true }⟩
              rw [hlen']; exact h22
            · exact hB21.mod hm22 npr
            · exact fresh a _ har ha14 has
            · show Own w22 base seT 6 A' (s.z ++ [zn]).length c' (seV (s.z ++ [zn]))
              rw [hlen', seV_snoc]
              exact (hown20.mod hM21 (fun i hi e => by subst e; exact (hkb18.mod hm1820 nbA).apart hown20 (by decide) hi)).mod hm22 (fun i hi e => by subst e; have := (hown20.rows _ hi).1; have := h.rb; omega)
            · intro z hz
              simp only [s', List.mem_append, List.mem_singleton] at hz
              rcases hz with hz | rfl
              · exact kp (hI.zx z hz)
              · exact kp hI.kd
            · intro z hz
              simp only [s', List.mem_append, List.mem_singleton] at hz
              rcases hz with hz | rfl
              · exact kp (hI.zy z hz)
              · exact fresh b _ hbr hb14 hbs
            · have e64 : ¬ v.d + (s.z.reverse.map (·.s)).length = 64 := by simpa using n64
              rw [rdL_ifd hdir, he] at hrs
              simp only [if_neg e64] at hrs
              rw [← hrs]
              simp [s', zn]
            · show v.d + (s.z ++ [zn]).length ≤ 64
              rw [hlen']; omega
          · show ls.length < (l :: ls).length
            simp
        have hop : v.d + (s.z.reverse.map (·.s)).length = v.d + s.z.length := by simp
        have hr8 : ∀ x ∈ cutR l, x < 256 := fun x hx => hl8 x (List.mem_of_mem_drop hx)
        have hrl : (cutR l).length ≤ 1000000000000 := by unfold cutR; rw [List.length_drop]; omega
        by_cases P2 : cutH l = kInc ∧ 32 ∈ l
        · have hdir := dir_inc P2.1 P2.2
          rw [if_pos P2.2]
          refine wif_df (by rw [P2.1]; decide) ?_
          refine wif_dt (by rw [P2.1]; rfl) ?_
          refine wif_dt (hsp.2 P2.2) ?_
          refine callP (number_fn (cutR l) w9 hP h9 hr8 hrl) ?_ ?_
          rotate_left
          · rintro ch w10 ⟨e, he, rfl, hE10⟩
            refine pan ⟨e, n, ((s.ln + 1 : Nat) : Int)⟩ _ w10 ?_ rfl (Mod.of_ext _ hE10)
            rw [← hrs, rdL_inc hdir]
            have hi : incF p f n v.rd (cutR l) (s.ln + 1) (v.d + (s.z.reverse.map (·.s)).length) s.o s.g = .error ⟨e, n, ((s.ln + 1 : Nat) : Int)⟩ := by
              unfold incF
              rw [show incE (ixN (p.fs.map (·.1))) (n :: v.rd) (cutR l) = .error e from he]
            rw [hi]
          rintro _ w10 ⟨n', he, rfl, hE10⟩
          have he : incE (ixN (p.fs.map (·.1))) (n :: v.rd) (cutR l) = .ok n' := he
          have h10 := h9.ext hE10
          refine callP (deeper_fn w10 h10 hdl) ?_ ?_
          rotate_left
          · rintro ch w11 ⟨e64, rfl, hE11⟩
            refine pan ⟨2, n, ((s.ln + 1 : Nat) : Int)⟩ _ w11 ?_ rfl (Mod.of_ext _ (hE10.trans hE11))
            have e64 : v.d + (s.z.reverse.map (·.s)).length = 64 := by simpa using e64
            rw [← hrs, rdL_inc hdir]
            have hi : incF p f n v.rd (cutR l) (s.ln + 1) (v.d + (s.z.reverse.map (·.s)).length) s.o s.g = .error ⟨2, n, ((s.ln + 1 : Nat) : Int)⟩ := by
              unfold incF
              rw [he]
              simp only [if_pos e64]
            rw [hi]
          rintro _ w11 ⟨n64, h11, hm11⟩
          have n64 : ¬ v.d + s.z.length = 64 := n64
          have e64 : ¬ v.d + (s.z.reverse.map (·.s)).length = 64 := by simpa using n64
          have hkb11 := (hkb9.ext hE10).mod hm11 npr
          refine loadN_blk0 hkb11 rfl ?_
          obtain ⟨hnr, tn, htn⟩ := incE_ok he
          have hn' : n' < p.fs.length := by have := ixN_lt htn; simpa using this
          have hkd11 := (hkd9.ext hE10).keep hm11 (fun i hi => .inl (.inl (.inl hi)))
          have hinc : ∀ R, rdF p.nm p.fs f (n :: v.rd) (v.d + s.z.length + 1) n' s.o s.g = R → incF p f n v.rd (cutR l) (s.ln + 1) (v.d + (s.z.reverse.map (·.s)).length) s.o s.g = R := fun R hR => by
            unfold incF
            rw [he]
            simp only [if_neg e64]
            rw [hop]; exact hR
          have hm9_11 : Mod (WrS p s.m s.A w.heap.size) w9 w11 := (Mod.of_ext _ hE10).trans (hm11.mono (S' := WrS p s.m s.A w.heap.size) (fun i hi => .inl (.inl (.inl hi)))) (fun i hi => .inl hi)
          refine callP (ih s.m ⟨v.d + s.z.length + 1, n, s.ln + 1, n :: v.rd, s.g⟩ n' s.k s.o w11 h11 hkd11 hn' hnr (by show v.d + s.z.length + 1 ≤ 64; omega) (by show 65 ≤ f + (v.d + s.z.length + 1); omega)) ?_ ?_
          rotate_left
          · rintro ch w12 ⟨q, hq, rfl, hm12⟩
            refine pan q _ w12 ?_ rfl (hm9_11.trans hm12 (fun i hi => .inl (.inl hi)))
            rw [← hrs, rdL_inc hdir, hinc _ hq]
          rintro _ w12 ⟨g', hg', m', hT', h12, hm12, hv12, hu12⟩
          refine load_blk h12.blk rfl ?_
          refine norm_i64_to ((v.d + s.z.length : Nat) : Int) (by show ((v.d + s.z.length + 1 : Nat) : Int) - 1 = _; omega) (by omega) ?_
          refine store_mod h12.blk (show 4 < 11 by decide) (fun w13 hm13 hB13 => ?_)
          have h13 : Rr w0 w13 base p m' ⟨v.d + s.z.length, n, s.ln + 1, n :: v.rd, g'⟩ := h12.put hm13 hB13 rfl rfl rfl h12.nf
          refine store_mod h13.blk (show 8 < 11 by decide) (fun w14 hm14 hB14 => ?_)
          have h14 : Rr w0 w14 base p m' ⟨v.d + s.z.length, n, s.ln + 1, n :: v.rd, { g' with fr := true }⟩ := h13.put hm14 hB14 rfl rfl rfl (fun e => by cases e)
          have hm1214 : Mod (· = p.r) w12 w14 := hm13.trans hm14 (fun i hi => .inl hi)
          have hm9_14 : Mod (WrS p s.m s.A w.heap.size) w9 w14 := (hm9_11.trans hm12 (fun i hi => .inl (.inl hi))).trans hm1214 (fun i hi => .inl (.inl (.inl hi)))
          have hm7_14 : Mod (WrS p s.m s.A w.heap.size) w7 w14 := hm79.trans hm9_14 (fun i hi => .inl hi)
          have hzm := hm9_11.size
          have hv7 : Moved w7 s.m.OA m'.OA := hv12.back (by omega)
          have hu7 : Moved w7 s.m.BA m'.BA := hu12.back (by omega)
          let s' : LS := ⟨s.k, s.o, s.z, m', { g' with fr := true }, s.ln + 1, s.at_ + l.length + 1, ls, s.A, s.c⟩
          have hT2 : s'.m.T = fun i => m.T i ∨ rowS s'.A i ∨ i = w.heap.size := by show m'.T = _; rw [hT', hI.tt]
          have kp : ∀ {x : DV} {o : BF}, DgO w7 (TS p s.m) p.nm.length x o → DgO w14 (TS p s'.m) p.nm.length x o := fun hx => hI.kp (s' := s') hm7_14 hT2 (Moved.refl _ _) hv7 hu7 hx
          have how14 : Own w14 base seT 6 s.A s.z.length s.c (seV s.z) := ((((how9.ext hE10).mod hm11 nopr).mod hm12 hoffA).mod hm1214 nopr)
          have hkb14 := (hkb11.mod hm12 nbk).mod hm1214 npr
          refine ⟨s', rfl, ?_, ?_⟩
          · refine hI.go (s' := s') hbkk hm7_14 h14 hT2 (Moved.refl _ _) hv7 hu7 hkb14 (kp hI.kd) how14 (fun z hz => kp (hI.zx z hz)) (fun z hz => kp (hI.zy z hz)) hls rfl ?_ hdl rfl
            rw [rdL_inc hdir, hinc _ hg'] at hrs
            exact hrs
          · show ls.length < (l :: ls).length
            simp
        by_cases P3 : cutH l = kElif ∧ 32 ∈ l
        · have hdir := dir_elif P3.1 P3.2
          rw [if_pos P3.2]
          refine wif_df (by rw [P3.1]; decide) ?_
          refine wif_df (by rw [P3.1]; decide) ?_
          refine wif_dt (by rw [P3.1]; rfl) ?_
          refine wif_dt (hsp.2 P3.2) ?_
          refine wif_eq (fun hz => ?_) (fun hz => ?_)
          · have hz0 : s.z = [] := List.eq_nil_of_length_eq_zero (by omega)
            refine callP (fail_fn 72 w9 h9) (fun _ _ hf => hf.elim) ?_
            rintro ch w10 ⟨rfl, hE10⟩
            refine pan ⟨72, n, ((s.ln + 1 : Nat) : Int)⟩ _ w10 ?_ rfl (Mod.of_ext _ hE10)
            rw [← hrs, rdL_elif hdir, hz0]; rfl
          obtain ⟨z', x, hzz⟩ : ∃ z' x, s.z = z' ++ [x] := by
            rcases List.eq_nil_or_concat s.z with h0 | ⟨z', x, h0⟩
            · exact absurd (by rw [h0]; rfl) hz
            · exact ⟨z', x, by rw [h0]; simp⟩
          have hzl : s.z.length = z'.length + 1 := by rw [hzz]; simp
          have hrev : s.z.reverse.map (·.s) = x.s :: z'.reverse.map (·.s) := by rw [hzz]; simp
          obtain ⟨oa, hoa, _⟩ := how9.sl.at_ (by omega : 0 < s.z.length)
          have hoA : rowS (some oa) = rowS s.A := by rw [hoa]
          have ho9 : Own w9 base seT 6 (some oa) s.z.length s.c (seV z' ++ x.cells) := by rw [← hoa, ← seV_snoc, ← hzz]; exact how9
          have hxz : x ∈ s.z := by rw [hzz]; simp
          have hxx := kp9 (hI.zx x hxz)
          have hxy := kp9 (hI.zy x hxz)
          have hpl := seV_len z'
          have htT : ∀ i, TS p s.m i → i < w9.heap.size := h9.hiT
          refine norm_i64_to ((z'.length : Nat) : Int) (by omega) (by omega) ?_
          rw [hoa]
          refine index_n (j := z'.length) (by omega) ?_
          rw [show z'.length * 6 = (seV z').length from hpl.symm]
          refine wif_df (fun e => by have e2 : l = lEnd := strOf_inj hl8 (by decide) e; have := P3.2; rw [e2] at this; exact absurd this (by decide)) ?_
          have hoth : decide (strOf l = (⟨#[35, 101, 108, 115, 101]⟩ : ByteArray)) = false := decide_eq_false (fun e => by have e2 : l = lElse := strOf_inj hl8 (by decide) e; have := P3.2; rw [e2] at this; exact absurd this (by decide))
          refine callP (branch_fn s.m ⟨v.d + s.z.length, n, s.ln + 1, n :: v.rd, s.g⟩ oa s.z.length s.c (seV z') x (decide (strOf l = (⟨#[35, 101, 108, 115, 101]⟩ : ByteArray))) (cutR l) w9 hP h9 ho9 (by rw [hoA]; exact htA) (by rw [hpl]; omega) hxy hr8 hrl hb0) ?_ ?_
          rotate_left
          · rintro ch w10 ⟨e, he, rfl, hm10⟩
            refine pan ⟨e, n, ((s.ln + 1 : Nat) : Int)⟩ _ w10 ?_ rfl (hm10.mono (fun i hi => .inl (.inr (.inl (by rw [← hoA]; exact hi)))))
            rw [hoth] at he
            rw [← hrs, rdL_elif hdir, hrev]
            rcases he with ⟨h1, rfl⟩ | ⟨h1, _, h3⟩
            · simp only [h1, if_true]
            · simp only [h1, h3]; rfl
          rintro u w10 ⟨hot, hm10, hres⟩
          rw [hoth, if_neg (by decide)] at hres
          obtain ⟨o', b, d', hset, rfl, hb10, hbs, hbr, hd10, hds, hdr, ho10⟩ := hres
          let zn : SeV := ⟨{ x.s with re := bSub x.s.re o' }, x.x, d'⟩
          let nk : DV := b
          let no : BF := bAnd x.s.re o'
          rw [hoA] at hm10
          have hkb10 := hkb9.mod hm10 nbA
          have h10 : Rr w0 w10 base p s.m ⟨v.d + s.z.length, n, s.ln + 1, n :: v.rd, s.g⟩ := h9.modT hm10 htA hoffA hloA (fun i hi => .inl hi) (fun i hi => Nat.lt_of_lt_of_le (h9.tt i hi) hm10.size)
          refine storeN_blk0 hkb10 rfl (sc rfl) (fun w11 hg11 _ hB11 => ?_)
          have hM11 : Mod (· = w.heap.size) w10 w11 := Mod.of_grown hg11 rfl
          have h11 : Rr w0 w11 base p s.m ⟨v.d + s.z.length, n, s.ln + 1, n :: v.rd, s.g⟩ := h10.modT hM11 (fun i hi => by rw [hI.tt]; exact .inr (.inr hi)) (fun i hi => by subst hi; exact nbk) (fun i hi => by have := h.e0.size; omega) (fun i hi => .inl hi) (fun i hi => Nat.lt_of_lt_of_le (h10.tt i hi) hM11.size)
          refine store_mod h11.blk (show 8 < 11 by decide) (fun w12 hm12 hB12 => ?_)
          have h12 : Rr w0 w12 base p s.m ⟨v.d + s.z.length, n, s.ln + 1, n :: v.rd, { s.g with fr := true }⟩ := h11.put hm12 hB12 rfl rfl rfl (fun e => by cases e)
          have hm10_12 : Mod (WrS p s.m s.A w.heap.size) w10 w12 := (hM11.mono (S' := WrS p s.m s.A w.heap.size) (fun i hi => .inl (.inr (.inr hi)))).trans hm12 (fun i hi => .inl (.inl (.inl hi)))
          have hm9_12 : Mod (WrS p s.m s.A w.heap.size) w9 w12 := (hm10.mono (S' := WrS p s.m s.A w.heap.size) (fun i hi => .inl (.inr (.inl hi)))).trans hm10_12 (fun i hi => .inl hi)
          have hm7_12 : Mod (WrS p s.m s.A w.heap.size) w7 w12 := hm79.trans hm9_12 (fun i hi => .inl hi)
          have hzn : (z' ++ [zn]).length = s.z.length := by rw [hzl]; simp
          let s' : LS := ⟨nk, no, z' ++ [zn], s.m, { s.g with fr := true }, s.ln + 1, s.at_ + l.length + 1, ls, s.A, s.c⟩
          have kp : ∀ {x : DV} {o : BF}, DgO w7 (TS p s.m) p.nm.length x o → DgO w12 (TS p s'.m) p.nm.length x o := fun hx => hI.kp (s' := s') hm7_12 hI.tt (Moved.refl _ _) (Moved.refl _ _) (Moved.refl _ _) hx
          have fresh : ∀ (x : DV) (ox : BF), (∀ i, rowS x.A i → w9.heap.size ≤ i) → SB w10 x.A x.n x.c x.nd → Set1 p.nm.length x.nd x.r ox → DgO w12 (TS p s'.m) p.nm.length x ox := fun x ox hr hx hs => by
            have e1 : DgO w10 (TS p s.m) p.nm.length x ox := ⟨hx, hs, fun ad e _ hh => by have := hr _ ⟨ad, e, rfl⟩; have := htT _ hh; omega⟩
            exact e1.step (hm10_12.mono (fun i hi => .inl (hI.sub i hi))) (fun i hi => .inl hi)
          refine ⟨s', ?_, ?_, ?_⟩
          · show Has _ _
            simp only [s', hzn]
            rw [hoa]
            rfl
          · refine hI.go (s' := s') hbkk hm7_12 ?_ hI.tt (Moved.refl _ _) (Moved.refl _ _) (Moved.refl _ _) ?_ ?_ ?_ ?_ ?_ hls rfl ?_ ?_ rfl
            · show Rr w0 w12 base p _ ⟨v.d + (z' ++ [zn]).length, n, s.ln + 1, n :: v.rd, { s.g with fr := true }⟩
              rw [hzn]; exact h12
            · exact hB11.mod hm12 npr
            · exact fresh b _ hbr hb10 hbs
            · show Own w12 base seT 6 s.A (z' ++ [zn]).length s.c (seV (z' ++ [zn]))
              rw [hzn, seV_snoc]
              have ho10' : Own w10 base seT 6 s.A s.z.length s.c (seV z' ++ zn.cells) := by rw [hoa]; exact ho10
              exact (ho10'.mod hM11 (fun i hi e => by subst e; exact nbA hi)).mod hm12 nopr
            · intro z hz
              simp only [s', List.mem_append, List.mem_singleton] at hz
              rcases hz with hz | rfl
              · exact kp (hI.zx z (by rw [hzz]; simp [hz]))
              · exact kp (hI.zx x hxz)
            · intro z hz
              simp only [s', List.mem_append, List.mem_singleton] at hz
              rcases hz with hz | rfl
              · exact kp (hI.zy z (by rw [hzz]; simp [hz]))
              · exact fresh d' _ hdr hd10 hds
            · rw [rdL_elif hdir, hrev] at hrs
              simp only [hot, hset] at hrs
              rw [← hrs]
              simp [s', zn, no, hot]
            · show v.d + (z' ++ [zn]).length ≤ 64
              rw [hzn]; omega
          · show ls.length < (l :: ls).length
            simp
        have hdno := dir_no P1 P2 P3
        by_cases hl4 : l = lElse
        · have hdir : dirOf l = .els := by rw [hl4]; rfl
          have hno : 32 ∉ l := by rw [hl4]; decide
          have hch : cutH l = lElse := by rw [cutH_no hno, hl4]
          rw [if_neg hno]
          refine wif_df (by rw [hch]; decide) ?_
          refine wif_df (by rw [hch]; decide) ?_
          refine wif_df (by rw [hch]; decide) ?_
          refine wif_dt (by rw [hl4]; rfl) ?_
          refine wif_eq (fun hz => ?_) (fun hz => ?_)
          · have hz0 : s.z = [] := List.eq_nil_of_length_eq_zero (by omega)
            refine callP (fail_fn 72 w9 h9) (fun _ _ hf => hf.elim) ?_
            rintro ch w10 ⟨rfl, hE10⟩
            refine pan ⟨72, n, ((s.ln + 1 : Nat) : Int)⟩ _ w10 ?_ rfl (Mod.of_ext _ hE10)
            rw [← hrs, rdL_els hdir, hz0]; rfl
          obtain ⟨z', x, hzz⟩ : ∃ z' x, s.z = z' ++ [x] := by
            rcases List.eq_nil_or_concat s.z with h0 | ⟨z', x, h0⟩
            · exact absurd (by rw [h0]; rfl) hz
            · exact ⟨z', x, by rw [h0]; simp⟩
          have hzl : s.z.length = z'.length + 1 := by rw [hzz]; simp
          have hrev : s.z.reverse.map (·.s) = x.s :: z'.reverse.map (·.s) := by rw [hzz]; simp
          obtain ⟨oa, hoa, _⟩ := how9.sl.at_ (by omega : 0 < s.z.length)
          have hoA : rowS (some oa) = rowS s.A := by rw [hoa]
          have ho9 : Own w9 base seT 6 (some oa) s.z.length s.c (seV z' ++ x.cells) := by rw [← hoa, ← seV_snoc, ← hzz]; exact how9
          have hxz : x ∈ s.z := by rw [hzz]; simp
          have hxx := kp9 (hI.zx x hxz)
          have hxy := kp9 (hI.zy x hxz)
          have hpl := seV_len z'
          have htT : ∀ i, TS p s.m i → i < w9.heap.size := h9.hiT
          refine norm_i64_to ((z'.length : Nat) : Int) (by omega) (by omega) ?_
          rw [hoa]
          refine index_n (j := z'.length) (by omega) ?_
          rw [show z'.length * 6 = (seV z').length from hpl.symm]
          refine wif_df (by rw [hl4]; decide) ?_
          have hoth : decide (strOf l = (⟨#[35, 101, 108, 115, 101]⟩ : ByteArray)) = true := decide_eq_true (by rw [hl4]; rfl)
          refine callP (branch_fn s.m ⟨v.d + s.z.length, n, s.ln + 1, n :: v.rd, s.g⟩ oa s.z.length s.c (seV z') x (decide (strOf l = (⟨#[35, 101, 108, 115, 101]⟩ : ByteArray))) [] w9 hP h9 ho9 (by rw [hoA]; exact htA) (by rw [hpl]; omega) hxy (fun x hx => by cases hx) (by decide) hb0) ?_ ?_
          rotate_left
          · rintro ch w10 ⟨e, he, rfl, hm10⟩
            refine pan ⟨e, n, ((s.ln + 1 : Nat) : Int)⟩ _ w10 ?_ rfl (hm10.mono (fun i hi => .inl (.inr (.inl (by rw [← hoA]; exact hi)))))
            rw [hoth] at he
            rw [← hrs, rdL_els hdir, hrev]
            rcases he with ⟨h1, rfl⟩ | ⟨_, h2, _⟩
            · simp only [h1, if_true]
            · cases h2
          rintro u w10 ⟨hot, hm10, hres⟩
          rw [hoth, if_pos rfl] at hres
          obtain ⟨rfl, ho10⟩ := hres
          let zn : SeV := ⟨{ x.s with ot := true }, x.x, x.y⟩
          let nk : DV := x.y
          let no : BF := x.s.re
          rw [hoA] at hm10
          have hkb10 := hkb9.mod hm10 nbA
          have h10 : Rr w0 w10 base p s.m ⟨v.d + s.z.length, n, s.ln + 1, n :: v.rd, s.g⟩ := h9.modT hm10 htA hoffA hloA (fun i hi => .inl hi) (fun i hi => Nat.lt_of_lt_of_le (h9.tt i hi) hm10.size)
          refine storeN_blk0 hkb10 rfl (sc rfl) (fun w11 hg11 _ hB11 => ?_)
          have hM11 : Mod (· = w.heap.size) w10 w11 := Mod.of_grown hg11 rfl
          have h11 : Rr w0 w11 base p s.m ⟨v.d + s.z.length, n, s.ln + 1, n :: v.rd, s.g⟩ := h10.modT hM11 (fun i hi => by rw [hI.tt]; exact .inr (.inr hi)) (fun i hi => by subst hi; exact nbk) (fun i hi => by have := h.e0.size; omega) (fun i hi => .inl hi) (fun i hi => Nat.lt_of_lt_of_le (h10.tt i hi) hM11.size)
          refine store_mod h11.blk (show 8 < 11 by decide) (fun w12 hm12 hB12 => ?_)
          have h12 : Rr w0 w12 base p s.m ⟨v.d + s.z.length, n, s.ln + 1, n :: v.rd, { s.g with fr := true }⟩ := h11.put hm12 hB12 rfl rfl rfl (fun e => by cases e)
          have hm10_12 : Mod (WrS p s.m s.A w.heap.size) w10 w12 := (hM11.mono (S' := WrS p s.m s.A w.heap.size) (fun i hi => .inl (.inr (.inr hi)))).trans hm12 (fun i hi => .inl (.inl (.inl hi)))
          have hm9_12 : Mod (WrS p s.m s.A w.heap.size) w9 w12 := (hm10.mono (S' := WrS p s.m s.A w.heap.size) (fun i hi => .inl (.inr (.inl hi)))).trans hm10_12 (fun i hi => .inl hi)
          have hm7_12 : Mod (WrS p s.m s.A w.heap.size) w7 w12 := hm79.trans hm9_12 (fun i hi => .inl hi)
          have hzn : (z' ++ [zn]).length = s.z.length := by rw [hzl]; simp
          let s' : LS := ⟨nk, no, z' ++ [zn], s.m, { s.g with fr := true }, s.ln + 1, s.at_ + l.length + 1, ls, s.A, s.c⟩
          have kp : ∀ {x : DV} {o : BF}, DgO w7 (TS p s.m) p.nm.length x o → DgO w12 (TS p s'.m) p.nm.length x o := fun hx => hI.kp (s' := s') hm7_12 hI.tt (Moved.refl _ _) (Moved.refl _ _) (Moved.refl _ _) hx
          have fresh : ∀ (x : DV) (ox : BF), (∀ i, rowS x.A i → w9.heap.size ≤ i) → SB w10 x.A x.n x.c x.nd → Set1 p.nm.length x.nd x.r ox → DgO w12 (TS p s'.m) p.nm.length x ox := fun x ox hr hx hs => by
            have e1 : DgO w10 (TS p s.m) p.nm.length x ox := ⟨hx, hs, fun ad e _ hh => by have := hr _ ⟨ad, e, rfl⟩; have := htT _ hh; omega⟩
            exact e1.step (hm10_12.mono (fun i hi => .inl (hI.sub i hi))) (fun i hi => .inl hi)
          refine ⟨s', ?_, ?_, ?_⟩
          · show Has _ _
            simp only [s', hzn]
            rw [hoa]
            rfl
          · refine hI.go (s' := s') hbkk hm7_12 ?_ hI.tt (Moved.refl _ _) (Moved.refl _ _) (Moved.refl _ _) ?_ ?_ ?_ ?_ ?_ hls rfl ?_ ?_ rfl
            · show Rr w0 w12 base p _ ⟨v.d + (z' ++ [zn]).length, n, s.ln + 1, n :: v.rd, { s.g with fr := true }⟩
              rw [hzn]; exact h12
            · exact hB11.mod hm12 npr
            · exact kp (hI.zy x hxz)
            · show Own w12 base seT 6 s.A (z' ++ [zn]).length s.c (seV (z' ++ [zn]))
              rw [hzn, seV_snoc]
              have ho10' : Own w10 base seT 6 s.A s.z.length s.c (seV z' ++ zn.cells) := by rw [hoa]; exact ho10
              exact (ho10'.mod hM11 (fun i hi e => by subst e; exact nbA hi)).mod hm12 nopr
            · intro z hz
              simp only [s', List.mem_append, List.mem_singleton] at hz
              rcases hz with hz | rfl
              · exact kp (hI.zx z (by rw [hzz]; simp [hz]))
              · exact kp (hI.zx x hxz)
            · intro z hz
              simp only [s', List.mem_append, List.mem_singleton] at hz
              rcases hz with hz | rfl
              · exact kp (hI.zy z (by rw [hzz]; simp [hz]))
              · exact kp (hI.zy x hxz)
            · rw [rdL_els hdir, hrev] at hrs
              simp only [hot] at hrs
              rw [← hrs]
              simp [s', zn, no]
            · show v.d + (z' ++ [zn]).length ≤ 64
              rw [hzn]; omega
          · show ls.length < (l :: ls).length
            simp
        by_cases hl5 : l = lEnd
        · have hdir : dirOf l = .en := by rw [hl5]; rfl
          have hno : 32 ∉ l := by rw [hl5]; decide
          have hch : cutH l = lEnd := by rw [cutH_no hno, hl5]
          refine wif_df (by rw [hch]; decide) ?_
          refine wif_df (by rw [hch]; decide) ?_
          refine wif_df (by rw [hch]; decide) ?_
          refine wif_df (by rw [hl5]; decide) ?_
          refine wif_dt (by rw [hl5]; rfl) ?_
          refine wif_eq (fun hz => ?_) (fun hz => ?_)
          · have hz0 : s.z = [] := List.eq_nil_of_length_eq_zero (by omega)
            refine callP (fail_fn 72 w9 h9) (fun _ _ hf => hf.elim) ?_
            rintro ch w10 ⟨rfl, hE10⟩
            refine pan ⟨72, n, ((s.ln + 1 : Nat) : Int)⟩ _ w10 ?_ rfl (Mod.of_ext _ hE10)
            rw [← hrs, rdL_en hdir, hz0]; rfl
          obtain ⟨z', x, hzz⟩ : ∃ z' x, s.z = z' ++ [x] := by
            rcases List.eq_nil_or_concat s.z with h0 | ⟨z', x, h0⟩
            · exact absurd (by rw [h0]; rfl) hz
            · exact ⟨z', x, by rw [h0]; simp⟩
          have hzl : s.z.length = z'.length + 1 := by rw [hzz]; simp
          have hrev : s.z.reverse.map (·.s) = x.s :: z'.reverse.map (·.s) := by rw [hzz]; simp
          obtain ⟨oa, hoa, _⟩ := how9.sl.at_ (by omega : 0 < s.z.length)
          have hoA : rowS (some oa) = rowS s.A := by rw [hoa]
          have ho9 : Own w9 base seT 6 (some oa) s.z.length s.c (seV z' ++ x.cells) := by rw [← hoa, ← seV_snoc, ← hzz]; exact how9
          have hxz : x ∈ s.z := by rw [hzz]; simp
          have hxx := kp9 (hI.zx x hxz)
          have hxy := kp9 (hI.zy x hxz)
          have hpl := seV_len z'
          have htT : ∀ i, TS p s.m i → i < w9.heap.size := h9.hiT
          refine norm_i64_to ((z'.length : Nat) : Int) (by omega) (by omega) ?_
          rw [hoa]
          refine index_n (j := z'.length) (by omega) ?_
          rw [show z'.length * 6 = (seV z').length from hpl.symm]
          refine wif_dt (by rw [hl5]; rfl) ?_
          refine loadN_at (vs := x.x.cells) rfl (fun i u hi => ?_) ?_
          · show w9.cell? (((oa.add (seV z').length).add 0).add i) = some u
            rw [add_add]
            refine cell_own ho9 (by omega) (pre_get ?_)
            match i, hi with
            | 0, hi => exact hi
            | 1, hi => exact hi
            | _ + 2, hi => exact nomatch hi
          refine storeN_blk0 hkb9 rfl (sc rfl) (fun w10 hg10 _ hB10 => ?_)
          have hM10 : Mod (· = w.heap.size) w9 w10 := Mod.of_grown hg10 rfl
          have h10 : Rr w0 w10 base p s.m ⟨v.d + s.z.length, n, s.ln + 1, n :: v.rd, s.g⟩ := h9.modT hM10 (fun i hi => by rw [hI.tt]; exact .inr (.inr hi)) (fun i hi => by subst hi; exact nbk) (fun i hi => by have := h.e0.size; omega) (fun i hi => .inl hi) (fun i hi => Nat.lt_of_lt_of_le (h9.tt i hi) hM10.size)
          refine norm_i64_to ((z'.length : Nat) : Int) (by omega) (by omega) ?_
          refine at_slice_h (h := z'.length) gx_ok rfl rfl rfl rfl rfl rfl (by have := how9.sl.le; omega) ?_
          refine load_blk h10.blk rfl ?_
          refine norm_i64_to ((v.d + z'.length : Nat) : Int) (by show ((v.d + s.z.length : Nat) : Int) - 1 = _; omega) (by omega) ?_
          refine store_mod h10.blk (show 4 < 11 by decide) (fun w11 hm11 hB11 => ?_)
          have h11 : Rr w0 w11 base p s.m ⟨v.d + z'.length, n, s.ln + 1, n :: v.rd, s.g⟩ := h10.put hm11 hB11 rfl rfl rfl h10.nf
          refine store_mod h11.blk (show 8 < 11 by decide) (fun w12 hm12 hB12 => ?_)
          have h12 : Rr w0 w12 base p s.m ⟨v.d + z'.length, n, s.ln + 1, n :: v.rd, { s.g with fr := true }⟩ := h11.put hm12 hB12 rfl rfl rfl (fun e => by cases e)
          have hm1012 : Mod (· = p.r) w10 w12 := hm11.trans hm12 (fun i hi => .inl hi)
          have hm9_12 : Mod (WrS p s.m s.A w.heap.size) w9 w12 := (hM10.mono (S' := WrS p s.m s.A w.heap.size) (fun i hi => .inl (.inr (.inr hi)))).trans hm1012 (fun i hi => .inl (.inl (.inl hi)))
          have hm7_12 : Mod (WrS p s.m s.A w.heap.size) w7 w12 := hm79.trans hm9_12 (fun i hi => .inl hi)
          let s' : LS := ⟨x.x, x.s.ou, z', s.m, { s.g with fr := true }, s.ln + 1, s.at_ + l.length + 1, ls, s.A, s.c⟩
          have kp : ∀ {x : DV} {o : BF}, DgO w7 (TS p s.m) p.nm.length x o → DgO w12 (TS p s'.m) p.nm.length x o := fun hx => hI.kp (s' := s') hm7_12 hI.tt (Moved.refl _ _) (Moved.refl _ _) (Moved.refl _ _) hx
          refine ⟨s', ?_, ?_, ?_⟩
          · show Has _ _
            simp only [s']
            rw [hoa]
            rfl
          · refine hI.go (s' := s') hbkk hm7_12 h12 hI.tt (Moved.refl _ _) (Moved.refl _ _) (Moved.refl _ _) (hB10.mod hm1012 npr) (kp (hI.zx x hxz)) ?_ (fun z hz => kp (hI.zx z (by rw [hzz]; simp [show z ∈ z' from hz]))) (fun z hz => kp (hI.zy z (by rw [hzz]; simp [show z ∈ z' from hz]))) hls rfl ?_ ?_ rfl
            · have ht := how9.take (k := z'.length) (by omega)
              rw [hzz, seV_snoc, List.take_left' (by rw [hpl])] at ht
              exact (ht.mod hM10 (fun i hi e => by subst e; exact nbA hi)).mod hm1012 nopr
            · rw [rdL_en hdir, hrev] at hrs
              rw [← hrs]
            · show v.d + z'.length ≤ 64
              omega
          · show ls.length < (l :: ls).length
            simp
        have hdir : dirOf l = .txt := by rw [hdno, if_neg hl4, if_neg hl5]
        have nl4 : ¬ strOf l = (⟨#[35, 101, 108, 115, 101]⟩ : ByteArray) := fun e => hl4 (strOf_inj hl8 (by decide) e)
        have nl5 : ¬ strOf l = (⟨#[35, 101, 110, 100]⟩ : ByteArray) := fun e => hl5 (strOf_inj hl8 (by decide) e)
        have hc8 : ∀ x ∈ cutH l, x < 256 := fun x hx => hl8 x ((List.takeWhile_sublist _).subset hx)
        by_cases q1 : cutH l = kIf
        · refine wif_dt (by rw [q1]; rfl) ?_
          refine wif_df (fun e => P1 ⟨q1, hsp.1 e⟩) ?_
          refine wif_df (by rw [q1]; decide) ?_
          refine wif_df (by rw [q1]; decide) ?_
          refine wif_df nl4 ?_
          refine wif_df nl5 ?_
          have hd9 := Ext.drew w9
          refine draw_tail gx_ok 7 (by kernel_rfl) ?_
          refine need_to (v' := .string (strOf (l ++ [10]))) ⟨by omega, by omega, by rw [hsz]; omega⟩ ?_ ?_
          · rw [strOf_extract]
            simp only [Int.toNat_natCast]
            rw [List.drop_take, show s.at_ + l.length + 1 - s.at_ = l.length + 1 by omega, l5]
          refine qloadN (vs := s.k.cells) rfl (fun w' hw' j u hj => by subst hw'; rw [(hkb9.ext hd9).cell]; exact hj) ?_
          have h9d := h9.ext hd9
          have hkdd : DgO w9.drew (RS p s.m) p.nm.length s.k s.o := ⟨hkd9.sb.ext hd9, hkd9.st, fun ad e h0 hh => hkd9.off ad e h0 (.inl hh)⟩
          refine callP (add_fn s.m ⟨v.d + s.z.length, n, s.ln + 1, n :: v.rd, s.g⟩ (l ++ [10]) s.at_ s.k s.o w9.drew hP h9d hkdd (fun x hx => by
            rcases List.mem_append.1 hx with hx | hx
            · exact hl8 x hx
            · simp only [List.mem_singleton] at hx; omega) (by rw [List.length_append]; simp; omega) (List.cons_ne_nil _ _)) ?_ ?_
          rotate_left
          · rintro ch w10 ⟨hg, rfl, hE10⟩
            refine pan ⟨2, n, ((s.ln + 1 : Nat) : Int)⟩ _ w10 ?_ rfl (Mod.of_ext _ (hd9.trans hE10))
            rw [← hrs, rdL_txt hdir, show addG (l ++ [10]) n s.at_ s.o s.g = none from hg]
          rintro _ w10 ⟨g', hg', m', hT', h10, hm10, hv10, hu10⟩
          have hm9_10 : Mod (WrS p s.m s.A w.heap.size) w9 w10 := (Mod.of_ext _ hd9).trans hm10 (fun i hi => .inl (.inl hi))
          have hm7_10 : Mod (WrS p s.m s.A w.heap.size) w7 w10 := hm79.trans hm9_10 (fun i hi => .inl hi)
          have hzd := hd9.size
          have hv7 : Moved w7 s.m.OA m'.OA := hv10.back (by omega)
          have hu7 : Moved w7 s.m.BA m'.BA := hu10.back (by omega)
          let s' : LS := ⟨s.k, s.o, s.z, m', g', s.ln + 1, s.at_ + l.length + 1, ls, s.A, s.c⟩
          have hT2 : s'.m.T = fun i => m.T i ∨ rowS s'.A i ∨ i = w.heap.size := by show m'.T = _; rw [hT', hI.tt]
          have kp : ∀ {x : DV} {o : BF}, DgO w7 (TS p s.m) p.nm.length x o → DgO w10 (TS p s'.m) p.nm.length x o := fun hx => hI.kp (s' := s') hm7_10 hT2 (Moved.refl _ _) hv7 hu7 hx
          refine ⟨s', rfl, ?_, ?_⟩
          · refine hI.go (s' := s') hbkk hm7_10 h10 hT2 (Moved.refl _ _) hv7 hu7 ((hkb9.ext hd9).mod hm10 nbk) (kp hI.kd) ((how9.ext hd9).mod hm10 hoffA) (fun z hz => kp (hI.zx z hz)) (fun z hz => kp (hI.zy z hz)) hls rfl ?_ hdl rfl
            rw [rdL_txt hdir, show addG (l ++ [10]) n s.at_ s.o s.g = some g' from hg'] at hrs
            exact hrs
          · show ls.length < (l :: ls).length
            simp
        refine wif_df (fun e => q1 (strOf_inj hc8 (by decide) e)) ?_
        by_cases q2 : cutH l = kInc
        · refine wif_dt (by rw [q2]; rfl) ?_
          refine wif_df (fun e => P2 ⟨q2, hsp.1 e⟩) ?_
          refine wif_df (by rw [q2]; decide) ?_
          refine wif_df nl4 ?_
          refine wif_df nl5 ?_
          have hd9 := Ext.drew w9
          refine draw_tail gx_ok 7 (by kernel_rfl) ?_
          refine need_to (v' := .string (strOf (l ++ [10]))) ⟨by omega, by omega, by rw [hsz]; omega⟩ ?_ ?_
          · rw [strOf_extract]
            simp only [Int.toNat_natCast]
            rw [List.drop_take, show s.at_ + l.length + 1 - s.at_ = l.length + 1 by omega, l5]
          refine qloadN (vs := s.k.cells) rfl (fun w' hw' j u hj => by subst hw'; rw [(hkb9.ext hd9).cell]; exact hj) ?_
          have h9d := h9.ext hd9
          have hkdd : DgO w9.drew (RS p s.m) p.nm.length s.k s.o := ⟨hkd9.sb.ext hd9, hkd9.st, fun ad e h0 hh => hkd9.off ad e h0 (.inl hh)⟩
          refine callP (add_fn s.m ⟨v.d + s.z.length, n, s.ln + 1, n :: v.rd, s.g⟩ (l ++ [10]) s.at_ s.k s.o w9.drew hP h9d hkdd (fun x hx => by
            rcases List.mem_append.1 hx with hx | hx
            · exact hl8 x hx
            · simp only [List.mem_singleton] at hx; omega) (by rw [List.length_append]; simp; omega) (List.cons_ne_nil _ _)) ?_ ?_
          rotate_left
          · rintro ch w10 ⟨hg, rfl, hE10⟩
            refine pan ⟨2, n, ((s.ln + 1 : Nat) : Int)⟩ _ w10 ?_ rfl (Mod.of_ext _ (hd9.trans hE10))
            rw [← hrs, rdL_txt hdir, show addG (l ++ [10]) n s.at_ s.o s.g = none from hg]
          rintro _ w10 ⟨g', hg', m', hT', h10, hm10, hv10, hu10⟩
          have hm9_10 : Mod (WrS p s.m s.A w.heap.size) w9 w10 := (Mod.of_ext _ hd9).trans hm10 (fun i hi => .inl (.inl hi))
          have hm7_10 : Mod (WrS p s.m s.A w.heap.size) w7 w10 := hm79.trans hm9_10 (fun i hi => .inl hi)
          have hzd := hd9.size
          have hv7 : Moved w7 s.m.OA m'.OA := hv10.back (by omega)
          have hu7 : Moved w7 s.m.BA m'.BA := hu10.back (by omega)
          let s' : LS := ⟨s.k, s.o, s.z, m', g', s.ln + 1, s.at_ + l.length + 1, ls, s.A, s.c⟩
          have hT2 : s'.m.T = fun i => m.T i ∨ rowS s'.A i ∨ i = w.heap.size := by show m'.T = _; rw [hT', hI.tt]
          have kp : ∀ {x : DV} {o : BF}, DgO w7 (TS p s.m) p.nm.length x o → DgO w10 (TS p s'.m) p.nm.length x o := fun hx => hI.kp (s' := s') hm7_10 hT2 (Moved.refl _ _) hv7 hu7 hx
          refine ⟨s', rfl, ?_, ?_⟩
          · refine hI.go (s' := s') hbkk hm7_10 h10 hT2 (Moved.refl _ _) hv7 hu7 ((hkb9.ext hd9).mod hm10 nbk) (kp hI.kd) ((how9.ext hd9).mod hm10 hoffA) (fun z hz => kp (hI.zx z hz)) (fun z hz => kp (hI.zy z hz)) hls rfl ?_ hdl rfl
            rw [rdL_txt hdir, show addG (l ++ [10]) n s.at_ s.o s.g = some g' from hg'] at hrs
            exact hrs
          · show ls.length < (l :: ls).length
            simp
        refine wif_df (fun e => q2 (strOf_inj hc8 (by decide) e)) ?_
        by_cases q3 : cutH l = kElif
        · refine wif_dt (by rw [q3]; rfl) ?_
          refine wif_df (fun e => P3 ⟨q3, hsp.1 e⟩) ?_
          refine wif_df nl4 ?_
          refine wif_df nl5 ?_
          have hd9 := Ext.drew w9
          refine draw_tail gx_ok 7 (by kernel_rfl) ?_
          refine need_to (v' := .string (strOf (l ++ [10]))) ⟨by omega, by omega, by rw [hsz]; omega⟩ ?_ ?_
          · rw [strOf_extract]
            simp only [Int.toNat_natCast]
            rw [List.drop_take, show s.at_ + l.length + 1 - s.at_ = l.length + 1 by omega, l5]
          refine qloadN (vs := s.k.cells) rfl (fun w' hw' j u hj => by subst hw'; rw [(hkb9.ext hd9).cell]; exact hj) ?_
          have h9d := h9.ext hd9
          have hkdd : DgO w9.drew (RS p s.m) p.nm.length s.k s.o := ⟨hkd9.sb.ext hd9, hkd9.st, fun ad e h0 hh => hkd9.off ad e h0 (.inl hh)⟩
          refine callP (add_fn s.m ⟨v.d + s.z.length, n, s.ln + 1, n :: v.rd, s.g⟩ (l ++ [10]) s.at_ s.k s.o w9.drew hP h9d hkdd (fun x hx => by
            rcases List.mem_append.1 hx with hx | hx
            · exact hl8 x hx
            · simp only [List.mem_singleton] at hx; omega) (by rw [List.length_append]; simp; omega) (List.cons_ne_nil _ _)) ?_ ?_
          rotate_left
          · rintro ch w10 ⟨hg, rfl, hE10⟩
            refine pan ⟨2, n, ((s.ln + 1 : Nat) : Int)⟩ _ w10 ?_ rfl (Mod.of_ext _ (hd9.trans hE10))
            rw [← hrs, rdL_txt hdir, show addG (l ++ [10]) n s.at_ s.o s.g = none from hg]
          rintro _ w10 ⟨g', hg', m', hT', h10, hm10, hv10, hu10⟩
          have hm9_10 : Mod (WrS p s.m s.A w.heap.size) w9 w10 := (Mod.of_ext _ hd9).trans hm10 (fun i hi => .inl (.inl hi))
          have hm7_10 : Mod (WrS p s.m s.A w.heap.size) w7 w10 := hm79.trans hm9_10 (fun i hi => .inl hi)
          have hzd := hd9.size
          have hv7 : Moved w7 s.m.OA m'.OA := hv10.back (by omega)
          have hu7 : Moved w7 s.m.BA m'.BA := hu10.back (by omega)
          let s' : LS := ⟨s.k, s.o, s.z, m', g', s.ln + 1, s.at_ + l.length + 1, ls, s.A, s.c⟩
          have hT2 : s'.m.T = fun i => m.T i ∨ rowS s'.A i ∨ i = w.heap.size := by show m'.T = _; rw [hT', hI.tt]
          have kp : ∀ {x : DV} {o : BF}, DgO w7 (TS p s.m) p.nm.length x o → DgO w10 (TS p s'.m) p.nm.length x o := fun hx => hI.kp (s' := s') hm7_10 hT2 (Moved.refl _ _) hv7 hu7 hx
          refine ⟨s', rfl, ?_, ?_⟩
          · refine hI.go (s' := s') hbkk hm7_10 h10 hT2 (Moved.refl _ _) hv7 hu7 ((hkb9.ext hd9).mod hm10 nbk) (kp hI.kd) ((how9.ext hd9).mod hm10 hoffA) (fun z hz => kp (hI.zx z hz)) (fun z hz => kp (hI.zy z hz)) hls rfl ?_ hdl rfl
            rw [rdL_txt hdir, show addG (l ++ [10]) n s.at_ s.o s.g = some g' from hg'] at hrs
            exact hrs
          · show ls.length < (l :: ls).length
            simp
        · refine wif_df (fun e => q3 (strOf_inj hc8 (by decide) e)) ?_
          refine wif_df nl4 ?_
          refine wif_df nl5 ?_
          have hd9 := Ext.drew w9
          refine draw_tail gx_ok 7 (by kernel_rfl) ?_
          refine need_to (v' := .string (strOf (l ++ [10]))) ⟨by omega, by omega, by rw [hsz]; omega⟩ ?_ ?_
          · rw [strOf_extract]
            simp only [Int.toNat_natCast]
            rw [List.drop_take, show s.at_ + l.length + 1 - s.at_ = l.length + 1 by omega, l5]
          refine qloadN (vs := s.k.cells) rfl (fun w' hw' j u hj => by subst hw'; rw [(hkb9.ext hd9).cell]; exact hj) ?_
          have h9d := h9.ext hd9
          have hkdd : DgO w9.drew (RS p s.m) p.nm.length s.k s.o := ⟨hkd9.sb.ext hd9, hkd9.st, fun ad e h0 hh => hkd9.off ad e h0 (.inl hh)⟩
          refine callP (add_fn s.m ⟨v.d + s.z.length, n, s.ln + 1, n :: v.rd, s.g⟩ (l ++ [10]) s.at_ s.k s.o w9.drew hP h9d hkdd (fun x hx => by
            rcases List.mem_append.1 hx with hx | hx
            · exact hl8 x hx
            · simp only [List.mem_singleton] at hx; omega) (by rw [List.length_append]; simp; omega) (List.cons_ne_nil _ _)) ?_ ?_
          rotate_left
          · rintro ch w10 ⟨hg, rfl, hE10⟩
            refine pan ⟨2, n, ((s.ln + 1 : Nat) : Int)⟩ _ w10 ?_ rfl (Mod.of_ext _ (hd9.trans hE10))
            rw [← hrs, rdL_txt hdir, show addG (l ++ [10]) n s.at_ s.o s.g = none from hg]
          rintro _ w10 ⟨g', hg', m', hT', h10, hm10, hv10, hu10⟩
          have hm9_10 : Mod (WrS p s.m s.A w.heap.size) w9 w10 := (Mod.of_ext _ hd9).trans hm10 (fun i hi => .inl (.inl hi))
          have hm7_10 : Mod (WrS p s.m s.A w.heap.size) w7 w10 := hm79.trans hm9_10 (fun i hi => .inl hi)
          have hzd := hd9.size
          have hv7 : Moved w7 s.m.OA m'.OA := hv10.back (by omega)
          have hu7 : Moved w7 s.m.BA m'.BA := hu10.back (by omega)
          let s' : LS := ⟨s.k, s.o, s.z, m', g', s.ln + 1, s.at_ + l.length + 1, ls, s.A, s.c⟩
          have hT2 : s'.m.T = fun i => m.T i ∨ rowS s'.A i ∨ i = w.heap.size := by show m'.T = _; rw [hT', hI.tt]
          have kp : ∀ {x : DV} {o : BF}, DgO w7 (TS p s.m) p.nm.length x o → DgO w10 (TS p s'.m) p.nm.length x o := fun hx => hI.kp (s' := s') hm7_10 hT2 (Moved.refl _ _) hv7 hu7 hx
          refine ⟨s', rfl, ?_, ?_⟩
          · refine hI.go (s' := s') hbkk hm7_10 h10 hT2 (Moved.refl _ _) hv7 hu7 ((hkb9.ext hd9).mod hm10 nbk) (kp hI.kd) ((how9.ext hd9).mod hm10 hoffA) (fun z hz => kp (hI.zx z hz)) (fun z hz => kp (hI.zy z hz)) hls rfl ?_ hdl rfl
            rw [rdL_txt hdir, show addG (l ++ [10]) n s.at_ s.o s.g = some g' from hg'] at hrs
            exact hrs
          · show ls.length < (l :: ls).length
            simp
end
end
end Go.Proofs.YtedopgkbajhanaaGreatDoor

namespace Go.Proofs.YtedopgkbajhanaaGreatDoor
section
section
open Go Go.RowKit

/-! ### The files' first error -/
structure FileB (x : List Nat × List Nat) : Prop where
  n8 : ∀ b ∈ x.1, b < 256
  t8 : ∀ b ∈ x.2, b < 256
  nl : x.1.length ≤ 9223372036854775807
  tl : x.2.length ≤ 9223372036854775807
def plC (q : Pl) : List Value := [.int .i64 q.e, .int .i64 q.f, .int .i64 q.l]
def plO (o : Option Pl) : Pl := o.getD ⟨0, 0, 0⟩
def badB (b : Nat) : Bool := decide (b < 32) || b == 34 || b == 127
theorem fnameOk_eq (s : List Nat) : fnameOk s = (decide (s ≠ []) && !(s.any badB)) := by
  unfold fnameOk
  congr 1
  rw [List.any_eq_not_all_not, Bool.not_not]
  congr 1
  funext b
  unfold badB
  have e : decide (32 ≤ b) = !decide (b < 32) := by by_cases h : b < 32 <;> simp [h] <;> omega
  rw [e]
  by_cases h1 : b = 34 <;> by_cases h2 : b = 127 <;> by_cases h3 : b < 32 <;> simp [h1, h2, h3, bne]
def bad0 (x : List Nat × List Nat) (seen : List (List Nat)) : Bool := decide (x.1 = []) || decide (x.1 ∈ seen) || (decide (x.2 ≠ []) && x.2.getLast? != some 10)
theorem bad_all (x : List Nat × List Nat) (seen : List (List Nat)) : (bad0 x seen || x.1.any badB) = true ↔ ¬ (fnameOk x.1 = true ∧ x.1 ∉ seen ∧ textB x.2 = true) := by
  rw [fnameOk_eq]
  unfold bad0 textB
  by_cases h1 : x.1 = [] <;> by_cases h2 : x.1 ∈ seen <;> by_cases h3 : x.2 = [] <;> by_cases h4 : x.2.getLast? = some 10 <;> simp [h1, h2, h3, h4]
structure CkI (w0 : World) (q : Nat) (fs : List (List Nat × List Nat)) (res : Option Pl) (i : Nat) (w : World) : Prop where
  e : Ext w0 w
  mp : ∃ m, MapAt strK w q m ∧ ∀ s : List Nat, (∀ x ∈ s, x < 256) → assoc (strOf s) m = if s ∈ (fs.take i).map (·.1) then some (.bool true) else none
  rs : chkFs (fs.drop i) ((fs.take i).map (·.1)) i = res
  le : i ≤ fs.length
  qo : w0.heap.size ≤ q
theorem CkI.ext {w0 w w' : World} {q : Nat} {fs : List (List Nat × List Nat)} {res : Option Pl} {i : Nat} (h : CkI w0 q fs res i w) (k : Ext w w') : CkI w0 q fs res i w' := ⟨h.e.trans k, let ⟨m, h1, h2⟩ := h.mp; ⟨m, h1.ext k, h2⟩, h.rs, h.le, h.qo⟩

set_option maxHeartbeats 800000 in
theorem checkfiles_fn (fs : List (List Nat × List Nat)) (FA : Option Addr) (nf cf : Nat) (w : World) (h : SlS fileC 2 w FA nf cf fs) (hb : ∀ x ∈ fs, FileB x) (hnf : nf ≤ 1000000000000) :
    Fn Tryz.prog 44 [.slice FA nf cf] w (fun u w' => u = .agg (plC (plO (filesE fs))).toArray ∧ Ext w w') := by
  have hlen := h.2
  refine fn_of_exec (c := { c44 with cuts := [] }) gx_ok Tryz.func44 rfl rfl rfl ?_
  refine new (fun w1 hE1 hz1 hB1 => ?_)
  refine wif_d (fun c1 => ?_) (fun c1 => ?_)
  · refine storeN_blk0 hB1 rfl (sc rfl) (fun w2 hg2 _ hB2 => ?_)
    refine loadN_blk0 hB2 rfl ?_
    refine ⟨?_, newBox hE1 hB1 hg2⟩
    unfold filesE
    rw [if_pos (by omega)]; rfl
  have hfe : filesE fs = chkFs fs [] 0 := by unfold filesE; rw [if_neg (by omega)]
  refine at_makeMap gx_ok strK rfl (fun w2 hE2 hz2 hm2 => ?_)
  have hE02 := hE1.trans hE2
  refine loop gx_ok [15] (fun i : Nat => [.int .i64 i]) (fun i w' => CkI w1 w1.heap.size fs (filesE fs) i w') (fun i _ => fs.length - i) 0 rfl ⟨hE2, ⟨[], hm2, fun s _ => by simp [assoc]⟩, by rw [hfe]; rfl, Nat.zero_le _, Nat.le_refl _⟩ ?_
  rintro i w3 hI
  have hE03 : Ext w w3 := hE1.trans hI.e
  refine wif_d (fun c2 => ?_) (fun c2 => ?_)
  · have hi : i < nf := by omega
    refine index_sls file_len (h.ext hE03) rfl hi (fun pp x hx hc => ?_)
    refine loadN_at (vs := fileC x) rfl hc ?_
    refine new (fun w4 hE4 hz4 hB4 => ?_)
    refine storeN_blk0 hB4 rfl (sc rfl) (fun w5 hg5 _ hB5 => ?_)
    have hE35 : Ext w3 w5 := newBox hE4 hB4 hg5
    have hI5 := hI.ext hE35
    obtain ⟨m, hm5, hlk⟩ := hI5.mp
    have hxb := hb x (List.mem_of_getElem? hx)
    have hns := strOf_size x.1
    have hts := strOf_size x.2
    have hnl := hxb.nl
    refine load_blk hB5 rfl ?_
    by_cases p1 : x.1 = []
    · refine wif_dt (by rw [p1]; rfl) ?_
      refine load_blk hB5 rfl ?_
      have e0 : bad0 x ((fs.take i).map (·.1)) = true := by simp [bad0, p1]
      refine loop gx_ok [47, 6] (fun s : Nat × Bool => [.int .i64 s.1, .bool s.2]) (fun s w' => Ext w5 w' ∧ s.1 ≤ x.1.length ∧ s.2 = (bad0 x ((fs.take i).map (·.1)) || (x.1.take s.1).any badB)) (fun s _ => x.1.length - s.1) (0, true) rfl ⟨Ext.refl _, Nat.zero_le _, by rw [e0]; simp⟩ ?_
      rintro ⟨k, b⟩ w6 ⟨hE56, hk, hbv⟩
      simp only at hk hbv
      have hI6 := hI5.ext hE56
      have hB6 := hB5.ext hE56
      refine wif_d (fun c3 => ?_) (fun c3 => ?_)
      · have hkl : k < x.1.length := by rw [hns] at c3; simp only at c3; omega
        obtain ⟨y, hy⟩ : ∃ y, x.1[k]? = some y := ⟨_, List.getElem?_eq_getElem hkl⟩
        have hstep : (x.1.take (k + 1)).any badB = ((x.1.take k).any badB || badB y) := by
          rw [List.take_add_one, hy]; simp
        have fin : ∀ b', b' = (b || badB y) → b' = (bad0 x ((fs.take i).map (·.1)) || (x.1.take (k + 1)).any badB) := fun b' e => by rw [e, hbv, hstep, Bool.or_assoc]
        cases b with
        | true =>
          refine wif_t rfl ?_
          refine norm_i64_to ((k + 1 : Nat) : Int) (by show ((k : Nat) : Int) + 1 = _; omega) (by omega) ?_
          exact ⟨(k + 1, true), rfl, ⟨hE56, hkl, fin true rfl⟩, by show x.1.length - (k + 1) < x.1.length - k; omega⟩
        | false =>
          have idx : ∀ K : Int → Prop, K (y : Int) → SIndex (strOf x.1) ((k : Nat) : Int) K := fun K hK => by
            refine sindex' (by rw [hns]; exact hkl) (fun z hz _ => ?_)
            rw [bytesOf_strOf hxb.n8, hy] at hz
            cases hz; exact hK
          refine wif_f rfl ?_
          refine load_blk hB6 rfl ?_
          refine idx _ ?_
          refine wif_d (fun d1 => ?_) (fun d1 => ?_)
          · refine norm_i64_to ((k + 1 : Nat) : Int) (by show ((k : Nat) : Int) + 1 = _; omega) (by omega) ?_
            exact ⟨(k + 1, true), rfl, ⟨hE56, hkl, fin true (by have : y < 32 := by omega
                                                                simp [badB, this])⟩, by show x.1.length - (k + 1) < x.1.length - k; omega⟩
          refine load_blk hB6 rfl ?_
          refine idx _ ?_
          refine wif_eq (fun d2 => ?_) (fun d2 => ?_)
          · refine norm_i64_to ((k + 1 : Nat) : Int) (by show ((k : Nat) : Int) + 1 = _; omega) (by omega) ?_
            exact ⟨(k + 1, true), rfl, ⟨hE56, hkl, fin true (by have : y = 34 := by omega
                                                                simp [badB, this])⟩, by show x.1.length - (k + 1) < x.1.length - k; omega⟩
          refine load_blk hB6 rfl ?_
          refine idx _ ?_
          refine norm_i64_to ((k + 1 : Nat) : Int) (by show ((k : Nat) : Int) + 1 = _; omega) (by omega) ?_
          refine ⟨(k + 1, ((y : Int) == 127)), rfl, ⟨hE56, hkl, fin _ ?_⟩, by show x.1.length - (k + 1) < x.1.length - k; omega⟩
          have n1 : ¬ y < 32 := by omega
          have n2 : ¬ y = 34 := by omega
          by_cases n3 : y = 127
          · subst n3; rfl
          · have : ((y : Int) == 127) = false := by simp; omega
            rw [this]; simp [badB, n1, n2, n3]
      · have hkl : k = x.1.length := by rw [hns] at c3; simp only at c3; omega
        subst hkl
        rw [List.take_length] at hbv
        have hall := bad_all x ((fs.take i).map (·.1))
        have hdrop : fs.drop i = x :: fs.drop (i + 1) := by
          rw [List.drop_eq_getElem_cons (by omega)]
          congr 1
          exact Option.some.inj ((List.getElem?_eq_getElem (by omega)).symm.trans hx)
        have hrs := hI6.rs
        rw [hdrop, chkFs] at hrs
        have hB16 := ((hB1.ext hI.e).ext hE35).ext hE56
        refine wif (fun d1 => ?_) (fun d1 => ?_)
        · have d1 : b = true := d1
          rw [if_pos (hall.1 (by rw [← hbv, d1]))] at hrs
          refine storeN_blk0 hB16 rfl (sc rfl) (fun w7 hg7 _ hB7 => ?_)
          refine loadN_blk0 hB7 rfl ?_
          have hM7 : Mod (· = w.heap.size) w6 w7 := Mod.of_grown hg7 rfl
          exact ⟨by rw [← hrs]; rfl, hM7.ext (hE1.trans hI6.e) (fun i hi => by omega)⟩
        have d1 : b = false := d1
        have hok := fun hh => (hall.2 hh).symm.trans (hbv.symm.trans d1)
        rw [if_neg (fun hh => by have := hok hh; cases this)] at hrs
        refine load_blk hB6 rfl ?_
        refine wif_d (fun d2 => ?_) (fun d2 => ?_)
        · rw [if_pos (by omega)] at hrs
          refine storeN_blk0 hB16 rfl (sc rfl) (fun w7 hg7 _ hB7 => ?_)
          refine loadN_blk0 hB7 rfl ?_
          have hM7 : Mod (· = w.heap.size) w6 w7 := Mod.of_grown hg7 rfl
          exact ⟨by rw [← hrs]; rfl, hM7.ext (hE1.trans hI6.e) (fun i hi => by omega)⟩
        rw [if_neg (by omega)] at hrs
        refine load_blk hB6 rfl ?_
        have hm6 := hm5.ext hE56
        refine at_mapUpdate (kv := strK) (a := strOf x.1) gx_ok rfl rfl rfl rfl rfl KeyV.str rfl rfl rfl hm6 (fun w7 hg7 hz7 hm7 => ?_)
        have hM7 : Mod (· = w1.heap.size) w6 w7 := Mod.of_grown hg7 rfl
        refine norm_i64_to ((i + 1 : Nat) : Int) (by show ((i : Nat) : Int) + 1 = _; omega) (by omega) ?_
        have htk : (fs.take (i + 1)).map (·.1) = (fs.take i).map (·.1) ++ [x.1] := by rw [List.take_add_one, hx]; simp
        refine ⟨i + 1, rfl, ⟨hM7.ext hI6.e (fun i hi => by omega), ⟨_, hm7, fun s hs => ?_⟩, by rw [htk]; exact hrs, by omega, Nat.le_refl _⟩, by show fs.length - (i + 1) < fs.length - i; omega⟩
        rw [assoc_set, htk]
        by_cases hsx : s = x.1
        · subst hsx; simp
        · rw [if_neg (fun e => hsx (strOf_inj hs hxb.n8 e)), hlk s hs]
          simp [hsx]
    refine wif_df (fun e => p1 (strOf_inj hxb.n8 (by simp) e)) ?_
    refine load_blk hB5 rfl ?_
    refine at_lookup' (kv := strK) (a := strOf x.1) (v := .bool (decide (x.1 ∈ (fs.take i).map (·.1)))) gx_ok rfl rfl rfl rfl rfl KeyV.str rfl rfl hm5 (by
      rw [hlk x.1 hxb.n8]
      by_cases hm : x.1 ∈ (fs.take i).map (·.1)
      · rw [if_pos hm, decide_eq_true hm]; rfl
      · rw [if_neg hm, decide_eq_false hm]; rfl) ?_
    by_cases p2 : x.1 ∈ (fs.take i).map (·.1)
    · refine wif_dt p2 ?_
      refine load_blk hB5 rfl ?_
      have e0 : bad0 x ((fs.take i).map (·.1)) = true := by unfold bad0; rw [decide_eq_true p2]; simp
      refine loop gx_ok [47, 6] (fun s : Nat × Bool => [.int .i64 s.1, .bool s.2]) (fun s w' => Ext w5 w' ∧ s.1 ≤ x.1.length ∧ s.2 = (bad0 x ((fs.take i).map (·.1)) || (x.1.take s.1).any badB)) (fun s _ => x.1.length - s.1) (0, true) rfl ⟨Ext.refl _, Nat.zero_le _, by rw [e0]; simp⟩ ?_
      rintro ⟨k, b⟩ w6 ⟨hE56, hk, hbv⟩
      simp only at hk hbv
      have hI6 := hI5.ext hE56
      have hB6 := hB5.ext hE56
      refine wif_d (fun c3 => ?_) (fun c3 => ?_)
      · have hkl : k < x.1.length := by rw [hns] at c3; simp only at c3; omega
        obtain ⟨y, hy⟩ : ∃ y, x.1[k]? = some y := ⟨_, List.getElem?_eq_getElem hkl⟩
        have hstep : (x.1.take (k + 1)).any badB = ((x.1.take k).any badB || badB y) := by
          rw [List.take_add_one, hy]; simp
        have fin : ∀ b', b' = (b || badB y) → b' = (bad0 x ((fs.take i).map (·.1)) || (x.1.take (k + 1)).any badB) := fun b' e => by rw [e, hbv, hstep, Bool.or_assoc]
        cases b with
        | true =>
          refine wif_t rfl ?_
          refine norm_i64_to ((k + 1 : Nat) : Int) (by show ((k : Nat) : Int) + 1 = _; omega) (by omega) ?_
          exact ⟨(k + 1, true), rfl, ⟨hE56, hkl, fin true rfl⟩, by show x.1.length - (k + 1) < x.1.length - k; omega⟩
        | false =>
          have idx : ∀ K : Int → Prop, K (y : Int) → SIndex (strOf x.1) ((k : Nat) : Int) K := fun K hK => by
            refine sindex' (by rw [hns]; exact hkl) (fun z hz _ => ?_)
            rw [bytesOf_strOf hxb.n8, hy] at hz
            cases hz; exact hK
          refine wif_f rfl ?_
          refine load_blk hB6 rfl ?_
          refine idx _ ?_
          refine wif_d (fun d1 => ?_) (fun d1 => ?_)
          · refine norm_i64_to ((k + 1 : Nat) : Int) (by show ((k : Nat) : Int) + 1 = _; omega) (by omega) ?_
            exact ⟨(k + 1, true), rfl, ⟨hE56, hkl, fin true (by have : y < 32 := by omega
                                                                simp [badB, this])⟩, by show x.1.length - (k + 1) < x.1.length - k; omega⟩
          refine load_blk hB6 rfl ?_
          refine idx _ ?_
          refine wif_eq (fun d2 => ?_) (fun d2 => ?_)
          · refine norm_i64_to ((k + 1 : Nat) : Int) (by show ((k : Nat) : Int) + 1 = _; omega) (by omega) ?_
            exact ⟨(k + 1, true), rfl, ⟨hE56, hkl, fin true (by have : y = 34 := by omega
                                                                simp [badB, this])⟩, by show x.1.length - (k + 1) < x.1.length - k; omega⟩
          refine load_blk hB6 rfl ?_
          refine idx _ ?_
          refine norm_i64_to ((k + 1 : Nat) : Int) (by show ((k : Nat) : Int) + 1 = _; omega) (by omega) ?_
          refine ⟨(k + 1, ((y : Int) == 127)), rfl, ⟨hE56, hkl, fin _ ?_⟩, by show x.1.length - (k + 1) < x.1.length - k; omega⟩
          have n1 : ¬ y < 32 := by omega
          have n2 : ¬ y = 34 := by omega
          by_cases n3 : y = 127
          · subst n3; rfl
          · have : ((y : Int) == 127) = false := by simp; omega
            rw [this]; simp [badB, n1, n2, n3]
      · have hkl : k = x.1.length := by rw [hns] at c3; simp only at c3; omega
        subst hkl
        rw [List.take_length] at hbv
        have hall := bad_all x ((fs.take i).map (·.1))
        have hdrop : fs.drop i = x :: fs.drop (i + 1) := by
          rw [List.drop_eq_getElem_cons (by omega)]
          congr 1
          exact Option.some.inj ((List.getElem?_eq_getElem (by omega)).symm.trans hx)
        have hrs := hI6.rs
        rw [hdrop, chkFs] at hrs
        have hB16 := ((hB1.ext hI.e).ext hE35).ext hE56
        refine wif (fun d1 => ?_) (fun d1 => ?_)
        · have d1 : b = true := d1
          rw [if_pos (hall.1 (by rw [← hbv, d1]))] at hrs
          refine storeN_blk0 hB16 rfl (sc rfl) (fun w7 hg7 _ hB7 => ?_)
          refine loadN_blk0 hB7 rfl ?_
          have hM7 : Mod (· = w.heap.size) w6 w7 := Mod.of_grown hg7 rfl
          exact ⟨by rw [← hrs]; rfl, hM7.ext (hE1.trans hI6.e) (fun i hi => by omega)⟩
        have d1 : b = false := d1
        have hok := fun hh => (hall.2 hh).symm.trans (hbv.symm.trans d1)
        rw [if_neg (fun hh => by have := hok hh; cases this)] at hrs
        refine load_blk hB6 rfl ?_
        refine wif_d (fun d2 => ?_) (fun d2 => ?_)
        · rw [if_pos (by omega)] at hrs
          refine storeN_blk0 hB16 rfl (sc rfl) (fun w7 hg7 _ hB7 => ?_)
          refine loadN_blk0 hB7 rfl ?_
          have hM7 : Mod (· = w.heap.size) w6 w7 := Mod.of_grown hg7 rfl
          exact ⟨by rw [← hrs]; rfl, hM7.ext (hE1.trans hI6.e) (fun i hi => by omega)⟩
        rw [if_neg (by omega)] at hrs
        refine load_blk hB6 rfl ?_
        have hm6 := hm5.ext hE56
        refine at_mapUpdate (kv := strK) (a := strOf x.1) gx_ok rfl rfl rfl rfl rfl KeyV.str rfl rfl rfl hm6 (fun w7 hg7 hz7 hm7 => ?_)
        have hM7 : Mod (· = w1.heap.size) w6 w7 := Mod.of_grown hg7 rfl
        refine norm_i64_to ((i + 1 : Nat) : Int) (by show ((i : Nat) : Int) + 1 = _; omega) (by omega) ?_
        have htk : (fs.take (i + 1)).map (·.1) = (fs.take i).map (·.1) ++ [x.1] := by rw [List.take_add_one, hx]; simp
        refine ⟨i + 1, rfl, ⟨hM7.ext hI6.e (fun i hi => by omega), ⟨_, hm7, fun s hs => ?_⟩, by rw [htk]; exact hrs, by omega, Nat.le_refl _⟩, by show fs.length - (i + 1) < fs.length - i; omega⟩
        rw [assoc_set, htk]
        by_cases hsx : s = x.1
        · subst hsx; simp
        · rw [if_neg (fun e => hsx (strOf_inj hs hxb.n8 e)), hlk s hs]
          simp [hsx]
    refine wif_df p2 ?_
    refine load_blk hB5 rfl ?_
    by_cases p3 : x.2 = []
    · refine wif_f (by rw [p3]; rfl) ?_
      refine load_blk hB5 rfl ?_
      have e0 : bad0 x ((fs.take i).map (·.1)) = false := by unfold bad0; rw [decide_eq_false p1, decide_eq_false p2, p3]; rfl
      refine loop gx_ok [47, 6] (fun s : Nat × Bool => [.int .i64 s.1, .bool s.2]) (fun s w' => Ext w5 w' ∧ s.1 ≤ x.1.length ∧ s.2 = (bad0 x ((fs.take i).map (·.1)) || (x.1.take s.1).any badB)) (fun s _ => x.1.length - s.1) (0, false) rfl ⟨Ext.refl _, Nat.zero_le _, by rw [e0]; simp⟩ ?_
      rintro ⟨k, b⟩ w6 ⟨hE56, hk, hbv⟩
      simp only at hk hbv
      have hI6 := hI5.ext hE56
      have hB6 := hB5.ext hE56
      refine wif_d (fun c3 => ?_) (fun c3 => ?_)
      · have hkl : k < x.1.length := by rw [hns] at c3; simp only at c3; omega
        obtain ⟨y, hy⟩ : ∃ y, x.1[k]? = some y := ⟨_, List.getElem?_eq_getElem hkl⟩
        have hstep : (x.1.take (k + 1)).any badB = ((x.1.take k).any badB || badB y) := by
          rw [List.take_add_one, hy]; simp
        have fin : ∀ b', b' = (b || badB y) → b' = (bad0 x ((fs.take i).map (·.1)) || (x.1.take (k + 1)).any badB) := fun b' e => by rw [e, hbv, hstep, Bool.or_assoc]
        cases b with
        | true =>
          refine wif_t rfl ?_
          refine norm_i64_to ((k + 1 : Nat) : Int) (by show ((k : Nat) : Int) + 1 = _; omega) (by omega) ?_
          exact ⟨(k + 1, true), rfl, ⟨hE56, hkl, fin true rfl⟩, by show x.1.length - (k + 1) < x.1.length - k; omega⟩
        | false =>
          have idx : ∀ K : Int → Prop, K (y : Int) → SIndex (strOf x.1) ((k : Nat) : Int) K := fun K hK => by
            refine sindex' (by rw [hns]; exact hkl) (fun z hz _ => ?_)
            rw [bytesOf_strOf hxb.n8, hy] at hz
            cases hz; exact hK
          refine wif_f rfl ?_
          refine load_blk hB6 rfl ?_
          refine idx _ ?_
          refine wif_d (fun d1 => ?_) (fun d1 => ?_)
          · refine norm_i64_to ((k + 1 : Nat) : Int) (by show ((k : Nat) : Int) + 1 = _; omega) (by omega) ?_
            exact ⟨(k + 1, true), rfl, ⟨hE56, hkl, fin true (by have : y < 32 := by omega
                                                                simp [badB, this])⟩, by show x.1.length - (k + 1) < x.1.length - k; omega⟩
          refine load_blk hB6 rfl ?_
          refine idx _ ?_
          refine wif_eq (fun d2 => ?_) (fun d2 => ?_)
          · refine norm_i64_to ((k + 1 : Nat) : Int) (by show ((k : Nat) : Int) + 1 = _; omega) (by omega) ?_
            exact ⟨(k + 1, true), rfl, ⟨hE56, hkl, fin true (by have : y = 34 := by omega
                                                                simp [badB, this])⟩, by show x.1.length - (k + 1) < x.1.length - k; omega⟩
          refine load_blk hB6 rfl ?_
          refine idx _ ?_
          refine norm_i64_to ((k + 1 : Nat) : Int) (by show ((k : Nat) : Int) + 1 = _; omega) (by omega) ?_
          refine ⟨(k + 1, ((y : Int) == 127)), rfl, ⟨hE56, hkl, fin _ ?_⟩, by show x.1.length - (k + 1) < x.1.length - k; omega⟩
          have n1 : ¬ y < 32 := by omega
          have n2 : ¬ y = 34 := by omega
          by_cases n3 : y = 127
          · subst n3; rfl
          · have : ((y : Int) == 127) = false := by simp; omega
            rw [this]; simp [badB, n1, n2, n3]
      · have hkl : k = x.1.length := by rw [hns] at c3; simp only at c3; omega
        subst hkl
        rw [List.take_length] at hbv
        have hall := bad_all x ((fs.take i).map (·.1))
        have hdrop : fs.drop i = x :: fs.drop (i + 1) := by
          rw [List.drop_eq_getElem_cons (by omega)]
          congr 1
          exact Option.some.inj ((List.getElem?_eq_getElem (by omega)).symm.trans hx)
        have hrs := hI6.rs
        rw [hdrop, chkFs] at hrs
        have hB16 := ((hB1.ext hI.e).ext hE35).ext hE56
        refine wif (fun d1 => ?_) (fun d1 => ?_)
        · have d1 : b = true := d1
          rw [if_pos (hall.1 (by rw [← hbv, d1]))] at hrs
          refine storeN_blk0 hB16 rfl (sc rfl) (fun w7 hg7 _ hB7 => ?_)
          refine loadN_blk0 hB7 rfl ?_
          have hM7 : Mod (· = w.heap.size) w6 w7 := Mod.of_grown hg7 rfl
          exact ⟨by rw [← hrs]; rfl, hM7.ext (hE1.trans hI6.e) (fun i hi => by omega)⟩
        have d1 : b = false := d1
        have hok := fun hh => (hall.2 hh).symm.trans (hbv.symm.trans d1)
        rw [if_neg (fun hh => by have := hok hh; cases this)] at hrs
        refine load_blk hB6 rfl ?_
        refine wif_d (fun d2 => ?_) (fun d2 => ?_)
        · rw [if_pos (by omega)] at hrs
          refine storeN_blk0 hB16 rfl (sc rfl) (fun w7 hg7 _ hB7 => ?_)
          refine loadN_blk0 hB7 rfl ?_
          have hM7 : Mod (· = w.heap.size) w6 w7 := Mod.of_grown hg7 rfl
          exact ⟨by rw [← hrs]; rfl, hM7.ext (hE1.trans hI6.e) (fun i hi => by omega)⟩
        rw [if_neg (by omega)] at hrs
        refine load_blk hB6 rfl ?_
        have hm6 := hm5.ext hE56
        refine at_mapUpdate (kv := strK) (a := strOf x.1) gx_ok rfl rfl rfl rfl rfl KeyV.str rfl rfl rfl hm6 (fun w7 hg7 hz7 hm7 => ?_)
        have hM7 : Mod (· = w1.heap.size) w6 w7 := Mod.of_grown hg7 rfl
        refine norm_i64_to ((i + 1 : Nat) : Int) (by show ((i : Nat) : Int) + 1 = _; omega) (by omega) ?_
        have htk : (fs.take (i + 1)).map (·.1) = (fs.take i).map (·.1) ++ [x.1] := by rw [List.take_add_one, hx]; simp
        refine ⟨i + 1, rfl, ⟨hM7.ext hI6.e (fun i hi => by omega), ⟨_, hm7, fun s hs => ?_⟩, by rw [htk]; exact hrs, by omega, Nat.le_refl _⟩, by show fs.length - (i + 1) < fs.length - i; omega⟩
        rw [assoc_set, htk]
        by_cases hsx : s = x.1
        · subst hsx; simp
        · rw [if_neg (fun e => hsx (strOf_inj hs hxb.n8 e)), hlk s hs]
          simp [hsx]
    · have n3 : ¬ strOf x.2 = (⟨#[]⟩ : ByteArray) := fun e => p3 (strOf_inj hxb.t8 (by simp) e)
      refine wif_t (by simp [n3]) ?_
      refine load_blk hB5 rfl ?_
      refine load_blk hB5 rfl ?_
      have htl := hxb.tl
      have hpos : 0 < x.2.length := List.length_pos_iff.2 p3
      refine norm_i64_to ((x.2.length - 1 : Nat) : Int) (by rw [hts]; omega) (by omega) ?_
      refine sindex' (j := x.2.length - 1) (by omega) (fun z hz hz8 => ?_)
      rw [bytesOf_strOf hxb.t8] at hz
      have hlast : x.2.getLast? = some z := by rw [List.getLast?_eq_getElem?]; exact hz
      refine load_blk hB5 rfl ?_
      have e0 : bad0 x ((fs.take i).map (·.1)) = ((z : Int) != 10) := by
        unfold bad0
        rw [decide_eq_false p1, decide_eq_false p2, decide_eq_true p3, hlast]
        by_cases h10 : z = 10
        · subst h10; decide
        · have e1 : ((z : Int) != 10) = true := by simp; omega
          rw [e1]; simp [h10]
      refine loop gx_ok [47, 6] (fun s : Nat × Bool => [.int .i64 s.1, .bool s.2]) (fun s w' => Ext w5 w' ∧ s.1 ≤ x.1.length ∧ s.2 = (bad0 x ((fs.take i).map (·.1)) || (x.1.take s.1).any badB)) (fun s _ => x.1.length - s.1) (0, ((z : Int) != 10)) rfl ⟨Ext.refl _, Nat.zero_le _, by rw [e0]; simp⟩ ?_
      rintro ⟨k, b⟩ w6 ⟨hE56, hk, hbv⟩
      simp only at hk hbv
      have hI6 := hI5.ext hE56
      have hB6 := hB5.ext hE56
      refine wif_d (fun c3 => ?_) (fun c3 => ?_)
      · have hkl : k < x.1.length := by rw [hns] at c3; simp only at c3; omega
        obtain ⟨y, hy⟩ : ∃ y, x.1[k]? = some y := ⟨_, List.getElem?_eq_getElem hkl⟩
        have hstep : (x.1.take (k + 1)).any badB = ((x.1.take k).any badB || badB y) := by
          rw [List.take_add_one, hy]; simp
        have fin : ∀ b', b' = (b || badB y) → b' = (bad0 x ((fs.take i).map (·.1)) || (x.1.take (k + 1)).any badB) := fun b' e => by rw [e, hbv, hstep, Bool.or_assoc]
        cases b with
        | true =>
          refine wif_t rfl ?_
          refine norm_i64_to ((k + 1 : Nat) : Int) (by show ((k : Nat) : Int) + 1 = _; omega) (by omega) ?_
          exact ⟨(k + 1, true), rfl, ⟨hE56, hkl, fin true rfl⟩, by show x.1.length - (k + 1) < x.1.length - k; omega⟩
        | false =>
          have idx : ∀ K : Int → Prop, K (y : Int) → SIndex (strOf x.1) ((k : Nat) : Int) K := fun K hK => by
            refine sindex' (by rw [hns]; exact hkl) (fun z hz _ => ?_)
            rw [bytesOf_strOf hxb.n8, hy] at hz
            cases hz; exact hK
          refine wif_f rfl ?_
          refine load_blk hB6 rfl ?_
          refine idx _ ?_
          refine wif_d (fun d1 => ?_) (fun d1 => ?_)
          · refine norm_i64_to ((k + 1 : Nat) : Int) (by show ((k : Nat) : Int) + 1 = _; omega) (by omega) ?_
            exact ⟨(k + 1, true), rfl, ⟨hE56, hkl, fin true (by have : y < 32 := by omega
                                                                simp [badB, this])⟩, by show x.1.length - (k + 1) < x.1.length - k; omega⟩
          refine load_blk hB6 rfl ?_
          refine idx _ ?_
          refine wif_eq (fun d2 => ?_) (fun d2 => ?_)
          · refine norm_i64_to ((k + 1 : Nat) : Int) (by show ((k : Nat) : Int) + 1 = _; omega) (by omega) ?_
            exact ⟨(k + 1, true), rfl, ⟨hE56, hkl, fin true (by have : y = 34 := by omega
                                                                simp [badB, this])⟩, by show x.1.length - (k + 1) < x.1.length - k; omega⟩
          refine load_blk hB6 rfl ?_
          refine idx _ ?_
          refine norm_i64_to ((k + 1 : Nat) : Int) (by show ((k : Nat) : Int) + 1 = _; omega) (by omega) ?_
          refine ⟨(k + 1, ((y : Int) == 127)), rfl, ⟨hE56, hkl, fin _ ?_⟩, by show x.1.length - (k + 1) < x.1.length - k; omega⟩
          have n1 : ¬ y < 32 := by omega
          have n2 : ¬ y = 34 := by omega
          by_cases n3 : y = 127
          · subst n3; rfl
          · have : ((y : Int) == 127) = false := by simp; omega
            rw [this]; simp [badB, n1, n2, n3]
      · have hkl : k = x.1.length := by rw [hns] at c3; simp only at c3; omega
        subst hkl
        rw [List.take_length] at hbv
        have hall := bad_all x ((fs.take i).map (·.1))
        have hdrop : fs.drop i = x :: fs.drop (i + 1) := by
          rw [List.drop_eq_getElem_cons (by omega)]
          congr 1
          exact Option.some.inj ((List.getElem?_eq_getElem (by omega)).symm.trans hx)
        have hrs := hI6.rs
        rw [hdrop, chkFs] at hrs
        have hB16 := ((hB1.ext hI.e).ext hE35).ext hE56
        refine wif (fun d1 => ?_) (fun d1 => ?_)
        · have d1 : b = true := d1
          rw [if_pos (hall.1 (by rw [← hbv, d1]))] at hrs
          refine storeN_blk0 hB16 rfl (sc rfl) (fun w7 hg7 _ hB7 => ?_)
          refine loadN_blk0 hB7 rfl ?_
          have hM7 : Mod (· = w.heap.size) w6 w7 := Mod.of_grown hg7 rfl
          exact ⟨by rw [← hrs]; rfl, hM7.ext (hE1.trans hI6.e) (fun i hi => by omega)⟩
        have d1 : b = false := d1
        have hok := fun hh => (hall.2 hh).symm.trans (hbv.symm.trans d1)
        rw [if_neg (fun hh => by have := hok hh; cases this)] at hrs
        refine load_blk hB6 rfl ?_
        refine wif_d (fun d2 => ?_) (fun d2 => ?_)
        · rw [if_pos (by omega)] at hrs
          refine storeN_blk0 hB16 rfl (sc rfl) (fun w7 hg7 _ hB7 => ?_)
          refine loadN_blk0 hB7 rfl ?_
          have hM7 : Mod (· = w.heap.size) w6 w7 := Mod.of_grown hg7 rfl
          exact ⟨by rw [← hrs]; rfl, hM7.ext (hE1.trans hI6.e) (fun i hi => by omega)⟩
        rw [if_neg (by omega)] at hrs
        refine load_blk hB6 rfl ?_
        have hm6 := hm5.ext hE56
        refine at_mapUpdate (kv := strK) (a := strOf x.1) gx_ok rfl rfl rfl rfl rfl KeyV.str rfl rfl rfl hm6 (fun w7 hg7 hz7 hm7 => ?_)
        have hM7 : Mod (· = w1.heap.size) w6 w7 := Mod.of_grown hg7 rfl
        refine norm_i64_to ((i + 1 : Nat) : Int) (by show ((i : Nat) : Int) + 1 = _; omega) (by omega) ?_
        have htk : (fs.take (i + 1)).map (·.1) = (fs.take i).map (·.1) ++ [x.1] := by rw [List.take_add_one, hx]; simp
        refine ⟨i + 1, rfl, ⟨hM7.ext hI6.e (fun i hi => by omega), ⟨_, hm7, fun s hs => ?_⟩, by rw [htk]; exact hrs, by omega, Nat.le_refl _⟩, by show fs.length - (i + 1) < fs.length - i; omega⟩
        rw [assoc_set, htk]
        by_cases hsx : s = x.1
        · subst hsx; simp
        · rw [if_neg (fun e => hsx (strOf_inj hs hxb.n8 e)), hlk s hs]
          simp [hsx]
  · have hi : i = fs.length := by have := hI.le; omega
    have hrs := hI.rs
    rw [hi, List.drop_length, chkFs] at hrs
    refine storeN_blk0 (hB1.ext hI.e) rfl (sc rfl) (fun w4 hg4 _ hB4 => ?_)
    refine loadN_blk0 hB4 rfl ?_
    have hM4 : Mod (· = w.heap.size) w3 w4 := Mod.of_grown hg4 rfl
    exact ⟨by rw [← hrs]; rfl, hM4.ext hE03 (fun i hi => by omega)⟩
end

section
open Go Go.RowKit

theorem wpOpsS_recover {P : Program} {ops : Array Oper} {rest : List Nat} {i : Nat} {o : Oper} {Q : Exit → Act → List Frame → World → Prop} {a : Act} {cs cs' : List Frame} {w : World} {v : Value} {d : Nat} (hi : ops[i]? = some o) (h1 : o.op = .call ⟨.builtin .recover, #[], #[]⟩) (hd : o.dst = some d) (hg : o.guard = none)
    (hrec : recoverD cs = some (v, cs') ∨ (recoverD cs = none ∧ v = .nilIface ∧ cs' = cs)) (h : wpOpsS P ops Q rest (a.put (some d) v) cs' w) : wpOpsS P ops Q (i :: rest) a cs w := by
  have e1 : (execOp a.eval o).run P w = .ok .recover w := by
    simp only [execOp, h1, resolve, invoke, builtin]
    simp
  unfold wpOpsS
  rw [hi]
  simp only
  rw [if_pos (by simp [Region.wanted, hg]), e1, hd]
  rcases hrec with hr | ⟨hr, rfl, rfl⟩
  · simp only [hr]; exact h
  · simp only [hr]; exact h
theorem wpOpsS_exec {c : Cx} (hg : c.g.Ok) {P : Program} (hP : c.g.P = P) {ops : Array Oper} {rest : List Nat} {i : Nat} {o : Oper} {Q : Exit → Act → List Frame → World → Prop} {a : Act} {cs : List Frame} {w : World} {S : Env} {K : Env → World → Prop} (hi : ops[i]? = some o) (hgd : o.guard = none) (hf : Fits c.N S a)
    (h : execO c o S w K (fun _ _ _ => False)) (hk : ∀ S' a' w', Fits c.N S' a' → K S' w' → wpOpsS P ops Q rest a' cs w') : wpOpsS P ops Q (i :: rest) a cs w := by
  subst hP
  have h1 := execO_sound hg h hf
  unfold wpOpsS
  rw [hi]
  simp only
  rw [if_pos (by simp [Region.wanted, hgd])]
  have h2 := Oper.wp_mono (K' := fun a' w' => wpOpsS c.g.P ops Q rest a' cs w') (fun a' w' ⟨S', hf', hK⟩ => hk _ _ _ hf' hK) h1
  unfold Oper.wp at h2
  generalize (execOp a.eval o).run c.g.P w = r at *
  cases r with
  | ok n w' =>
    cases n <;> simp only [Oper.upon] at h2 ⊢ <;> first | exact h2 | exact h2.elim | skip
    exact h2.mono fun e w'' he => by
      cases e with
      | returned v => exact he
      | panicked ch => obtain ⟨_, _, he⟩ := he; exact he.elim
      | outgrown => obtain ⟨_, _, _, _, he⟩ := he; exact he.elim
  | halt x w' => cases x <;> simp only [Oper.upon] at h2 ⊢ <;> first | exact h2 | (obtain ⟨_, _, h2⟩ := h2; exact h2.elim) | (obtain ⟨_, _, _, _, h2⟩ := h2; exact h2.elim)

theorem at_assert_st {c : Cx} {o : Oper} {S : Env} {w : World} {K : Env → World → Prop} {Q : Post} {x : Operand} {tx t : Nat} {fs : Array Field} {v : Value} {r : TyRow} (hg : c.g.Ok) (ho : o.op = .typeAssert x tx t true) (hr : rowOf c.g.tys t = some r) (hd : r.d = .struct fs) (hx : S.ev x = some (.iface t v))
    (kk : putK c S o.dst (.v (.tuple #[v, .bool true])) (fun S => K S w)) : AtOp c o S w K Q := by
  have hr' := (hg.row hr).1
  rw [hd] at hr'
  refine at_run (w' := w) (v := .tuple #[v, .bool true]) (fun a hf => ?_) kk
  have e1 := hf.ev hx
  simp only [execOp, ho, e1]
  simp [Instr.typeAssert, run_underlying hr']
theorem at_assert_nil {c : Cx} {o : Oper} {S : Env} {w : World} {K : Env → World → Prop} {Q : Post} {x : Operand} {tx t : Nat} {fs : Array Field} {r : TyRow} (hg : c.g.Ok) (ho : o.op = .typeAssert x tx t true) (hr : rowOf c.g.tys t = some r) (hd : r.d = .struct fs) (hx : S.ev x = some .nilIface)
    (kk : putK c S o.dst (.v (.tuple #[r.z, .bool false])) (fun S => K S w)) : AtOp c o S w K Q := by
  obtain ⟨hr', i, hi, _, _, hz⟩ := hg.row hr
  rw [hd] at hr'
  refine at_run (w' := w) (v := .tuple #[r.z, .bool false]) (fun a hf => ?_) kk
  have e1 := hf.ev hx
  simp only [execOp, ho, e1]
  simp [Instr.typeAssert, run_underlying hr', zeroValue, typeInfo, hi, hz]

/-- Behind a panic of the reader's. -/
def RecPl (f e : Nat) (q : Pl) (w w' : World) : Prop := Blk w' f 29 [.string (strOf []), .slice none 0 0] ∧ Blk w' e 32 (plC q) ∧ Mod (fun i => i = f ∨ i = e) w w'
theorem srec_fn (f e : Nat) (q : Pl) (w : World) (cs1 cs2 : List Value) (hl1 : cs1.length = 2) (hl2 : cs2.length = 3) (hne : f ≠ e) (hf : Blk w f 29 cs1) (he : Blk w e 32 cs2) :
    CallsD Tryz.prog 45 #[.pointer (some ⟨f, 0, none⟩), .pointer (some ⟨e, 0, none⟩)] (.panicking (failPan q.e q.f q.l)) w
      (fun en u' w' => ∃ v, en = .returned v ∧ settle u' = .returning ∧ RecPl f e q w w') := by
  refine callsD_of_wpS Tryz.func45 rfl fun c₀ cs hu => ?_
  have hfit := fits_args (N := Tryz.f45.ntmps) [.pointer (some ⟨f, 0, none⟩), .pointer (some ⟨e, 0, none⟩)] (Nat.le_of_ble_eq_true rfl) [(0, .v (.pointer (some ⟨f, 0, none⟩))), (1, .v (.pointer (some ⟨e, 0, none⟩)))] (by
    intro k x hk
    match k, hk with
    | 0, hk => cases hk; rfl
    | 1, hk => cases hk; rfl
    | k + 2, hk => exact nomatch (show (none : Option Ent) = some x from hk))
  have hf5 := hfit.put (d := 5) (by decide) (.v (.iface 90 (.agg #[.int .i64 q.e, .int .i64 q.f, .int .i64 q.l])))
  refine wpS_seq (wpS_region ?_)
  show wpOpsS _ _ _ [0, 1, 2, 3, 4, 5, 6, 7] _ _ _
  refine wpOpsS_recover (o := _) (cs' := { c₀ with mode := .panicking [{ v := .iface 90 (.agg #[.int .i64 q.e, .int .i64 q.f, .int .i64 q.l]), recovered := true }] } :: cs) (v := .iface 90 (.agg #[.int .i64 q.e, .int .i64 q.f, .int .i64 q.l])) (d := 5) rfl rfl rfl rfl (.inl (by simp [recoverD, hu, failPan])) ?_
  generalize hact : Act.put _ (some 5) _ = act
  have hf5' : Fits c45.N [(5, .v (.iface 90 (.agg #[.int .i64 q.e, .int .i64 q.f, .int .i64 q.l]))), (0, .v (.pointer (some ⟨f, 0, none⟩))), (1, .v (.pointer (some ⟨e, 0, none⟩)))] act := by rw [← hact]; exact hf5
  clear hact hf5 hfit
  generalize hops : #[_, _, _, _, _, _, _, _] = ops0
  have h1 := (congrArg (fun (x : Array Oper) => x[1]?) hops).symm
  have h2 := (congrArg (fun (x : Array Oper) => x[2]?) hops).symm
  have h3 := (congrArg (fun (x : Array Oper) => x[3]?) hops).symm
  have h4 := (congrArg (fun (x : Array Oper) => x[4]?) hops).symm
  have h5 := (congrArg (fun (x : Array Oper) => x[5]?) hops).symm
  have h6 := (congrArg (fun (x : Array Oper) => x[6]?) hops).symm
  have h7 := (congrArg (fun (x : Array Oper) => x[7]?) hops).symm
  clear hops
  refine wpOpsS_exec (c := c45) gx_ok rfl h1 rfl hf5' (K := fun S' w' => S' = [(6, Ent.v (.tuple #[.agg #[.int .i64 q.e, .int .i64 q.f, .int .i64 q.l], .bool true])), (5, .v (.iface 90 (.agg #[.int .i64 q.e, .int .i64 q.f, .int .i64 q.l]))), (0, .v (.pointer (some ⟨f, 0, none⟩))), (1, .v (.pointer (some ⟨e, 0, none⟩)))] ∧ w = w') (at_assert_st gx_ok rfl rfl rfl rfl ⟨rfl, rfl⟩) ?_
  rintro _ a1 _ hf1 ⟨rfl, rfl⟩
  refine wpOpsS_exec (c := c45) gx_ok rfl h2 rfl hf1 (K := fun S' w' => S' = _ ∧ w = w') ⟨rfl, rfl⟩ ?_
  rintro _ a2 _ hf2 ⟨rfl, rfl⟩
  refine wpOpsS_exec (c := c45) gx_ok rfl h3 rfl hf2 (K := fun S' w' => S' = _ ∧ w = w') ⟨rfl, rfl⟩ ?_
  rintro _ a3 _ hf3 ⟨rfl, rfl⟩
  refine wpOpsS_exec (c := c45) gx_ok rfl h4 rfl hf3 (K := fun S' w' => S' = _ ∧ w = w') ⟨rfl, rfl⟩ ?_
  rintro _ a4 _ hf4 ⟨rfl, rfl⟩
  refine wpOpsS_exec (c := c45) gx_ok rfl h5 rfl hf4 (K := fun S' w' => S' = (2, .v (.pointer (some ⟨w.heap.size, 0, none⟩))) :: _ ∧ Ext w w' ∧ w'.heap.size = w.heap.size + 1 ∧ ∃ ps : List Value, Blk w' w.heap.size 90 ps ∧ ps.length = 3) (new (fun w1 hE1 hz1 hB1 => ⟨rfl, hE1, hz1, _, hB1, rfl⟩)) ?_
  rintro _ a5 w5 hf5 ⟨rfl, hE5, hz5, ps, hB5, hps⟩
  refine wpOpsS_exec (c := c45) gx_ok rfl h6 rfl hf5 (K := fun S' w' => S' = _ ∧ Ext w w' ∧ w.heap.size + 1 ≤ w'.heap.size ∧ Blk w' w.heap.size 90 (plC q)) (storeN_blk0 hB5 (by rw [hps]; rfl) (sc rfl) (fun w6 hg6 hz6 hB6 => ⟨rfl, newBox hE5 hB5 hg6, by omega, hB6⟩)) ?_
  rintro _ a6 w6 hf6 ⟨rfl, hE6, hz6, hB6⟩
  refine wpOpsS_exec (c := c45) gx_ok rfl h7 rfl hf6 (K := fun S' w' => S' = _ ∧ w6 = w') ⟨rfl, rfl⟩ ?_
  rintro _ a7 _ hf7 ⟨rfl, rfl⟩
  unfold wpOpsS
  refine wpS_rest (c := c45) gx_ok rfl hf7 ?_
  refine wif_t rfl ?_
  have nf : f ≠ w.heap.size := fun e => by have := hf.lt; omega
  have ne : e ≠ w.heap.size := fun e => by have := he.lt; omega
  have hf6' := hf.ext hE6
  have he6' := he.ext hE6
  refine draw_plan gx_ok (fun w' => Mod (fun i => i = f ∨ i = e) w6 w') 5 [(true, 0), (true, 1), (true, 2), (false, 3), (false, 4)] (by kernel_rfl) (Mod.of_ext _ (Ext.drew w6)) ?_
  refine qloadN (vs := plC q) rfl (fun w' hw' j u hj => by rw [add_add, (hB6.mod hw' (fun hh => hh.elim (fun e => nf e.symm) (fun e => ne e.symm))).cell]; simpa using hj) ?_
  have hd := Ext.drew w6
  refine storeN_blk0 (hf6'.ext hd) (by rw [hl1]; rfl) (sc rfl) (fun w8 hg8 _ hB8 => ?_)
  have hM8 : Mod (· = f) w6.drew w8 := Mod.of_grown hg8 rfl
  have hM8' : Mod (fun i => i = f ∨ i = e) w6 w8 := (Mod.of_ext _ hd).trans hM8 (fun i hi => .inl (.inl hi))
  refine ⟨hM8', ?_⟩
  refine storeN_blk0 ((he6'.ext hd).mod hM8 (fun hh => hne hh.symm)) (by rw [hl2]; rfl) (sc rfl) (fun w9 hg9 _ hB9 => ?_)
  have hM9 : Mod (· = e) w8 w9 := Mod.of_grown hg9 rfl
  have hM9' : Mod (fun i => i = f ∨ i = e) w6 w9 := hM8'.trans hM9 (fun i hi => .inl (.inr hi))
  refine ⟨hM9', ?_⟩
  exact ⟨_, rfl, rfl, hB8.mod hM9 hne, hB9, (Mod.of_ext _ hE6).trans hM9' (fun i hi => .inl hi)⟩

theorem srec_ret_fn (f e : Nat) (w : World) :
    CallsD Tryz.prog 45 #[.pointer (some ⟨f, 0, none⟩), .pointer (some ⟨e, 0, none⟩)] .returning w
      (fun en u' w' => ∃ v, en = .returned v ∧ settle u' = .returning ∧ Ext w w') := by
  refine callsD_of_wpS Tryz.func45 rfl fun c₀ cs hu => ?_
  have hfit := fits_args (N := Tryz.f45.ntmps) [.pointer (some ⟨f, 0, none⟩), .pointer (some ⟨e, 0, none⟩)] (Nat.le_of_ble_eq_true rfl) [(0, .v (.pointer (some ⟨f, 0, none⟩))), (1, .v (.pointer (some ⟨e, 0, none⟩)))] (by
    intro k x hk
    match k, hk with
    | 0, hk => cases hk; rfl
    | 1, hk => cases hk; rfl
    | k + 2, hk => exact nomatch (show (none : Option Ent) = some x from hk))
  have hf5 := hfit.put (d := 5) (by decide) (.v .nilIface)
  refine wpS_seq (wpS_region ?_)
  show wpOpsS _ _ _ [0, 1, 2, 3, 4, 5, 6, 7] _ _ _
  refine wpOpsS_recover (o := _) (cs' := { c₀ with mode := .returning } :: cs) (v := .nilIface) (d := 5) rfl rfl rfl rfl (.inr ⟨by simp [recoverD, hu], rfl, by rw [← hu]⟩) ?_
  generalize hact : Act.put _ (some 5) _ = act
  have hf5' : Fits c45.N [(5, .v .nilIface), (0, .v (.pointer (some ⟨f, 0, none⟩))), (1, .v (.pointer (some ⟨e, 0, none⟩)))] act := by rw [← hact]; exact hf5
  clear hact hf5 hfit
  generalize hops : #[_, _, _, _, _, _, _, _] = ops0
  have h1 := (congrArg (fun (x : Array Oper) => x[1]?) hops).symm
  have h2 := (congrArg (fun (x : Array Oper) => x[2]?) hops).symm
  have h3 := (congrArg (fun (x : Array Oper) => x[3]?) hops).symm
  have h4 := (congrArg (fun (x : Array Oper) => x[4]?) hops).symm
  have h5 := (congrArg (fun (x : Array Oper) => x[5]?) hops).symm
  have h6 := (congrArg (fun (x : Array Oper) => x[6]?) hops).symm
  have h7 := (congrArg (fun (x : Array Oper) => x[7]?) hops).symm
  clear hops
  refine wpOpsS_exec (c := c45) gx_ok rfl h1 rfl hf5' (K := fun S' w' => S' = _ ∧ w = w') (at_assert_nil gx_ok rfl rfl rfl rfl ⟨rfl, rfl⟩) ?_
  rintro _ a1 _ hf1 ⟨rfl, rfl⟩
  refine wpOpsS_exec (c := c45) gx_ok rfl h2 rfl hf1 (K := fun S' w' => S' = _ ∧ w = w') ⟨rfl, rfl⟩ ?_
  rintro _ a2 _ hf2 ⟨rfl, rfl⟩
  refine wpOpsS_exec (c := c45) gx_ok rfl h3 rfl hf2 (K := fun S' w' => S' = _ ∧ w = w') ⟨rfl, rfl⟩ ?_
  rintro _ a3 _ hf3 ⟨rfl, rfl⟩
  refine wpOpsS_exec (c := c45) gx_ok rfl h4 rfl hf3 (K := fun S' w' => S' = _ ∧ w = w') ⟨rfl, rfl⟩ ?_
  rintro _ a4 _ hf4 ⟨rfl, rfl⟩
  refine wpOpsS_exec (c := c45) gx_ok rfl h5 rfl hf4 (K := fun S' w' => S' = (2, .v (.pointer (some ⟨w.heap.size, 0, none⟩))) :: _ ∧ Ext w w' ∧ w'.heap.size = w.heap.size + 1 ∧ ∃ ps : List Value, Blk w' w.heap.size 90 ps ∧ ps.length = 3) (new (fun w1 hE1 hz1 hB1 => ⟨rfl, hE1, hz1, _, hB1, rfl⟩)) ?_
  rintro _ a5 w5 hf5 ⟨rfl, hE5, hz5, ps, hB5, hps⟩
  refine wpOpsS_exec (c := c45) gx_ok rfl h6 rfl hf5 (K := fun S' w' => S' = _ ∧ Ext w w') (storeN_blk0 hB5 (by rw [hps]; rfl) (sc rfl) (fun w6 hg6 hz6 hB6 => ⟨rfl, newBox hE5 hB5 hg6⟩)) ?_
  rintro _ a6 w6 hf6 ⟨rfl, hE6⟩
  refine wpOpsS_exec (c := c45) gx_ok rfl h7 rfl hf6 (K := fun S' w' => S' = _ ∧ w6 = w') ⟨rfl, rfl⟩ ?_
  rintro _ a7 _ hf7 ⟨rfl, rfl⟩
  unfold wpOpsS
  refine wpS_rest (c := c45) gx_ok rfl hf7 ?_
  refine wif_f rfl ?_
  exact ⟨_, rfl, rfl, hE6⟩
end

section
open Go Go.RowKit

theorem parse_true {nm : List (List Nat)} (hb : NamesOk nm) : (parseP nm trueL).2 = if numsOk nm then 0 else 1 := by
  by_cases h : numsOk nm = true
  · rw [if_pos h, show trueL = prF nm 0 (.c true) from rfl, parse_print h (nmOk_of hb h) (.c true) trivial (by decide)]
  · rw [if_neg h]; unfold parseP; rw [if_neg h]

/-- Segments in memory. -/
structure SgIn (w : World) (k : Nat) (A : Option Addr) (n c : Nat) (sg : List Sg) (L : List DV) : Prop where
  sl : Sl w 6 A n c (sgV sg L)
  n : sg.length = n
  len : L.length = sg.length
  dg : ∀ (j : Nat) (s : Sg) (x : DV), sg[j]? = some s → L[j]? = some x → SB w x.A x.n x.c x.nd ∧ Set1 k x.nd x.r s.o
theorem SgIn.ext {w w' : World} {k : Nat} {A : Option Addr} {n c : Nat} {sg : List Sg} {L : List DV} (h : SgIn w k A n c sg L) (hE : Ext w w') : SgIn w' k A n c sg L := ⟨h.sl.ext hE, h.n, h.len, fun j s x h1 h2 => ⟨(h.dg j s x h1 h2).1.ext hE, (h.dg j s x h1 h2).2⟩⟩
/-- What a source is. -/
structure GsOk (g : Gs) : Prop where
  b8 : ∀ x ∈ g.tx, x < 256
  tl : g.tx.length ≤ 1048576
  sl : g.sg.length ≤ 65536
abbrev srcV (tx : List Nat) (A : Option Addr) (n c : Nat) : Value := .agg #[.string (strOf tx), .slice A n c]
/-- What Read answers. -/
def ReadR (k : Nat) (w : World) (r : Except Pl Gs) (u : Value) (w' : World) : Prop := Ext w w' ∧ match r with
  | .error q => u = .tuple #[srcV [] none 0 0, .agg (plC q).toArray]
  | .ok g => GsOk g ∧ ∃ A c L, u = .tuple #[srcV g.tx A g.sg.length c, .agg (plC ⟨0, 0, 0⟩).toArray] ∧ SgIn w' k A g.sg.length c g.sg L

theorem chkFs_ne : ∀ (l : List (List Nat × List Nat)) (seen : List (List Nat)) (i : Nat) (q : Pl), chkFs l seen i = some q → q.e ≠ 0
  | [], _, _, _, h => by cases h
  | x :: l, seen, i, q, h => by
    unfold chkFs at h
    split at h
    · cases h; exact (by decide : (70 : Int) ≠ 0)
    split at h
    · cases h; exact (by decide : (2 : Int) ≠ 0)
    · exact chkFs_ne l _ _ q h
theorem filesE_ne {fs : List (List Nat × List Nat)} {q : Pl} (h : filesE fs = some q) : q.e ≠ 0 := by
  unfold filesE at h
  split at h
  · cases h; decide
  · exact chkFs_ne _ _ _ _ h
theorem chkFs_ok : ∀ (l : List (List Nat × List Nat)) (seen : List (List Nat)) (i : Nat), chkFs l seen i = none → ∀ x ∈ l, fnameOk x.1 = true ∧ textB x.2 = true ∧ x.2.length ≤ 1048576
  | [], _, _, _, x, hx => by cases hx
  | y :: l, seen, i, h, x, hx => by
    unfold chkFs at h
    split at h
    · cases h
    split at h
    · cases h
    · rename_i h1 h2
      have h1 := Decidable.not_not.1 h1
      rcases List.mem_cons.1 hx with rfl | hx
      · exact ⟨h1.1, h1.2.2, by omega⟩
      · exact chkFs_ok l _ _ h x hx
theorem textB_ok {l : List Nat} (h : textB l = true) : TextOk l := by
  unfold textB at h
  rw [Bool.or_eq_true] at h
  rcases h with h | h
  · exact .inl (of_decide_eq_true h)
  · exact .inr (by simpa using h)
theorem filesE_ok {fs : List (List Nat × List Nat)} (h : filesE fs = none) (hb : ∀ x ∈ fs, FileB x) : fs.length ≤ 256 ∧ ∀ x ∈ fs, FileOk x := by
  unfold filesE at h
  split at h
  · cases h
  · rename_i hl
    refine ⟨by omega, fun x hx => ?_⟩
    obtain ⟨h1, h2, h3⟩ := chkFs_ok _ _ _ h x hx
    have hbx := hb x hx
    exact ⟨hbx.n8, hbx.t8, hbx.nl, h3, textB_ok h2⟩

/-- The world in which the numbers' map is full already. -/
theorem virt {w7 w' : World} {nq : Nat} {m : List (ByteArray × Value)} (h : w7.heap.size = nq + 1) (hm : Mod (· = nq) w7 w') (hq : MapAt strK w' nq m) : ∃ w0, Ext w0 w' ∧ w0.heap.size = nq + 1 ∧ MapAt strK w0 nq m ∧ ∀ w, Ext w w7 → w.heap.size ≤ nq → Ext w w0 := by
  obtain ⟨bs, ck, hl, hb⟩ := hq.ex
  refine ⟨{ w7 with heap := w7.heap.setIfInBounds nq (.map (entsOf strK m bs).toArray ck) }, ⟨hm.os, hm.tape, hm.output, ?_, fun i hi _ => ?_⟩, by simp [h], ⟨bs, ck, hl, ?_⟩, fun w hE hle => ⟨hE.os, hE.tape, hE.output, ?_, fun i hi hn => ?_⟩⟩
  · simpa using hm.size
  · simp only [Array.size_setIfInBounds] at hi
    simp only [Array.getElem?_setIfInBounds]
    by_cases e : nq = i
    · subst e
      rw [if_pos rfl, if_pos (by omega), hb]
    · rw [if_neg e]; exact hm.block i hi (fun e2 => e e2.symm)
  · simp [h]
  · simpa using hE.size
  · simp only [Array.getElem?_setIfInBounds]
    rw [if_neg (by omega)]
    exact hE.block i hi hn

set_option maxHeartbeats 1600000 in
theorem sread_fn (nm : List (List Nat)) (NA : Option Addr) (nn nc : Nat) (fs : List (List Nat × List Nat)) (FA : Option Addr) (nf cf : Nat) (root : List Nat) (w : World) (hN : Sl w 1 NA nn nc (strsV nm)) (hnb : NamesOk nm) (hk : nm.length ≤ 12) (hF : SlS fileC 2 w FA nf cf fs) (hfb : ∀ x ∈ fs, FileB x) (hnf : nf ≤ 1000000000000) (hr8 : ∀ x ∈ root, x < 256) :
    Fn Tryz.prog 16 [.slice NA nn nc, .slice FA nf cf, .string (strOf root)] w (ReadR nm.length w (readE nm fs root)) := by
  refine fn_of_G (c := { c16 with cuts := [] }) gx_ok Tryz.func16 rfl rfl rfl ?_
  refine atG_seq (atG_exec gx_ok ?_)
  refine new (fun w1 hE1 hz1 hB1 => ?_)
  refine new (fun w2 hE2 hz2 hB2 => ?_)
  have hE02 := hE1.trans hE2
  refine atG_seq (atG_exec gx_ok ?_)
  refine call (parse_fn nm NA nn nc trueL w2 (hN.ext hE02) hnb (by decide) (by decide)) ?_
  rintro _ w3 ⟨G, mg, cG, rfl, hE3, hG⟩
  have hE03 := hE02.trans hE3
  have hBs := (hB1.ext hE2).ext hE3
  have hBp := hB2.ext hE3
  have hne : w1.heap.size ≠ w.heap.size := by omega
  have hpt := parse_true hnb
  have hrd : readE nm fs root = if numsOk nm = false then .error ⟨30, -1, 0⟩ else match filesE fs with
    | some p => .error p
    | none => match ixN (fs.map (·.1)) root with
      | none => .error ⟨73, -1, 0⟩
      | some n => rdF nm fs 65 [] 0 n (fun _ => true) ⟨[], [], false⟩ := rfl
  rw [hpt]
  cases hok : numsOk nm with
  | false =>
    rw [if_pos hok] at hrd
    refine wif_net (by decide) ?_
    refine storeN_blk0 hBs rfl (sc rfl) (fun w4 hg4 _ hB4 => ?_)
    have hM4 : Mod (· = w.heap.size) w3 w4 := Mod.of_grown hg4 rfl
    refine storeN_blk0 (hBp.mod hM4 hne) rfl (sc rfl) (fun w5 hg5 _ hB5 => ?_)
    have hM5 : Mod (· = w1.heap.size) w4 w5 := Mod.of_grown hg5 rfl
    refine out0 gx_ok rfl (.inl rfl) ?_
    refine loadN_blk0 (hB4.mod hM5 hne.symm) rfl ?_
    refine loadN_blk0 hB5 rfl ?_
    rw [hrd]
    exact ⟨hM5.ext (hM4.ext hE03 (fun i hi => by omega)) (fun i hi => by omega), rfl⟩
  | true =>
    rw [if_neg (by rw [hok]; decide)] at hrd
    refine wif_nef rfl ?_
    refine atG_seq (atG_exec gx_ok ?_)
    refine call (checkfiles_fn fs FA nf cf w3 (hF.ext hE03) hfb hnf) ?_
    rintro _ w4 ⟨rfl, hE4⟩
    refine new (fun w5 hE5 hz5 hB5 => ?_)
    refine storeN_blk0 hB5 rfl (sc rfl) (fun w6 hg6 _ hB6 => ?_)
    have hE46 : Ext w4 w6 := newBox hE5 hB5 hg6
    have hE36 := hE4.trans hE46
    have hE06 := hE03.trans hE36
    have hBs6 := hBs.ext hE36
    have hBp6 := hBp.ext hE36
    refine load_blk hB6 rfl ?_
    cases hfe : filesE fs with
    | some q =>
      rw [hfe] at hrd hB6
      refine wif_net (filesE_ne hfe) ?_
      have n4 : ¬ w4.heap.size = w.heap.size := by have := hE3.size; have := hE4.size; omega
      have n41 : ¬ w4.heap.size = w1.heap.size := by have := hE4.size; have := hE3.size; omega
      have hd := Ext.drew w6
      refine draw_plan gx_ok (fun w' => Mod (fun i => i = w.heap.size ∨ i = w1.heap.size) w6 w') 4 [(true, 0), (true, 1), (false, 2), (false, 3)] (by kernel_rfl) (Mod.of_ext _ hd) ?_
      refine qloadN (vs := plC q) rfl (fun w' hw' j u hj => by rw [(hB6.mod hw' (fun hh => hh.elim n4 n41)).cell]; exact hj) ?_
      refine storeN_blk0 (hBs6.ext hd) rfl (sc rfl) (fun w7 hg7 _ hB7 => ?_)
      have hM7 : Mod (· = w.heap.size) w6.drew w7 := Mod.of_grown hg7 rfl
      have hM7' : Mod (fun i => i = w.heap.size ∨ i = w1.heap.size) w6 w7 := (Mod.of_ext _ hd).trans hM7 (fun i hi => .inl (.inl hi))
      refine ⟨hM7', ?_⟩
      refine storeN_blk0 ((hBp6.ext hd).mod hM7 hne) rfl (sc rfl) (fun w8 hg8 _ hB8 => ?_)
      have hM8 : Mod (· = w1.heap.size) w7 w8 := Mod.of_grown hg8 rfl
      have hM8' := hM7'.trans hM8 (fun i hi => .inl (.inr hi))
      refine ⟨hM8', ?_⟩
      refine out0 gx_ok rfl (.inl rfl) ?_
      refine loadN_blk0 (hB7.mod hM8 hne.symm) rfl ?_
      refine loadN_blk0 hB8 rfl ?_
      rw [hrd]
      exact ⟨hM8'.ext hE06 (fun i hi => by rcases hi with rfl | rfl <;> omega), rfl⟩
    | none =>
    rw [hfe] at hrd
    refine wif_nef rfl ?_
    obtain ⟨hfl, hfok⟩ := filesE_ok hfe hfb
    have hlen := hF.2
    refine atG_seq (atG_exec gx_ok ?_)
    refine at_makeMap gx_ok strK rfl (fun w7 hE7 hz7 hm7 => ?_)
    refine at_makeMap gx_ok intK rfl (fun w8 hE8 hz8 hm8 => ?_)
    refine new (fun w9 hE9 hz9 hB9 => ?_)
    have hE79 := hE8.trans hE9
    have hE69 := hE7.trans hE79
    have hE09 := hE06.trans hE69
    have hq9 := hm8.ext hE9
    have hn9 := hm7.ext hE79
    have hnames : NamesOk (fs.map (·.1)) := fun s hs => by
      obtain ⟨x, hx, rfl⟩ := List.mem_map.1 hs
      exact ⟨(hfb x hx).n8, (hfb x hx).nl⟩
    have nrq : ¬ w8.heap.size = w6.heap.size := by omega
    refine atG_seq (atG_exec gx_ok ?_)
    refine loop gx_ok [40] (fun i : Nat => [.int .i64 i]) (fun i w' => Mod (· = w6.heap.size) w9 w' ∧ MapAt strK w' w6.heap.size (nameM ((fs.map (·.1)).take i) 0 []) ∧ i ≤ fs.length) (fun i _ => fs.length - i) 0 rfl ⟨Mod.refl _ _, hn9, Nat.zero_le _⟩ ?_
    rintro i w10 ⟨hM10, hm10, hi10⟩
    refine wif_d (fun c2 => ?_) (fun c2 => ?_)
    · have hi : i < nf := by omega
      have hE010 : Ext w w10 := hM10.ext hE09 (fun i hi => by have := hE06.size; omega)
      refine index_sls file_len (hF.ext hE010) rfl hi (fun pp x hx hc => ?_)
      refine loadN_at (vs := fileC x) rfl hc ?_
      refine new (fun w11 hE11 hz11 hB11 => ?_)
      refine storeN_blk0 hB11 rfl (sc rfl) (fun w12 hg12 _ hB12 => ?_)
      have hE1012 : Ext w10 w12 := newBox hE11 hB11 hg12
      have hd := Ext.drew w12
      have hBr := ((hB9.mod hM10 nrq).ext hE1012).ext hd
      refine draw_tail gx_ok 7 (by kernel_rfl) ?_
      refine qload (v := .map (some w6.heap.size)) (fun w' hw' => by subst hw'; rw [hBr.cell]; rfl) ?_
      refine qload (v := .string (strOf x.1)) (fun w' hw' => by subst hw'; rw [(hB12.ext hd).cell]; rfl) ?_
      refine at_mapUpdate (kv := strK) (a := strOf x.1) gx_ok rfl rfl rfl rfl rfl KeyV.str rfl rfl rfl ((hm10.ext hE1012).ext hd) (fun w13 hg13 hz13 hm13 => ?_)
      have hM13 : Mod (· = w6.heap.size) w12.drew w13 := Mod.of_grown hg13 rfl
      refine norm_i64_to ((i + 1 : Nat) : Int) (by show ((i : Nat) : Int) + 1 = _; omega) (by omega) ?_
      refine ⟨i + 1, rfl, ⟨(hM10.trans (Mod.of_ext (· = w6.heap.size) (hE1012.trans hd)) (fun i hi => .inl hi)).trans hM13 (fun i hi => .inl hi), ?_, by omega⟩, by show fs.length - (i + 1) < fs.length - i; omega⟩
      rw [nameM_take (s := x.1) (by rw [List.getElem?_map, hx]; rfl)]
      exact hm13
    have hie : i = fs.length := by omega
    rw [hie, List.take_of_length_le (by simp)] at hm10
    have hM710 : Mod (· = w6.heap.size) w7 w10 := (Mod.of_ext _ hE79).trans hM10 (fun i hi => .inl hi)
    obtain ⟨w0, hw0, hws, hwm, hwe⟩ := virt hz7 hM710 hm10
    have hBr10 := hB9.mod hM10 nrq
    have hlook := ixN_ok hnames root hr8
    have nr6 : ¬ w.heap.size = w6.heap.size := by have := hE36.size; have := hE3.size; omega
    have nr61 : ¬ w1.heap.size = w6.heap.size := by have := hE36.size; have := hE3.size; omega
    have hBs10 := (hBs6.ext hE69).mod hM10 nr6
    have hBp10 := (hBp6.ext hE69).mod hM10 nr61
    have hE010 : Ext w w10 := hM10.ext hE09 (fun i hi => by have := hE06.size; omega)
    refine atG_seq (atG_exec gx_ok ?_)
    refine load_blk hBr10 rfl ?_
    refine at_lookup_ok' (kv := strK) (a := strOf root) (v := .int .i64 ((ixN (fs.map (·.1)) root).getD 0 : Nat)) (b := (ixN (fs.map (·.1)) root).isSome) gx_ok rfl rfl rfl rfl rfl KeyV.str rfl rfl hm10 (by rw [hlook]; cases ixN (fs.map (·.1)) root <;> rfl) (by rw [hlook]; cases ixN (fs.map (·.1)) root <;> rfl) ?_
    refine atG_seq (atG_exec gx_ok ?_)
    cases hix : ixN (fs.map (·.1)) root with
    | none =>
      rw [hix] at hrd
      refine wif_t rfl ?_
      refine storeN_blk0 hBs10 rfl (sc rfl) (fun w11 hg11 _ hB11 => ?_)
      have hM11 : Mod (· = w.heap.size) w10 w11 := Mod.of_grown hg11 rfl
      refine storeN_blk0 (hBp10.mod hM11 hne) rfl (sc rfl) (fun w12 hg12 _ hB12 => ?_)
      have hM12 : Mod (· = w1.heap.size) w11 w12 := Mod.of_grown hg12 rfl
      refine out0 gx_ok rfl (.inl rfl) ?_
      refine loadN_blk0 (hB11.mod hM12 hne.symm) rfl ?_
      refine loadN_blk0 hB12 rfl ?_
      rw [hrd]
      exact ⟨hM12.ext (hM11.ext hE010 (fun i hi => by omega)) (fun i hi => by omega), rfl⟩
    | some n =>
    rw [hix] at hrd
    simp only at hrd
    refine wif_f rfl ?_
    have hnl : n < fs.length := by have := ixN_lt hix; simpa using this
    refine atG_seq (atG_defer gx_ok rfl rfl rfl rfl ⟨_, _, _, _, rfl, rfl, ?_⟩)
    refine atG_seq (atG_exec gx_ok ?_)
    refine call (dconst_fn true w10) ?_
    rintro _ w11 ⟨rfl, hE11⟩
    let p : RP := ⟨w8.heap.size, w7.heap.size, w6.heap.size, NA, nn, nc, nm, FA, nf, cf, fs⟩
    let m : RM := ⟨none, 0, none, 0, [], .pointer none, fun i => i = w.heap.size ∨ i = w1.heap.size⟩
    let v : RV := ⟨0, 0, 0, [], ⟨[], [], false⟩⟩
    have hE60 : Ext w6 w0 := hwe w6 hE7 (Nat.le_refl _)
    have hE00 : Ext w w0 := hE06.trans hE60
    have hP : RPok w0 p := ⟨hN.ext hE00, hnb, hk, hF.ext hE00, hfok, hwm⟩
    have hz11 := hE11.size
    have hz910 := hM10.size
    have h11 : Rr w0 w11 w11.heap.size p m v := by
      refine ⟨hw0.trans hE11, ?_, ?_, ?_, ?_, ?_, Nat.le_refl _, .inl rfl, hBr10.ext hE11, Own.nil _ _ _ _, Own.nil _ _ _ _, rfl, (fun j s x hs => by simp [v] at hs), ?_, (Nat.zero_le _), (Nat.zero_le _), (fun x hx => by cases hx), (fun _ => .inr rfl), (fun i hi => by
        have := hE36.size; have := hE3.size
        rcases hi with hi | hi <;> rw [hi] <;> omega)⟩
      · show w0.heap.size ≤ w8.heap.size; omega
      · show w0.heap.size ≤ w7.heap.size; omega
      · show w8.heap.size < w11.heap.size; omega
      · show w7.heap.size < w11.heap.size; omega
      · show w8.heap.size ≠ w7.heap.size; omega
      · refine ⟨[], (hq9.mod hM10 (by show ¬ w7.heap.size = w6.heap.size; omega)).ext hE11, by simp, fun n => by simp [assoc, v]⟩
    have hk11 : DgO w11 (TS p m) p.nm.length ⟨none, 0, 0, [], 1⟩ (fun _ => true) := ⟨SlS.nil _, const_set _ true, fun ad e => by cases e⟩
    have hws0 : w0.heap.size ≤ w11.heap.size := (hw0.trans hE11).size
    have hout : ∀ i, RS p m i → i = w8.heap.size ∨ i = w7.heap.size := fun i hi => by
      rcases hi with hi | hi | ⟨_, e, _⟩ | ⟨_, e, _⟩
      · exact .inl hi
      · exact .inr hi
      · cases e
      · cases e
    have hBs11 := hBs10.ext hE11
    have hBp11 := hBp10.ext hE11
    have hs36 := hE36.size
    have hs3 := hE3.size
    have keep : ∀ w', Mod (RS p m) w11 w' → Ext w w' ∧ Blk w' w.heap.size 29 (cellsL (.agg #[.string ByteArray.empty, .slice none 0 0])) ∧ Blk w' w1.heap.size 32 (plC ⟨0, 0, 0⟩) := fun w' hm => by
      refine ⟨hm.ext (hE010.trans hE11) (fun i hi => ?_), hBs11.mod hm (fun hi => ?_), hBp11.mod hm (fun hi => ?_)⟩
      · have := hE06.size
        rcases hout i hi with rfl | rfl <;> omega
      · rcases hout _ hi with e | e <;> omega
      · rcases hout _ hi with e | e <;> omega
    refine callP (read_fn w0 w11.heap.size p hP hws0 65 m v n ⟨none, 0, 0, [], 1⟩ (fun _ => true) w11 h11 hk11 hnl (fun hh => by cases hh) (Nat.zero_le _) (Nat.le_refl _)) ?_ ?_
    rotate_left
    · rintro ch w12 ⟨q, hq, rfl, hm12⟩
      have hq : rdF nm fs 65 [] 0 n (fun _ => true) ⟨[], [], false⟩ = .error q := hq
      rw [hq] at hrd
      obtain ⟨hE12, hs12, hp12⟩ := keep w12 hm12
      refine out1p gx_ok rfl rfl (args := #[.pointer (some ⟨w.heap.size, 0, none⟩), .pointer (some ⟨w1.heap.size, 0, none⟩)]) (by simp) ((srec_fn _ _ q w12 _ _ rfl rfl hne.symm hs12 hp12).mono ?_)
      rintro e u' w13 ⟨v, rfl, hs13, hR13⟩
      refine ⟨v, rfl, hs13, ?_⟩
      refine loadN_blk0 hR13.1 rfl ?_
      refine loadN_blk0 hR13.2.1 rfl ?_
      rw [hrd]
      exact ⟨hR13.2.2.ext hE12 (fun i hi => by rcases hi with rfl | rfl <;> omega), rfl⟩
    rintro _ w12 ⟨g', hg', m', hT', h12, hm12, _, _⟩
    have hg' : rdF nm fs 65 [] 0 n (fun _ => true) ⟨[], [], false⟩ = .ok g' := hg'
    rw [hg'] at hrd
    obtain ⟨hE12, hs12, hp12⟩ := keep w12 hm12
    refine atG_seq (atG_exec gx_ok ?_)
    have nb := h12.nrow.2
    have hb12 := h12.rb
    have ht12 := h12.top
    have hrl : ∀ i, rowS m'.BA i → w11.heap.size ≤ i := fun i hi => (h12.txt.rows i hi).1
    have nprs : ¬ (rowS m'.BA w8.heap.size ∨ w8.heap.size = w.heap.size ∨ w8.heap.size = w1.heap.size) := fun hh => by
      rcases hh with hh | hh | hh
      · exact nb hh
      · omega
      · omega
    have hd := Ext.drew w12
    refine draw_plan gx_ok (Mod (fun i => rowS m'.BA i ∨ i = w.heap.size ∨ i = w1.heap.size) w12) 12 [(true, 0), (true, 1), (true, 2), (true, 4), (true, 5), (true, 6), (true, 7), (true, 9), (false, 3), (true, 8), (false, 10), (false, 11)] (by kernel_rfl) (Mod.of_ext _ hd) ?_
    refine qload (v := .slice m'.OA g'.sg.length m'.oc) (fun w' hw' => by rw [(h12.blk.mod hw' nprs).cell]; rfl) ?_
    have htl := h12.tl
    refine call (stringO_fn w11.heap.size w8.heap.size 88 5 (rdC p m' { v with g := g' }) m'.BA m'.bc g'.tx w12.drew (h12.blk.ext hd) rfl (h12.txt.ext hd) h12.b8 (by simp only at htl; omega)) ?_
    rintro _ w13 ⟨rfl, hm13⟩
    have hM13 : Mod (fun i => rowS m'.BA i ∨ i = w.heap.size ∨ i = w1.heap.size) w12 w13 := (Mod.of_ext _ hd).trans hm13 (fun i hi => .inl (.inl hi))
    refine ⟨hM13, ?_⟩
    have nsB : ¬ rowS m'.BA w.heap.size := fun hh => by have := hrl _ hh; omega
    have npB : ¬ rowS m'.BA w1.heap.size := fun hh => by have := hrl _ hh; omega
    refine storeN_blk0 ((hs12.ext hd).mod hm13 nsB) rfl (sc rfl) (fun w14 hg14 _ hB14 => ?_)
    have hM14 : Mod (· = w.heap.size) w13 w14 := Mod.of_grown hg14 rfl
    have hM14' := hM13.trans hM14 (fun i hi => .inl (.inr (.inl hi)))
    refine ⟨hM14', ?_⟩
    refine storeN_blk0 (((hp12.ext hd).mod hm13 npB).mod hM14 hne) rfl (sc rfl) (fun w15 hg15 _ hB15 => ?_)
    have hM15 : Mod (· = w1.heap.size) w14 w15 := Mod.of_grown hg15 rfl
    have hM15' := hM14'.trans hM15 (fun i hi => .inl (.inr (.inr hi)))
    refine ⟨hM15', ?_⟩
    have hBs15 := hB14.mod hM15 hne.symm
    refine atG_exec gx_ok ?_
    refine out1 gx_ok rfl rfl (.inl rfl) (args := #[.pointer (some ⟨w.heap.size, 0, none⟩), .pointer (some ⟨w1.heap.size, 0, none⟩)]) (by simp) ((srec_ret_fn _ _ w15).mono ?_)
    rintro e u' w16 ⟨u, rfl, hs16, hE16⟩
    refine ⟨u, rfl, hs16, ?_⟩
    refine loadN_blk0 (hBs15.ext hE16) rfl ?_
    refine loadN_blk0 (hB15.ext hE16) rfl ?_
    rw [hrd]
    have hE15 : Ext w w15 := hM15'.ext hE12 (fun i hi => by
      rcases hi with hi | rfl | rfl
      · have := hrl _ hi; omega
      · exact Nat.le_refl _
      · omega)
    have nO : ∀ i, rowS m'.OA i → ¬ (rowS m'.BA i ∨ i = w.heap.size ∨ i = w1.heap.size) := fun i hi hh => by
      have := (h12.out.rows i hi).1
      rcases hh with hh | rfl | rfl
      · exact h12.out.apart h12.txt (by decide) hi hh
      · omega
      · omega
    refine ⟨hE15.trans hE16, ⟨h12.b8, h12.tl, h12.sl⟩, m'.OA, m'.oc, m'.L, rfl, SgIn.ext ⟨(h12.out.mod hM15' nO).sl, rfl, h12.len, fun j s x h1 h2 => ?_⟩ hE16⟩
    have hdg := h12.dgs j s x h1 h2
    refine ⟨SB.modo hdg.sb hM15' (fun ad e h0 hh => ?_), hdg.st⟩
    rcases hh with hh | hh | hh
    · exact hdg.off ad e h0 (.inl (.inr (.inr (.inr hh))))
    · exact hdg.off ad e h0 (.inr (by rw [hT']; exact .inl hh))
    · exact hdg.off ad e h0 (.inr (by rw [hT']; exact .inr hh))
end
end
end Go.Proofs.YtedopgkbajhanaaGreatDoor

namespace Go.Proofs.YtedopgkbajhanaaGreatDoor
section
open Go Go.RowKit

/-- The conditions of a configuration. -/
def bitE (c : Nat) : Nat → Bool := fun i => decide (c / 2 ^ i % 2 = 1)
theorem and_one (x : Nat) (hx : x < 18446744073709551616) : IntKind.u64.wrap ((BitVec.ofInt 64 (x : Int) &&& BitVec.ofInt 64 1).toNat) = ((x % 2 : Nat) : Int) := by
  have e : (BitVec.ofInt 64 (x : Int) &&& BitVec.ofInt 64 1).toNat = x % 2 := by
    rw [BitVec.ofInt_natCast, show BitVec.ofInt 64 1 = BitVec.ofNat 64 1 from rfl, BitVec.toNat_and, BitVec.toNat_ofNat, BitVec.toNat_ofNat]
    rw [Nat.mod_eq_of_lt (by omega), show 1 % 2 ^ 64 = 1 by decide, Nat.and_one_is_mod]
  rw [e]
  rcases (show x % 2 = 0 ∨ x % 2 = 1 by omega) with h | h <;> rw [h] <;> decide

theorem dholds_fn (A : Option Addr) (n c : Nat) (nd : List Br) (root : Int) (cfg : Nat) (hcf : cfg ≤ 18446744073709551615) (w : World) (h : SB w A n c nd) (hc : chkD nd root = 0) :
    Fn Tryz.prog 93 [dgV A n c root, .int .u64 cfg] w (fun v w' => v = .bool (ev nd root (bitE cfg)) ∧ Ext w w') := by
  have hlen := h.2
  obtain ⟨hsm, hv⟩ := chkD_zero.1 hc
  refine fn_of_exec (c := { c93 with cuts := [] }) gx_ok Tryz.func93 rfl rfl rfl ?_
  refine new (fun w1 hE1 hz1 hB1 => ?_)
  refine loadN_blk0 hB1 rfl ?_
  refine call (check2_fn A n c nd root w1 (h.ext hE1)) ?_
  rintro _ w2 ⟨rfl, hE2⟩
  have hE02 := hE1.trans hE2
  have hB2 := hB1.ext hE2
  refine wif_nef hc ?_
  refine load_blk hB2 rfl ?_
  refine loop gx_ok [5] (fun s : Int => [.int .i64 s]) (fun s w' => Ext w2 w' ∧ 0 ≤ s ∧ s < n + 2 ∧ ev nd s (bitE cfg) = ev nd root (bitE cfg)) (fun s _ => s.toNat) root rfl ⟨Ext.refl _, hv.2.1, by have := hv.2.2.1; omega, rfl⟩ ?_
  rintro s w3 ⟨hE3, s0, s1, hs⟩
  have hE03 := hE02.trans hE3
  refine wif_d (fun h1 => ?_) (fun h1 => ?_)
  · refine load_blk0 (hB2.ext hE3) rfl ?_
    refine norm_i64_to (((s - 2).toNat : Nat) : Int) (by omega) (by omega) ?_
    refine index_sls br_len (h.ext hE03) rfl (by omega) (fun p x hx hcx => ?_)
    refine loadN_at (vs := x.cells) rfl hcx ?_
    refine new (fun w4 hE4 hz4 hB4 => ?_)
    refine storeN_blk0 hB4 rfl (sc rfl) (fun w5 hg5 hz5 hB5 => ?_)
    have hE35 : Ext w3 w5 := newBox hE4 hB4 hg5
    obtain ⟨b1, b2, b3, b4, b5, b6, b7, b8, b9, b10⟩ := hv.1 _ _ hx
    have hev := ev_ge hv.wf (n := s) (e := bitE cfg) (by omega) hx
    refine load_blk0 hB5 rfl ?_
    refine norm_shr x.v.toNat (2 ^ x.v.toNat) b1 (by show min x.v.toNat 64 = _; omega) rfl ?_
    have hlt : cfg / 2 ^ x.v.toNat < 18446744073709551616 := Nat.lt_of_le_of_lt (Nat.div_le_self _ _) (by omega)
    refine norm (m := ((cfg / 2 ^ x.v.toNat % 2 : Nat) : Int)) (and_one _ hlt) ?_
    refine wif_eq (fun h2 => ?_) (fun h2 => ?_)
    · have hb : bitE cfg x.v.toNat = true := decide_eq_true (by omega)
      rw [hb, if_pos rfl] at hev
      refine load_blk hB5 rfl ?_
      exact ⟨x.h, rfl, ⟨hE3.trans hE35, b5, by omega, by rw [← hev]; exact hs⟩, by show x.h.toNat < s.toNat; omega⟩
    · have hb : bitE cfg x.v.toNat = false := decide_eq_false (by omega)
      rw [hb, if_neg (by decide)] at hev
      refine load_blk hB5 rfl ?_
      exact ⟨x.l, rfl, ⟨hE3.trans hE35, b3, by omega, by rw [← hev]; exact hs⟩, by show x.l.toNat < s.toNat; omega⟩
  · refine ⟨?_, hE03⟩
    rw [← hs, ev_lt (by omega)]
    rfl

/-! ### Formulas -/
def bvL (l : List Bool) : List Value := l.map Value.bool
theorem bvL_get {l : List Bool} {j : Nat} {b : Bool} (h : l[j]? = some b) : (bvL l)[j]? = some (.bool b) := by simp [bvL, h]
theorem bvL_set (l : List Bool) (j : Nat) (b : Bool) : bvL (l.set j b) = (bvL l).set j (.bool b) := by simp [bvL, List.map_set]
/-- The values so far. -/
structure FhI (w0 : World) (g : Nat) (f : List Fz) (e : Nat → Bool) (n s : Nat) (L : List Bool) (w : World) : Prop where
  m : Mod (· = g) w0 w
  blk : Blk w g 4 (bvL L)
  len : L.length = n
  got : ∀ j, j < s → ∃ t, RepF f t j ∧ L[j]? = some (evF t e)
  rest : ∀ j, s ≤ j → j < n → L[j]? = some false
theorem FhI.ext {w0 w w' : World} {g : Nat} {f : List Fz} {e : Nat → Bool} {n s : Nat} {L : List Bool} (h : FhI w0 g f e n s L w) (k1 : Ext w w') : FhI w0 g f e n s L w' :=
  ⟨h.m.trans (Mod.of_ext (· = g) k1) (fun _ hi => .inl hi), h.blk.ext k1, h.len, h.got, h.rest⟩
theorem FhI.put {w0 w w' : World} {g : Nat} {f : List Fz} {e : Nat → Bool} {n s : Nat} {L : List Bool} (h : FhI w0 g f e n s L w) (hs : s < n) {t : Fm} (ht : RepF f t s) {b : Bool} (hb : b = evF t e) (hm : Mod (· = g) w w')
    (hB : Blk w' g 4 ((bvL L).set s (.bool b))) : FhI w0 g f e n (s + 1) (L.set s b) w' := by
  have hl := h.len
  refine ⟨h.m.trans hm (fun _ hi => .inl hi), by rw [bvL_set]; exact hB, by rw [List.length_set]; exact hl, fun j hj => ?_, fun j hj hjn => ?_⟩
  · by_cases hjs : j = s
    · subst hjs
      exact ⟨t, ht, by rw [List.getElem?_set_self (by omega), hb]⟩
    · obtain ⟨u, h1, h2⟩ := h.got j (by omega)
      exact ⟨u, h1, by rw [List.getElem?_set_ne (fun e => hjs e.symm)]; exact h2⟩
  · rw [List.getElem?_set_ne (by omega)]; exact h.rest j (by omega) hjn
theorem FhI.skip {w0 w : World} {g : Nat} {f : List Fz} {e : Nat → Bool} {n s : Nat} {L : List Bool} (h : FhI w0 g f e n s L w) (hs : s < n) (ht : RepF f (.c false) s) : FhI w0 g f e n (s + 1) L w :=
  ⟨h.m, h.blk, h.len, fun j hj => by
    by_cases hjs : j = s
    · subst hjs; exact ⟨_, ht, h.rest j (Nat.le_refl _) hs⟩
    · exact h.got j (by omega), fun j hj hjn => h.rest j (by omega) hjn⟩
theorem FhI.at_ {w0 w : World} {g : Nat} {f : List Fz} {e : Nat → Bool} {n s : Nat} {L : List Bool} (h : FhI w0 g f e n s L w) {j : Nat} (hj : j < s) {t : Fm} (ht : RepF f t j) : (bvL L)[j]? = some (.bool (evF t e)) := by
  obtain ⟨u, h1, h2⟩ := h.got j hj
  rw [RepF.det ht h1]; exact bvL_get h2
end
end Go.Proofs.YtedopgkbajhanaaGreatDoor

namespace Go.Proofs.YtedopgkbajhanaaGreatDoor
section
open Go Go.RowKit

/-- A number depends on the conditions below the bound alone. -/
theorem ev_ext {nd : List Br} (hw : WfB nd) {k : Nat} (hk : VIn k nd) (h0 : ∀ b ∈ nd, 0 ≤ b.v) {e e' : Nat → Bool} (h : ∀ i, i < k → e i = e' i) : ∀ (m : Nat) (n : Int), n.toNat < m → n < nd.length + 2 → ev nd n e = ev nd n e'
  | 0, n, hm, _ => by omega
  | m + 1, n, hm, hn => by
    by_cases h2 : n < 2
    · rw [ev_lt h2, ev_lt h2]
    obtain ⟨b, hb⟩ := getE h2 hn
    obtain ⟨b3, b4, b5, b6⟩ := hw _ _ hb
    have hbm := List.mem_of_getElem? hb
    have hv := hk b hbm
    have hv0 := h0 b hbm
    rw [ev_ge hw h2 hb, ev_ge hw h2 hb, ev_ext hw hk h0 h m b.h (by omega) (by omega), ev_ext hw hk h0 h m b.l (by omega) (by omega), h b.v.toNat (by omega)]
theorem Set1.ext {k : Nat} {nd : List Br} {r : Int} {o : (Nat → Bool) → Bool} (hS : Set1 k nd r o) {e e' : Nat → Bool} (h : ∀ i, i < k → e i = e' i) : o e = o e' := by
  rw [← hS.mean e, ← hS.mean e']
  refine ev_ext hS.vd.wf hS.vin (fun b hb => ?_) h (r.toNat + 1) r (by omega) hS.vd.2.2.1
  obtain ⟨j, hj, rfl⟩ := List.mem_iff_getElem.1 hb
  exact (hS.vd.1 j _ (List.getElem?_eq_getElem hj)).1
end
end Go.Proofs.YtedopgkbajhanaaGreatDoor

namespace Go.Proofs.YtedopgkbajhanaaGreatDoor
section
open Go Go.RowKit

/-- A set as a result. -/
def DgS (w : World) (k : Nat) (o : (Nat → Bool) → Bool) (v : Value) (w' : World) : Prop := ∃ A n c nd r, v = dgV A n c r ∧ Ext w w' ∧ SB w' A n c nd ∧ Set1 k nd r o ∧ ∀ i, rowS A i → w.heap.size ≤ i
theorem DgS.mk {k : Nat} {o o' : (Nat → Bool) → Bool} {w : World} {v : Value} {w' : World} (h : DgS w k o v w') (e : ∀ x, o x = o' x) : DgS w k o' v w' := by
  obtain ⟨A, n, c, nd, r, h1, h2, h3, h4, h5⟩ := h
  exact ⟨A, n, c, nd, r, h1, h2, h3, h4.congr e, h5⟩

section
variable {k : Nat} (hk : k ≤ 12)
include hk
end

theorem var_set {k v : Nat} (hv : v < k) (hk : k ≤ 64) : Set1 k [⟨(v : Nat), 0, 1⟩] 2 (fun e => e v) := ⟨vd_var (by omega) (by omega), fun b hb => by simp only [List.mem_singleton] at hb; subst hb; show ((v : Nat) : Int) < k; omega, fun e => by
  rw [ev_ge (vd_var (k := ((v : Nat) : Int)) (by omega) (by omega)).wf (by decide) (b := ⟨(v : Nat), 0, 1⟩) rfl, ev_lt (by simp), ev_lt (by simp)]
  cases h : e v <;> simp [h]⟩
end
end Go.Proofs.YtedopgkbajhanaaGreatDoor

namespace Go.Proofs.YtedopgkbajhanaaGreatDoor
section
section
open Go Go.RowKit

/-! ### Segments -/
structure Sx where
  f : Int
  t : Int
  fl : Int
  at_ : Int
  x : DV
def Sx.cells (y : Sx) : List Value := [.int .i64 y.f, .int .i64 y.t, .int .i64 y.fl, .int .i64 y.at_, .slice y.x.A y.x.n y.x.c, .int .i64 y.x.r]
theorem sx_len (y : Sx) : y.cells.length = 6 := rfl
/-- Segments in memory. -/
structure SX (w : World) (A : Option Addr) (n c : Nat) (L : List Sx) : Prop where
  sl : SlS Sx.cells 6 w A n c L
  dg : ∀ y ∈ L, SB w y.x.A y.x.n y.x.c y.x.nd
theorem SX.ext {w w' : World} {A : Option Addr} {n c : Nat} {L : List Sx} (h : SX w A n c L) (k : Ext w w') : SX w' A n c L := ⟨h.sl.ext k, fun y hy => (h.dg y hy).ext k⟩
def segOk (tx : List Nat) (at_ : Int) (y : Sx) : Prop := y.f = at_ ∧ at_ < y.t ∧ y.t ≤ tx.length ∧ tx[(y.t - 1).toNat]? = some 10 ∧ chkD y.x.nd y.x.r = 0 ∧ 0 ≤ y.fl ∧ 0 ≤ y.at_ ∧ y.at_ ≤ 1048576 - (y.t - y.f)
def chkL (tx : List Nat) : Int → List Sx → Prop
  | at_, [] => at_ = tx.length
  | at_, y :: L => segOk tx at_ y ∧ chkL tx y.t L
open Classical in
noncomputable def chkS (tx : List Nat) (L : List Sx) : Int := if 1048576 < tx.length ∨ 65536 < L.length then 2 else if chkL tx 0 L then 0 else 70
theorem chkS_zero {tx : List Nat} {L : List Sx} : chkS tx L = 0 ↔ tx.length ≤ 1048576 ∧ L.length ≤ 65536 ∧ chkL tx 0 L := by
  unfold chkS
  by_cases h1 : 1048576 < tx.length ∨ 65536 < L.length
  · rw [if_pos h1]; constructor
    · intro h; cases h
    · rintro ⟨a, b, _⟩; omega
  · rw [if_neg h1]
    by_cases h2 : chkL tx 0 L
    · rw [if_pos h2]; exact ⟨fun _ => ⟨by omega, by omega, h2⟩, fun _ => rfl⟩
    · rw [if_neg h2]; constructor
      · intro h; cases h
      · rintro ⟨_, _, h⟩; exact absurd h h2

/-- What Check has seen. -/
structure ChkI (w0 : World) (tx : List Nat) (L : List Sx) (i : Nat) (at_ : Int) (w : World) : Prop where
  e : Ext w0 w
  le : i ≤ L.length
  a0 : 0 ≤ at_
  al : at_ ≤ tx.length
  rs : chkL tx 0 L ↔ chkL tx at_ (L.drop i)

set_option maxHeartbeats 1600000 in
theorem scheck_fn (tx : List Nat) (A : Option Addr) (n c : Nat) (L : List Sx) (w : World) (h : SX w A n c L) (h8 : ∀ x ∈ tx, x < 256) :
    Fn Tryz.prog 27 [srcV tx A n c] w (fun u w' => u = .int .i64 (chkS tx L) ∧ Ext w w') := by
  have hlen := h.sl.2
  have hts := strOf_size tx
  refine fn_of_exec (c := { c27 with cuts := [] }) gx_ok Tryz.func27 rfl rfl rfl ?_
  refine new (fun w1 hE1 hz1 hB1 => ?_)
  refine load_blk0 hB1 rfl ?_
  refine wif_d (fun c1 => ?_) (fun c1 => ?_)
  · exact ⟨by unfold chkS; rw [if_pos (.inl (by omega))], hE1⟩
  refine load_blk hB1 rfl ?_
  refine wif_d (fun c2 => ?_) (fun c2 => ?_)
  · exact ⟨by unfold chkS; rw [if_pos (.inr (by omega))], hE1⟩
  have hcs : chkS tx L = open Classical in if chkL tx 0 L then 0 else 70 := by unfold chkS; rw [if_neg (by omega)]
  refine load_blk hB1 rfl ?_
  refine loop gx_ok [19, 3] (fun s : Nat × Int => [.int .i64 s.1, .int .i64 s.2]) (fun s w' => ChkI w1 tx L s.1 s.2 w') (fun s _ => L.length - s.1) (0, 0) rfl ⟨Ext.refl _, Nat.zero_le _, Int.le_refl _, by omega, Iff.rfl⟩ ?_
  rintro ⟨i, at_⟩ w2 hI
  have hE02 := hE1.trans hI.e
  have a0 := hI.a0
  have al := hI.al
  simp only at a0 al
  refine wif_d (fun c3 => ?_) (fun c3 => ?_)
  · have hi : i < n := by omega
    refine index_sls sx_len (h.sl.ext hE02) rfl hi (fun p y hy hc => ?_)
    refine loadN_at (vs := y.cells) rfl hc ?_
    refine new (fun w3 hE3 hz3 hB3 => ?_)
    refine storeN_blk0 hB3 rfl (sc rfl) (fun w4 hg4 _ hB4 => ?_)
    have hE24 : Ext w2 w4 := newBox hE3 hB3 hg4
    have hE04 := hE02.trans hE24
    have hB1' := hB1.ext (hI.e.trans hE24)
    have hdrop : L.drop i = y :: L.drop (i + 1) := by
      rw [List.drop_eq_getElem_cons (by omega)]
      congr 1
      exact Option.some.inj ((List.getElem?_eq_getElem (by omega)).symm.trans hy)
    have hrs := hI.rs
    simp only at hrs
    rw [hdrop, chkL] at hrs
    have bad : ¬ segOk tx at_ y → ∀ w', Ext w w' → (Value.int .i64 70 = .int .i64 (chkS tx L)) ∧ Ext w w' := fun hno w' hE => ⟨by rw [hcs, if_neg (fun hh => hno (hrs.1 hh).1)], hE⟩
    refine load_blk0 hB4 rfl ?_
    refine wif_ne (fun d1 => ?_) (fun d1 => ?_)
    · exact bad (fun hb => d1 hb.1) _ hE04
    refine load_blk hB4 rfl ?_
    refine wif_d (fun d2 => ?_) (fun d2 => ?_)
    · exact bad (fun hb => by have := hb.2.1; omega) _ hE04
    refine load_blk hB4 rfl ?_
    refine load_blk0 hB1' rfl ?_
    refine wif_d (fun d3 => ?_) (fun d3 => ?_)
    · exact bad (fun hb => by have := hb.2.2.1; omega) _ hE04
    have hyt : y.t ≤ tx.length := by omega
    refine load_blk0 hB1' rfl ?_
    refine load_blk hB4 rfl ?_
    have hj : (y.t - 1).toNat < tx.length := by omega
    refine norm_i64_to (((y.t - 1).toNat : Nat) : Int) (by omega) (by omega) ?_
    refine sindex' (by rw [hts]; exact hj) (fun b hb _ => ?_)
    rw [bytesOf_strOf h8] at hb
    refine wif_ne (fun d4 => ?_) (fun d4 => ?_)
    · exact bad (fun hh => by have := hh.2.2.2.1; rw [hb] at this; exact d4 (by have := Option.some.inj this; omega)) _ hE04
    have hb10 : tx[(y.t - 1).toNat]? = some 10 := by rw [hb]; congr 1; omega
    refine loadN_at (vs := [.slice y.x.A y.x.n y.x.c, .int .i64 y.x.r]) rfl (fun j v hj => by rw [Addr.add_add]; exact (hB4.cell _).trans (by match j, hj with | 0, hj => exact hj | 1, hj => exact hj)) ?_
    refine call (check2_fn y.x.A y.x.n y.x.c y.x.nd y.x.r w4 ((h.dg y (List.mem_of_getElem? hy)).ext hE04)) ?_
    rintro _ w5 ⟨rfl, hE5⟩
    have hE05 := hE04.trans hE5
    have hB5 := hB4.ext hE5
    refine wif_ne (fun d5 => ?_) (fun d5 => ?_)
    · exact bad (fun hh => d5 hh.2.2.2.2.1) _ hE05
    refine load_blk hB5 rfl ?_
    refine wif_d (fun d6 => ?_) (fun d6 => ?_)
    · exact bad (fun hh => by have := hh.2.2.2.2.2.1; omega) _ hE05
    refine load_blk hB5 rfl ?_
    refine wif_d (fun d7 => ?_) (fun d7 => ?_)
    · exact bad (fun hh => by have := hh.2.2.2.2.2.2.1; omega) _ hE05
    refine load_blk hB5 rfl ?_
    refine load_blk hB5 rfl ?_
    refine load_blk0 hB5 rfl ?_
    refine norm_i64_to (y.t - y.f) rfl (by omega) ?_
    refine norm_i64_to (1048576 - (y.t - y.f)) rfl (by omega) ?_
    refine wif_d (fun d8 => ?_) (fun d8 => ?_)
    · exact bad (fun hh => by have := hh.2.2.2.2.2.2.2; omega) _ hE05
    refine load_blk hB5 rfl ?_
    refine norm_i64_to ((i + 1 : Nat) : Int) (by show ((i : Nat) : Int) + 1 = _; omega) (by omega) ?_
    have hok : segOk tx at_ y := ⟨d1, by omega, hyt, hb10, d5, by omega, by omega, by omega⟩
    exact ⟨(i + 1, y.t), rfl, ⟨hI.e.trans (hE24.trans hE5), by show i + 1 ≤ L.length; omega, by show 0 ≤ y.t; omega, hyt, by simp only; rw [hrs]; exact ⟨fun hh => hh.2, fun hh => ⟨hok, hh⟩⟩⟩, by show L.length - (i + 1) < L.length - i; omega⟩
  · have hdrop : L.drop i = [] := List.drop_eq_nil_of_le (by omega)
    have hrs := hI.rs
    simp only at hrs
    rw [hdrop, chkL] at hrs
    refine load_blk0 (hB1.ext hI.e) rfl ?_
    refine wif_d (fun d1 => ?_) (fun d1 => ?_)
    · exact ⟨by rw [hcs, if_neg (fun hh => by have := hrs.1 hh; omega)], hE02⟩
    · exact ⟨by rw [hcs, if_pos (hrs.2 (by omega))], hE02⟩
end

section
open Go Go.RowKit

/-! ### What a valid source's segments are -/
structure SegB (tx : List Nat) (y : Sx) : Prop where
  f0 : 0 ≤ y.f
  ft : y.f < y.t
  tl : y.t ≤ tx.length
  ck : chkD y.x.nd y.x.r = 0
  l0 : 0 ≤ y.fl
  a0 : 0 ≤ y.at_
  a1 : y.at_ ≤ 1048576
theorem chkL_all {tx : List Nat} : ∀ {L : List Sx} {a : Int}, 0 ≤ a → chkL tx a L → ∀ y ∈ L, SegB tx y
  | [], _, _, _, y, hy => by cases hy
  | z :: L, a, ha, h, y, hy => by
    obtain ⟨⟨h1, h2, h3, h4, h5, h6, h7, h8⟩, hr⟩ := h
    rcases List.mem_cons.1 hy with rfl | hy
    · exact ⟨by omega, by omega, h3, h5, h6, h7, by omega⟩
    · exact chkL_all (by omega) hr y hy
def totS (L : List Sx) : Int := (L.map (fun y => y.t - y.f)).sum
theorem totS_cons (y : Sx) (L : List Sx) : totS (y :: L) = (y.t - y.f) + totS L := by simp [totS]
theorem totS_nn {tx : List Nat} : ∀ {L : List Sx}, (∀ y ∈ L, SegB tx y) → 0 ≤ totS L
  | [], _ => by simp [totS]
  | y :: L, h => by
    rw [totS_cons]
    have := (h y (by simp)).ft
    have : 0 ≤ totS L := totS_nn (tx := tx) (fun z hz => h z (List.mem_cons_of_mem _ hz))
    omega
theorem totS_chk {tx : List Nat} : ∀ {L : List Sx} {a : Int}, chkL tx a L → totS L = tx.length - a
  | [], a, h => by have : a = tx.length := h; simp [totS, this]
  | y :: L, a, h => by
    rw [totS_cons, totS_chk h.2, h.1.1]; omega
theorem totS_filter {tx : List Nat} (q : Sx → Bool) : ∀ {L : List Sx}, (∀ y ∈ L, SegB tx y) → totS (L.filter q) ≤ totS L
  | [], _ => by simp [totS]
  | y :: L, h => by
    have h1 := (h y (by simp)).ft
    have h2 : totS (L.filter q) ≤ totS L := totS_filter (tx := tx) q (fun z hz => h z (List.mem_cons_of_mem _ hz))
    rw [List.filter_cons]
    split
    · rw [totS_cons, totS_cons]; omega
    · rw [totS_cons]; omega

def inS (c : Nat) (y : Sx) : Bool := ev y.x.nd y.x.r (bitE c)
def selL (c : Nat) (L : List Sx) : List Sx := L.filter (inS c)
def pieceS (tx : List Nat) (y : Sx) : List Nat := (tx.take y.t.toNat).drop y.f.toNat
noncomputable def selP (tx : List Nat) (L : List Sx) (c : Nat) : List Nat := if chkS tx L = 0 then (selL c L).flatMap (pieceS tx) else []
def locL (tl at_ : Int) : Int → List Sx → Int × Bool
  | n, [] => if at_ = tl then (n, true) else (0, false)
  | n, y :: L => if y.f ≤ at_ ∧ at_ < y.t then (n + at_ - y.f, true) else locL tl at_ (n + (y.t - y.f)) L
noncomputable def locP (tx : List Nat) (L : List Sx) (c : Nat) (at_ : Int) : Int × Bool := if chkS tx L = 0 then locL tx.length at_ 0 (selL c L) else (0, false)
def glbL (tl : Int) : Int → List Sx → Int × Bool
  | at_, [] => if 0 < at_ then (0, false) else (tl, true)
  | at_, y :: L => if y.t - y.f ≤ at_ then glbL tl (at_ - (y.t - y.f)) L else (y.f + at_, true)
noncomputable def glbP (tx : List Nat) (L : List Sx) (c : Nat) (at_ : Int) : Int × Bool := if chkS tx L = 0 ∧ 0 ≤ at_ then glbL tx.length at_ (selL c L) else (0, false)
def oriL (at_ : Int) : List Sx → Int × Int × Bool
  | [] => (0, 0, false)
  | y :: L => if at_ < y.t then (y.fl, y.at_ + at_ - y.f, true) else oriL at_ L
noncomputable def oriP (tx : List Nat) (L : List Sx) (at_ : Int) : Int × Int × Bool := if chkS tx L = 0 ∧ 0 ≤ at_ ∧ at_ < tx.length then oriL at_ L else (0, 0, false)

theorem drop_get {α : Type} {l : List α} {i : Nat} {x : α} (h : l[i]? = some x) : l.drop i = x :: l.drop (i + 1) := by
  obtain ⟨h1, rfl⟩ := List.getElem?_eq_some_iff.1 h
  exact List.drop_eq_getElem_cons h1
theorem sx_scalar (y : Sx) : ∀ u ∈ y.cells, scalar u = true := by intro u hu; simp [Sx.cells] at hu; rcases hu with rfl | rfl | rfl | rfl | rfl | rfl <;> rfl

/-! ### selected -/
structure SelI (w0 : World) (base : Nat) (c : Nat) (L : List Sx) (i : Nat) (O : Option Addr) (oc : Nat) (w : World) : Prop where
  e : Ext w0 w
  le : i ≤ L.length
  own : Own w base 45 6 O (selL c (L.take i)).length oc ((selL c (L.take i)).flatMap Sx.cells)

set_option maxHeartbeats 1600000 in
theorem selected_fn (tx : List Nat) (A : Option Addr) (n cp : Nat) (L : List Sx) (c : Nat) (w : World) (h : SX w A n cp L) (hc : c ≤ 18446744073709551615) (hv : ∀ y ∈ L, chkD y.x.nd y.x.r = 0) (hn : n ≤ 65536) :
    Fn Tryz.prog 52 [srcV tx A n cp, .int .u64 c] w (fun u w' => ∃ O oc, u = .slice O (selL c L).length oc ∧ Ext w w' ∧ SX w' O (selL c L).length oc (selL c L) ∧ Own w' w.heap.size 45 6 O (selL c L).length oc ((selL c L).flatMap Sx.cells)) := by
  have hlen := h.sl.2
  refine fn_of_exec (c := { c52 with cuts := [] }) gx_ok Tryz.func52 rfl rfl rfl ?_
  refine new (fun w1 hE1 hz1 hB1 => ?_)
  refine load_blk hB1 rfl ?_
  refine loop gx_ok [11, 5] (fun s : Nat × Option Addr × Nat => [.int .i64 s.1, .slice s.2.1 (selL c (L.take s.1)).length s.2.2]) (fun s w' => SelI w1 w1.heap.size c L s.1 s.2.1 s.2.2 w') (fun s _ => L.length - s.1) (0, none, 0) rfl ⟨Ext.refl _, Nat.zero_le _, Own.nil _ _ _ _⟩ ?_
  rintro ⟨i, O, oc⟩ w2 hI
  have hE02 := hE1.trans hI.e
  have ho := hI.own
  have hle := hI.le
  simp only at ho hle
  refine wif_d (fun c3 => ?_) (fun c3 => ?_)
  · have hi : i < n := by omega
    refine index_sls sx_len (h.sl.ext hE02) rfl hi (fun p y hy hcl => ?_)
    have htk : L.take (i + 1) = L.take i ++ [y] := by rw [List.take_add_one, hy]; rfl
    refine loadN_at (vs := y.cells) rfl hcl ?_
    refine new (fun w3 hE3 hz3 hB3 => ?_)
    refine storeN_blk0 hB3 rfl (sc rfl) (fun w4 hg4 _ hB4 => ?_)
    have hE24 : Ext w2 w4 := newBox hE3 hB3 hg4
    have hE04 := hE02.trans hE24
    refine loadN_at (vs := [.slice y.x.A y.x.n y.x.c, .int .i64 y.x.r]) rfl (fun j v hj => by rw [Addr.add_add]; exact (hB4.cell _).trans (by match j, hj with | 0, hj => exact hj | 1, hj => exact hj)) ?_
    have hym := List.mem_of_getElem? hy
    refine call (dholds_fn y.x.A y.x.n y.x.c y.x.nd y.x.r c hc w4 ((h.dg y hym).ext hE04) (hv y hym)) ?_
    rintro _ w5 ⟨rfl, hE5⟩
    have hE25 := hE24.trans hE5
    have hB5 := hB4.ext hE5
    refine wif (fun d1 => ?_) (fun d1 => ?_)
    · have d1 : inS c y = true := d1
      have hsl : selL c (L.take (i + 1)) = selL c (L.take i) ++ [y] := by rw [htk]; unfold selL; rw [List.filter_append]; simp [d1]
      refine loadN_blk0 hB5 rfl ?_
      refine at_buildN gx_ok [y.cells] rfl rfl rfl rfl rfl ⟨rfl, rfl, ⟨⟩⟩ rfl (fun cs hh => by simp only [List.mem_singleton] at hh; subst hh; rfl) rfl (by decide) (by decide) ?_
      intro w6 hE6 hz6 hB6
      have hE26 := hE25.trans hE6
      have hs6 : Sl w6 6 (some ⟨w5.heap.size, 0, none⟩) 1 1 y.cells := Sl.own (sz := 6) (n := 1) hB6 (Nat.le_refl _) (by decide) (by simp [Sx.cells])
      have hfl : (selL c (L.take i)).length ≤ i := Nat.le_trans (List.length_filter_le _ _) (by simp; omega)
      refine at_app (n := (selL c (L.take i)).length) gx_ok rfl rfl rfl rfl rfl (by decide) rfl rfl ⟨_, rfl⟩ rfl rfl (ho.ext hE26) hs6 (sx_scalar y) (by unfold maxLen; omega) (by show ((selL c (L.take i)).length + 1) * 64 ≤ _; omega) (by have := hI.e.size; have := hE26.size; omega) ?_
      intro A' c' w7 hm7 hown7 hmv7
      refine norm_i64_to ((i + 1 : Nat) : Int) (by show ((i : Nat) : Int) + 1 = _; omega) (by omega) ?_
      refine ⟨(i + 1, A', c'), by simp only [hsl, List.length_append]; rfl, ⟨hm7.ext (hI.e.trans hE26) (fun k hk => (ho.rows k hk).1), by show i + 1 ≤ L.length; omega, ?_⟩, by show L.length - (i + 1) < L.length - i; omega⟩
      simp only
      rw [hsl, List.flatMap_append, List.length_append]
      simpa using hown7
    · have d1 : inS c y = false := d1
      have hsl : selL c (L.take (i + 1)) = selL c (L.take i) := by rw [htk]; unfold selL; rw [List.filter_append]; simp [d1]
      refine norm_i64_to ((i + 1 : Nat) : Int) (by show ((i : Nat) : Int) + 1 = _; omega) (by omega) ?_
      refine ⟨(i + 1, O, oc), by simp only [hsl]; rfl, ⟨hI.e.trans hE25, by show i + 1 ≤ L.length; omega, ?_⟩, by show L.length - (i + 1) < L.length - i; omega⟩
      simp only
      rw [hsl]
      exact ho.ext hE25
  · have hall : L.take i = L := List.take_of_length_le (by omega)
    rw [hall] at ho
    refine ⟨O, oc, ?_, hE02, ⟨⟨ho.sl, rfl⟩, fun y hy => (h.dg y (List.mem_filter.1 hy).1).ext hE02⟩, ho.up (by omega)⟩
    rw [hall]

/-! ### Select -/
theorem pieces_len {tx : List Nat} : ∀ {L : List Sx}, (∀ y ∈ L, SegB tx y) → ((L.flatMap (pieceS tx)).length : Int) = totS L
  | [], _ => rfl
  | y :: L, h => by
    have h1 := h y (by simp)
    have h2 := pieces_len (L := L) (tx := tx) (fun z hz => h z (List.mem_cons_of_mem _ hz))
    have := h1.f0
    have := h1.ft
    have := h1.tl
    rw [List.flatMap_cons, List.length_append, totS_cons, ← h2]
    have : (pieceS tx y).length = y.t.toNat - y.f.toNat := by unfold pieceS; rw [List.length_drop, List.length_take]; omega
    rw [this]; omega
theorem pieceS_b8 {tx : List Nat} (h8 : ∀ x ∈ tx, x < 256) (y : Sx) : ∀ x ∈ pieceS tx y, x < 256 := fun x hx => h8 x (List.mem_of_mem_take (List.mem_of_mem_drop hx))
structure SelJ (w0 : World) (base g : Nat) (tx : List Nat) (M : List Sx) (i : Nat) (w : World) : Prop where
  e : Ext w0 w
  le : i ≤ M.length
  b : ∃ A c, Bld w base g 86 [] A c ((M.take i).flatMap (pieceS tx))

set_option maxHeartbeats 1600000 in
theorem sselect_fn (tx : List Nat) (A : Option Addr) (n cp : Nat) (L : List Sx) (c : Nat) (w : World) (h : SX w A n cp L) (hc : c ≤ 18446744073709551615) (h8 : ∀ x ∈ tx, x < 256) :
    Fn Tryz.prog 29 [srcV tx A n cp, .int .u64 c] w (fun u w' => u = .string (strOf (selP tx L c)) ∧ Ext w w') := by
  have hlen := h.sl.2
  refine fn_of_exec (c := { c29 with cuts := [] }) gx_ok Tryz.func29 rfl rfl rfl ?_
  refine new (fun w1 hE1 hz1 hB1 => ?_)
  refine loadN_blk0 hB1 rfl ?_
  refine call (scheck_fn tx A n cp L w1 (h.ext hE1) h8) ?_
  rintro _ w2 ⟨rfl, hE2⟩
  have hE02 := hE1.trans hE2
  refine wif_ne (fun c1 => ?_) (fun c1 => ?_)
  · exact ⟨by unfold selP; rw [if_neg c1]; rfl, hE02⟩
  obtain ⟨t1, t2, t3⟩ := chkS_zero.1 c1
  have hall := chkL_all (Int.le_refl 0) t3
  refine new (fun w3 hE3 hz3 hB3 => ?_)
  have hE03 := hE02.trans hE3
  refine loadN_blk0 (hB1.ext (hE2.trans hE3)) rfl ?_
  refine call (selected_fn tx A n cp L c w3 (h.ext hE03) hc (fun y hy => (hall y hy).ck) (by omega)) ?_
  rintro _ w4 ⟨O, oc, rfl, hE4, hO4, how4⟩
  have hE04 := hE03.trans hE4
  have hmall : ∀ y ∈ selL c L, SegB tx y := fun y hy => hall y (List.mem_filter.1 hy).1
  have hmdg : ∀ y ∈ selL c L, SB w y.x.A y.x.n y.x.c y.x.nd := fun y hy => h.dg y (List.mem_filter.1 hy).1
  have htot : totS (selL c L) ≤ tx.length := by
    have e1 := totS_filter (inS c) hall
    have e2 := totS_chk t3
    unfold selL; omega
  have hml : (selL c L).length ≤ 65536 := Nat.le_trans (List.length_filter_le _ _) t2
  have hsp : selP tx L c = (selL c L).flatMap (pieceS tx) := if_pos c1
  generalize hM : selL c L = M at *
  have hz24 := hE4.size
  have hrow4 := how4.rows
  have hb4 : Bld w4 w4.heap.size w2.heap.size 86 [] none 0 (([] : List Sx).flatMap (pieceS tx)) := ⟨by omega, Nat.le_refl _, ⟨_, .inl rfl, hB3.ext hE4⟩, Own.nil _ _ _ _⟩
  have hg2 := hE02.size
  have hpl : ∀ i, (((M.take i).flatMap (pieceS tx)).length : Int) ≤ tx.length := fun i => by
    have e1 := pieces_len (L := M.take i) (tx := tx) (fun z hz => hmall z (List.mem_of_mem_take hz))
    have e2 := totS_nn (L := M.drop i) (tx := tx) (fun z hz => hmall z (List.mem_of_mem_drop hz))
    have e3 : totS M = totS (M.take i) + totS (M.drop i) := by
      unfold totS
      rw [← List.sum_append, ← List.map_append, List.take_append_drop]
    omega
  refine loop gx_ok [15] (fun i : Nat => [.int .i64 i]) (fun i w' => SelJ w2 w4.heap.size w2.heap.size tx M i w' ∧ Mod (fun k => k = w2.heap.size ∨ w4.heap.size ≤ k) w4 w') (fun i _ => M.length - i) 0 rfl ⟨⟨hE3.trans hE4, Nat.zero_le _, _, _, hb4⟩, Mod.refl _ _⟩ ?_
  rintro i w5 ⟨hI, hM45⟩
  have hE05 : Ext w w5 := hE02.trans hI.e
  have how5 : Own w5 w3.heap.size 45 6 O M.length oc (M.flatMap Sx.cells) := how4.mod hM45 (fun k hk hS => by have := hrow4 k hk; omega)
  obtain ⟨BA, bc, hb5⟩ := hI.b
  refine wif_d (fun c3 => ?_) (fun c3 => ?_)
  · have hi : i < M.length := by omega
    refine index_sls (l := M) sx_len ⟨how5.sl, rfl⟩ rfl hi (fun p y hy hcl => ?_)
    have hym := List.mem_of_getElem? hy
    have hyb := hmall y hym
    have htk : M.take (i + 1) = M.take i ++ [y] := by rw [List.take_add_one, hy]; rfl
    refine loadN_at (vs := y.cells) rfl hcl ?_
    refine new (fun w6 hE6 hz6 hB6 => ?_)
    refine storeN_blk0 hB6 rfl (sc rfl) (fun w7 hg7 _ hB7 => ?_)
    have hE57 : Ext w5 w7 := newBox hE6 hB6 hg7
    refine load_blk0 ((hB1.ext hE2).ext (hI.e.trans hE57)) rfl ?_
    refine load_blk0 hB7 rfl ?_
    refine load_blk hB7 rfl ?_
    have q1 := hyb.f0
    have q2 := hyb.ft
    have q3 := hyb.tl
    have hts := strOf_size tx
    refine need_to (v' := .string (strOf (pieceS tx y))) ⟨q1, by omega, by rw [hts]; omega⟩ (by rw [strOf_extract]; rfl) ?_
    have hpn := hpl (i + 1)
    rw [htk, List.flatMap_append, List.length_append] at hpn
    have hpe : [y].flatMap (pieceS tx) = pieceS tx y := by simp
    rw [hpe] at hpn
    have hps := strOf_size (pieceS tx y)
    refine call (writeString_fn w4.heap.size w2.heap.size _ [] BA bc _ (strOf (pieceS tx y)) w7 liesB0 (hb5.grow hE57) (by rw [hps]; omega)) ?_
    rintro _ w8 ⟨A8, c8, hb8, hm8, hv8⟩
    have hbr := (hb5.own.rows)
    have hS8 : ∀ k, BldS w2.heap.size BA k → k = w2.heap.size ∨ w4.heap.size ≤ k := fun k hk => hk.elim .inl (fun hk => .inr (hbr k hk).1)
    refine norm_i64_to ((i + 1 : Nat) : Int) (by show ((i : Nat) : Int) + 1 = _; omega) (by omega) ?_
    refine ⟨i + 1, rfl, ⟨⟨hm8.ext (hI.e.trans hE57) (fun k hk => by rcases hS8 k hk with e | e <;> omega), hi, A8, c8, ?_⟩, ?_⟩, by show M.length - (i + 1) < M.length - i; omega⟩
    · rw [htk, List.flatMap_append, hpe]
      rw [bytesOf_strOf (pieceS_b8 h8 y)] at hb8
      exact hb8
    · exact (hM45.trans (Mod.of_ext (fun k => k = w2.heap.size ∨ w4.heap.size ≤ k) hE57) (fun k hk => .inl hk)).trans (hm8.mono (fun k hk => .inl (hS8 k hk))) (fun k hk => .inl hk)
  · have hall : M.take i = M := List.take_of_length_le (by omega)
    rw [hall] at hb5
    have hpn := hpl i
    rw [hall] at hpn
    refine call (string_fn w4.heap.size w2.heap.size _ [] BA bc _ w5 hb5 (fun x hx => by
      obtain ⟨y, _, hxy⟩ := List.mem_flatMap.1 hx
      exact pieceS_b8 h8 y x hxy) (by omega)) ?_
    rintro _ w6 ⟨rfl, hm6⟩
    have hbr := (hb5.own.rows)
    exact ⟨by rw [hsp], hm6.ext hE05 (fun k hk => by have := hbr k hk; omega)⟩

/-! ### Local, Global -/
set_option maxHeartbeats 1600000 in
theorem slocal_fn (tx : List Nat) (A : Option Addr) (n cp : Nat) (L : List Sx) (c : Nat) (at_ : Int) (w : World) (h : SX w A n cp L) (hc : c ≤ 18446744073709551615) (h8 : ∀ x ∈ tx, x < 256) :
    Fn Tryz.prog 19 [srcV tx A n cp, .int .u64 c, .int .i64 at_] w (fun u w' => u = .tuple #[.int .i64 (locP tx L c at_).1, .bool (locP tx L c at_).2] ∧ Ext w w') := by
  have hlen := h.sl.2
  have hts := strOf_size tx
  refine fn_of_exec (c := { c19 with cuts := [] }) gx_ok Tryz.func19 rfl rfl rfl ?_
  refine new (fun w1 hE1 hz1 hB1 => ?_)
  refine loadN_blk0 hB1 rfl ?_
  refine call (scheck_fn tx A n cp L w1 (h.ext hE1) h8) ?_
  rintro _ w2 ⟨rfl, hE2⟩
  have hE02 := hE1.trans hE2
  refine wif_ne (fun c1 => ?_) (fun c1 => ?_)
  · exact ⟨by unfold locP; rw [if_neg c1], hE02⟩
  obtain ⟨t1, t2, t3⟩ := chkS_zero.1 c1
  have hall := chkL_all (Int.le_refl 0) t3
  refine loadN_blk0 (hB1.ext hE2) rfl ?_
  refine call (selected_fn tx A n cp L c w2 (h.ext hE02) hc (fun y hy => (hall y hy).ck) (by omega)) ?_
  rintro _ w4 ⟨O, oc, rfl, hE4, hO4, _⟩
  have hE04 := hE02.trans hE4
  have hmall : ∀ y ∈ selL c L, SegB tx y := fun y hy => hall y (List.mem_filter.1 hy).1
  have htot : totS (selL c L) ≤ tx.length := by
    have e1 := totS_filter (inS c) hall
    have e2 := totS_chk t3
    unfold selL; omega
  have hml : (selL c L).length ≤ 65536 := Nat.le_trans (List.length_filter_le _ _) t2
  have hsp : locP tx L c at_ = locL tx.length at_ 0 (selL c L) := if_pos c1
  rw [hsp]
  generalize hM : selL c L = M at *
  refine loop gx_ok [18, 8] (fun s : Nat × Int => [.int .i64 s.1, .int .i64 s.2]) (fun s w' => Ext w4 w' ∧ s.1 ≤ M.length ∧ 0 ≤ s.2 ∧ s.2 + totS (M.drop s.1) ≤ tx.length ∧ locL tx.length at_ 0 M = locL tx.length at_ s.2 (M.drop s.1)) (fun s _ => M.length - s.1) (0, 0) rfl ⟨Ext.refl _, Nat.zero_le _, Int.le_refl _, by simpa using htot, rfl⟩ ?_
  rintro ⟨i, b⟩ w5 ⟨hE5, hle, b0, bt, hrs⟩
  simp only at hle b0 bt hrs
  have hE05 := hE04.trans hE5
  refine wif_d (fun c3 => ?_) (fun c3 => ?_)
  · have hi : i < M.length := by simp only at c3; omega
    refine index_sls sx_len (hO4.ext hE5).sl rfl hi (fun p y hy hcl => ?_)
    have hy : M[i]? = some y := hy
    have hyb := hmall y (List.mem_of_getElem? hy)
    have q1 := hyb.f0
    have q2 := hyb.ft
    have q3 := hyb.tl
    rw [drop_get hy] at bt hrs
    rw [totS_cons] at bt
    have hnn : 0 ≤ totS (M.drop (i + 1)) := totS_nn (fun z hz => hmall z (List.mem_of_mem_drop hz))
    refine loadN_at (vs := y.cells) rfl hcl ?_
    refine new (fun w6 hE6 hz6 hB6 => ?_)
    refine storeN_blk0 hB6 rfl (sc rfl) (fun w7 hg7 _ hB7 => ?_)
    have hE57 : Ext w5 w7 := newBox hE6 hB6 hg7
    rw [locL] at hrs
    have next : ¬ (y.f ≤ at_ ∧ at_ < y.t) → locL tx.length at_ 0 M = locL tx.length at_ (b + (y.t - y.f)) (M.drop (i + 1)) := fun hh => by rw [hrs, if_neg hh]
    refine load_blk0 hB7 rfl ?_
    refine wif_d (fun d1 => ?_) (fun d1 => ?_)
    · refine load_blk hB7 rfl ?_
      refine wif_d (fun d2 => ?_) (fun d2 => ?_)
      · refine norm_i64_to (b + at_) rfl (by omega) ?_
        refine load_blk0 hB7 rfl ?_
        refine norm_i64_to (b + at_ - y.f) rfl (by omega) ?_
        exact ⟨by rw [hrs, if_pos ⟨d1, d2⟩], hE05.trans hE57⟩
      · refine load_blk hB7 rfl ?_
        refine load_blk0 hB7 rfl ?_
        refine norm_i64_to (y.t - y.f) rfl (by omega) ?_
        refine norm_i64_to (b + (y.t - y.f)) rfl (by omega) ?_
        refine norm_i64_to ((i + 1 : Nat) : Int) (by show ((i : Nat) : Int) + 1 = _; omega) (by omega) ?_
        exact ⟨(i + 1, b + (y.t - y.f)), rfl, ⟨hE5.trans hE57, hi, by show 0 ≤ b + (y.t - y.f); omega, by show b + (y.t - y.f) + totS (M.drop (i + 1)) ≤ _; omega, next (fun hh => d2 hh.2)⟩, by show M.length - (i + 1) < M.length - i; omega⟩
    · refine load_blk hB7 rfl ?_
      refine load_blk0 hB7 rfl ?_
      refine norm_i64_to (y.t - y.f) rfl (by omega) ?_
      refine norm_i64_to (b + (y.t - y.f)) rfl (by omega) ?_
      refine norm_i64_to ((i + 1 : Nat) : Int) (by show ((i : Nat) : Int) + 1 = _; omega) (by omega) ?_
      exact ⟨(i + 1, b + (y.t - y.f)), rfl, ⟨hE5.trans hE57, hi, by show 0 ≤ b + (y.t - y.f); omega, by show b + (y.t - y.f) + totS (M.drop (i + 1)) ≤ _; omega, next (fun hh => d1 hh.1)⟩, by show M.length - (i + 1) < M.length - i; omega⟩
  · rw [List.drop_eq_nil_of_le (by simp only at c3; omega), locL] at hrs
    refine load_blk0 (hB1.ext ((hE2.trans hE4).trans hE5)) rfl ?_
    refine wif_ne (fun d1 => ?_) (fun d1 => ?_)
    · exact ⟨by rw [hrs, if_neg (by rw [hts] at d1; exact d1)], hE05⟩
    · exact ⟨by rw [hrs, if_pos (by rw [hts] at d1; exact d1)], hE05⟩

set_option maxHeartbeats 1600000 in
theorem sglobal_fn (tx : List Nat) (A : Option Addr) (n cp : Nat) (L : List Sx) (c : Nat) (at_ : Int) (w : World) (h : SX w A n cp L) (hc : c ≤ 18446744073709551615) (h8 : ∀ x ∈ tx, x < 256) (h63 : at_ ≤ 9223372036854775807) :
    Fn Tryz.prog 21 [srcV tx A n cp, .int .u64 c, .int .i64 at_] w (fun u w' => u = .tuple #[.int .i64 (glbP tx L c at_).1, .bool (glbP tx L c at_).2] ∧ Ext w w') := by
  have hlen := h.sl.2
  have hts := strOf_size tx
  refine fn_of_exec (c := { c21 with cuts := [] }) gx_ok Tryz.func21 rfl rfl rfl ?_
  refine new (fun w1 hE1 hz1 hB1 => ?_)
  refine loadN_blk0 hB1 rfl ?_
  refine call (scheck_fn tx A n cp L w1 (h.ext hE1) h8) ?_
  rintro _ w2 ⟨rfl, hE2⟩
  have hE02 := hE1.trans hE2
  refine wif_ne (fun c1 => ?_) (fun c1 => ?_)
  · exact ⟨by unfold glbP; rw [if_neg (fun hh => c1 hh.1)], hE02⟩
  refine wif_d (fun c2 => ?_) (fun c2 => ?_)
  · exact ⟨by unfold glbP; rw [if_neg (fun hh => by omega)], hE02⟩
  obtain ⟨t1, t2, t3⟩ := chkS_zero.1 c1
  have hall := chkL_all (Int.le_refl 0) t3
  refine loadN_blk0 (hB1.ext hE2) rfl ?_
  refine call (selected_fn tx A n cp L c w2 (h.ext hE02) hc (fun y hy => (hall y hy).ck) (by omega)) ?_
  rintro _ w4 ⟨O, oc, rfl, hE4, hO4, _⟩
  have hE04 := hE02.trans hE4
  have hmall : ∀ y ∈ selL c L, SegB tx y := fun y hy => hall y (List.mem_filter.1 hy).1
  have hml : (selL c L).length ≤ 65536 := Nat.le_trans (List.length_filter_le _ _) t2
  have hsp : glbP tx L c at_ = glbL tx.length at_ (selL c L) := if_pos ⟨c1, by omega⟩
  rw [hsp]
  generalize hM : selL c L = M at *
  refine loop gx_ok [22, 2] (fun s : Nat × Int => [.int .i64 s.1, .int .i64 s.2]) (fun s w' => Ext w4 w' ∧ s.1 ≤ M.length ∧ 0 ≤ s.2 ∧ s.2 ≤ 9223372036854775807 ∧ glbL tx.length at_ M = glbL tx.length s.2 (M.drop s.1)) (fun s _ => M.length - s.1) (0, at_) rfl ⟨Ext.refl _, Nat.zero_le _, by show 0 ≤ at_; omega, h63, rfl⟩ ?_
  rintro ⟨i, b⟩ w5 ⟨hE5, hle, b0, bt, hrs⟩
  simp only at hle b0 bt hrs
  have hE05 := hE04.trans hE5
  refine wif_d (fun c3 => ?_) (fun c3 => ?_)
  · have hi : i < M.length := by simp only at c3; omega
    refine index_sls sx_len (hO4.ext hE5).sl rfl hi (fun p y hy hcl => ?_)
    have hy : M[i]? = some y := hy
    have hyb := hmall y (List.mem_of_getElem? hy)
    have q1 := hyb.f0
    have q2 := hyb.ft
    have q3 := hyb.tl
    rw [drop_get hy, glbL] at hrs
    refine loadN_at (vs := y.cells) rfl hcl ?_
    refine new (fun w6 hE6 hz6 hB6 => ?_)
    refine storeN_blk0 hB6 rfl (sc rfl) (fun w7 hg7 _ hB7 => ?_)
    have hE57 : Ext w5 w7 := newBox hE6 hB6 hg7
    refine load_blk hB7 rfl ?_
    refine load_blk0 hB7 rfl ?_
    refine norm_i64_to (y.t - y.f) rfl (by omega) ?_
    refine wif_d (fun d1 => ?_) (fun d1 => ?_)
    · rw [if_pos (by omega)] at hrs
      refine norm_i64_to (b - (y.t - y.f)) rfl (by omega) ?_
      refine norm_i64_to ((i + 1 : Nat) : Int) (by show ((i : Nat) : Int) + 1 = _; omega) (by omega) ?_
      exact ⟨(i + 1, b - (y.t - y.f)), rfl, ⟨hE5.trans hE57, hi, by show 0 ≤ b - (y.t - y.f); omega, by show b - (y.t - y.f) ≤ _; omega, hrs⟩, by show M.length - (i + 1) < M.length - i; omega⟩
    · rw [if_neg (by omega)] at hrs
      refine load_blk0 hB7 rfl ?_
      refine norm_i64_to (y.f + b) rfl (by omega) ?_
      exact ⟨by rw [hrs], hE05.trans hE57⟩
  · rw [List.drop_eq_nil_of_le (by simp only at c3; omega), glbL] at hrs
    refine wif_d (fun d1 => ?_) (fun d1 => ?_)
    · exact ⟨by rw [hrs, if_pos d1], hE05⟩
    · rw [if_neg d1] at hrs
      refine load_blk0 (hB1.ext ((hE2.trans hE4).trans hE5)) rfl ?_
      exact ⟨by rw [hrs, hts], hE05⟩

set_option maxHeartbeats 1600000 in
theorem sorigin_fn (tx : List Nat) (A : Option Addr) (n cp : Nat) (L : List Sx) (at_ : Int) (w : World) (h : SX w A n cp L) (h8 : ∀ x ∈ tx, x < 256) :
    Fn Tryz.prog 23 [srcV tx A n cp, .int .i64 at_] w (fun u w' => u = .tuple #[.int .i64 (oriP tx L at_).1, .int .i64 (oriP tx L at_).2.1, .bool (oriP tx L at_).2.2] ∧ Ext w w') := by
  have hlen := h.sl.2
  have hts := strOf_size tx
  refine fn_of_exec (c := { c23 with cuts := [] }) gx_ok Tryz.func23 rfl rfl rfl ?_
  refine new (fun w1 hE1 hz1 hB1 => ?_)
  refine loadN_blk0 hB1 rfl ?_
  refine call (scheck_fn tx A n cp L w1 (h.ext hE1) h8) ?_
  rintro _ w2 ⟨rfl, hE2⟩
  have hE02 := hE1.trans hE2
  refine wif_ne (fun c1 => ?_) (fun c1 => ?_)
  · exact ⟨by unfold oriP; rw [if_neg (fun hh => c1 hh.1)], hE02⟩
  refine wif_d (fun c2 => ?_) (fun c2 => ?_)
  · exact ⟨by unfold oriP; rw [if_neg (fun hh => by omega)], hE02⟩
  refine load_blk0 (hB1.ext hE2) rfl ?_
  refine wif_d (fun c3 => ?_) (fun c3 => ?_)
  · exact ⟨by unfold oriP; rw [if_neg (fun hh => by omega)], hE02⟩
  obtain ⟨t1, t2, t3⟩ := chkS_zero.1 c1
  have hall := chkL_all (Int.le_refl 0) t3
  have hsp : oriP tx L at_ = oriL at_ L := if_pos ⟨c1, by omega, by omega⟩
  rw [hsp]
  refine load_blk (hB1.ext hE2) rfl ?_
  refine loop gx_ok [26] (fun s : Nat => [.int .i64 s]) (fun s w' => Ext w2 w' ∧ s ≤ L.length ∧ oriL at_ L = oriL at_ (L.drop s)) (fun s _ => L.length - s) 0 rfl ⟨Ext.refl _, Nat.zero_le _, rfl⟩ ?_
  rintro i w5 ⟨hE5, hle, hrs⟩
  have hE05 := hE02.trans hE5
  refine wif_d (fun c3 => ?_) (fun c3 => ?_)
  · have hi : i < n := by omega
    refine index_sls sx_len (h.ext hE05).sl rfl hi (fun p y hy hcl => ?_)
    have hyb := hall y (List.mem_of_getElem? hy)
    have q1 := hyb.f0
    have q2 := hyb.ft
    have q3 := hyb.tl
    have q4 := hyb.a0
    have q5 := hyb.a1
    rw [drop_get hy, oriL] at hrs
    refine loadN_at (vs := y.cells) rfl hcl ?_
    refine new (fun w6 hE6 hz6 hB6 => ?_)
    refine storeN_blk0 hB6 rfl (sc rfl) (fun w7 hg7 _ hB7 => ?_)
    have hE57 : Ext w5 w7 := newBox hE6 hB6 hg7
    refine load_blk hB7 rfl ?_
    refine wif_d (fun d1 => ?_) (fun d1 => ?_)
    · rw [if_pos d1] at hrs
      have qB : ∀ w', Ext w7 w' → ∀ (j : Nat) (v : Value), y.cells[j]? = some v → w'.cell? ((⟨w5.heap.size, 0, none⟩ : Addr).add j) = some v := fun w' hw' j v hj => by rw [(hB7.ext hw').cell]; exact hj
      refine draw gx_ok (by kernel_rfl) ?_
      refine qload (v := .int .i64 y.fl) (fun w' hw' => qB w' hw' 2 _ rfl) ?_
      refine qload (v := .int .i64 y.at_) (fun w' hw' => qB w' hw' 3 _ rfl) ?_
      refine norm_i64_to (y.at_ + at_) rfl (by omega) ?_
      refine qload (v := .int .i64 y.f) (fun w' hw' => by have := qB w' hw' 0 _ rfl; simpa [Addr.add] using this) ?_
      refine norm_i64_to (y.at_ + at_ - y.f) rfl (by omega) ?_
      intro w8 hE8
      exact ⟨by rw [hrs], (hE05.trans hE57).trans hE8⟩
    · rw [if_neg d1] at hrs
      refine norm_i64_to ((i + 1 : Nat) : Int) (by show ((i : Nat) : Int) + 1 = _; omega) (by omega) ?_
      exact ⟨i + 1, rfl, ⟨hE5.trans hE57, by omega, hrs⟩, by show L.length - (i + 1) < L.length - i; omega⟩
  · rw [List.drop_eq_nil_of_le (by omega), oriL] at hrs
    exact ⟨by rw [hrs], hE05⟩
end

section
open Go Go.RowKit

/-! ### Keys of two numbers -/
abbrev I2 := Int × Int
abbrev i2K : I2 → Value := fun t => .agg #[.int .i64 t.1, .int .i64 t.2]
theorem i2Eq (a b : I2) (n : Nat) (w : World) : (Op.equalIn (n + 2) 43 (i2K a) (i2K b)).run Tryz.prog w = .ok (decide (a = b)) w := by
  obtain ⟨i, hi⟩ := Option.isSome_iff_exists.1 (show (Tryz.prog.info? 3).isSome = true by kernel_rfl)
  obtain ⟨a0, a1⟩ := a
  obtain ⟨b0, b1⟩ := b
  have e := run_equalIn_array (w := w) (n + 1) #[.int .i64 a0, .int .i64 a1] #[.int .i64 b0, .int .i64 b1] Tryz.underlying43 hi
  rw [ci1, show List.range 2 = [0, 1] from rfl] at e
  refine e.trans ?_
  have p0 : ∀ x y : Int, (part 3 #[Value.int .i64 x, .int .i64 y] (0 * 1)).run Tryz.prog w = .ok (.int .i64 x) w := fun x y => part_one k3 rfl w
  have p1 : ∀ x y : Int, (part 3 #[Value.int .i64 x, .int .i64 y] (1 * 1)).run Tryz.prog w = .ok (.int .i64 y) w := fun x y => part_one k3 rfl w
  have dd : decide ((a0, a1) = (b0, b1)) = (a0 == b0 && a1 == b1) := by
    by_cases h0 : a0 = b0 <;> by_cases h1 : a1 = b1 <;> simp [h0, h1]
  rw [dd]
  simp only [Op.eqItems, Sem.run_bind, p0, Result.andThen_ok, intEq]
  cases h0 : a0 == b0 with
  | false => simp
  | true =>
    simp only [Bool.not_true, Bool.false_eq_true, if_false, Sem.run_bind, p1, Result.andThen_ok, intEq, Bool.true_and]
    cases h1 : a1 == b1 <;> simp
theorem i2Check (b : Bool) (a : I2) (n : Nat) (w : World) : (Instr.checkKey b (n + 2) 43 (i2K a)).run Tryz.prog w = .ok () w := by
  obtain ⟨i, hi⟩ := Option.isSome_iff_exists.1 (show (Tryz.prog.info? 3).isSome = true by kernel_rfl)
  have p0 : ∀ x y : Int, (part 3 #[Value.int .i64 x, .int .i64 y] 0).run Tryz.prog w = .ok (.int .i64 x) w := fun x y => part_one k3 rfl w
  have p1 : ∀ x y : Int, (part 3 #[Value.int .i64 x, .int .i64 y] 1).run Tryz.prog w = .ok (.int .i64 y) w := fun x y => part_one k3 rfl w
  have hz : (sizeOf 3).run Tryz.prog w = .ok 1 w := by rw [← ci1]; exact Go.run_sizeOf w hi
  simp [Instr.checkKey, run_underlying Tryz.underlying43, run_underlying Tryz.underlying3, hz, p0, p1, Std.Legacy.Range.forIn_eq_forIn_range', Std.Legacy.Range.size, List.range'_succ]
theorem i2Key : KeyQ Tryz.prog 43 i2K :=
  KeyQ.askingA Tryz.underlying43 (fun a b w => i2Eq a b 9998 w) (fun b a w => i2Check b a 9998 w) (fun a => by simp [Instr.sameBits])

/-! ### Common configurations -/
def Meets (a : List Br) (x : Int) (b : List Br) (y : Int) : Prop := ∃ e, ev a x e = true ∧ ev b y e = true
theorem ev_some {a : List Br} (h : Rd0 a) {x : Int} (h0 : 0 ≤ x) (h1 : x < a.length + 2) (hx : x ≠ 0) : ∃ e, ev a x e = true := by
  apply Classical.byContradiction
  intro hn
  refine hx (inj h h0 (by decide) h1 (by omega) (fun e => ?_))
  have e1 : ev a 0 e = false := by rw [ev_lt (by decide)]; rfl
  rw [e1]
  cases hc : ev a x e with
  | false => rfl
  | true => exact absurd ⟨e, hc⟩ hn
theorem meets_kids {a b : List Br} (ha : Rd0 a) (hb : Rd0 b) {x y : Int} (x0 : 0 ≤ x) (x1 : x < a.length + 2) (y0 : 0 ≤ y) (y1 : y < b.length + 2) {v : Int} (hv : v = min (lvlD a x) (lvlD b y)) (h64 : v < 64) :
    Meets a x b y ↔ Meets a (sideD a x v).1 b (sideD b y v).1 ∨ Meets a (sideD a x v).2 b (sideD b y v).2 := by
  have l1 : v ≤ lvlD a x := by rw [hv, Int.min_def]; split <;> omega
  have l2 : v ≤ lvlD b y := by rw [hv, Int.min_def]; split <;> omega
  obtain ⟨p1, p2, p3, p4, p5⟩ := side_mean ha x0 x1 l1 h64
  obtain ⟨q1, q2, q3, q4, q5⟩ := side_mean hb y0 y1 l2 h64
  have v0 : 0 ≤ v := by
    have := ha.lvl0 x1
    have := hb.lvl0 y1
    rw [hv, Int.min_def]; split <;> omega
  constructor
  · rintro ⟨e, e1, e2⟩
    rw [p1] at e1
    rw [q1] at e2
    cases he : e v.toNat with
    | true => rw [he, if_pos rfl] at e1 e2; exact .inr ⟨e, e1, e2⟩
    | false => rw [he, if_neg (by decide)] at e1 e2; exact .inl ⟨e, e1, e2⟩
  · rintro (⟨e, e1, e2⟩ | ⟨e, e1, e2⟩)
    · refine ⟨upd e v.toNat false, ?_, ?_⟩
      · rw [p1, show upd e v.toNat false v.toNat = false from if_pos rfl, if_neg (by decide), ev_upd ha v.toNat false e _ _ (Nat.lt_succ_self _) p4 (by omega)]; exact e1
      · rw [q1, show upd e v.toNat false v.toNat = false from if_pos rfl, if_neg (by decide), ev_upd hb v.toNat false e _ _ (Nat.lt_succ_self _) q4 (by omega)]; exact e2
    · refine ⟨upd e v.toNat true, ?_, ?_⟩
      · rw [p1, show upd e v.toNat true v.toNat = true from if_pos rfl, if_pos rfl, ev_upd ha v.toNat true e _ _ (Nat.lt_succ_self _) p5 (by omega)]; exact e1
      · rw [q1, show upd e v.toNat true v.toNat = true from if_pos rfl, if_pos rfl, ev_upd hb v.toNat true e _ _ (Nat.lt_succ_self _) q5 (by omega)]; exact e2

/-! ### meets -/
structure MP where
  D : DV
  E : DV
  bo : Nat
  sx : Nat
  ax : Nat
  bx : Nat
  cx : Nat
  q : Nat
def MP.caps (p : MP) : List Value := [VP.ptr p.bo, VP.ptr p.sx, VP.ptr p.ax, VP.ptr p.bx, VP.ptr p.cx]
def MP.clo (p : MP) : Value := .func (.func 101) #[] #[VP.ptr p.bo, VP.ptr p.sx, VP.ptr p.ax, VP.ptr p.bx, VP.ptr p.cx]
structure MK (w : World) (p : MP) : Prop where
  bob : Blk w p.bo 4 [.bool true]
  sxb : Blk w p.sx 169 [.map (some p.q)]
  axb : Blk w p.ax 42 p.D.cells
  bxb : Blk w p.bx 42 p.E.cells
  cxb : Blk w p.cx 170 [p.clo]
  as_ : SB w p.D.A p.D.n p.D.c p.D.nd
  bs : SB w p.E.A p.E.n p.E.c p.E.nd
  off : p.bo ≠ p.q ∧ p.sx ≠ p.q ∧ p.ax ≠ p.q ∧ p.bx ≠ p.q ∧ p.cx ≠ p.q
  rowA : ∀ ad, p.D.A = some ad → 0 < p.D.n → ad.block ≠ p.q
  rowB : ∀ ad, p.E.A = some ad → 0 < p.E.n → ad.block ≠ p.q
theorem MK.mod {w w' : World} {p : MP} (h : MK w p) (hm : Mod (· = p.q) w w') : MK w' p := by
  obtain ⟨o1, o2, o3, o4, o5⟩ := h.off
  refine ⟨h.bob.mod hm o1, h.sxb.mod hm o2, h.axb.mod hm o3, h.bxb.mod hm o4, h.cxb.mod hm o5, ⟨h.as_.1.modS hm ?_, h.as_.2⟩, ⟨h.bs.1.modS hm ?_, h.bs.2⟩, h.off, h.rowA, h.rowB⟩
  · rintro h0 i ⟨ad, e, rfl⟩
    exact h.rowA ad e h0
  · rintro h0 i ⟨ad, e, rfl⟩
    exact h.rowB ad e h0
theorem MK.ext {w w' : World} {p : MP} (h : MK w p) (k : Ext w w') : MK w' p := h.mod (Mod.of_ext _ k)
/-- The pairs seen. -/
def SeenM (w : World) (q : Nat) (S : List I2) : Prop := ∃ m, MapQ i2K w q m ∧ ∀ t, (assoc t m).getD (.bool false) = .bool (decide (t ∈ S))
def MtC (p : MP) (x y : Int) (S : List I2) (w : World) (v : Value) (w' : World) : Prop :=
  Mod (· = p.q) w w' ∧ ∃ r : Bool, v = .bool r ∧ (r = true → Meets p.D.nd x p.E.nd y) ∧ (r = false → ¬ Meets p.D.nd x p.E.nd y ∧ ∃ S', SeenM w' p.q S' ∧ ∀ t ∈ S', t ∈ S ∨ ¬ Meets p.D.nd t.1 p.E.nd t.2)

set_option maxHeartbeats 1600000 in
theorem meets1_fn (p : MP) (ha : Rd0 p.D.nd) (hb : Rd0 p.E.nd) : ∀ (k : Nat) (x y : Int) (S : List I2) (w : World),
    MK w p → SeenM w p.q S → (∀ t ∈ S, t.1 + t.2 ≤ x + y → ¬ Meets p.D.nd t.1 p.E.nd t.2) → 0 ≤ x → 0 ≤ y → x < p.D.n + 2 → y < p.E.n + 2 → x + y < k →
    Fn Tryz.prog 101 (.int .i64 x :: .int .i64 y :: p.caps) w (MtC p x y S w)
  | 0, x, y, _, _, _, _, _, x0, y0, _, _, hk => by omega
  | k + 1, x, y, S, w, hK, hS, hno, x0, y0, hx, hy, hk => by
    have ih := meets1_fn p ha hb k
    have hal : p.D.nd.length = p.D.n := hK.as_.2
    have hbl : p.E.nd.length = p.E.n := hK.bs.2
    refine fn_of_exec (c := { c101 with cuts := [] }) gx_ok Tryz.func101 rfl rfl rfl ?_
    refine wif_eq (fun c1 => ?_) (fun c1 => ?_)
    · exact ⟨Mod.refl _ _, false, rfl, fun h => (by cases h), fun _ => ⟨(fun ⟨e, e1, _⟩ => by rw [c1, ev_lt (by decide)] at e1; cases e1), S, hS, fun t ht => .inl ht⟩⟩
    refine wif_d (fun c2 => ?_) (fun c2 => ?_)
    · refine load_blk0 hK.bob rfl ?_
      by_cases y1 : y = 1
      · subst y1
        refine wif_f rfl ?_
        refine wif_dt c2 ?_
        refine ⟨Mod.refl _ _, true, rfl, fun _ => ?_, fun h => by cases h⟩
        obtain ⟨e, he⟩ := ev_some ha x0 (by omega) c1
        exact ⟨e, he, by rw [ev_lt (by decide)]; rfl⟩
      · have y00 : y = 0 := by omega
        subst y00
        refine wif_t rfl ?_
        exact ⟨Mod.refl _ _, false, rfl, fun h => (by cases h), fun _ => ⟨(fun ⟨e, _, e1⟩ => by rw [ev_lt (by decide)] at e1; cases e1), S, hS, fun t ht => .inl ht⟩⟩
    refine wif_df c2 ?_
    obtain ⟨mq, hmq, hmem⟩ := hS
    refine load_blk0 hK.sxb rfl ?_
    refine at_lookupQ (kv := i2K) (a := ((x, y) : I2)) gx_ok rfl rfl rfl rfl i2Key rfl rfl hmq (hmem (x, y)) ?_
    refine wif_d (fun c3 => ?_) (fun c3 => ?_)
    · exact ⟨Mod.refl _ _, false, rfl, fun h => (by cases h), fun _ => ⟨hno (x, y) c3 (Int.le_refl _), S, ⟨mq, hmq, hmem⟩, fun t ht => .inl ht⟩⟩
    refine load_blk0 hK.sxb rfl ?_
    refine at_mapUpdateQ (kv := i2K) (a := ((x, y) : I2)) gx_ok rfl rfl rfl rfl i2Key rfl rfl rfl hmq (fun w1 hM1 hz1 hq1 => ?_)
    have hK1 := hK.mod hM1
    have hS1 : SeenM w1 p.q ((x, y) :: S) := ⟨_, hq1, fun t => by
      rw [assoc_set]
      by_cases ht : t = (x, y)
      · subst ht; simp
      · rw [if_neg ht, hmem t]; simp [ht]⟩
    have hv64 : min (lvlD p.D.nd x) (lvlD p.E.nd y) < 64 := by
      have := lvl_lt hb.dok (n := y) c2 (by omega)
      rw [Int.min_def]; split <;> omega
    have hl0 := ha.lvl0 (n := x) (by omega)
    have hl1 := hb.lvl0 (n := y) (by omega)
    refine draw_plan gx_ok (Ext w1) 8 [(true, 0), (true, 1), (true, 3), (true, 4), (false, 2), (false, 5), (true, 6), (true, 7)] (by kernel_rfl) (Ext.drew w1) ?_
    refine qloadN (vs := p.D.cells) rfl (fun w' hw' j v hj => by rw [(hK1.axb.ext hw').cell]; exact hj) ?_
    refine qloadN (vs := p.E.cells) rfl (fun w' hw' j v hj => by rw [(hK1.bxb.ext hw').cell]; exact hj) ?_
    refine call (level_fn p.D.A p.D.n p.D.c p.D.r x p.D.nd _ (hK1.as_.ext (Ext.drew w1)) (by omega)) ?_
    rintro u w2 ⟨rfl, hE2⟩
    have hE12 := (Ext.drew w1).trans hE2
    refine ⟨hE12, ?_⟩
    refine call (level_fn p.E.A p.E.n p.E.c p.E.r y p.E.nd _ (hK1.bs.ext hE12) (by omega)) ?_
    rintro u w3 ⟨rfl, hE3⟩
    have hE13 := hE12.trans hE3
    refine ⟨hE13, ?_⟩
    have hmin : (if lvlD p.E.nd y < lvlD p.D.nd x then lvlD p.E.nd y else lvlD p.D.nd x) = min (lvlD p.D.nd x) (lvlD p.E.nd y) := by
      rw [Int.min_def]; split <;> split <;> omega
    refine norm (m := min (lvlD p.D.nd x) (lvlD p.E.nd y)) hmin ?_
    have hkids := meets_kids ha hb x0 (by omega) y0 (by omega) (rfl : min (lvlD p.D.nd x) (lvlD p.E.nd y) = _) hv64
    have hvx : lvlD p.D.nd x = min (lvlD p.D.nd x) (lvlD p.E.nd y) ∨ lvlD p.E.nd y = min (lvlD p.D.nd x) (lvlD p.E.nd y) := by rw [Int.min_def]; split <;> simp
    generalize hveq : min (lvlD p.D.nd x) (lvlD p.E.nd y) = v at *
    obtain ⟨s1, s2, s3, s4, s5⟩ := sideD_le ha.dok (n := x) x0 hv64
    obtain ⟨t1, t2, t3, t4, t5⟩ := sideD_le hb.dok (n := y) y0 hv64
    have dec : (sideD p.D.nd x v).1 + (sideD p.E.nd y v).1 < x + y ∧ (sideD p.D.nd x v).2 + (sideD p.E.nd y v).2 < x + y := by
      rcases hvx with e | e
      · have := s5 e; omega
      · have := t5 e; omega
    have hK3 := hK1.ext hE13
    refine loadN_blk0 hK3.axb rfl ?_
    refine call (dsides_fn p.D.A p.D.n p.D.c p.D.r x v p.D.nd _ hK3.as_ (by omega) hv64) ?_
    rintro u w4 ⟨rfl, hE4⟩
    have hK4 := hK3.ext hE4
    refine loadN_blk0 hK4.bxb rfl ?_
    refine call (dsides_fn p.E.A p.E.n p.E.c p.E.r y v p.E.nd _ hK4.bs (by omega) hv64) ?_
    rintro u w5 ⟨rfl, hE5⟩
    have hK5 := hK4.ext hE5
    have hE15 := (hE13.trans hE4).trans hE5
    have hM5 : Mod (· = p.q) w w5 := hM1.trans (Mod.of_ext (· = p.q) hE15) (fun i hi => .inl hi)
    have hS5 : SeenM w5 p.q ((x, y) :: S) := let ⟨m, k1, k2⟩ := hS1; ⟨m, k1.ext hE15, k2⟩
    refine load_blk0 hK5.cxb rfl ?_
    refine call (ih (sideD p.D.nd x v).1 (sideD p.E.nd y v).1 ((x, y) :: S) w5 hK5 hS5 (fun t ht hle => by
      rcases List.mem_cons.1 ht with rfl | ht
      · exact absurd hle (by simp only; omega)
      · exact hno t ht (by omega)) s1 t1 (by omega) (by omega) (by omega)) ?_
    rintro _ w6 ⟨hM6, r0, rfl, ht0, hf0⟩
    have hM06 : Mod (· = p.q) w w6 := hM5.trans hM6 (fun i hi => .inl hi)
    cases r0 with
    | true =>
      refine wif_t rfl ?_
      exact ⟨hM06, true, rfl, fun _ => hkids.2 (.inl (ht0 rfl)), fun h => by cases h⟩
    | false =>
      obtain ⟨n0, S6, hS6, hin6⟩ := hf0 rfl
      refine wif_f rfl ?_
      have hK6 := hK5.mod hM6
      refine load_blk0 hK6.cxb rfl ?_
      refine call (ih (sideD p.D.nd x v).2 (sideD p.E.nd y v).2 S6 w6 hK6 hS6 (fun t ht hle => by
        rcases hin6 t ht with ht | ht
        · rcases List.mem_cons.1 ht with rfl | ht
          · exact absurd hle (by simp only; omega)
          · exact hno t ht (by omega)
        · exact ht) s3 t3 (by omega) (by omega) (by omega)) ?_
      rintro _ w7 ⟨hM7, r1, rfl, ht1, hf1⟩
      have hM07 : Mod (· = p.q) w w7 := hM06.trans hM7 (fun i hi => .inl hi)
      refine ⟨hM07, r1, rfl, fun h => hkids.2 (.inr (ht1 h)), fun h => ?_⟩
      obtain ⟨n1, S7, hS7, hin7⟩ := hf1 h
      have nn : ¬ Meets p.D.nd x p.E.nd y := fun hh => (hkids.1 hh).elim n0 n1
      refine ⟨nn, S7, hS7, fun t ht => ?_⟩
      rcases hin7 t ht with ht | ht
      · rcases hin6 t ht with ht | ht
        · rcases List.mem_cons.1 ht with rfl | ht
          · exact .inr nn
          · exact .inl ht
        · exact .inr ht
      · exact .inr ht

theorem meets_fn (A : Option Addr) (n c : Nat) (a : List Br) (ra : Int) (B : Option Addr) (m d : Nat) (b : List Br) (rb : Int) (w : World) (h : SB w A n c a) (h' : SB w B m d b) (ha : VD a ra) (hb : VD b rb) :
    Fn Tryz.prog 63 [dgV A n c ra, dgV B m d rb, .bool true] w (fun u w' => ∃ r : Bool, u = .bool r ∧ Ext w w' ∧ (r = true ↔ Meets a ra b rb)) := by
  have hal := h.2
  have hbl := h'.2
  refine fn_of_exec (c := { c63 with cuts := [] }) gx_ok Tryz.func63 rfl rfl rfl ?_
  refine new (fun w1 hE1 hz1 hB1 => ?_)
  refine new (fun w2 hE2 hz2 hB2 => ?_)
  refine new (fun w3 hE3 hz3 hB3 => ?_)
  have hE03 := (hE1.trans hE2).trans hE3
  refine at_makeMapQ gx_ok i2K rfl ?_
  intro w4 hE4 hz4 hq4
  refine new (fun w5 hE5 hz5 hB5 => ?_)
  refine store_mod0 hB5 (by decide) (fun w6 hM6 hB6 => ?_)
  have hE46 : Ext w4 w6 := hM6.ext hE5 (fun i hi => by omega)
  refine new (fun w7 hE7 hz7 hB7 => ?_)
  refine store_mod0 hB7 (by decide) (fun w8 hM8 hB8 => ?_)
  have hE68 : Ext w6 w8 := hM8.ext hE7 (fun i hi => by omega)
  have hE48 := hE46.trans hE68
  have hE38 := hE4.trans hE48
  have hE08 := hE03.trans hE38
  have z6 := hE46.size
  let p : MP := ⟨⟨A, n, c, a, ra⟩, ⟨B, m, d, b, rb⟩, w2.heap.size, w4.heap.size, w.heap.size, w1.heap.size, w6.heap.size, w3.heap.size⟩
  have hK : MK w8 p := by
    refine ⟨hB3.ext hE38, hB6.ext hE68, hB1.ext ((hE2.trans hE3).trans hE38), hB2.ext (hE3.trans hE38), hB8, h.ext hE08, h'.ext hE08, ?_, fun ad e h0 => ?_, fun ad e h0 => ?_⟩
    · simp only [p]; omega
    · have := SB.lt h ad e h0
      simp only [p]; omega
    · have := SB.lt h' ad e h0
      simp only [p]; omega
  refine load_blk0 hK.cxb rfl ?_
  refine load_blk hK.axb rfl ?_
  refine load_blk hK.bxb rfl ?_
  refine call (meets1_fn p ha.rd0 hb.rd0 (ra.toNat + rb.toNat + 1) ra rb [] w8 hK ⟨[], hq4.ext hE48, fun t => rfl⟩ (fun t ht => by cases ht) ha.2.1 hb.2.1 (by have := ha.2.2.1; simp only [p]; omega) (by have := hb.2.2.1; simp only [p]; omega) (by have := ha.2.1; have := hb.2.1; omega)) ?_
  rintro _ w9 ⟨hM9, r, rfl, h1, h2⟩
  refine ⟨r, rfl, hM9.ext hE08 (fun i hi => by simp only [p] at hi; have := hE03.size; omega), ⟨h1, fun hh => ?_⟩⟩
  cases r with
  | true => rfl
  | false => exact absurd hh (h2 rfl).1

open Classical in
/-- What Disjoint answers. -/
noncomputable def disP (a : List Br) (ra : Int) (b : List Br) (rb : Int) : Bool := decide (chkD a ra = 0 ∧ chkD b rb = 0 ∧ ¬ Meets a ra b rb)
open Classical in
theorem disP_iff {a : List Br} {ra : Int} {b : List Br} {rb : Int} : disP a ra b rb = true ↔ chkD a ra = 0 ∧ chkD b rb = 0 ∧ ¬ Meets a ra b rb := by unfold disP; exact decide_eq_true_iff
theorem disP_t {a : List Br} {ra : Int} {b : List Br} {rb : Int} (h : chkD a ra = 0 ∧ chkD b rb = 0 ∧ ¬ Meets a ra b rb) : disP a ra b rb = true := disP_iff.2 h
theorem disP_f {a : List Br} {ra : Int} {b : List Br} {rb : Int} (h : ¬ (chkD a ra = 0 ∧ chkD b rb = 0 ∧ ¬ Meets a ra b rb)) : disP a ra b rb = false := by
  cases hh : disP a ra b rb with
  | false => rfl
  | true => exact absurd (disP_iff.1 hh) h
theorem disjoint_fn (A : Option Addr) (n c : Nat) (a : List Br) (ra : Int) (B : Option Addr) (m d : Nat) (b : List Br) (rb : Int) (w : World) (h : SB w A n c a) (h' : SB w B m d b) :
    Fn Tryz.prog 35 [dgV A n c ra, dgV B m d rb] w (fun u w' => u = .bool (disP a ra b rb) ∧ Ext w w') := by
  refine fn_of_exec (c := { c35 with cuts := [] }) gx_ok Tryz.func35 rfl rfl rfl ?_
  refine new (fun w1 hE1 hz1 hB1 => ?_)
  refine new (fun w2 hE2 hz2 hB2 => ?_)
  have hE02 := hE1.trans hE2
  refine loadN_blk0 (hB1.ext hE2) rfl ?_
  refine loadN_blk0 hB2 rfl ?_
  refine at_buildN gx_ok [(⟨A, n, c, a, ra⟩ : DV).cells, (⟨B, m, d, b, rb⟩ : DV).cells] rfl rfl rfl rfl rfl ⟨rfl, rfl, rfl, rfl, ⟨⟩⟩ rfl (fun cs h => by simp only [List.mem_cons, List.not_mem_nil, or_false] at h; rcases h with rfl | rfl <;> rfl) rfl (by decide) (by decide) ?_
  intro w5 hE5 hz5 hB5
  have hE05 := hE02.trans hE5
  have hL : SlS DV.cells 2 w5 (some ⟨w2.heap.size, 0, none⟩) 2 2 [⟨A, n, c, a, ra⟩, ⟨B, m, d, b, rb⟩] := ⟨Sl.own (sz := 2) (n := 2) hB5 (Nat.le_refl _) (by decide) (by simp [DV.cells]), rfl⟩
  refine call (dcheck_fn _ 2 2 _ w5 hL (fun x hx => by
    simp only [List.mem_cons, List.not_mem_nil, or_false] at hx
    rcases hx with rfl | rfl
    · exact h.ext hE05
    · exact h'.ext hE05)) ?_
  rintro v w6 ⟨rfl, hE6⟩
  have hE06 := hE05.trans hE6
  have ef : firstD [(⟨A, n, c, a, ra⟩ : DV), ⟨B, m, d, b, rb⟩] = if chkD a ra ≠ 0 then chkD a ra else if chkD b rb ≠ 0 then chkD b rb else 0 := rfl
  have hf0 : firstD [(⟨A, n, c, a, ra⟩ : DV), ⟨B, m, d, b, rb⟩] = 0 ↔ chkD a ra = 0 ∧ chkD b rb = 0 := by
    rw [ef]
    by_cases h1 : chkD a ra = 0
    · rw [if_neg (fun hh => hh h1)]
      by_cases h2 : chkD b rb = 0
      · rw [if_neg (fun hh => hh h2)]; simp [h1, h2]
      · rw [if_pos h2]; simp [h2]
    · rw [if_pos h1]; simp [h1]
  refine wif_eq (fun c1 => ?_) (fun c1 => ?_)
  · obtain ⟨ca, cb⟩ := hf0.1 c1
    refine loadN_blk0 ((hB1.ext hE2).ext (hE5.trans hE6)) rfl ?_
    refine loadN_blk0 (hB2.ext (hE5.trans hE6)) rfl ?_
    refine call (meets_fn A n c a ra B m d b rb w6 (h.ext hE06) (h'.ext hE06) (chkD_zero.1 ca).2 (chkD_zero.1 cb).2) ?_
    rintro _ w7 ⟨r, rfl, hE7, hr⟩
    refine ⟨?_, hE06.trans hE7⟩
    cases r with
    | true => rw [disP_f (fun hh => hh.2.2 (hr.1 rfl))]; rfl
    | false => rw [disP_t ⟨ca, cb, fun hh => by have := hr.2 hh; cases this⟩]; rfl
  · exact ⟨by rw [disP_f (fun hh => c1 (hf0.2 ⟨hh.1, hh.2.1⟩))], hE06⟩

/-! ### Dead -/
def ixV (l : List Nat) : List Value := l.map (fun (i : Nat) => Value.int .i64 i)
noncomputable def deadL (b : List Br) (rb : Int) : Nat → List Sx → List Nat
  | _, [] => []
  | i, y :: L => if disP y.x.nd y.x.r b rb then i :: deadL b rb (i + 1) L else deadL b rb (i + 1) L
noncomputable def deadP (tx : List Nat) (L : List Sx) (b : List Br) (rb : Int) : List Nat × Int :=
  if chkS tx L ≠ 0 then ([], chkS tx L) else if chkD b rb ≠ 0 then ([], 20) else (deadL b rb 0 L, 0)
structure DeadI (w0 : World) (base : Nat) (b : List Br) (rb : Int) (L : List Sx) (i : Nat) (O : Option Addr) (oc : Nat) (l : List Nat) (w : World) : Prop where
  e : Ext w0 w
  le : i ≤ L.length
  ln : l.length ≤ i
  own : Own w base 3 1 O l.length oc (ixV l)
  rs : deadL b rb 0 L = l ++ deadL b rb i (L.drop i)

set_option maxHeartbeats 1600000 in
theorem sdead_fn (tx : List Nat) (A : Option Addr) (n cp : Nat) (L : List Sx) (B : Option Addr) (m d : Nat) (b : List Br) (rb : Int) (w : World) (h : SX w A n cp L) (h' : SB w B m d b) (h8 : ∀ x ∈ tx, x < 256) :
    Fn Tryz.prog 25 [srcV tx A n cp, dgV B m d rb] w (fun u w' => ∃ O oc, u = .tuple #[.slice O (deadP tx L b rb).1.length oc, .int .i64 (deadP tx L b rb).2] ∧ Ext w w' ∧ Sl w' 1 O (deadP tx L b rb).1.length oc (ixV (deadP tx L b rb).1)) := by
  have hlen := h.sl.2
  refine fn_of_exec (c := { c25 with cuts := [] }) gx_ok Tryz.func25 rfl rfl rfl ?_
  refine new (fun w1 hE1 hz1 hB1 => ?_)
  refine new (fun w2 hE2 hz2 hB2 => ?_)
  have hE02 := hE1.trans hE2
  refine loadN_blk0 (hB1.ext hE2) rfl ?_
  refine call (scheck_fn tx A n cp L w2 (h.ext hE02) h8) ?_
  rintro _ w3 ⟨rfl, hE3⟩
  have hE03 := hE02.trans hE3
  refine wif_ne (fun c1 => ?_) (fun c1 => ?_)
  · have e : deadP tx L b rb = ([], chkS tx L) := if_pos c1
    rw [e]
    exact ⟨none, 0, rfl, hE03, (Own.nil w3 0 0 1).sl⟩
  refine loadN_blk0 (hB2.ext hE3) rfl ?_
  refine call (check2_fn B m d b rb w3 (h'.ext hE03)) ?_
  rintro _ w4 ⟨rfl, hE4⟩
  have hE04 := hE03.trans hE4
  refine wif_ne (fun c2 => ?_) (fun c2 => ?_)
  · have e : deadP tx L b rb = ([], 20) := by unfold deadP; rw [if_neg (fun hh => hh c1), if_pos c2]
    rw [e]
    exact ⟨none, 0, rfl, hE04, (Own.nil w4 0 0 1).sl⟩
  have e : deadP tx L b rb = (deadL b rb 0 L, 0) := by unfold deadP; rw [if_neg (fun hh => hh c1), if_neg (fun hh => hh c2)]
  rw [e]
  obtain ⟨t1, t2, t3⟩ := chkS_zero.1 c1
  have hE24 := hE3.trans hE4
  refine load_blk ((hB1.ext hE2).ext hE24) rfl ?_
  refine loop gx_ok [21, 7] (fun s : Nat × Option Addr × Nat × List Nat => [.int .i64 s.1, .slice s.2.1 s.2.2.2.length s.2.2.1]) (fun s w' => DeadI w4 w4.heap.size b rb L s.1 s.2.1 s.2.2.1 s.2.2.2 w') (fun s _ => L.length - s.1) (0, none, 0, []) rfl ⟨Ext.refl _, Nat.zero_le _, Nat.le_refl _, Own.nil _ _ _ _, rfl⟩ ?_
  rintro ⟨i, O, oc, l⟩ w5 hI
  have hE05 := hE04.trans hI.e
  have ho := hI.own
  have hle := hI.le
  have hln := hI.ln
  have hrs := hI.rs
  simp only at ho hle hln hrs
  refine wif_d (fun c3 => ?_) (fun c3 => ?_)
  · have hi : i < n := by simp only at c3; omega
    refine index_sls sx_len (h.ext hE05).sl rfl hi (fun p y hy hcl => ?_)
    have hy : L[i]? = some y := hy
    have hym := List.mem_of_getElem? hy
    rw [drop_get hy, deadL] at hrs
    refine loadN_at (vs := y.cells) rfl hcl ?_
    refine new (fun w6 hE6 hz6 hB6 => ?_)
    refine storeN_blk0 hB6 rfl (sc rfl) (fun w7 hg7 _ hB7 => ?_)
    have hE57 : Ext w5 w7 := newBox hE6 hB6 hg7
    have hE07 := hE05.trans hE57
    refine loadN_at (vs := [.slice y.x.A y.x.n y.x.c, .int .i64 y.x.r]) rfl (fun j v hj => by rw [Addr.add_add]; exact (hB7.cell _).trans (by match j, hj with | 0, hj => exact hj | 1, hj => exact hj)) ?_
    refine loadN_blk0 (hB2.ext (hE24.trans (hI.e.trans hE57))) rfl ?_
    refine call (disjoint_fn y.x.A y.x.n y.x.c y.x.nd y.x.r B m d b rb w7 ((h.dg y hym).ext hE07) (h'.ext hE07)) ?_
    rintro _ w8 ⟨rfl, hE8⟩
    have hE58 := hE57.trans hE8
    refine wif (fun d1 => ?_) (fun d1 => ?_)
    · rw [if_pos d1] at hrs
      refine at_buildN gx_ok [[Value.int .i64 ((i : Nat) : Int)]] rfl rfl rfl rfl rfl ⟨rfl, rfl, ⟨⟩⟩ rfl (fun cs hh => by simp only [List.mem_singleton] at hh; subst hh; rfl) rfl (by decide) (by decide) ?_
      intro w9 hE9 hz9 hB9
      have hE59 := hE58.trans hE9
      have hs9 : Sl w9 1 (some ⟨w8.heap.size, 0, none⟩) 1 1 [Value.int .i64 ((i : Nat) : Int)] := Sl.own (sz := 1) (n := 1) hB9 (Nat.le_refl _) (by decide) (by simp)
      refine at_app (n := l.length) gx_ok rfl rfl rfl rfl rfl (by decide) rfl rfl ⟨_, rfl⟩ rfl rfl (ho.ext hE59) hs9 (by simp [scalar]) (by unfold maxLen; omega) (by show (l.length + 1) * 8 ≤ _; omega) (by have := hI.e.size; have := hE59.size; omega) ?_
      intro A' c' w10 hm10 hown10 hmv10
      refine norm_i64_to ((i + 1 : Nat) : Int) (by show ((i : Nat) : Int) + 1 = _; omega) (by omega) ?_
      refine ⟨(i + 1, A', c', l ++ [i]), by simp only [List.length_append]; rfl, ⟨hm10.ext (hI.e.trans hE59) (fun k hk => (ho.rows k hk).1), by show i + 1 ≤ L.length; omega, by simp; omega, ?_, ?_⟩, by show L.length - (i + 1) < L.length - i; omega⟩
      · simp only
        have e2 : ixV (l ++ [i]) = ixV l ++ [Value.int .i64 ((i : Nat) : Int)] := by simp [ixV]
        rw [e2, List.length_append]
        exact hown10
      · simp only
        rw [hrs]; simp
    · rw [if_neg (by rw [d1]; decide)] at hrs
      refine norm_i64_to ((i + 1 : Nat) : Int) (by show ((i : Nat) : Int) + 1 = _; omega) (by omega) ?_
      exact ⟨(i + 1, O, oc, l), rfl, ⟨hI.e.trans hE58, by show i + 1 ≤ L.length; omega, by show l.length ≤ i + 1; omega, ho.ext hE58, hrs⟩, by show L.length - (i + 1) < L.length - i; omega⟩
  · rw [List.drop_eq_nil_of_le (by simp only at c3; omega), deadL, List.append_nil] at hrs
    rw [hrs]
    exact ⟨O, oc, rfl, hE05, ho.sl⟩
end
end
end Go.Proofs.YtedopgkbajhanaaGreatDoor
