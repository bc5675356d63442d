/-
  source.reader: its state in memory; fail, want, set, split, deeper, number.
  source.reader: clone, add, branch.
  source.reader.branch; sections in memory.
  Conditions: none.
-/
import Derived.Test.YtedopgkbajhanaaGreatDoorS1
namespace Go.Proofs.YtedopgkbajhanaaGreatDoor
section
open Go Go.RowKit

/-! ### The reader in memory -/
/-- What stays as it is: names, files, the maps' places. -/
structure RP where
  r : Nat
  q : Nat
  nq : Nat
  NA : Option Addr
  nn : Nat
  nc : Nat
  nm : List (List Nat)
  FA : Option Addr
  nf : Nat
  cf : Nat
  fs : List (List Nat × List Nat)
def fileC (x : List Nat × List Nat) : List Value := [.string (strOf x.1), .string (strOf x.2)]
theorem file_len (x : List Nat × List Nat) : (fileC x).length = 2 := rfl
structure FileOk (x : List Nat × List Nat) : Prop where
  n8 : ∀ b ∈ x.1, b < 256
  t8 : ∀ b ∈ x.2, b < 256
  nl : x.1.length ≤ 9223372036854775807
  tl : x.2.length ≤ 1048576
  ok : TextOk x.2
structure RPok (w0 : World) (p : RP) : Prop where
  nms : Sl w0 1 p.NA p.nn p.nc (strsV p.nm)
  nmb : NamesOk p.nm
  nmk : p.nm.length ≤ 12
  fls : SlS fileC 2 w0 p.FA p.nf p.cf p.fs
  flb : ∀ x ∈ p.fs, FileOk x
  nqm : MapAt strK w0 p.nq (nameM (p.fs.map (·.1)) 0 [])
/-- Where the rows lie. -/
structure RM where
  OA : Option Addr
  oc : Nat
  BA : Option Addr
  bc : Nat
  L : List DV
  pa : Value
  T : Nat → Prop
structure RV where
  d : Nat
  fl : Nat
  ln : Nat
  rd : List Nat
  g : Gs
def sgC (x : Sg × DV) : List Value := [.int .i64 x.1.f, .int .i64 x.1.t, .int .i64 x.1.fl, .int .i64 x.1.at_, .slice x.2.A x.2.n x.2.c, .int .i64 x.2.r]
theorem sg_len (x : Sg × DV) : (sgC x).length = 6 := rfl
def sgV (l : List Sg) (L : List DV) : List Value := (l.zip L).flatMap sgC
abbrev rdC (p : RP) (m : RM) (v : RV) : List Value := [.slice p.NA p.nn p.nc, .slice p.FA p.nf p.cf, .map (some p.nq), .map (some p.q), .int .i64 v.d, m.pa, .slice m.BA v.g.tx.length m.bc, .slice m.OA v.g.sg.length m.oc, .bool v.g.fr, .int .i64 v.fl, .int .i64 v.ln]
/-- What the reader writes. -/
def RS (p : RP) (m : RM) : Nat → Prop := fun k => k = p.r ∨ k = p.q ∨ rowS m.OA k ∨ rowS m.BA k
/-- And what else is written while the reader is at work. -/
def TS (p : RP) (m : RM) : Nat → Prop := fun k => RS p m k ∨ m.T k
structure Rr (w0 w : World) (base : Nat) (p : RP) (m : RM) (v : RV) : Prop where
  e0 : Ext w0 w
  lor : w0.heap.size ≤ p.r
  loq : w0.heap.size ≤ p.q
  rb : p.r < base
  qb : p.q < base
  ne : p.r ≠ p.q
  top : base ≤ w.heap.size
  pa : m.pa = .pointer none ∨ m.pa = .pointer (some (adr p.r 5))
  blk : Blk w p.r 88 (rdC p m v)
  txt : Own w base 5 1 m.BA v.g.tx.length m.bc (bytesV v.g.tx)
  out : Own w base 45 6 m.OA v.g.sg.length m.oc (sgV v.g.sg m.L)
  len : m.L.length = v.g.sg.length
  dgs : ∀ (j : Nat) (s : Sg) (x : DV), v.g.sg[j]? = some s → m.L[j]? = some x → DgO w (TS p m) p.nm.length x s.o
  rdm : ∃ mp, MapAt intK w p.q mp ∧ (mp.map (·.1)).Nodup ∧ ∀ n : Nat, assoc (n : Int) mp = if n ∈ v.rd then some (.bool true) else none
  tl : v.g.tx.length ≤ 1048576
  sl : v.g.sg.length ≤ 65536
  b8 : ∀ x ∈ v.g.tx, x < 256
  nf : v.g.fr = false → v.g.sg ≠ [] ∨ v.rd = []
  tt : ∀ i, m.T i → i < w.heap.size
section
variable {w0 w w' : World} {base : Nat} {p : RP} {m : RM} {v : RV}
theorem Rr.lo (h : Rr w0 w base p m v) : ∀ i, RS p m i → w0.heap.size ≤ i := fun i hi => by
  have := h.lor; have := h.loq; have := h.rb
  rcases hi with rfl | rfl | hi | hi
  · assumption
  · assumption
  · have := (h.out.rows i hi).1; omega
  · have := (h.txt.rows i hi).1; omega
theorem Rr.hi (h : Rr w0 w base p m v) : ∀ i, RS p m i → i < w.heap.size := fun i hi => by
  have := h.rb; have := h.qb; have := h.top
  rcases hi with rfl | rfl | hi | hi
  · omega
  · omega
  · exact (h.out.rows i hi).2
  · exact (h.txt.rows i hi).2
theorem Rr.ext (h : Rr w0 w base p m v) (k : Ext w w') : Rr w0 w' base p m v :=
  ⟨h.e0.trans k, h.lor, h.loq, h.rb, h.qb, h.ne, Nat.le_trans h.top k.size, h.pa, h.blk.ext k, h.txt.ext k, h.out.ext k, h.len, fun j s x h1 h2 => (h.dgs j s x h1 h2).ext k, let ⟨mp, h1, h2⟩ := h.rdm; ⟨mp, h1.ext k, h2⟩, h.tl, h.sl, h.b8, h.nf, fun i hi => Nat.lt_of_lt_of_le (h.tt i hi) k.size⟩
theorem RS.moved {m' : RM} (h1 : Moved w m.OA m'.OA) (h2 : Moved w m.BA m'.BA) : ∀ k, RS p m' k → RS p m k ∨ w.heap.size ≤ k := by
  rintro k (rfl | rfl | hk | hk)
  · exact .inl (.inl rfl)
  · exact .inl (.inr (.inl rfl))
  · rcases h1.rows k hk with h | h
    · exact .inl (.inr (.inr (.inl h)))
    · exact .inr h
  · rcases h2.rows k hk with h | h
    · exact .inl (.inr (.inr (.inr h)))
    · exact .inr h
theorem TS.moved {m' : RM} (hT : m'.T = m.T) (h1 : Moved w m.OA m'.OA) (h2 : Moved w m.BA m'.BA) : ∀ k, TS p m' k → TS p m k ∨ w.heap.size ≤ k := by
  rintro k (hk | hk)
  · rcases RS.moved (p := p) h1 h2 k hk with h | h
    · exact .inl (.inl h)
    · exact .inr h
  · exact .inl (.inr (by rw [← hT]; exact hk))
theorem Rr.hiT (h : Rr w0 w base p m v) : ∀ i, TS p m i → i < w.heap.size := fun i hi => hi.elim (h.hi i) (h.tt i)
/-- A field of the reader is written. -/
theorem Rr.nrow (h : Rr w0 w base p m v) : ¬ rowS m.OA p.r ∧ ¬ rowS m.BA p.r := by
  have := h.rb
  exact ⟨fun hi => by have := (h.out.rows _ hi).1; omega, fun hi => by have := (h.txt.rows _ hi).1; omega⟩
theorem Rr.put (h : Rr w0 w base p m v) {v' : RV} (hm : Mod (· = p.r) w w') (hB : Blk w' p.r 88 (rdC p m v')) (h1 : v'.g.tx = v.g.tx) (h2 : v'.g.sg = v.g.sg) (h3 : v'.rd = v.rd) (h4 : v'.g.fr = false → v'.g.sg ≠ [] ∨ v'.rd = []) : Rr w0 w' base p m v' := by
  have hE := hm.ext h.e0 (fun i hi => by subst hi; exact h.lor)
  refine ⟨hE, h.lor, h.loq, h.rb, h.qb, h.ne, Nat.le_trans h.top hm.size, h.pa, hB, ?_, ?_, by rw [h2]; exact h.len, fun j s x hs hx => ?_, ?_, by rw [h1]; exact h.tl, by rw [h2]; exact h.sl, by rw [h1]; exact h.b8, h4, fun i hi => Nat.lt_of_lt_of_le (h.tt i hi) hm.size⟩
  · rw [h1]; exact h.txt.mod hm (fun i hi e => by subst e; exact h.nrow.2 hi)
  · rw [h2]; exact h.out.mod hm (fun i hi e => by subst e; exact h.nrow.1 hi)
  · rw [h2] at hs; exact (h.dgs j s x hs hx).keep hm (fun i hi => .inl (.inl (.inl hi)))
  · obtain ⟨mp, k1, k2⟩ := h.rdm
    rw [h3]
    exact ⟨mp, k1.mod hm (fun e => h.ne e.symm), k2⟩
end
/-- The reader has gone on. -/
def GTo (w0 w : World) (base : Nat) (p : RP) (m : RM) (v : RV) (w' : World) : Prop := ∃ m', m'.T = m.T ∧ Rr w0 w' base p m' v ∧ Mod (RS p m) w w' ∧ Moved w m.OA m'.OA ∧ Moved w m.BA m'.BA

/-! ### fail, want, set, split -/
def failPan (e f l : Int) : List PanicEntry := [{ v := .iface 90 (.agg #[.int .i64 e, .int .i64 f, .int .i64 l]), recovered := false }]
section
variable {w0 : World} {base : Nat} {p : RP} {m : RM} {v : RV}

theorem fail_fn (e : Int) (w : World) (h : Rr w0 w base p m v) :
    FnP Tryz.prog 78 [.pointer (some ⟨p.r, 0, none⟩), .int .i64 e] w (fun _ _ => False) (fun ch w' => ch = failPan e v.fl v.ln ∧ Ext w w') := by
  refine fnP_of_exec (c := { c78 with cuts := [] }) gx_ok Tryz.func78 rfl rfl rfl ?_
  have hB := h.blk
  refine draw_tail gx_ok 12 (by kernel_rfl) ?_
  refine qload (v := .int .i64 v.fl) (fun w' hw' => by subst hw'; rw [(hB.ext (Ext.drew w)).cell]; rfl) ?_
  refine qload (v := .int .i64 v.ln) (fun w' hw' => by subst hw'; rw [(hB.ext (Ext.drew w)).cell]; rfl) ?_
  exact at_panic rfl rfl ⟨rfl, Ext.drew w⟩

theorem want_fn (x : DV) (w : World) : Fn Tryz.prog 115 [.pointer (some ⟨p.r, 0, none⟩), dgV x.A x.n x.c x.r, .int .i64 0] w (fun u w' => u = dgV x.A x.n x.c x.r ∧ Ext w w') := by
  refine fn_of_exec (c := { c115 with cuts := [] }) gx_ok Tryz.func115 rfl rfl rfl ?_
  refine new (fun w1 hE1 hz1 hB1 => ?_)
  refine new (fun w2 hE2 hz2 hB2 => ?_)
  refine wif_nef rfl ?_
  refine loadN_blk0 (hB1.ext hE2) rfl ?_
  refine storeN_blk0 hB2 rfl (sc rfl) (fun w3 hg3 _ hB3 => ?_)
  have hE3 : Ext w1 w3 := newBox hE2 hB2 hg3
  refine loadN_blk0 hB3 rfl ?_
  exact ⟨rfl, hE1.trans hE3⟩

/-- A set that the call made. -/
def DgF (w : World) (k : Nat) (o : BF) (u : Value) (w' : World) : Prop := ∃ x : DV, u = dgV x.A x.n x.c x.r ∧ Ext w w' ∧ SB w' x.A x.n x.c x.nd ∧ Set1 k x.nd x.r o ∧ ∀ i, rowS x.A i → w.heap.size ≤ i

theorem set_fn (s : List Nat) (w : World) (hP : RPok w0 p) (h : Rr w0 w base p m v) (h8 : ∀ x ∈ s, x < 256) (hl : s.length ≤ 1000000000000) :
    FnP Tryz.prog 74 [.pointer (some ⟨p.r, 0, none⟩), .string (strOf s)] w (fun u w' => ∃ o, setE p.nm s = .ok o ∧ DgF w p.nm.length o u w') (fun ch w' => ∃ e, setE p.nm s = .error e ∧ ch = failPan e v.fl v.ln ∧ Ext w w') := by
  refine fnP_of_exec (c := { c74 with cuts := [] }) gx_ok Tryz.func74 rfl rfl rfl ?_
  refine new (fun w1 hE1 hz1 hB1 => ?_)
  refine load_blk0 (h.blk.ext hE1) rfl ?_
  refine call (parse_fn p.nm p.NA p.nn p.nc s w1 ((hP.nms.ext h.e0).ext hE1) hP.nmb h8 hl) ?_
  rw [parse_T]
  have hse : setE p.nm s = match parseT p.nm s with
    | .ok t => .ok (evF t)
    | .error e => .error (if e = 2 then 2 else 71) := rfl
  cases hpt : parseT p.nm s with
  | ok t =>
    rw [hpt] at hse
    obtain ⟨k1, k2, k3⟩ := parseT_ok hpt
    rintro _ w2 ⟨G, mg, cG, rfl, hE2, hG⟩
    have hk := hP.nmk
    refine wif_eqt rfl ?_
    refine call (fdiagram_fn G mg cG _ p.nm.length hk w2 hG (post_FV (k2.mono (by omega)) k3) (post_vars t _ 0 k2)) ?_
    rintro _ w3 ⟨D, md, cD, nd, r, rfl, hE3, hD, hS, hR⟩
    rw [treeOf_post] at hS
    refine call (want_fn ⟨D, md, cD, nd, r⟩ w3) ?_
    rintro _ w4 ⟨rfl, hE4⟩
    have hE14 := (hE2.trans hE3).trans hE4
    refine storeN_blk0 (hB1.ext hE14) rfl (sc rfl) (fun w5 hg5 _ hB5 => ?_)
    have hM5 : Mod (· = w.heap.size) w4 w5 := Mod.of_grown hg5 rfl
    refine loadN_blk0 hB5 rfl ?_
    have hz2 := hE2.size
    exact ⟨_, hse, ⟨D, md, cD, nd, r⟩, rfl, hM5.ext (hE1.trans hE14) (fun i hi => by omega), SB.mod (hD.ext hE4) hM5 (fun i hi e => by have := hR i hi; omega), hS, fun i hi => by have := hR i hi; omega⟩
  | error e =>
    rw [hpt] at hse
    rintro _ w2 ⟨G, mg, cG, rfl, hE2, hG⟩
    have hE12 := hE1.trans hE2
    have h2 := h.ext hE12
    rcases parseT_err hpt with rfl | rfl | rfl | rfl
    · refine wif_eqf (by decide) ?_
      refine wif_eqf (by decide) ?_
      refine callP (fail_fn 71 w2 h2) (fun _ _ hf => hf.elim) ?_
      rintro ch w3 ⟨rfl, hE3⟩
      exact ⟨_, hse, rfl, hE12.trans hE3⟩
    · refine wif_eqf (by decide) ?_
      refine wif_eqt rfl ?_
      refine callP (fail_fn 2 w2 h2) (fun _ _ hf => hf.elim) ?_
      rintro ch w3 ⟨rfl, hE3⟩
      exact ⟨_, hse, rfl, hE12.trans hE3⟩
    · refine wif_eqf (by decide) ?_
      refine wif_eqf (by decide) ?_
      refine callP (fail_fn 71 w2 h2) (fun _ _ hf => hf.elim) ?_
      rintro ch w3 ⟨rfl, hE3⟩
      exact ⟨_, hse, rfl, hE12.trans hE3⟩
    · refine wif_eqf (by decide) ?_
      refine wif_eqf (by decide) ?_
      refine callP (fail_fn 71 w2 h2) (fun _ _ hf => hf.elim) ?_
      rintro ch w3 ⟨rfl, hE3⟩
      exact ⟨_, hse, rfl, hE12.trans hE3⟩

theorem split_fn (k : Nat) (hk : k ≤ 12) (x y : DV) (o o' : BF) (w : World) (hx : SB w x.A x.n x.c x.nd) (hxs : Set1 k x.nd x.r o) (hy : SB w y.A y.n y.c y.nd) (hys : Set1 k y.nd y.r o') :
    Fn Tryz.prog 76 [.pointer (some ⟨p.r, 0, none⟩), dgV x.A x.n x.c x.r, dgV y.A y.n y.c y.r] w (fun u w' => ∃ a b : DV, u = .tuple #[dgV a.A a.n a.c a.r, dgV b.A b.n b.c b.r] ∧ Ext w w' ∧ SB w' a.A a.n a.c a.nd ∧ Set1 k a.nd a.r (bAnd o o') ∧ (∀ i, rowS a.A i → w.heap.size ≤ i) ∧ SB w' b.A b.n b.c b.nd ∧ Set1 k b.nd b.r (bSub o o') ∧ ∀ i, rowS b.A i → w.heap.size ≤ i) := by
  refine fn_of_exec (c := { c76 with cuts := [] }) gx_ok Tryz.func76 rfl rfl rfl ?_
  refine new (fun w1 hE1 hz1 hB1 => ?_)
  refine new (fun w2 hE2 hz2 hB2 => ?_)
  refine new (fun w3 hE3 hz3 hB3 => ?_)
  refine new (fun w4 hE4 hz4 hB4 => ?_)
  have hE34 := hE3.trans hE4
  have hE24 := hE2.trans hE34
  have hE04 := hE1.trans hE24
  refine loadN_blk0 (hB1.ext hE24) rfl ?_
  refine loadN_blk0 (hB2.ext hE34) rfl ?_
  have hx4 := hx.ext hE04
  have hy4 := hy.ext hE04
  refine call (dand_fn x.A x.n x.c x.nd x.r y.A y.n y.c y.nd y.r w4 hx4 hy4) ?_
  rw [op_set hk hxs hys 0]
  have c1 : Set1 k _ _ (bAnd o o') := (comb_set hxs hys 0).congr (fun e => by simp [opB])
  generalize combD x.nd x.r y.nd y.r 0 = D at *
  obtain ⟨D1, D2⟩ := D
  rintro _ w5 ⟨PA, pn, pc, rfl, hE5, hP5, hR5⟩
  refine call (want_fn ⟨PA, pn, pc, D1, D2⟩ w5) ?_
  rintro _ w6 ⟨rfl, hE6⟩
  have hE46 := hE5.trans hE6
  refine storeN_blk0 ((hB3.ext hE4).ext hE46) rfl (sc rfl) (fun w7 hg7 _ hB7 => ?_)
  have hM7 : Mod (· = w2.heap.size) w6 w7 := Mod.of_grown hg7 rfl
  have hE06 := hE04.trans hE46
  have hE07 : Ext w w7 := hM7.ext hE06 (fun i hi => by omega)
  have n12 : ¬ w.heap.size = w2.heap.size := by omega
  have n22 : ¬ w1.heap.size = w2.heap.size := by omega
  have hB17 := ((hB1.ext hE24).ext hE46).mod hM7 n12
  have hB27 := ((hB2.ext hE34).ext hE46).mod hM7 n22
  have hB47 := (hB4.ext hE46).mod hM7 (by show ¬ w3.heap.size = w2.heap.size; omega)
  have hP7 := SB.mod (hP5.ext hE6) hM7 (fun i hi e => by have := hR5 i hi; omega)
  refine draw_plan gx_ok (Ext w7) 12 [(true, 0), (true, 1), (true, 2), (true, 3), (false, 4), (true, 5), (true, 6), (false, 7), (false, 8), (true, 9), (true, 10), (false, 11)] (by kernel_rfl) (Ext.drew w7) ?_
  refine qloadN (vs := x.cells) rfl (fun w' hw' j u hj => by rw [(hB17.ext hw').cell]; exact hj) ?_
  refine qloadN (vs := y.cells) rfl (fun w' hw' j u hj => by rw [(hB27.ext hw').cell]; exact hj) ?_
  have hd := Ext.drew w7
  refine call (dnot_fn y.A y.n y.c y.nd y.r _ ((hy.ext hE07).ext hd)) ?_
  have c0 : Set1 k [] 0 (fun _ => false) := const_set k false
  rw [op_set hk hys c0 3]
  have c2 : Set1 k _ _ (fun e => !o' e) := (comb_set hys c0 3).congr (fun e => by simp [opB])
  generalize combD y.nd y.r [] 0 3 = F at *
  obtain ⟨F1, F2⟩ := F
  rintro _ w8 ⟨QA, qn, qc, rfl, hE8, hQ8, hR8⟩
  refine ⟨hd.trans hE8, ?_⟩
  refine call (want_fn ⟨QA, qn, qc, F1, F2⟩ w8) ?_
  rintro _ w9 ⟨rfl, hE9⟩
  have hE79 := (hd.trans hE8).trans hE9
  refine ⟨hE79, ?_⟩
  refine call (dand_fn x.A x.n x.c x.nd x.r QA qn qc F1 F2 w9 ((hx.ext hE07).ext hE79) (hQ8.ext hE9)) ?_
  rw [op_set hk hxs c2 0]
  have c3 : Set1 k _ _ (bSub o o') := (comb_set hxs c2 0).congr (fun e => by simp [opB])
  generalize combD x.nd x.r F1 F2 0 = G at *
  obtain ⟨G1, G2⟩ := G
  rintro _ w10 ⟨RA, rn, rc, rfl, hE10, hR10, hS10⟩
  refine ⟨hE79.trans hE10, ?_⟩
  refine call (want_fn ⟨RA, rn, rc, G1, G2⟩ w10) ?_
  rintro _ w11 ⟨rfl, hE11⟩
  have hE711 := (hE79.trans hE10).trans hE11
  refine ⟨hE711, ?_⟩
  refine storeN_blk0 (hB47.ext hE711) rfl (sc rfl) (fun w12 hg12 _ hB12 => ?_)
  have hM12 : Mod (· = w3.heap.size) w11 w12 := Mod.of_grown hg12 rfl
  have hE012 : Ext w w12 := hM12.ext (hE07.trans hE711) (fun i hi => by omega)
  have hB712 := (hB7.ext hE711).mod hM12 (by show ¬ w2.heap.size = w3.heap.size; omega)
  have hz7 := hE07.size
  have hz9 := hE79.size
  have hz12 := hM12.size
  have hz711 := hE711.size
  have hz46 := hE46.size
  have hz67 := hM7.size
  have hP12 := SB.mod (hP7.ext hE711) hM12 (fun i hi e => by have := hR5 i hi; omega)
  have hR12 := SB.mod (hR10.ext hE11) hM12 (fun i hi e => by have := hS10 i hi; omega)
  have hd12 := Ext.drew w12
  have n23 : ¬ w3.heap.size = w2.heap.size := by omega
  refine draw_plan gx_ok (fun w' => Mod (fun i => i = w2.heap.size ∨ i = w3.heap.size) w12 w' ∧ Blk w' w2.heap.size 42 (⟨PA, pn, pc, D1, D2⟩ : DV).cells ∧ Blk w' w3.heap.size 42 (⟨RA, rn, rc, G1, G2⟩ : DV).cells) 4 [(true, 0), (true, 1), (false, 2), (false, 3)] (by kernel_rfl) ⟨Mod.of_ext _ hd12, hB712.ext hd12, hB12.ext hd12⟩ ?_
  refine qloadN (vs := (⟨PA, pn, pc, D1, D2⟩ : DV).cells) rfl (fun w' hw' j u hj => by rw [hw'.2.1.cell]; exact hj) ?_
  refine qloadN (vs := (⟨RA, rn, rc, G1, G2⟩ : DV).cells) rfl (fun w' hw' j u hj => by rw [hw'.2.2.cell]; exact hj) ?_
  refine storeN_blk0 (hB712.ext hd12) rfl (sc rfl) (fun w13 hg13 _ hB13 => ?_)
  have hM13 : Mod (· = w2.heap.size) w12.drew w13 := Mod.of_grown hg13 rfl
  have hM13' : Mod (fun i => i = w2.heap.size ∨ i = w3.heap.size) w12 w13 := (Mod.of_ext _ hd12).trans hM13 (fun i hi => .inl (.inl hi))
  have hB313 := (hB12.ext hd12).mod hM13 n23
  refine ⟨⟨hM13', hB13, hB313⟩, ?_⟩
  refine storeN_blk0 hB313 rfl (sc rfl) (fun w14 hg14 _ hB14 => ?_)
  have hM14 : Mod (· = w3.heap.size) w13 w14 := Mod.of_grown hg14 rfl
  have hB214 := hB13.mod hM14 (fun e => n23 e.symm)
  have hM014 := hM13'.trans hM14 (fun i hi => .inl (.inr hi))
  refine ⟨⟨hM014, hB214, hB14⟩, ?_⟩
  refine loadN_blk0 hB214 rfl ?_
  refine loadN_blk0 hB14 rfl ?_
  have hE014 : Ext w w14 := hM014.ext hE012 (fun i hi => by rcases hi with rfl | rfl <;> omega)
  exact ⟨⟨PA, pn, pc, D1, D2⟩, ⟨RA, rn, rc, G1, G2⟩, rfl, hE014, SB.mod hP12 hM014 (fun i hi e => by have := hR5 i hi; omega), c1, fun i hi => by have := hR5 i hi; have := hE04.size; omega,
    SB.mod hR12 hM014 (fun i hi e => by have := hS10 i hi; omega), c3, fun i hi => by have := hS10 i hi; omega⟩

theorem deeper_fn (w : World) (h : Rr w0 w base p m v) (hd : v.d ≤ 64) :
    FnP Tryz.prog 75 [.pointer (some ⟨p.r, 0, none⟩)] w (fun _ w' => v.d ≠ 64 ∧ Rr w0 w' base p m { v with d := v.d + 1 } ∧ Mod (· = p.r) w w') (fun ch w' => v.d = 64 ∧ ch = failPan 2 v.fl v.ln ∧ Ext w w') := by
  refine fnP_of_exec (c := { c75 with cuts := [] }) gx_ok Tryz.func75 rfl rfl rfl ?_
  refine load_blk h.blk rfl ?_
  refine wif_eq (fun h1 => ?_) (fun h1 => ?_)
  · refine callP (fail_fn 2 w h) (fun _ _ hf => hf.elim) ?_
    rintro ch w1 ⟨rfl, hE1⟩
    exact ⟨by omega, rfl, hE1⟩
  · refine load_blk h.blk rfl ?_
    refine norm_i64_to ((v.d + 1 : Nat) : Int) (by show ((v.d : Nat) : Int) + 1 = _; omega) (by omega) ?_
    refine store_mod h.blk (show 4 < 11 by decide) (fun w1 hM1 hB1 => ?_)
    exact ⟨fun e => h1 (by omega), h.put hM1 hB1 rfl rfl rfl h.nf, hM1⟩

theorem incE_eq (ix : List Nat → Option Nat) (rd s : List Nat) : incE ix rd s = if s.length < 2 ∨ s.head? ≠ some 34 ∨ s.getLast? ≠ some 34 ∨ s.count 34 ≠ 2 then .error 71 else match ix ((s.drop 1).take (s.length - 2)) with
    | none => .error 73
    | some n => if n ∈ rd then .error 73 else .ok n := rfl
theorem incE_no {ix : List Nat → Option Nat} {rd s : List Nat} (h : s.length < 2 ∨ s.head? ≠ some 34 ∨ s.getLast? ≠ some 34 ∨ s.count 34 ≠ 2) : incE ix rd s = .error 71 := if_pos h
theorem fnames {p : RP} (hP : RPok w0 p) : NamesOk (p.fs.map (·.1)) := fun s hs => by
  obtain ⟨x, hx, rfl⟩ := List.mem_map.1 hs
  exact ⟨(hP.flb x hx).n8, (hP.flb x hx).nl⟩

theorem top_lookup_ok {α : Type} [DecidableEq α] {kv : α → Value} {c : Cx} {o : Oper} {S : Env} {t ke e : Nat} {r rk re : TyRow} {x y : Operand} {q : Nat} {mm : List (α × Value)} {a : α} {C : World → Prop} {K : Env → Prop} (hg : c.g.Ok) (ho : o.op = .lookup t x y true) (hr : rowOf c.g.tys t = some r) (hd : r.d = .map ke e) (hrk : rowOf c.g.tys ke = some rk) (hre : rowOf c.g.tys e = some re) (hk : KeyV rk.d kv)
    (hx : S.ev x = some (.map (some q))) (hy : S.ev y = some (kv a)) (hm : ∀ w, C w → MapAt kv w q mm) {v' : Value} {b : Bool} (hv : (assoc a mm).getD re.z = v') (hb : (assoc a mm).isSome = b) (k : putK c S o.dst (.v (.tuple #[v', .bool b])) K) : TOp c o S C K := by
  subst hv hb
  refine top_op (v := .tuple #[(assoc a mm).getD re.z, .bool (assoc a mm).isSome]) (fun b w hf hw => ?_) k
  have e1 := hf.ev hx
  have e2 := hf.ev hy
  have := run_lookup (w := w) (a := a) hg hr hd hrk hre hk (hm w hw) true
  simp only [execOp, ho, e1, e2]
  simp only [Sem.run_bind, this, Result.andThen_ok]
  cases assoc a mm <;> simp

theorem number_fn (s : List Nat) (w : World) (hP : RPok w0 p) (h : Rr w0 w base p m v) (h8 : ∀ x ∈ s, x < 256) (hl : s.length ≤ 1000000000000) :
    FnP Tryz.prog 77 [.pointer (some ⟨p.r, 0, none⟩), .string (strOf s)] w (fun u w' => ∃ n : Nat, incE (ixN (p.fs.map (·.1))) v.rd s = .ok n ∧ u = .int .i64 n ∧ Ext w w') (fun ch w' => ∃ e, incE (ixN (p.fs.map (·.1))) v.rd s = .error e ∧ ch = failPan e v.fl v.ln ∧ Ext w w') := by
  refine fnP_of_exec (c := { c77 with cuts := [] }) gx_ok Tryz.func77 rfl rfl rfl ?_
  have hsz := strOf_size s
  have hby := bytesOf_strOf h8
  refine wif_d (fun h1 => ?_) (fun h1 => ?_)
  · have hs : s.length < 2 := by rw [hsz] at h1; omega
    refine callP (fail_fn 71 w h) (fun _ _ hf => hf.elim) ?_
    rintro ch w1 ⟨rfl, hE1⟩
    exact ⟨_, incE_no (.inl hs), rfl, hE1⟩
  have hs : ¬ s.length < 2 := by rw [hsz] at h1; omega
  refine sindex' (j := 0) (by omega) (fun x hx hxl => ?_)
  rw [hby] at hx
  have hhead : s.head? = some x := by rw [List.head?_eq_getElem?]; exact hx
  refine wif_ne (fun h2 => ?_) (fun h2 => ?_)
  · refine callP (fail_fn 71 w h) (fun _ _ hf => hf.elim) ?_
    rintro ch w1 ⟨rfl, hE1⟩
    exact ⟨_, incE_no (.inr (.inl (by rw [hhead]; intro e; cases e; exact h2 rfl))), rfl, hE1⟩
  have hx34 : x = 34 := by omega
  refine norm_i64_to ((s.length - 1 : Nat) : Int) (by rw [hsz]; omega) (by omega) ?_
  refine sindex' (j := s.length - 1) (by omega) (fun y hy hyl => ?_)
  rw [hby] at hy
  have hlast : s.getLast? = some y := by rw [List.getLast?_eq_getElem?]; exact hy
  refine wif_ne (fun h3 => ?_) (fun h3 => ?_)
  · refine callP (fail_fn 71 w h) (fun _ _ hf => hf.elim) ?_
    rintro ch w1 ⟨rfl, hE1⟩
    exact ⟨_, incE_no (.inr (.inr (.inl (by rw [hlast]; intro e; cases e; exact h3 rfl)))), rfl, hE1⟩
  have hy34 : y = 34 := by omega
  refine call (count_fn s 34 w h8 (by decide)) ?_
  rintro _ _ ⟨rfl, rfl⟩
  refine wif_ne (fun h4 => ?_) (fun h4 => ?_)
  · refine callP (fail_fn 71 w h) (fun _ _ hf => hf.elim) ?_
    rintro ch w1 ⟨rfl, hE1⟩
    exact ⟨_, incE_no (.inr (.inr (.inr (by omega)))), rfl, hE1⟩
  have hcond : ¬ (s.length < 2 ∨ s.head? ≠ some 34 ∨ s.getLast? ≠ some 34 ∨ s.count 34 ≠ 2) := by
    rintro (h | h | h | h)
    · exact hs h
    · rw [hhead, hx34] at h; exact h rfl
    · rw [hlast, hy34] at h; exact h rfl
    · omega
  have hinc : incE (ixN (p.fs.map (·.1))) v.rd s = match ixN (p.fs.map (·.1)) ((s.drop 1).take (s.length - 2)) with
    | none => .error 73
    | some n => if n ∈ v.rd then .error 73 else .ok n := if_neg hcond
  have hn8 : ∀ b ∈ (s.drop 1).take (s.length - 2), b < 256 := fun b hb => h8 b (List.mem_of_mem_drop (List.mem_of_mem_take hb))
  have hlook := ixN_ok (fnames hP) _ hn8
  have hB := h.blk
  refine draw_plan gx_ok (Ext w) 15 [(true, 0), (true, 1), (true, 2), (true, 3), (true, 4), (true, 5), (true, 6), (true, 7), (true, 8), (true, 9), (true, 10), (true, 11), (true, 12), (true, 13), (true, 14)] (by kernel_rfl) (Ext.drew w) ?_
  refine qload (v := .map (some p.nq)) (fun w' hw' => by rw [(hB.ext hw').cell]; rfl) ?_
  refine norm_i64_to ((s.length - 1 : Nat) : Int) (by rw [hsz]; omega) (by omega) ?_
  refine need_to (v' := .string (strOf ((s.drop 1).take (s.length - 2)))) ⟨by omega, by omega, by rw [hsz]; omega⟩ ?_ ?_
  · rw [strOf_extract]
    simp only [Int.toNat_natCast, Int.toNat_one]
    rw [List.drop_take]
    congr 3
  generalize hnm : (s.drop 1).take (s.length - 2) = nm at *
  refine top_lookup_ok (kv := strK) (a := strOf nm) (v' := .int .i64 ((ixN (p.fs.map (·.1)) nm).getD 0 : Nat)) (b := (ixN (p.fs.map (·.1)) nm).isSome) gx_ok rfl rfl rfl rfl rfl KeyV.str rfl rfl (fun w' hw' => (hP.nqm.ext h.e0).ext hw') (by rw [hlook]; cases ixN (p.fs.map (·.1)) nm <;> rfl) (by rw [hlook]; cases ixN (p.fs.map (·.1)) nm <;> rfl) ?_
  have hE1 := Ext.drew w
  have h1' := h.ext hE1
  obtain ⟨mp, k1, k2, k3⟩ := h1'.rdm
  cases hix : ixN (p.fs.map (·.1)) nm with
  | none =>
    rw [hix] at hinc
    refine wif_t rfl ?_
    refine callP (fail_fn 73 _ h1') (fun _ _ hf => hf.elim) ?_
    rintro ch w1 ⟨rfl, hE2⟩
    exact ⟨_, hinc, rfl, hE1.trans hE2⟩
  | some n =>
    rw [hix] at hinc
    simp only at hinc
    refine wif_f rfl ?_
    refine load_blk h1'.blk rfl ?_
    refine at_lookup' (kv := intK) (a := (n : Int)) (v := .bool (decide (n ∈ v.rd))) gx_ok rfl rfl rfl rfl rfl (KeyV.int .i64) rfl rfl k1 (by rw [k3 n]; by_cases hm : n ∈ v.rd <;> simp [hm]) ?_
    by_cases hm : n ∈ v.rd
    · rw [if_pos hm] at hinc
      refine wif_dt hm ?_
      refine callP (fail_fn 73 _ h1') (fun _ _ hf => hf.elim) ?_
      rintro ch w1 ⟨rfl, hE2⟩
      exact ⟨_, hinc, rfl, hE1.trans hE2⟩
    · rw [if_neg hm] at hinc
      refine wif_df hm ?_
      exact ⟨n, hinc, rfl, hE1⟩
end
end

section
open Go Go.RowKit

theorem scalar_flat {α : Type} {f : α → List Value} (hf : ∀ x, ∀ u ∈ f x, scalar u = true) (l : List α) : ∀ u ∈ l.flatMap f, scalar u = true := fun u hu => by
  obtain ⟨x, _, hx⟩ := List.mem_flatMap.1 hu
  exact hf x u hx
theorem br_scalar (x : Br) : ∀ u ∈ x.cells, scalar u = true := sc rfl

theorem clone_fn (k : Nat) (hk : k ≤ 12) (x : DV) (o : BF) (w : World) (hx : SB w x.A x.n x.c x.nd) (hs : Set1 k x.nd x.r o) :
    Fn Tryz.prog 121 [dgV x.A x.n x.c x.r] w (DgF w k o) := by
  have hlen := hx.2
  have hl := hs.len hk
  refine fn_of_exec (c := { c121 with cuts := [] }) gx_ok Tryz.func121 rfl rfl rfl ?_
  refine new (fun w1 hE1 hz1 hB1 => ?_)
  refine new (fun w2 hE2 hz2 hB2 => ?_)
  have hE02 := hE1.trans hE2
  have hB12 := hB1.ext hE2
  refine draw_plan gx_ok (Ext w2) 6 [(true, 0), (true, 1), (true, 3), (true, 4), (false, 2), (true, 5)] (by kernel_rfl) (Ext.drew w2) ?_
  refine qload (v := .slice x.A x.n x.c) (fun w' hw' => by rw [(hB12.ext hw').cell]; rfl) ?_
  refine qload (v := .int .i64 x.r) (fun w' hw' => by rw [(hB12.ext hw').cell]; rfl) ?_
  have hd := Ext.drew w2
  have hz := hd.size
  refine at_app (base := w2.drew.heap.size) gx_ok rfl rfl rfl rfl rfl (by decide) rfl rfl ⟨_, rfl⟩ rfl rfl (Own.nil _ _ _ _) ((hx.ext hE02).ext hd).1 (scalar_flat br_scalar _) (by unfold maxLen; omega) (by show (0 + x.n) * 24 ≤ _; omega) (Nat.le_refl _) ?_
  intro A' c' w3 hm3 hown3 hmv3
  have hE23 : Ext w2 w3 := hm3.ext hd (fun i hi => by obtain ⟨_, e, _⟩ := hi; cases e)
  refine ⟨hE23, ?_⟩
  refine storeN_blk0 (hB2.ext hE23) rfl (sc rfl) (fun w4 hg4 _ hB4 => ?_)
  have hM4 : Mod (· = w1.heap.size) w3 w4 := Mod.of_grown hg4 rfl
  refine loadN_blk0 hB4 rfl ?_
  have hrow : ∀ i, rowS A' i → w2.heap.size ≤ i := fun i hi => by have := (hown3.rows i hi).1; omega
  refine ⟨⟨A', 0 + x.n, c', x.nd, x.r⟩, rfl, hM4.ext (hE02.trans hE23) (fun i hi => by omega), ?_, hs, fun i hi => by have := hrow i hi; have := hE02.size; omega⟩
  refine SB.mod ⟨?_, by show x.nd.length = 0 + x.n; omega⟩ hM4 (fun i hi e => by have := hrow i hi; omega)
  simpa using hown3.sl

/-! ### add -/
theorem sgV_snoc {l : List Sg} {L : List DV} (h : L.length = l.length) (s : Sg) (x : DV) : sgV (l ++ [s]) (L ++ [x]) = sgV l L ++ sgC (s, x) := by
  unfold sgV
  rw [List.zip_append h.symm]
  simp
theorem sgV_len {l : List Sg} {L : List DV} (h : L.length = l.length) : (sgV l L).length = l.length * 6 := by
  unfold sgV
  rw [flat_length sg_len]; simp [h]
theorem sgC_scalar (x : Sg × DV) : ∀ u ∈ sgC x, scalar u = true := sc rfl

/-- A cell of a row of the call's own is written. -/
theorem store_ownN {w : World} {base e sz n c j : Nat} {a : Addr} {xs : List Value} {v : Value} {K : World → Prop} (h : Own w base e sz (some a) n c xs) (hn : 0 < n) (hj : j < n * sz)
    (k : ∀ w1, Mod (rowS (some a)) w w1 → Own w1 base e sz (some a) n c (xs.set j v) → K w1) : Store w (a.add j) v K := by
  have _ := hn
  have hr := h.row
  have hlen := hr.1
  rcases hr.2 with ⟨hv, _⟩ | ⟨g, cap, cur, hv, hb, hg, hnc, hcm, hcs, htake⟩
  · cases hv
  · cases hv
    have hB : Blk w g e cur.toList := by unfold Blk; rw [hg]
    have hjc : j < cur.toList.length := by
      have : cur.size = c * sz := hcs
      have h2 : n * sz ≤ c * sz := Nat.mul_le_mul_right _ hnc
      simp only [Array.length_toList]; omega
    refine store_mod hB hjc (fun w1 hm hB1 => k w1 (hm.mono (fun i hi => .inl ⟨_, rfl, hi.symm⟩)) ⟨⟨by rw [List.length_set]; exact hlen, .inr ⟨g, c, (cur.toList.set j v).toArray, rfl, hb, hB1, hnc, hcm, by simpa using hcs, ?_⟩⟩⟩)
    have ht : cur.toList.take (n * sz) = xs := htake
    show ((cur.toList.set j v).toArray.toList).take (n * sz) = xs.set j v
    rw [← ht]
    simp only [List.take_set]

theorem sgV_setTo {l : List Sg} {L : List DV} (h : L.length = l.length) (s : Sg) (x : DV) (t : Nat) : (sgV (l ++ [s]) (L ++ [x])).set (l.length * 6 + 1) (.int .i64 t) = sgV (l ++ [{ s with t := t }]) (L ++ [x]) := by
  rw [sgV_snoc h, sgV_snoc h, List.set_append_right _ _ (by rw [sgV_len h]; omega), sgV_len h]
  congr 1
  rw [show l.length * 6 + 1 - l.length * 6 = 1 by omega]; rfl

theorem b8_app {a b : List Nat} (ha : ∀ x ∈ a, x < 256) (hb : ∀ x ∈ b, x < 256) : ∀ x ∈ a ++ b, x < 256 := fun x hx => by
  rcases List.mem_append.1 hx with h | h
  · exact ha x h
  · exact hb x h
section
variable {w0 : World} {base : Nat} {p : RP}
theorem addG_none {s : List Nat} {fl at_ : Nat} {k : BF} {g : Gs} (h : 1048576 < g.tx.length + s.length ∨ (g.fr = true ∧ g.sg.length = 65536)) : addG s fl at_ k g = none := if_pos h
theorem addG_some {s : List Nat} {fl at_ : Nat} {k : BF} {g : Gs} (h : ¬ (1048576 < g.tx.length + s.length ∨ (g.fr = true ∧ g.sg.length = 65536))) : addG s fl at_ k g = some ⟨g.tx ++ s, setTo (g.tx.length + s.length) (if g.fr then g.sg ++ [⟨g.tx.length, 0, fl, at_, k⟩] else g.sg), false⟩ := if_neg h
theorem liesR : LiesO 88 11 5 := by unfold LiesO; kernel_rfl

/-- A segment was appended, and the reader's slice is set. -/
theorem Rr.app {m : RM} {v v' : RV} {w w1 w2 : World} (h : Rr w0 w base p m v) (s : Sg) (x : DV) {A' : Option Addr} {c' : Nat} (hm1 : Mod (rowS m.OA) w w1) (ho : Own w1 base 45 6 A' (v.g.sg.length + 1) c' (sgV v.g.sg m.L ++ sgC (s, x))) (hv : Moved w m.OA A') (hm2 : Mod (· = p.r) w1 w2)
    (hx : DgO w (TS p m) p.nm.length x s.o) (hl : v.g.sg.length < 65536) (e1 : v'.g.tx = v.g.tx) (e2 : v'.g.sg = v.g.sg ++ [s]) (e3 : v'.rd = v.rd) (hB : Blk w2 p.r 88 (rdC p { m with OA := A', oc := c', L := m.L ++ [x] } v')) : Rr w0 w2 base p { m with OA := A', oc := c', L := m.L ++ [x] } v' := by
  have hrs := TS.moved (p := p) (m := m) (m' := { m with OA := A', oc := c', L := m.L ++ [x] }) rfl hv (Moved.refl w m.BA)
  have hmm : Mod (RS p m) w w2 := (hm1.mono (S' := RS p m) (fun i hi => .inl (.inr (.inr (.inl hi))))).trans hm2 (fun i hi => .inl (.inl hi))
  have hpr : ∀ i, rowS A' i → ¬ i = p.r := fun i hi e => by subst e; have := (ho.rows _ hi).1; have := h.rb; omega
  have hsz := h.top
  have hz1 := hm1.size
  have hz2 := hm2.size
  refine ⟨hmm.ext h.e0 h.lo, h.lor, h.loq, h.rb, h.qb, h.ne, by omega, h.pa, hB, ?_, ?_, ?_, ?_, ?_, by rw [e1]; exact h.tl, ?_, by rw [e1]; exact h.b8, fun _ => .inl (by rw [e2]; simp), fun i hi => Nat.lt_of_lt_of_le (h.tt i hi) (by omega)⟩
  · rw [e1]
    exact (h.txt.mod hm1 (fun i hi hj => h.txt.apart h.out (by decide) hi hj)).mod hm2 (fun i hi e => by subst e; exact h.nrow.2 hi)
  · rw [e2]
    have := ho.mod hm2 hpr
    rw [sgV_snoc h.len, List.length_append]; exact this
  · rw [e2]; show (m.L ++ [x]).length = _; rw [List.length_append, List.length_append, h.len]; rfl
  · rw [e2]
    intro j s1 x1 hs1 hx1
    have hx1 : (m.L ++ [x])[j]? = some x1 := hx1
    rcases app_cases hs1 with ⟨hj, hs1⟩ | ⟨hj, hs1⟩
    · rw [List.getElem?_append_left (by rw [h.len]; exact hj)] at hx1
      exact (h.dgs j s1 x1 hs1 hx1).step (hmm.mono (fun i hi => .inl (.inl hi))) hrs
    · rw [List.getElem?_append_right (by rw [h.len]; exact hj), h.len] at hx1
      obtain ⟨h0, rfl⟩ := one_cases hs1
      obtain ⟨_, rfl⟩ := one_cases hx1
      exact hx.step (hmm.mono (fun i hi => .inl (.inl hi))) hrs
  · obtain ⟨mp, k1, k2⟩ := h.rdm
    rw [e3]
    exact ⟨mp, (k1.mod hm1 (k1.apart h.out)).mod hm2 (fun e => h.ne e.symm), k2⟩
  · rw [e2, List.length_append]; simp; omega

theorem last_split {l : List Sg} {L : List DV} (h : L.length = l.length) (hn : l ≠ []) : ∃ l' s L' x, l = l' ++ [s] ∧ L = L' ++ [x] ∧ L'.length = l'.length := by
  rcases List.eq_nil_or_concat l with rfl | ⟨l', s, rfl⟩
  · exact absurd rfl hn
  rcases List.eq_nil_or_concat L with rfl | ⟨L', x, rfl⟩
  · simp at h
  · exact ⟨l', s, L', x, by simp, by simp, by simpa using h⟩

theorem add_fn (m : RM) (v : RV) (s : List Nat) (at_ : Nat) (k : DV) (o : BF) (w : World) (hP : RPok w0 p) (h : Rr w0 w base p m v) (hk : DgO w (RS p m) p.nm.length k o) (h8 : ∀ x ∈ s, x < 256) (hsl : s.length ≤ 1048577) (hrdn : v.rd ≠ []) :
    FnP Tryz.prog 80 [.pointer (some ⟨p.r, 0, none⟩), .string (strOf s), .int .i64 at_, dgV k.A k.n k.c k.r] w (fun _ w' => ∃ g', addG s v.fl at_ o v.g = some g' ∧ GTo w0 w base p m { v with g := g' } w') (fun ch w' => addG s v.fl at_ o v.g = none ∧ ch = failPan 2 v.fl v.ln ∧ Ext w w') := by
  have hss := strOf_size s
  have htl := h.tl
  have hsl' := h.sl
  refine fnP_of_exec (c := { c80 with cuts := [2, 4] }) gx_ok Tryz.func80 rfl rfl rfl ?_
  refine new (fun w1 hE1 hz1 hB1 => ?_)
  have h1 := h.ext hE1
  refine call (lenO_fn p.r 88 5 (rdC p m v) m.BA m.bc v.g.tx.length w1 h1.blk rfl) ?_
  rintro _ _ ⟨rfl, rfl⟩
  refine cut0In [] gx_ok (fun w2 => w1 = w2 ∧ ¬ (1048576 < v.g.tx.length + s.length ∨ (v.g.fr = true ∧ v.g.sg.length = 65536))) ?_ ?_
  · refine norm_i64_to ((v.g.tx.length + s.length : Nat) : Int) (by rw [hss]; omega) (by omega) ?_
    refine wif_d (fun c1 => ?_) (fun c1 => ?_)
    · refine callP (fail_fn 2 w1 h1) (fun _ _ hf => hf.elim) ?_
      rintro ch w2 ⟨rfl, hE2⟩
      exact ⟨addG_none (.inl (by omega)), rfl, hE1.trans hE2⟩
    refine load_blk h1.blk rfl ?_
    refine wif (fun f1 => ?_) (fun f1 => ?_)
    · refine load_blk h1.blk rfl ?_
      refine wif_eq (fun c2 => ?_) (fun c2 => ?_)
      · refine callP (fail_fn 2 w1 h1) (fun _ _ hf => hf.elim) ?_
        rintro ch w2 ⟨rfl, hE2⟩
        exact ⟨addG_none (.inr ⟨f1, by omega⟩), rfl, hE1.trans hE2⟩
      · exact ⟨rfl, rfl, by omega⟩
    · exact ⟨rfl, rfl, by rw [f1]; intro hh; rcases hh with hh | ⟨hh, _⟩; omega; cases hh⟩
  rintro _ ⟨rfl, hbig⟩
  have hadd := addG_some (s := s) (fl := v.fl) (at_ := at_) (k := o) (g := v.g) hbig
  refine cut0In [] gx_ok (GTo w0 w1 base p m { v with g := ⟨v.g.tx, if v.g.fr then v.g.sg ++ [⟨v.g.tx.length, 0, v.fl, at_, o⟩] else v.g.sg, false⟩ }) ?_ ?_
  · refine load_blk h1.blk rfl ?_
    refine wif (fun f1 => ?_) (fun f1 => ?_)
    · have f1 : v.g.fr = true := f1
      have hsg : v.g.sg.length < 65536 := by
        rcases Nat.lt_or_ge v.g.sg.length 65536 with hh | hh
        · exact hh
        · exact absurd (Or.inr ⟨f1, by omega⟩) hbig
      have hhi := h.hi
      have hbx : ¬ RS p m w.heap.size := fun hh => by have := hhi _ hh; omega
      have nrow := h.nrow
      refine draw_plan gx_ok (Mod (rowS m.OA) w1) 18 [(true, 0), (true, 1), (true, 2), (true, 3), (true, 4), (true, 5), (true, 6), (true, 7), (true, 8), (true, 9), (true, 10), (true, 11), (false, 12), (true, 13), (false, 14), (false, 15), (true, 16), (true, 17)] (by kernel_rfl) (Mod.of_ext _ (Ext.drew w1)) ?_
      refine qload (v := .slice m.OA v.g.sg.length m.oc) (fun w' hw' => by rw [(h1.blk.mod hw' nrow.1).cell]; rfl) ?_
      refine qload (v := .int .i64 v.fl) (fun w' hw' => by rw [(h1.blk.mod hw' nrow.1).cell]; rfl) ?_
      refine qloadN (vs := k.cells) rfl (fun w' hw' j u hj => by rw [(hB1.mod hw' (fun hh => hbx (.inr (.inr (.inl hh))))).cell]; exact hj) ?_
      have hd := Ext.drew w1
      have hk1 := hk.ext hE1
      refine call (clone_fn p.nm.length hP.nmk k o w1.drew (hk1.sb.ext hd) hk1.st) ?_
      rintro _ w2 ⟨x, rfl, hE2, hx2, hxs, hxr⟩
      have hE12 := hd.trans hE2
      refine ⟨Mod.of_ext _ hE12, ?_⟩
      refine at_buildN gx_ok [sgC (⟨v.g.tx.length, 0, v.fl, at_, o⟩, x)] rfl rfl rfl rfl rfl ⟨rfl, rfl, ⟨⟩⟩ rfl (fun cs hh => by simp only [List.mem_singleton] at hh; subst hh; rfl) rfl (by decide) (by decide) ?_
      intro w3 hE3 hz3 hB3
      have hE13 := hE12.trans hE3
      refine ⟨Mod.of_ext _ hE13, ?_⟩
      have h3 := h1.ext hE13
      have hs3 : Sl w3 6 (some ⟨w2.heap.size, 0, none⟩) 1 1 (sgC (⟨v.g.tx.length, 0, v.fl, at_, o⟩, x)) := Sl.own (sz := 6) (n := 1) hB3 (Nat.le_refl _) (by decide) (by simp [sgC])
      refine at_app gx_ok rfl rfl rfl rfl rfl (by decide) rfl rfl ⟨_, rfl⟩ rfl rfl h3.out hs3 (sgC_scalar _) (by unfold maxLen; omega) (by show (v.g.sg.length + 1) * 64 ≤ _; omega) h3.top ?_
      intro A' c' w4 hm4 hown4 hmv4
      refine ⟨(Mod.of_ext (rowS m.OA) hE13).trans hm4 (fun i hi => .inl hi), ?_⟩
      refine store_mod (h3.blk.mod hm4 nrow.1) (show 7 < 11 by decide) (fun w5 hm5 hB5 => ?_)
      refine store_mod hB5 (show 8 < 11 by decide) (fun w6 hm6 hB6 => ?_)
      have hm46 : Mod (· = p.r) w4 w6 := hm5.trans hm6 (fun i hi => .inl hi)
      have hhi1 := h1.hiT
      have hxo : DgO w3 (TS p m) p.nm.length x o := (DgO.new (S := TS p m) hx2 hxs hxr (fun i hi => by have := hhi1 i hi; have := hd.size; omega)).ext hE3
      have hx3 : DgO w3 (TS p m) p.nm.length x (⟨v.g.tx.length, 0, v.fl, at_, o⟩ : Sg).o := hxo
      rw [f1, if_pos rfl]
      refine ⟨rfl, ⟨{ m with OA := A', oc := c', L := m.L ++ [x] }, rfl, h3.app ⟨v.g.tx.length, 0, v.fl, at_, o⟩ x hm4 hown4 hmv4 hm46 hx3 hsg rfl rfl rfl ?_, ?_, hmv4.back hE13.size, Moved.refl _ _⟩⟩
      · have e : (v.g.sg ++ [(⟨v.g.tx.length, 0, v.fl, at_, o⟩ : Sg)]).length = v.g.sg.length + 1 := by simp
        show Blk w6 p.r 88 [.slice p.NA p.nn p.nc, .slice p.FA p.nf p.cf, .map (some p.nq), .map (some p.q), .int .i64 v.d, m.pa, .slice m.BA v.g.tx.length m.bc, .slice A' (v.g.sg ++ [(⟨v.g.tx.length, 0, v.fl, at_, o⟩ : Sg)]).length c', .bool false, .int .i64 v.fl, .int .i64 v.ln]
        rw [e]; exact hB6
      · exact ((Mod.of_ext (RS p m) hE13).trans hm4 (fun i hi => .inl (.inr (.inr (.inl hi))))).trans hm46 (fun i hi => .inl (.inl hi))
    · have f1 : v.g.fr = false := f1
      have e : ({ v with g := ⟨v.g.tx, if v.g.fr then v.g.sg ++ [⟨v.g.tx.length, 0, v.fl, at_, o⟩] else v.g.sg, false⟩ } : RV) = v := by
        obtain ⟨d, fl, ln, rd, ⟨tx, sg, fr⟩⟩ := v
        simp only at f1
        subst f1
        rfl
      rw [e]
      exact ⟨rfl, m, rfl, h1, Mod.refl _ _, Moved.refl _ _, Moved.refl _ _⟩
  rintro w2 ⟨m2, hT2, h2, hm2, hv2, hu2⟩
  generalize hsg2 : (if v.g.fr then v.g.sg ++ [(⟨v.g.tx.length, 0, v.fl, at_, o⟩ : Sg)] else v.g.sg) = sg2 at *
  have hne : sg2 ≠ [] := (h2.nf rfl).resolve_right hrdn
  have hl2 := h2.sl
  simp only at hl2
  obtain ⟨l', s0, L', x0, e1, e2, e3⟩ := last_split (l := sg2) h2.len hne
  have hn0 : 0 < sg2.length := List.length_pos_iff.2 hne
  obtain ⟨oa, hoa, _⟩ := h2.out.sl.at_ hn0
  have hoa : m2.OA = some oa := hoa
  have hlies : LiesO 88 (rdC p m2 { v with g := ⟨v.g.tx, sg2, false⟩ }).length 5 := by rw [show (rdC p m2 { v with g := ⟨v.g.tx, sg2, false⟩ }).length = 11 from rfl]; exact liesR
  refine call (writeStringO_fn base p.r 88 5 m2.pa (rdC p m2 { v with g := ⟨v.g.tx, sg2, false⟩ }) m2.BA m2.bc v.g.tx (strOf s) w2 hlies (show 6 < 11 by decide) h2.pa h2.blk rfl rfl h2.txt h2.rb h2.top (by rw [hss]; omega)) ?_
  rintro _ w3 ⟨B', b', hB3, ho3, hm3, hv3⟩
  rw [hss, bytesOf_strOf h8] at ho3
  rw [hss] at hB3
  have nrow2 := h2.nrow
  have hout3 : Own w3 base 45 6 m2.OA sg2.length m2.oc (sgV sg2 m2.L) := h2.out.mod hm3 (fun i hi hj => by
    rcases hj with rfl | hj
    · exact nrow2.1 hi
    · exact h2.out.apart h2.txt (by decide) hi hj)
  have hd := Ext.drew w3
  have hB3' := hB3.ext hd
  refine draw_tail gx_ok 16 (by kernel_rfl) ?_
  refine qload (v := .slice m2.OA sg2.length m2.oc) (fun w' hw' => by subst hw'; rw [hB3'.cell]; rfl) ?_
  refine qload (v := .slice m2.OA sg2.length m2.oc) (fun w' hw' => by subst hw'; rw [hB3'.cell]; rfl) ?_
  refine norm_i64_to ((sg2.length - 1 : Nat) : Int) (by omega) (by omega) ?_
  refine norm_i64_to ((v.g.tx.length + s.length : Nat) : Int) (by rw [hss]; omega) (by omega) ?_
  rw [hoa]
  refine index_n (j := sg2.length - 1) (by omega) ?_
  have hout4 := hout3.ext hd
  rw [hoa] at hout4
  have hle : sg2.length = l'.length + 1 := by rw [e1]; simp
  show Store _ ((oa.add ((sg2.length - 1) * 6)).add 1) _ _
  rw [add_add]
  refine store_ownN hout4 hn0 (by omega) (fun w4 hm4 hout5 => ?_)
  have hcell : (sgV sg2 m2.L).set ((sg2.length - 1) * 6 + 1) (.int .i64 ((v.g.tx.length + s.length : Nat) : Int)) = sgV (setTo (v.g.tx.length + s.length) sg2) m2.L := by
    have e : (l' ++ [s0]).length - 1 = l'.length := by simp
    rw [e1, e2, setTo_snoc, e, sgV_setTo e3]
  rw [hcell] at hout5
  have hsl2 : (setTo (v.g.tx.length + s.length) sg2).length = sg2.length := by rw [e1, setTo_snoc]; simp
  have hm34 : Mod (rowS m2.OA) w3 w4 := by rw [hoa]; exact (Mod.of_ext _ hd).trans hm4 (fun i hi => .inl hi)
  have hBrow : ∀ i, rowS B' i → ¬ rowS m2.OA i := fun i hi hj => hout3.apart ho3 (by decide) hj hi
  have hall : Mod (RS p m2) w2 w4 := (hm3.mono (S' := RS p m2) (fun i hi => by
      rcases hi with rfl | hi
      · exact .inl (.inl rfl)
      · exact .inl (.inr (.inr (.inr hi))))).trans hm34 (fun i hi => .inl (.inr (.inr (.inl hi))))
  have hz3 := hm3.size
  have hz4 := hm34.size
  have htop2 := h2.top
  refine ⟨_, hadd, { m2 with BA := B', bc := b', pa := .pointer (some (adr p.r 5)) }, hT2, ⟨hall.ext h2.e0 h2.lo, h2.lor, h2.loq, h2.rb, h2.qb, h2.ne, by omega, .inr rfl, ?_, ?_, ?_, ?_, ?_, ?_, ?_, ?_, ?_, fun _ => ?_, fun i hi => Nat.lt_of_lt_of_le (h2.tt i hi) (by omega)⟩, ?_, ?_, ?_⟩
  all_goals try simp only
  · have e : (v.g.tx ++ s).length = v.g.tx.length + s.length := by simp
    show Blk w4 p.r 88 [.slice p.NA p.nn p.nc, .slice p.FA p.nf p.cf, .map (some p.nq), .map (some p.q), .int .i64 v.d, .pointer (some (adr p.r 5)), .slice B' (v.g.tx ++ s).length b', .slice m2.OA (setTo (v.g.tx.length + s.length) sg2).length m2.oc, .bool false, .int .i64 v.fl, .int .i64 v.ln]
    rw [e, hsl2]
    exact hB3.mod hm34 nrow2.1
  · rw [List.length_append]; exact ho3.mod hm34 hBrow
  · rw [hsl2]; rw [← hoa] at hout5; exact hout5
  · rw [hsl2]; exact h2.len
  · intro j s1 x1 hs1 hx1
    have hrs := TS.moved (p := p) (m := m2) (m' := { m2 with BA := B', bc := b', pa := .pointer (some (adr p.r 5)) }) rfl (Moved.refl w2 m2.OA) hv3
    have key : ∃ s2, sg2[j]? = some s2 ∧ s2.o = s1.o := by
      rw [e1, setTo_snoc] at hs1
      rw [e1]
      rcases app_cases hs1 with ⟨hj, hs1⟩ | ⟨hj, hs1⟩
      · exact ⟨s1, by rw [List.getElem?_append_left hj]; exact hs1, rfl⟩
      · obtain ⟨h0, rfl⟩ := one_cases hs1
        exact ⟨s0, by rw [List.getElem?_append_right hj, h0]; rfl, rfl⟩
    obtain ⟨s2, hs2, hse⟩ := key
    rw [← hse]
    exact (h2.dgs j s2 x1 hs2 hx1).step (hall.mono (fun i hi => .inl (.inl hi))) hrs
  · obtain ⟨mp, k1, k2⟩ := h2.rdm
    refine ⟨mp, (k1.mod hm3 (fun hj => ?_)).mod hm34 (k1.apart h2.out), k2⟩
    rcases hj with e | hj
    · exact h2.ne e.symm
    · exact k1.apart h2.txt hj
  · rw [List.length_append]; omega
  · rw [hsl2]; exact hl2
  · exact b8_app h.b8 h8
  · exact .inl (by rw [← List.length_pos_iff, hsl2]; exact hn0)
  · exact (((Mod.of_ext (RS p m) hE1).trans hm2 (fun i hi => .inl hi)).trans hall (fun i hi => by
      rcases RS.moved (p := p) hv2 hu2 i hi with hh | hh
      · exact .inl hh
      · exact .inr (by have := hE1.size; omega)))
  · exact hv2.back hE1.size
  · exact (hu2.trans hv3 hm2.size).back hE1.size
end
end

section
open Go Go.RowKit

theorem Rr.modT {w0 w w' : World} {base : Nat} {p : RP} {m : RM} {v : RV} {U T' : Nat → Prop} (h : Rr w0 w base p m v) (hm : Mod U w w') (hU : ∀ i, U i → m.T i) (hoff : ∀ i, U i → ¬ RS p m i) (hlo : ∀ i, U i → w0.heap.size ≤ i) (hT : ∀ i, T' i → m.T i ∨ w.heap.size ≤ i) (hlt : ∀ i, T' i → i < w'.heap.size) :
    Rr w0 w' base p { m with T := T' } v :=
  ⟨hm.ext h.e0 hlo, h.lor, h.loq, h.rb, h.qb, h.ne, Nat.le_trans h.top hm.size, h.pa, h.blk.mod hm (fun hu => hoff _ hu (.inl rfl)), h.txt.mod hm (fun i hi hu => hoff _ hu (.inr (.inr (.inr hi)))), h.out.mod hm (fun i hi hu => hoff _ hu (.inr (.inr (.inl hi)))), h.len,
    fun j s x h1 h2 => (h.dgs j s x h1 h2).step (hm.mono (fun i hi => .inl (.inr (hU i hi)))) (fun i hi => hi.elim (fun hr => .inl (.inl hr)) (fun ht => (hT i ht).elim (fun h => .inl (.inr h)) .inr)),
    let ⟨mp, h1, h2⟩ := h.rdm; ⟨mp, h1.mod hm (fun hu => hoff _ hu (.inr (.inl rfl))), h2⟩, h.tl, h.sl, h.b8, h.nf, hlt⟩

theorem putL_take {j m : Nat} {vs l : List Value} (h : j + vs.length ≤ m) (hm : m ≤ l.length) : (putL j vs l).take m = putL j vs (l.take m) := by
  have hx : (l.take m).length = m := by rw [List.length_take]; omega
  rw [putL_spec j vs l (by omega), putL_spec j vs (l.take m) (by omega)]
  rw [List.take_append, List.take_append, List.length_append, List.length_take]
  rw [List.take_take, List.take_of_length_le (l := vs) (by omega), List.take_take]
  rw [show min m j = j by omega, show min j m = j by omega, List.drop_take]
  congr 2
  omega
theorem storeN_ownN {P : Program} {w : World} {base e sz n c j : Nat} {a : Addr} {xs vs : List Value} {K : World → Prop} (h : Own w base e sz (some a) n c xs) (hj : j + vs.length ≤ n * sz) (hsc : ∀ u ∈ vs, scalar u = true)
    (k : ∀ w1, Mod (rowS (some a)) w w1 → Own w1 base e sz (some a) n c (putL j vs xs) → K w1) : StoreN P w (a.add j) vs K := by
  have hr := h.row
  have hlen := hr.1
  rcases hr.2 with ⟨hv, _⟩ | ⟨g, cap, cur, hv, hb, hg, hnc, hcm, hcs, htake⟩
  · cases hv
  · cases hv
    have hB : Blk w g e cur.toList := by unfold Blk; rw [hg]
    have hcl : cur.toList.length = c * sz := by simpa using hcs
    have h2 : n * sz ≤ c * sz := Nat.mul_le_mul_right _ hnc
    refine storeN_blk hB (by omega) hsc (fun w1 hm _ hB1 => k w1 (Mod.of_grown hm ⟨_, rfl, rfl⟩) ⟨⟨by rw [putL_length _ _ _ (by omega)]; exact hlen, .inr ⟨g, c, (putL j vs cur.toList).toArray, rfl, hb, hB1, hnc, hcm, ?_, ?_⟩⟩⟩)
    · have := putL_length j vs cur.toList (by omega)
      simp only [List.size_toArray]; omega
    · have ht : cur.toList.take (n * sz) = xs := htake
      show ((putL j vs cur.toList).toArray.toList).take (n * sz) = _
      rw [← ht, ← putL_take hj (by omega)]
theorem load_own {w : World} {base e sz n c o i : Nat} {a : Addr} {xs : List Value} {u : Value} {K : Value → Prop} (h : Own w base e sz (some a) n c xs) (hn : 0 < n) (hv : xs[o + i]? = some u) (k : K u) : Load w ((a.add o).add i) K := by
  obtain ⟨ad, e1, hc⟩ := h.sl.at_ hn
  cases e1
  exact load (by rw [add_add]; exact hc _ _ hv) k
theorem cell_own {w : World} {base e sz n c o i : Nat} {a : Addr} {xs : List Value} {u : Value} (h : Own w base e sz (some a) n c xs) (hn : 0 < n) (hv : xs[o + i]? = some u) : w.cell? ((a.add o).add i) = some u := by
  obtain ⟨ad, e1, hc⟩ := h.sl.at_ hn
  cases e1
  rw [add_add]; exact hc _ _ hv

/-! ### Sections -/
structure SeV where
  s : Se
  x : DV
  y : DV
def SeV.cells (z : SeV) : List Value := [.slice z.x.A z.x.n z.x.c, .int .i64 z.x.r, .slice z.y.A z.y.n z.y.c, .int .i64 z.y.r, .bool z.s.ot, .int .i64 z.s.ln]
theorem sev_len (z : SeV) : z.cells.length = 6 := rfl
theorem sev_scalar (z : SeV) : ∀ u ∈ z.cells, scalar u = true := sc rfl
abbrev seT : TypeId := 135
theorem pre_get {pre : List Value} {z : SeV} {i : Nat} {u : Value} (h : z.cells[i]? = some u) : (pre ++ z.cells)[pre.length + i]? = some u := by rw [List.getElem?_append_right (by omega)]; rw [show pre.length + i - pre.length = i by omega]; exact h
theorem pre_set {pre : List Value} {z : SeV} {i : Nat} {u : Value} : (pre ++ z.cells).set (pre.length + i) u = pre ++ z.cells.set i u := by rw [List.set_append_right _ _ (by omega)]; rw [show pre.length + i - pre.length = i by omega]
theorem putL_zero (vs l : List Value) : putL 0 vs l = overL vs l := by cases l <;> rfl
theorem pre_putL (vs : List Value) (i : Nat) (z : List Value) : ∀ (pre : List Value), putL (pre.length + i) vs (pre ++ z) = pre ++ putL i vs z
  | [] => by simp
  | a :: pre => by
    rw [List.length_cons, show pre.length + 1 + i = (pre.length + i) + 1 by omega]
    show a :: putL (pre.length + i) vs (pre ++ z) = _
    rw [pre_putL vs i z pre]; rfl

section
variable {w0 : World} {base : Nat} {p : RP}
/-- What a further branch of a section is. -/
def BrOk (w : World) (k : Nat) (nm : List (List Nat)) (base n c : Nat) (a : Addr) (pre : List Value) (z : SeV) (other : Bool) (s : List Nat) (u : Value) (w' : World) : Prop :=
  z.s.ot = false ∧ Mod (rowS (some a)) w w' ∧ if other then u = dgV z.y.A z.y.n z.y.c z.y.r ∧ Own w' base seT 6 (some a) n c (pre ++ (⟨{ z.s with ot := true }, z.x, z.y⟩ : SeV).cells)
    else ∃ (o : BF) (b d : DV), setE nm s = .ok o ∧ u = dgV b.A b.n b.c b.r ∧ SB w' b.A b.n b.c b.nd ∧ Set1 k b.nd b.r (bAnd z.s.re o) ∧ (∀ i, rowS b.A i → w.heap.size ≤ i) ∧ SB w' d.A d.n d.c d.nd ∧ Set1 k d.nd d.r (bSub z.s.re o) ∧ (∀ i, rowS d.A i → w.heap.size ≤ i) ∧
      Own w' base seT 6 (some a) n c (pre ++ (⟨{ z.s with re := bSub z.s.re o }, z.x, d⟩ : SeV).cells)

theorem branch_fn (m : RM) (v : RV) (a : Addr) (n c : Nat) (pre : List Value) (z : SeV) (other : Bool) (s : List Nat) (w : World) (hP : RPok w0 p) (h : Rr w0 w base p m v) (ho : Own w base seT 6 (some a) n c (pre ++ z.cells)) (hT : ∀ i, rowS (some a) i → m.T i) (hpre : pre.length + 6 = n * 6)
    (hy : DgO w (TS p m) p.nm.length z.y z.s.re) (h8 : ∀ x ∈ s, x < 256) (hl : s.length ≤ 1000000000000) (hb0 : w0.heap.size ≤ base) :
    FnP Tryz.prog 79 [.pointer (some ⟨p.r, 0, none⟩), .pointer (some (a.add pre.length)), .bool other, .string (strOf s)] w (BrOk w p.nm.length p.nm base n c a pre z other s)
      (fun ch w' => ∃ e, (z.s.ot = true ∧ e = 71 ∨ z.s.ot = false ∧ other = false ∧ setE p.nm s = .error e) ∧ ch = failPan e v.fl v.ln ∧ Mod (rowS (some a)) w w') := by
  have hn0 : 0 < n := by omega
  have hra : rowS (some a) a.block := ⟨a, rfl, rfl⟩
  have hoff : ∀ i, rowS (some a) i → ¬ RS p m i := fun i hi hr => by
    have hb := (ho.rows i hi).1
    have := h.rb; have := h.qb
    rcases hr with rfl | rfl | hr | hr
    · omega
    · omega
    · exact ho.apart h.out (by decide) hi hr
    · exact ho.apart h.txt (by decide) hi hr
  have hlo : ∀ i, rowS (some a) i → w0.heap.size ≤ i := fun i hi => by have := (ho.rows i hi).1; omega
  refine fnP_of_exec (c := { c79 with cuts := [] }) gx_ok Tryz.func79 rfl rfl rfl ?_
  refine new (fun w1 hE1 hz1 hB1 => ?_)
  have ho1 := ho.ext hE1
  have h1 := h.ext hE1
  refine load_own ho1 hn0 (pre_get (i := 4) (u := .bool z.s.ot) rfl) ?_
  refine wif (fun ht => ?_) (fun ht => ?_)
  · refine callP (fail_fn 71 w1 h1) (fun _ _ hf => hf.elim) ?_
    rintro ch w2 ⟨rfl, hE2⟩
    exact ⟨71, .inl ⟨ht, rfl⟩, rfl, Mod.of_ext _ (hE1.trans hE2)⟩
  have ht : z.s.ot = false := ht
  have yget : ∀ (i : Nat) (u : Value), z.y.cells[i]? = some u → z.cells[2 + i]? = some u := fun i u hi => match i, hi with
    | 0, hi => hi
    | 1, hi => hi
    | _ + 2, hi => nomatch hi
  refine loadN_at (vs := z.y.cells) rfl (fun i u hi => ?_) ?_
  · show w1.cell? (((a.add pre.length).add 2).add i) = some u
    rw [add_add]
    exact cell_own ho1 hn0 (pre_get (yget i u hi))
  refine new (fun w2 hE2 hz2 hB2 => ?_)
  have ho2 := ho1.ext hE2
  have h2 := h1.ext hE2
  refine storeN_blk0 hB2 rfl (sc rfl) (fun w3 hg3 hz3 hB3 => ?_)
  have hE13 : Ext w1 w3 := newBox hE2 hB2 hg3
  have ho3 := ho1.ext hE13
  have h3 := h1.ext hE13
  show Store w3 ((a.add pre.length).add 4) _ _
  rw [add_add]
  refine store_ownN ho3 hn0 (by omega) (fun w4 hm4 ho4 => ?_)
  rw [pre_set] at ho4
  have ho4 : Own w4 base seT 6 (some a) n c (pre ++ (⟨{ z.s with ot := other }, z.x, z.y⟩ : SeV).cells) := ho4
  have hE03 := hE1.trans hE13
  have hm04 : Mod (rowS (some a)) w w4 := (Mod.of_ext _ hE03).trans hm4 (fun i hi => .inl hi)
  have h4 : Rr w0 w4 base p m v := h3.modT hm4 hT hoff hlo (fun i hi => .inl hi) (fun i hi => Nat.lt_of_lt_of_le (h3.tt i hi) hm4.size)
  have nb1 : ¬ rowS (some a) w.heap.size := fun hi => by have := (ho.rows _ hi).2; omega
  have nb2 : ¬ rowS (some a) w1.heap.size := fun hi => by have := (ho.rows _ hi).2; omega
  have hz13 := hE13.size
  have hB14 := (hB1.ext hE13).mod hm4 nb1
  have hB34 := hB3.mod hm4 nb2
  have hz4 := hm4.size
  cases other with
  | true =>
    refine wif_f rfl ?_
    refine loadN_blk0 hB34 rfl ?_
    refine storeN_blk0 hB14 rfl (sc rfl) (fun w5 hg5 _ hB5 => ?_)
    have hM5 : Mod (· = w.heap.size) w4 w5 := Mod.of_grown hg5 rfl
    refine loadN_blk0 hB5 rfl ?_
    exact ⟨ht, hm04.trans hM5 (fun i hi => .inr (by omega)), rfl, ho4.mod hM5 (fun i hi e => by subst e; exact nb1 hi)⟩
  | false =>
    refine wif_t rfl ?_
    have hzz : z.cells = (⟨{ z.s with ot := false }, z.x, z.y⟩ : SeV).cells := by
      obtain ⟨⟨ou, re, ot, ln⟩, x, y⟩ := z
      simp only at ht
      subst ht
      rfl
    have hoC : ∀ w', Mod (· = w1.heap.size) w4 w' → Own w' base seT 6 (some a) n c (pre ++ z.cells) := fun w' hw' => by
      rw [hzz]; exact ho4.mod hw' (fun i hi e => by subst e; exact nb2 hi)
    refine draw_planP gx_ok (fun ch w' => ∃ e, (z.s.ot = true ∧ e = 71 ∨ z.s.ot = false ∧ false = false ∧ setE p.nm s = .error e) ∧ ch = failPan e v.fl v.ln ∧ Mod (rowS (some a)) w w') (fun ch S w' hp => hp) (Mod (· = w1.heap.size) w4) 14 [(true, 0), (true, 1), (true, 2), (true, 3), (true, 4), (true, 5), (true, 6), (true, 7), (false, 8), (false, 9), (true, 10), (true, 11), (true, 12), (false, 13)] (by kernel_rfl) (Mod.of_ext _ (Ext.drew w4)) ?_
    refine qloadN (vs := z.y.cells) rfl (fun w' hw' i u hi => ?_) ?_
    · show w'.cell? (((a.add pre.length).add 2).add i) = some u
      rw [add_add]
      exact cell_own (hoC w' hw') hn0 (pre_get (yget i u hi))
    have hd := Ext.drew w4
    refine callP (set_fn s w4.drew hP (h4.ext hd) h8 hl) ?_ ?_
    rotate_left
    · rintro ch w5 ⟨e, he, rfl, hE5⟩
      exact ⟨e, .inr ⟨ht, rfl, he⟩, rfl, hm04.trans (Mod.of_ext _ (hd.trans hE5)) (fun i hi => .inl hi)⟩
    rintro _ w5 ⟨o, he, t, rfl, hE5, ht5, hts, htr⟩
    have hE45 := hd.trans hE5
    have hy4 : SB w4 z.y.A z.y.n z.y.c z.y.nd := SB.modo (hy.sb.ext hE03) hm4 (fun ad e h0 hi => hy.off ad e h0 (.inr (hT _ hi)))
    refine ⟨Mod.of_ext _ hE45, ?_⟩
    refine call (split_fn p.nm.length hP.nmk z.y t z.s.re o w5 (hy4.ext hE45) hy.st ht5 hts) ?_
    rintro _ w6 ⟨b, d, rfl, hE6, hb6, hbs, hbr, hd6, hds, hdr⟩
    have hE46 := hE45.trans hE6
    have hz46 := hE46.size
    have hz45 := hE45.size
    refine ⟨Mod.of_ext _ hE46, ?_⟩
    refine storeN_blk0 (hB34.ext hE46) rfl (sc rfl) (fun w7 hg7 _ hB7 => ?_)
    have hM7 : Mod (· = w1.heap.size) w6 w7 := Mod.of_grown hg7 rfl
    have hM47 : Mod (· = w1.heap.size) w4 w7 := (Mod.of_ext _ hE46).trans hM7 (fun i hi => .inl hi)
    refine ⟨hM47, ?_⟩
    have ho7 := hoC w7 hM47
    show StoreN _ w7 ((a.add pre.length).add 2) _ _
    rw [add_add]
    refine storeN_ownN ho7 (by show pre.length + 2 + 2 ≤ _; omega) (sc rfl) (fun w8 hm8 ho8 => ?_)
    rw [pre_putL] at ho8
    have ho8 : Own w8 base seT 6 (some a) n c (pre ++ (⟨{ z.s with re := bSub z.s.re o }, z.x, d⟩ : SeV).cells) := ho8
    have hB78 := hB7.mod hm8 nb2
    refine loadN_blk0 hB78 rfl ?_
    have hB18 := ((hB14.ext hE46).mod hM7 (by show ¬ w.heap.size = w1.heap.size; omega)).mod hm8 nb1
    refine storeN_blk0 hB18 rfl (sc rfl) (fun w9 hg9 _ hB9 => ?_)
    have hM9 : Mod (· = w.heap.size) w8 w9 := Mod.of_grown hg9 rfl
    refine loadN_blk0 hB9 rfl ?_
    have hz04 := hm04.size
    have keep : ∀ x : DV, (∀ i, rowS x.A i → w5.heap.size ≤ i) → SB w6 x.A x.n x.c x.nd → SB w9 x.A x.n x.c x.nd := fun x hr hx =>
      SB.mod (SB.mod (SB.mod hx hM7 (fun i hi e => by have := hr i hi; omega)) hm8 (fun i hi hj => by have := hr i hi; have := (ho.rows i hj).2; omega)) hM9 (fun i hi e => by have := hr i hi; omega)
    have hall : Mod (rowS (some a)) w w9 := ((hm04.trans hM47 (fun i hi => .inr (by omega))).trans hm8 (fun i hi => .inl hi)).trans hM9 (fun i hi => .inr (by omega))
    refine ⟨ht, hall, o, b, d, he, rfl, keep b hbr hb6, hbs, fun i hi => by have := hbr i hi; omega, keep d hdr hd6, hds, fun i hi => by have := hdr i hi; omega, ho8.mod hM9 (fun i hi e => by subst e; exact nb1 hi)⟩
end
end
end Go.Proofs.YtedopgkbajhanaaGreatDoor
