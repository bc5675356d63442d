/-
  formula: the parser's state; skip, put.
  formula: expressions: a chain of operands. (Printed by fb2gen.py.)
  formula: factors, whole expressions.
  formula: factor.
  Functions that defer: codes one behind the other, with what is deferred; the function's end behind its deferred calls.
  formula: what Parse defers: it recovers.
  formula: Parse.
  Conditions: none.
-/
import Derived.Test.YtedopgkbajhanaaGreatDoorKaa
import Derived.Test.YtedopgkbajhanaaGreatDoorMod
import Derived.Recover
namespace Go.Proofs.YtedopgkbajhanaaGreatDoor
section
open Go Go.RowKit

theorem qloadN {C : World → Prop} {p : Addr} {n : Nat} {vs : List Value} {K : List Value → Prop} (hl : vs.length = n) (h : ∀ w, C w → ∀ j v, vs[j]? = some v → w.cell? (p.add j) = some v) (k : K vs) : QLoadN C p n K := by unfold QLoadN; exact ⟨vs, hl, h, k⟩

/-- Nodes in memory. -/
def fzV (f : List Fz) : List Value := f.flatMap Fz.cells
theorem fzV_len (f : List Fz) : (fzV f).length = f.length * 4 := flat_length fz_len f
theorem fzV_snoc (f : List Fz) (x : Fz) : fzV (f ++ [x]) = fzV f ++ x.cells := by simp [fzV]

/-- The reader at r reads as p; its nodes lie at A, in memory from base on. -/
structure Rd (w : World) (base r : Nat) (A : Option Addr) (c : Nat) (mp : Value) (p : Ps) : Prop where
  blk : Blk w r 123 [mp, .string (strOf p.r), .slice A p.f.length c, .bool p.u]
  own : Own w base 205 4 A p.f.length c (fzV p.f)
  lt : r < base
  top : base ≤ w.heap.size
  b8 : ∀ x ∈ p.r, x < 256
  lim : p.f.length + p.r.length ≤ 1000000000000
theorem Rd.ext {w w' : World} {base r : Nat} {A : Option Addr} {c : Nat} {mp : Value} {p : Ps} (h : Rd w base r A c mp p) (k : Ext w w') : Rd w' base r A c mp p :=
  ⟨h.blk.ext k, h.own.ext k, h.lt, Nat.le_trans h.top k.size, h.b8, h.lim⟩
/-- What the parser writes. -/
def RdS (r : Nat) (A : Option Addr) : Nat → Prop := fun k => k = r ∨ rowS A k
/-- The reader moved on. -/
def RdTo (w : World) (base r : Nat) (A : Option Addr) (mp : Value) (p : Ps) (w' : World) : Prop := ∃ A' c', Rd w' base r A' c' mp p ∧ Mod (RdS r A) w w' ∧ Moved w A A'
theorem RdTo.refl {w : World} {base r : Nat} {A : Option Addr} {c : Nat} {mp : Value} {p : Ps} (h : Rd w base r A c mp p) : RdTo w base r A mp p w := ⟨A, c, h, Mod.refl _ _, Moved.refl _ _⟩
theorem RdTo.step {w w1 w2 : World} {base r : Nat} {A A1 : Option Addr} {mp : Value} {p : Ps} (h : RdTo w1 base r A1 mp p w2) (hm : Mod (RdS r A) w w1) (hv : Moved w A A1) : RdTo w base r A mp p w2 := by
  obtain ⟨A2, c2, h2, hm2, hv2⟩ := h
  refine ⟨A2, c2, h2, hm.trans hm2 (fun i hi => ?_), hv.trans hv2 hm.size⟩
  rcases hi with rfl | hi
  · exact .inl (.inl rfl)
  · rcases hv.rows i hi with h | h
    · exact .inl (.inr h)
    · exact .inr h
theorem Rd.nrow {w : World} {base r : Nat} {A : Option Addr} {c : Nat} {mp : Value} {p : Ps} (h : Rd w base r A c mp p) : ¬ rowS A r := fun hr => by
  have := (h.own.rows r hr).1
  have := h.lt
  omega

theorem trimB_len (l : List Nat) : (trimB l).length ≤ l.length := (List.dropWhile_suffix _).sublist.length_le
theorem trimB_b8 {l : List Nat} (h : ∀ x ∈ l, x < 256) : ∀ x ∈ trimB l, x < 256 := fun x hx => h x ((List.dropWhile_suffix _).subset hx)
theorem skipP_eq (sym : List Nat) (p : Ps) : skipP sym p = (sym.isPrefixOf (trimB p.r), { p with r := if sym.isPrefixOf (trimB p.r) then (trimB p.r).drop sym.length else trimB p.r }) := by
  unfold skipP; cases sym.isPrefixOf (trimB p.r) <;> rfl

theorem skip_fn (base r : Nat) (A : Option Addr) (c : Nat) (mp : Value) (p : Ps) (sym : List Nat) (w : World) (h : Rd w base r A c mp p) (hs : ∀ x ∈ sym, x < 256) :
    Fn Tryz.prog 71 [.pointer (some ⟨r, 0, none⟩), .string (strOf sym)] w (fun v w' => v = .bool (skipP sym p).1 ∧ Rd w' base r A c mp (skipP sym p).2 ∧ Mod (· = r) w w') := by
  have hl := h.lim
  have htl := trimB_len p.r
  have ht8 := trimB_b8 h.b8
  refine fn_of_exec (c := c71) gx_ok Tryz.func71 rfl rfl rfl ?_
  refine load_blk h.blk rfl ?_
  refine call (trimleft_fn p.r w h.b8 (by omega)) ?_
  rintro v w1 ⟨rfl, hE1⟩
  refine store_mod (h.blk.ext hE1) (by simp) (fun w2 hm2 hB2 => ?_)
  refine load_blk hB2 rfl ?_
  refine call (cutprefix_fn (trimB p.r) sym w2 ht8 hs) ?_
  rintro v w3 ⟨rfl, rfl⟩
  have hM : ∀ w3, Mod (· = r) w2 w3 → Mod (· = r) w w3 := fun w3 hm3 => ((Mod.of_ext (· = r) hE1).trans hm2 (fun i hi => .inl hi)).trans hm3 (fun i hi => .inl hi)
  rw [skipP_eq]
  unfold cutV
  cases hp : sym.isPrefixOf (trimB p.r) with
  | true =>
    refine store_mod hB2 (by simp) (fun w3 hm3 hB3 => ?_)
    have hmm := hM w3 hm3
    have hlen : ((trimB p.r).drop sym.length).length ≤ p.r.length := by rw [List.length_drop]; omega
    exact ⟨rfl, ⟨hB3, h.own.mod hmm (fun i hi e => by subst e; exact h.nrow hi), h.lt, Nat.le_trans h.top hmm.size, fun x hx => ht8 x (List.mem_of_mem_drop hx), by show p.f.length + ((trimB p.r).drop sym.length).length ≤ _; omega⟩, hmm⟩
  | false =>
    refine store_mod hB2 (by simp) (fun w3 hm3 hB3 => ?_)
    have hmm := hM w3 hm3
    exact ⟨rfl, ⟨hB3, h.own.mod hmm (fun i hi e => by subst e; exact h.nrow hi), h.lt, Nat.le_trans h.top hmm.size, ht8, by show p.f.length + (trimB p.r).length ≤ _; omega⟩, hmm⟩

theorem put_fn (base r : Nat) (A : Option Addr) (c : Nat) (mp : Value) (p : Ps) (x : Fz) (w : World) (h : Rd w base r A c mp p) (hl : p.f.length + p.r.length + 1 ≤ 1000000000000) :
    Fn Tryz.prog 139 [.pointer (some ⟨r, 0, none⟩), .agg x.cells.toArray] w (fun v w' => v = .int .i64 (p.f.length : Nat) ∧ RdTo w base r A mp (putP x p).2 w') := by
  refine fn_of_exec (c := c139) gx_ok Tryz.func139 rfl rfl rfl ?_
  refine new (fun w1 hE1 hz1 hB1 => ?_)
  have h1 := h.ext hE1
  have hrows := h.own.rows
  have hC0 : Mod (rowS A) w1 w1.drew := Mod.of_ext _ (Ext.drew w1)
  refine draw_plan gx_ok (Mod (rowS A) w1) 8 [(true, 0), (true, 1), (true, 2), (true, 3), (true, 4), (true, 5), (false, 6), (false, 7)] (by kernel_rfl) hC0 ?_
  refine qload (v := .slice A p.f.length c) (fun w' hw' => by rw [(h1.blk.mod hw' h.nrow).cell]; rfl) ?_
  have hn1 : ¬ rowS A w.heap.size := fun hr => by have := (hrows _ hr).2; omega
  refine qloadN (vs := x.cells) rfl (fun w' hw' j v hj => by rw [(hB1.mod hw' hn1).cell]; exact hj) ?_
  refine at_buildN gx_ok [x.cells] rfl rfl rfl rfl rfl ⟨rfl, rfl, ⟨⟩⟩ rfl (fun cs h => by simp only [List.mem_singleton] at h; subst h; rfl) rfl (by decide) (by decide) ?_
  intro w2 hE2 hz2 hB2
  have hE12 := (Ext.drew w1).trans hE2
  have h2 := h1.ext hE12
  refine ⟨Mod.of_ext _ hE12, ?_⟩
  have hs2 : Sl w2 4 (some ⟨w1.drew.heap.size, 0, none⟩) 1 1 x.cells := Sl.own (sz := 4) (n := 1) hB2 (Nat.le_refl _) (by decide) (by simp [Fz.cells])
  refine at_app gx_ok rfl rfl rfl rfl rfl (by decide) rfl rfl ⟨_, rfl⟩ rfl rfl h2.own hs2 (by intro u hu; simp [Fz.cells] at hu; rcases hu with rfl | rfl | rfl | rfl <;> rfl) (by unfold maxLen; omega) (by show _ * 32 ≤ _; omega) h2.top ?_
  intro A' c' w3 hm3 hown3 hmv3
  have hM13 : Mod (rowS A) w1 w3 := (Mod.of_ext (rowS A) hE12).trans hm3 (fun i hi => .inl hi)
  refine ⟨hM13, ?_⟩
  have hB3 := h1.blk.mod hM13 h.nrow
  refine store_mod hB3 (by simp) (fun w4 hm4 hB4 => ?_)
  refine load_blk hB4 rfl ?_
  have hz := hE12.size
  have hrows3 : ∀ k, rowS A' k → base ≤ k := fun k hk => (hown3.rows k hk).1
  have hM4 : Mod (RdS r A) w w4 := ((Mod.of_ext (RdS r A) hE1).trans hM13 (fun i hi => .inl (.inr hi))).trans hm4 (fun i hi => .inl (.inl hi))
  refine norm_i64_to ((p.f.length : Nat) : Int) (by omega) (by omega) ?_
  refine ⟨rfl, A', c', ⟨?_, ?_, h.lt, Nat.le_trans h.top hM4.size, h.b8, ?_⟩, hM4, hmv3.back (Nat.le_trans hE1.size hz)⟩
  · have e : (putP x p).2.f.length = p.f.length + 1 := by simp [putP]
    rw [e]; exact hB4
  · have e : (putP x p).2.f.length = p.f.length + 1 := by simp [putP]
    rw [e, show fzV (putP x p).2.f = fzV p.f ++ x.cells from fzV_snoc _ _]
    exact hown3.mod hm4 (fun k hk e => by have := hrows3 k hk; have := h.lt; omega)
  · have e : (putP x p).2.f.length = p.f.length + 1 := by simp [putP]
    rw [e]; show p.f.length + 1 + p.r.length ≤ _; omega
end

section
open Go Go.RowKit

theorem at_panic {c : Cx} {o : Oper} {S : Env} {w : World} {K : Env → World → Prop} {Q : Post} {t : Nat} {v : Value} {x : Operand} (ho : o.op = .panic x) (hx : S.ev x = some (.iface t v))
    (k : Q (.panic [{ v := .iface t v, recovered := false }]) S w) : AtOp c o S w K Q := by
  unfold AtOp
  intro a hf
  have e1 := hf.ev hx
  unfold Oper.wp
  have : (execOp a.eval o).run c.g.P w = .halt (.panic (.iface t v)) w := by
    simp only [execOp, ho, e1]
    simp [Instr.panic, goPanic]
  rw [this]
  exact ⟨S, hf, k⟩

/-- What a wrong expression ends with. -/
def synPan : List PanicEntry := [{ v := .iface 30 (.int .i64 31), recovered := false }]
def PanTo (w : World) (r : Nat) (A : Option Addr) (ch : List PanicEntry) (w' : World) : Prop := ch = synPan ∧ Mod (RdS r A) w w'
theorem RdS.trans {w w1 w2 : World} {r : Nat} {A A1 : Option Addr} (hm : Mod (RdS r A) w w1) (hv : Moved w A A1) (h : Mod (RdS r A1) w1 w2) : Mod (RdS r A) w w2 :=
  hm.trans h (fun i hi => by
    rcases hi with rfl | hi
    · exact .inl (.inl rfl)
    · rcases hv.rows i hi with h | h
      · exact .inl (.inr h)
      · exact .inr h)
theorem PanTo.step {w w1 w2 : World} {r : Nat} {A A1 : Option Addr} {ch : List PanicEntry} (h : PanTo w1 r A1 ch w2) (hm : Mod (RdS r A) w w1) (hv : Moved w A A1) : PanTo w r A ch w2 := ⟨h.1, RdS.trans hm hv h.2⟩

/-- An operand takes something, and makes no more nodes than it takes bytes. -/
def Lim (opd : Ps → Option (Nat × Ps)) : Prop := ∀ p a p', opd p = some (a, p') → p'.f.length + p'.r.length ≤ p.f.length + p.r.length ∧ p'.r.length < p.r.length

theorem skip_len (sym : List Nat) (p p1 : Ps) (b : Bool) (h : skipP sym p = (b, p1)) : p1.f = p.f ∧ p1.u = p.u ∧ p1.r.length ≤ p.r.length ∧ (b = true → p1.r.length + sym.length ≤ p.r.length) := by
  rw [skipP_eq] at h
  have ht := trimB_len p.r
  cases h
  refine ⟨rfl, rfl, ?_, fun hb => ?_⟩
  · show List.length (if _ then _ else _) ≤ _
    split
    · rw [List.length_drop]; omega
    · exact ht
  · show List.length (if _ then _ else _) + _ ≤ _
    rw [if_pos hb, List.length_drop]
    have := (List.isPrefixOf_iff_prefix.1 hb).length_le
    omega

theorem loopP_lim {sym : List Nat} {op : Int} {opd : Ps → Option (Nat × Ps)} (hs : 0 < sym.length) (hl : Lim opd) : ∀ (m a : Nat) (p : Ps) (b : Nat) (p' : Ps), loopP sym op opd m a p = some (b, p') → p'.f.length + p'.r.length ≤ p.f.length + p.r.length ∧ p'.r.length ≤ p.r.length
  | 0, a, p, b, p', h => by cases h
  | m + 1, a, p, b, p', h => by
    unfold loopP at h
    cases hk : skipP sym p with
    | mk t p1 =>
      obtain ⟨h1, h2, h3, h4⟩ := skip_len sym p p1 t hk
      rw [hk] at h
      cases t with
      | false => cases h; rw [h1]; omega
      | true =>
        simp only at h
        cases ho : opd p1 with
        | none => rw [ho] at h; cases h
        | some q =>
          obtain ⟨d, p2⟩ := q
          rw [ho] at h
          simp only at h
          obtain ⟨h5, h6⟩ := hl p1 d p2 ho
          have := loopP_lim hs hl m _ _ b p' h
          simp only [List.length_append, List.length_cons, List.length_nil] at this
          have := h4 rfl
          rw [h1] at h5
          omega
theorem chainP_lim {sym : List Nat} {op : Int} {opd : Ps → Option (Nat × Ps)} (hs : 0 < sym.length) (hl : Lim opd) : Lim (chainP sym op opd) := by
  intro p b p' h
  unfold chainP at h
  cases ho : opd p with
  | none => rw [ho] at h; cases h
  | some q =>
    obtain ⟨a, p1⟩ := q
    rw [ho] at h
    simp only at h
    have h1 := hl p a p1 ho
    have h2 := loopP_lim hs hl _ _ _ b p' h
    omega

/-- What an operand does. -/
structure OpdC (L base r : Nat) (mp : Value) (fid : Nat) (args : List Value) (G : World → Option Addr → Prop) (opd : Ps → Option (Nat × Ps)) : Prop where
  run : ∀ w A c p, Rd w base r A c mp p → G w A → p.r.length < L → FnP Tryz.prog fid args w (fun v w' => ∃ (a : Nat) (p' : Ps), opd p = some (a, p') ∧ v = .int .i64 (a : Nat) ∧ RdTo w base r A mp p' w') (fun ch w' => opd p = none ∧ PanTo w r A ch w')
  stay : ∀ w w' A A', G w A → Mod (RdS r A) w w' → Moved w A A' → G w' A'
  lim : Lim opd

structure Est where
  a : Nat
  p : Ps
  A : Option Addr
  c : Nat

theorem expression_f (L base r : Nat) (A : Option Addr) (c : Nat) (mp : Value) (p : Ps) (sym : List Nat) (op : Int) (G : World → Option Addr → Prop) (opd : Ps → Option (Nat × Ps)) (w : World)
    (h : Rd w base r A c mp p) (hG : G w A) (hs : ∀ x ∈ sym, x < 256) (hs0 : 0 < sym.length) (hL : p.r.length < L) (H : OpdC L base r mp 110 [.pointer (some ⟨r, 0, none⟩)] G opd) :
    FnP Tryz.prog 108 [.pointer (some ⟨r, 0, none⟩), .string (strOf sym), .int .i64 op, .func (.func 110) #[.pointer (some ⟨r, 0, none⟩)] #[]] w
      (fun v w' => ∃ (a : Nat) (p' : Ps), chainP sym op opd p = some (a, p') ∧ v = .int .i64 (a : Nat) ∧ RdTo w base r A mp p' w') (fun ch w' => chainP sym op opd p = none ∧ PanTo w r A ch w') := by
  refine fnP_of_exec (c := { c108 with cuts := [] }) gx_ok Tryz.func108 rfl rfl rfl ?_
  refine callP (H.run w A c p h hG hL) ?_ ?_
  rotate_left
  · rintro ch w1 ⟨ho, hp⟩
    refine ⟨?_, hp⟩
    unfold chainP; rw [ho]
  rintro v w1 ⟨a, p1, ho, rfl, A1, c1, h1, hm1, hv1⟩
  obtain ⟨hl1, hl2⟩ := H.lim p a p1 ho
  have hch : chainP sym op opd p = loopP sym op opd (p1.r.length + 1) a p1 := by unfold chainP; rw [ho]
  refine loop gx_ok [9] (fun s : Est => [.int .i64 s.a]) (fun s w' => Rd w' base r s.A s.c mp s.p ∧ G w' s.A ∧ s.p.r.length < L ∧ Mod (RdS r A) w w' ∧ Moved w A s.A ∧ ∃ m, s.p.r.length < m ∧ loopP sym op opd m s.a s.p = chainP sym op opd p) (fun s _ => s.p.r.length) ⟨a, p1, A1, c1⟩ rfl ⟨h1, H.stay w w1 A A1 hG hm1 hv1, by show p1.r.length < L; omega, hm1, hv1, _, Nat.lt_succ_self _, hch.symm⟩ ?_
  rintro ⟨d, q, A2, c2⟩ w2 ⟨h2, hG2, hL2, hm2, hv2, m, hlm, hmm⟩
  simp only at h2 hG2 hL2 hm2 hv2 hlm hmm
  refine call (skip_fn base r A2 c2 mp q sym w2 h2 hs) ?_
  rintro v w3 ⟨rfl, h3, hm3⟩
  cases m with
  | zero => omega
  | succ m =>
  unfold loopP at hmm
  have hm3' : Mod (RdS r A2) w2 w3 := hm3.mono (fun i hi => .inl (.inl hi))
  have hm03 := RdS.trans hm2 hv2 hm3'
  cases hk : skipP sym q with
  | mk t q1 =>
    obtain ⟨k1, k2, k3, k4⟩ := skip_len sym q q1 t hk
    rw [hk] at h3 hmm
    simp only at h3
    cases t with
    | false =>
      refine wif_f rfl ?_
      exact ⟨d, q1, hmm.symm, rfl, A2, c2, h3, hm03, hv2⟩
    | true =>
      refine wif_t rfl ?_
      simp only at hmm
      have k5 := k4 rfl
      have hG3 := H.stay w2 w3 A2 A2 hG2 hm3' (Moved.refl _ _)
      refine callP (H.run w3 A2 c2 q1 h3 hG3 (by omega)) ?_ ?_
      rotate_left
      · rintro ch w4 ⟨ho2, hp⟩
        rw [ho2] at hmm
        exact ⟨hmm.symm, hp.step hm03 hv2⟩
      rintro v w4 ⟨b, q2, ho2, rfl, A4, c4, h4, hm4, hv4⟩
      obtain ⟨l1, l2⟩ := H.lim q1 b q2 ho2
      rw [ho2] at hmm
      simp only at hmm
      have hlq := h2.lim
      rw [k1] at l1
      have hG4 := H.stay w3 w4 A2 A4 hG3 hm4 hv4
      have hm04 := RdS.trans hm03 hv2 hm4
      have hv04 := hv2.trans hv4 hm03.size
      refine call (put_fn base r A4 c4 mp q2 ⟨op, 0, d, b⟩ w4 h4 (by omega)) ?_
      rintro v w5 ⟨rfl, A5, c5, h5, hm5, hv5⟩
      refine ⟨⟨q2.f.length, (putP ⟨op, 0, d, b⟩ q2).2, A5, c5⟩, rfl, ⟨h5, H.stay w4 w5 A4 A5 hG4 hm5 hv5, ?_, RdS.trans hm04 hv04 hm5, hv04.trans hv5 hm04.size, m, ?_, hmm⟩, ?_⟩
      · show q2.r.length < L; omega
      · show q2.r.length < m; omega
      · show q2.r.length < q.r.length; omega

theorem expression_w (L base r : Nat) (A : Option Addr) (c : Nat) (mp : Value) (p : Ps) (sym : List Nat) (op : Int) (x : Nat) (G : World → Option Addr → Prop) (opd : Ps → Option (Nat × Ps)) (w : World)
    (h : Rd w base r A c mp p) (hG : G w A) (hs : ∀ x ∈ sym, x < 256) (hs0 : 0 < sym.length) (hL : p.r.length < L) (H : OpdC L base r mp 109 [.pointer (some ⟨x, 0, none⟩)] G opd) :
    FnP Tryz.prog 108 [.pointer (some ⟨r, 0, none⟩), .string (strOf sym), .int .i64 op, .func (.func 109) #[] #[.pointer (some ⟨x, 0, none⟩)]] w
      (fun v w' => ∃ (a : Nat) (p' : Ps), chainP sym op opd p = some (a, p') ∧ v = .int .i64 (a : Nat) ∧ RdTo w base r A mp p' w') (fun ch w' => chainP sym op opd p = none ∧ PanTo w r A ch w') := by
  refine fnP_of_exec (c := { c108 with cuts := [] }) gx_ok Tryz.func108 rfl rfl rfl ?_
  refine callP (H.run w A c p h hG hL) ?_ ?_
  rotate_left
  · rintro ch w1 ⟨ho, hp⟩
    refine ⟨?_, hp⟩
    unfold chainP; rw [ho]
  rintro v w1 ⟨a, p1, ho, rfl, A1, c1, h1, hm1, hv1⟩
  obtain ⟨hl1, hl2⟩ := H.lim p a p1 ho
  have hch : chainP sym op opd p = loopP sym op opd (p1.r.length + 1) a p1 := by unfold chainP; rw [ho]
  refine loop gx_ok [9] (fun s : Est => [.int .i64 s.a]) (fun s w' => Rd w' base r s.A s.c mp s.p ∧ G w' s.A ∧ s.p.r.length < L ∧ Mod (RdS r A) w w' ∧ Moved w A s.A ∧ ∃ m, s.p.r.length < m ∧ loopP sym op opd m s.a s.p = chainP sym op opd p) (fun s _ => s.p.r.length) ⟨a, p1, A1, c1⟩ rfl ⟨h1, H.stay w w1 A A1 hG hm1 hv1, by show p1.r.length < L; omega, hm1, hv1, _, Nat.lt_succ_self _, hch.symm⟩ ?_
  rintro ⟨d, q, A2, c2⟩ w2 ⟨h2, hG2, hL2, hm2, hv2, m, hlm, hmm⟩
  simp only at h2 hG2 hL2 hm2 hv2 hlm hmm
  refine call (skip_fn base r A2 c2 mp q sym w2 h2 hs) ?_
  rintro v w3 ⟨rfl, h3, hm3⟩
  cases m with
  | zero => omega
  | succ m =>
  unfold loopP at hmm
  have hm3' : Mod (RdS r A2) w2 w3 := hm3.mono (fun i hi => .inl (.inl hi))
  have hm03 := RdS.trans hm2 hv2 hm3'
  cases hk : skipP sym q with
  | mk t q1 =>
    obtain ⟨k1, k2, k3, k4⟩ := skip_len sym q q1 t hk
    rw [hk] at h3 hmm
    simp only at h3
    cases t with
    | false =>
      refine wif_f rfl ?_
      exact ⟨d, q1, hmm.symm, rfl, A2, c2, h3, hm03, hv2⟩
    | true =>
      refine wif_t rfl ?_
      simp only at hmm
      have k5 := k4 rfl
      have hG3 := H.stay w2 w3 A2 A2 hG2 hm3' (Moved.refl _ _)
      refine callP (H.run w3 A2 c2 q1 h3 hG3 (by omega)) ?_ ?_
      rotate_left
      · rintro ch w4 ⟨ho2, hp⟩
        rw [ho2] at hmm
        exact ⟨hmm.symm, hp.step hm03 hv2⟩
      rintro v w4 ⟨b, q2, ho2, rfl, A4, c4, h4, hm4, hv4⟩
      obtain ⟨l1, l2⟩ := H.lim q1 b q2 ho2
      rw [ho2] at hmm
      simp only at hmm
      have hlq := h2.lim
      rw [k1] at l1
      have hG4 := H.stay w3 w4 A2 A4 hG3 hm4 hv4
      have hm04 := RdS.trans hm03 hv2 hm4
      have hv04 := hv2.trans hv4 hm03.size
      refine call (put_fn base r A4 c4 mp q2 ⟨op, 0, d, b⟩ w4 h4 (by omega)) ?_
      rintro v w5 ⟨rfl, A5, c5, h5, hm5, hv5⟩
      refine ⟨⟨q2.f.length, (putP ⟨op, 0, d, b⟩ q2).2, A5, c5⟩, rfl, ⟨h5, H.stay w4 w5 A4 A5 hG4 hm5 hv5, ?_, RdS.trans hm04 hv04 hm5, hv04.trans hv5 hm04.size, m, ?_, hmm⟩, ?_⟩
      · show q2.r.length < L; omega
      · show q2.r.length < m; omega
      · show q2.r.length < q.r.length; omega
end

section
open Go Go.RowKit

theorem need_to {p : Prop} {v v' : Value} {K : Value → Prop} (hp : p) (h : v = v') (k : K v') : Need p v K := by unfold Need; exact ⟨hp, by rw [h]; exact k⟩
theorem MapAt.mod {α : Type} {kv : α → Value} {S : Nat → Prop} {w w' : World} {r : Nat} {m : List (α × Value)} (h : MapAt kv w r m) (k : Mod S w w') (hn : ¬ S r) : MapAt kv w' r m := by
  obtain ⟨bs, ck, hl, hb⟩ := h.ex
  exact ⟨bs, ck, hl, (k.block r (Array.getElem?_eq_some_iff.1 hb).1 hn).trans hb⟩
theorem at_lookup_ok' {α : Type} [DecidableEq α] {kv : α → Value} {c : Cx} {o : Oper} {S : Env} {w : World} {K : Env → World → Prop} {Q : Post} {t ke e : Nat} {r rk re : TyRow} {x y : Operand} {q : Nat} {m : List (α × Value)} {a : α} {v : Value} {b : Bool} (hg : c.g.Ok)
    (ho : o.op = .lookup t x y true) (hr : rowOf c.g.tys t = some r) (hd : r.d = .map ke e) (hrk : rowOf c.g.tys ke = some rk) (hre : rowOf c.g.tys e = some re) (hk : KeyV rk.d kv)
    (hx : S.ev x = some (.map (some q))) (hy : S.ev y = some (kv a)) (hm : MapAt kv w q m) (hv : (assoc a m).getD re.z = v) (hb : (assoc a m).isSome = b) (k : putK c S o.dst (.v (.tuple #[v, .bool b])) (fun S => K S w)) : AtOp c o S w K Q := by
  subst hv; subst hb
  exact at_lookup_ok hg ho hr hd hrk hre hk hx hy hm k

section
variable (ix : List Nat → Option Nat) (n : Nat)
theorem facP_not {p p1 : Ps} (h : skipP [33] p = (true, p1)) : facP ix (n + 1) p = match facP ix n p1 with
    | none => none
    | some (a, p2) => some (putP ⟨3, 0, a, 0⟩ p2) := by rw [facP, h]; rfl
theorem facP_par {p p1 p2 : Ps} (h : skipP [33] p = (false, p1)) (h2 : skipP [40] p1 = (true, p2)) : facP ix (n + 1) p = match wholeP ix n p2 with
    | none => none
    | some (a, p3) => match skipP [41] p3 with
      | (true, p4) => some (a, p4)
      | (false, _) => none := by rw [facP, h]; simp only; rw [h2]; rfl
theorem facP_id {p p1 p2 : Ps} (h : skipP [33] p = (false, p1)) (h2 : skipP [40] p1 = (false, p2)) : facP ix (n + 1) p = if idLen p2.r = 0 then none else
      if p2.r.take (idLen p2.r) = trueL then some (putP ⟨1, 0, 0, 0⟩ { p2 with r := p2.r.drop (idLen p2.r) }) else if p2.r.take (idLen p2.r) = falseL then some (putP ⟨0, 0, 0, 0⟩ { p2 with r := p2.r.drop (idLen p2.r) }) else
        some (putP ⟨2, ((ix (p2.r.take (idLen p2.r))).getD 0 : Nat), 0, 0⟩ { p2 with r := p2.r.drop (idLen p2.r), u := p2.u || (ix (p2.r.take (idLen p2.r))).isNone }) := by
  rw [facP, h]; simp only; rw [h2]; rfl
end

theorem facP_lim (ix : List Nat → Option Nat) : ∀ n, Lim (facP ix n)
  | 0 => fun p a p' h => by cases h
  | n + 1 => fun p a p' h => by
    have ih := facP_lim ix n
    cases hk : skipP [33] p with
    | mk t p1 =>
      obtain ⟨k1, _, k3, k4⟩ := skip_len _ p p1 t hk
      cases t with
      | true =>
        rw [facP_not ix n hk] at h
        cases ho : facP ix n p1 with
        | none => rw [ho] at h; cases h
        | some q =>
          obtain ⟨d, p2⟩ := q
          rw [ho] at h
          cases h
          have := ih p1 d p2 ho
          have := k4 rfl
          rw [k1] at *
          simp only [List.length_append, List.length_cons, List.length_nil] at *
          omega
      | false =>
        cases hk2 : skipP [40] p1 with
        | mk t2 p2 =>
          obtain ⟨j1, _, j3, j4⟩ := skip_len _ p1 p2 t2 hk2
          cases t2 with
          | true =>
            rw [facP_par ix n hk hk2] at h
            cases ho : wholeP ix n p2 with
            | none => rw [ho] at h; cases h
            | some q =>
              obtain ⟨d, p3⟩ := q
              rw [ho] at h
              simp only at h
              have hw : Lim (wholeP ix n) := chainP_lim (by decide) (chainP_lim (by decide) ih)
              have := hw p2 d p3 ho
              cases hk3 : skipP [41] p3 with
              | mk t3 p4 =>
                obtain ⟨i1, _, i3, i4⟩ := skip_len _ p3 p4 t3 hk3
                rw [hk3] at h
                cases t3 with
                | false => cases h
                | true =>
                  cases h
                  have := j4 rfl
                  have := i4 rfl
                  rw [i1]
                  rw [j1, k1] at *
                  omega
          | false =>
            rw [facP_id ix n hk hk2] at h
            split at h
            · cases h
            rename_i hn
            have hle := idLen_le p2.r
            have key : (p2.r.drop (idLen p2.r)).length + 1 ≤ p2.r.length := by rw [List.length_drop]; omega
            rw [j1, k1] at *
            split at h
            · cases h; simp only [List.length_append, List.length_cons, List.length_nil]; rw [j1, k1]; omega
            split at h
            · cases h; simp only [List.length_append, List.length_cons, List.length_nil]; rw [j1, k1]; omega
            · cases h; simp only [List.length_append, List.length_cons, List.length_nil]; rw [j1, k1]; omega

/-- The names' map lies at q, apart from what the parser writes. -/
def GM (r q : Nat) (m : List (ByteArray × Value)) (w : World) (A : Option Addr) : Prop := MapAt strK w q m ∧ q ≠ r ∧ ¬ rowS A q
theorem GM.stay {r q : Nat} {m : List (ByteArray × Value)} {w w' : World} {A A' : Option Addr} (h : GM r q m w A) (hm : Mod (RdS r A) w w') (hv : Moved w A A') : GM r q m w' A' :=
  ⟨h.1.mod hm (fun e => e.elim h.2.1 h.2.2), h.2.1, fun hr => (hv.rows q hr).elim h.2.2 (fun hle => by have := h.1.lt; omega)⟩
/-- And the box that holds the reader. -/
def GB (r q x : Nat) (m : List (ByteArray × Value)) (w : World) (A : Option Addr) : Prop := GM r q m w A ∧ Blk w x 121 [.pointer (some ⟨r, 0, none⟩)] ∧ x ≠ r ∧ ¬ rowS A x
theorem GB.stay {r q x : Nat} {m : List (ByteArray × Value)} {w w' : World} {A A' : Option Addr} (h : GB r q x m w A) (hm : Mod (RdS r A) w w') (hv : Moved w A A') : GB r q x m w' A' :=
  ⟨h.1.stay hm hv, h.2.1.mod hm (fun e => e.elim h.2.2.1 h.2.2.2), h.2.2.1, fun hr => (hv.rows x hr).elim h.2.2.2 (fun hle => by have := h.2.1.lt; omega)⟩

theorem conj_opd {L base r q x : Nat} {m : List (ByteArray × Value)} {mp : Value} {opd : Ps → Option (Nat × Ps)} (H : OpdC L base r mp 110 [.pointer (some ⟨r, 0, none⟩)] (GM r q m) opd) :
    OpdC L base r mp 109 [.pointer (some ⟨x, 0, none⟩)] (GB r q x m) (chainP [38, 38] 4 opd) := by
  refine ⟨fun w A c p h hG hL => ?_, fun w w' A A' h hm hv => h.stay hm hv, chainP_lim (by decide) H.lim⟩
  refine fnP_of_exec (c := { c109 with cuts := [] }) gx_ok Tryz.func109 rfl rfl rfl ?_
  refine load_blk0 hG.2.1 rfl ?_
  refine load_blk0 hG.2.1 rfl ?_
  refine callP (expression_f L base r A c mp p [38, 38] 4 (GM r q m) opd w h hG.1 (by decide) (by decide) hL H) ?_ ?_
  · rintro v w1 ⟨a, p', h1, rfl, h2⟩
    exact ⟨a, p', h1, rfl, h2⟩
  · rintro ch w1 h1
    exact h1

theorem whole_fn (L base r : Nat) (A : Option Addr) (c : Nat) (p : Ps) (q : Nat) (m : List (ByteArray × Value)) (mp : Value) (opd : Ps → Option (Nat × Ps)) (w : World) (h : Rd w base r A c mp p) (hG : GM r q m w A) (hL : p.r.length < L)
    (H : OpdC L base r mp 110 [.pointer (some ⟨r, 0, none⟩)] (GM r q m) opd) :
    FnP Tryz.prog 70 [.pointer (some ⟨r, 0, none⟩)] w (fun v w' => ∃ (a : Nat) (p' : Ps), chainP [124, 124] 5 (chainP [38, 38] 4 opd) p = some (a, p') ∧ v = .int .i64 (a : Nat) ∧ RdTo w base r A mp p' w') (fun ch w' => chainP [124, 124] 5 (chainP [38, 38] 4 opd) p = none ∧ PanTo w r A ch w') := by
  refine fnP_of_exec (c := { c70 with cuts := [] }) gx_ok Tryz.func70 rfl rfl rfl ?_
  refine new (fun w1 hE1 hz1 hB1 => ?_)
  refine load_blk0 hB1 rfl ?_
  have hlt := h.lt
  have htop := h.top
  have hM1 : Mod (RdS r A) w w1 := Mod.of_ext _ hE1
  have hn : ¬ rowS A w.heap.size := fun hr => by have := (h.own.rows _ hr).2; omega
  refine callP (expression_w L base r A c mp p [124, 124] 5 w.heap.size (GB r q w.heap.size m) (chainP [38, 38] 4 opd) w1 (h.ext hE1) ⟨hG.stay hM1 (Moved.refl _ _), hB1, by omega, hn⟩ (by decide) (by decide) hL (conj_opd H)) ?_ ?_
  · rintro v w2 ⟨a, p', h1, rfl, h2⟩
    exact ⟨a, p', h1, rfl, h2.step hM1 (Moved.refl _ _)⟩
  · rintro ch w2 ⟨h1, h2⟩
    exact ⟨h1, h2.step hM1 (Moved.refl _ _)⟩
end

section
open Go Go.RowKit

/-- The map tells the conditions' numbers. -/
def IxOk (ix : List Nat → Option Nat) (m : List (ByteArray × Value)) : Prop := ∀ l : List Nat, (∀ x ∈ l, x < 256) → assoc (strOf l) m = (ix l).map (fun v : Nat => Value.int .i64 v)

theorem factor_opd (ix : List Nat → Option Nat) (base r q : Nat) (m : List (ByteArray × Value)) (hix : IxOk ix m) : ∀ n, OpdC n base r (.map (some q)) 110 [.pointer (some ⟨r, 0, none⟩)] (GM r q m) (facP ix n)
  | 0 => ⟨fun w A c p _ _ h => absurd h (by omega), fun w w' A A' h hm hv => h.stay hm hv, facP_lim ix 0⟩
  | n + 1 => by
    have ih := factor_opd ix base r q m hix n
    refine ⟨fun w A c p h hG hL => ?_, fun w w' A A' h hm hv => h.stay hm hv, facP_lim ix (n + 1)⟩
    refine fnP_of_exec (c := { c110 with cuts := [] }) gx_ok Tryz.func110 rfl rfl rfl ?_
    refine call (skip_fn base r A c _ p [33] w h (by decide)) ?_
    rintro v w1 ⟨rfl, h1, hm1⟩
    have hm1' : Mod (RdS r A) w w1 := hm1.mono (fun i hi => .inl (.inl hi))
    have hG1 := hG.stay hm1' (Moved.refl _ _)
    cases hk : skipP [33] p with
    | mk t p1 =>
      obtain ⟨k1, _, k3, k4⟩ := skip_len _ p p1 t hk
      rw [hk] at h1
      simp only at h1
      cases t with
      | true =>
        refine wif_t rfl ?_
        have hl := k4 rfl
        simp only [List.length_cons, List.length_nil] at hl
        have hfac := facP_not ix n hk
        refine callP (ih.run w1 A c p1 h1 hG1 (by omega)) ?_ ?_
        rotate_left
        · rintro ch w2 ⟨ho, hp⟩
          rw [ho] at hfac
          exact ⟨hfac, hp.step hm1' (Moved.refl _ _)⟩
        rintro v w2 ⟨a, p2, ho, rfl, A2, c2, h2, hm2, hv2⟩
        rw [ho] at hfac
        have hl2 := (ih.lim p1 a p2 ho).1
        have hl0 := h.lim
        rw [k1] at hl2
        refine call (put_fn base r A2 c2 _ p2 ⟨3, 0, a, 0⟩ w2 h2 (by omega)) ?_
        rintro v w3 ⟨rfl, h3⟩
        exact ⟨p2.f.length, _, hfac, rfl, (h3.step hm2 hv2).step hm1' (Moved.refl _ _)⟩
      | false =>
        refine wif_f rfl ?_
        refine call (skip_fn base r A c _ p1 [40] w1 h1 (by decide)) ?_
        rintro v w2 ⟨rfl, h2, hm2⟩
        have hm2' : Mod (RdS r A) w1 w2 := hm2.mono (fun i hi => .inl (.inl hi))
        have hm02 := RdS.trans hm1' (Moved.refl _ _) hm2'
        have hG2 := hG1.stay hm2' (Moved.refl _ _)
        cases hk2 : skipP [40] p1 with
        | mk t2 p2 =>
          obtain ⟨j1, _, j3, j4⟩ := skip_len _ p1 p2 t2 hk2
          rw [hk2] at h2
          simp only at h2
          cases t2 with
          | true =>
            refine wif_t rfl ?_
            have hl := j4 rfl
            simp only [List.length_cons, List.length_nil] at hl
            have hfac := facP_par ix n hk hk2
            refine callP (whole_fn n base r A c p2 q m _ (facP ix n) w2 h2 hG2 (by omega) ih) ?_ ?_
            rotate_left
            · rintro ch w3 ⟨ho, hp⟩
              rw [show wholeP ix n p2 = none from ho] at hfac
              exact ⟨hfac, hp.step hm02 (Moved.refl _ _)⟩
            rintro v w3 ⟨a, p3, ho, rfl, A3, c3, h3, hm3, hv3⟩
            rw [show wholeP ix n p2 = some (a, p3) from ho] at hfac
            have hm03 := RdS.trans hm02 (Moved.refl _ _) hm3
            have hv03 := hv3.back hm02.size
            simp only at hfac
            refine call (skip_fn base r A3 c3 _ p3 [41] w3 h3 (by decide)) ?_
            rintro v w4 ⟨rfl, h4, hm4⟩
            have hm4' : Mod (RdS r A3) w3 w4 := hm4.mono (fun i hi => .inl (.inl hi))
            have hm04 := RdS.trans hm03 hv03 hm4'
            cases hk3 : skipP [41] p3 with
            | mk t3 p4 =>
              rw [hk3] at h4 hfac
              simp only at h4
              cases t3 with
              | true =>
                refine wif_f rfl ?_
                exact ⟨a, p4, hfac, rfl, A3, c3, h4, hm04, hv03⟩
              | false =>
                refine wif_t rfl ?_
                exact at_panic rfl rfl ⟨hfac, rfl, hm04⟩
          | false =>
            refine wif_f rfl ?_
            have hfac := facP_id ix n hk hk2
            have hlp := h2.lim
            have h8 := h2.b8
            have hM : ∀ w', Ext w2 w' → Mod (RdS r A) w w' := fun w' hE => RdS.trans hm02 (Moved.refl _ _) (Mod.of_ext _ hE)
            refine load_blk h2.blk rfl ?_
            refine call (identifier_fn p2.r w2 h8 (by omega)) ?_
            rintro v w3 ⟨rfl, hE3⟩
            have h3 := h2.ext hE3
            have hG3 := hG2.stay (Mod.of_ext _ hE3) (Moved.refl _ _)
            have hm03 := hM w3 hE3
            have hle := idLen_le p2.r
            by_cases hn : idLen p2.r = 0
            · refine wif_eqt (by omega) ?_
              rw [if_pos hn] at hfac
              exact at_panic rfl rfl ⟨hfac, rfl, hm03⟩
            refine wif_eqf (by omega) ?_
            rw [if_neg hn] at hfac
            generalize hd : idLen p2.r = d at *
            refine load_blk h3.blk rfl ?_
            refine need_to (v' := .string (strOf (p2.r.take d))) ⟨by omega, by omega, by rw [strOf_size]; omega⟩ ?_ ?_
            · simp only [Int.toNat_natCast, Int.toNat_zero, strOf_extract, List.drop_zero]
            refine load_blk h3.blk rfl ?_
            refine need_to (v' := .string (strOf (p2.r.drop d))) ⟨by omega, by rw [strOf_size]; omega, by omega⟩ ?_ ?_
            · simp only [Int.toNat_natCast, strOf_extract, strOf_size, List.take_length]
            refine store_mod h3.blk (by simp) (fun w4 hm4 hB4 => ?_)
            have hm4' : Mod (RdS r A) w3 w4 := hm4.mono (fun i hi => .inl (.inl hi))
            have hm04 := RdS.trans hm03 (Moved.refl _ _) hm4'
            have hG4 := hG3.stay hm4' (Moved.refl _ _)
            have hdl : (p2.r.drop d).length + d = p2.r.length := by rw [List.length_drop]; omega
            have h4 : Rd w4 base r A c (.map (some q)) { p2 with r := p2.r.drop d } := ⟨hB4, h3.own.mod hm4 (fun i hi e => by subst e; exact h3.nrow hi), h3.lt, Nat.le_trans h3.top hm4.size, B8.drop h8 d, by show p2.f.length + (p2.r.drop d).length ≤ _; omega⟩
            have hw8 := B8.take h8 d
            generalize hwd : p2.r.take d = word at *
            have e1 : ((strOf word = (⟨#[116, 114, 117, 101]⟩ : ByteArray)) ↔ word = trueL) := ⟨fun h => strOf_inj hw8 (by decide) h, fun h => by rw [h]; rfl⟩
            have e2 : ((strOf word = (⟨#[102, 97, 108, 115, 101]⟩ : ByteArray)) ↔ word = falseL) := ⟨fun h => strOf_inj hw8 (by decide) h, fun h => by rw [h]; rfl⟩
            by_cases h6 : word = trueL
            · rw [if_pos h6] at hfac
              refine wif_dt (e1.2 h6) ?_
              refine call (put_fn base r A c _ _ ⟨1, 0, 0, 0⟩ w4 h4 (by show p2.f.length + (p2.r.drop d).length + 1 ≤ _; omega)) ?_
              rintro v w5 ⟨rfl, h5⟩
              exact ⟨_, _, hfac, rfl, h5.step hm04 (Moved.refl _ _)⟩
            rw [if_neg h6] at hfac
            refine wif_df (fun h => h6 (e1.1 h)) ?_
            by_cases h7 : word = falseL
            · rw [if_pos h7] at hfac
              refine wif_dt (e2.2 h7) ?_
              refine call (put_fn base r A c _ _ ⟨0, 0, 0, 0⟩ w4 h4 (by show p2.f.length + (p2.r.drop d).length + 1 ≤ _; omega)) ?_
              rintro v w5 ⟨rfl, h5⟩
              exact ⟨_, _, hfac, rfl, h5.step hm04 (Moved.refl _ _)⟩
            rw [if_neg h7] at hfac
            refine wif_df (fun h => h7 (e2.1 h)) ?_
            refine load_blk0 h4.blk rfl ?_
            have hlook := hix word hw8
            refine at_lookup_ok' (kv := strK) (a := strOf word) (v := .int .i64 ((ix word).getD 0 : Nat)) (b := (ix word).isSome) gx_ok rfl rfl rfl rfl rfl KeyV.str rfl rfl hG4.1 (by rw [hlook]; cases ix word <;> rfl) (by rw [hlook]; cases ix word <;> rfl) ?_
            refine load_blk h4.blk rfl ?_
            have fin : ∀ w5 u, Mod (· = r) w4 w5 → Blk w5 r 123 [.map (some q), .string (strOf (p2.r.drop d)), .slice A p2.f.length c, .bool u] → u = (p2.u || (ix word).isNone) → Rd w5 base r A c (.map (some q)) { p2 with r := p2.r.drop d, u := p2.u || (ix word).isNone } ∧ Mod (RdS r A) w w5 := fun w5 u hm5 hB5 hu => by
              subst hu
              exact ⟨⟨hB5, h4.own.mod hm5 (fun i hi e => by subst e; exact h4.nrow hi), h4.lt, Nat.le_trans h4.top hm5.size, h4.b8, h4.lim⟩, RdS.trans hm04 (Moved.refl _ _) (hm5.mono (fun i hi => .inl (.inl hi)))⟩
            refine wif (fun hu => ?_) (fun hu => ?_)
            · refine store_mod h4.blk (by simp) (fun w5 hm5 hB5 => ?_)
              obtain ⟨h5, hm05⟩ := fin w5 true hm5 hB5 (by rw [show p2.u = true from hu]; rfl)
              refine call (put_fn base r A c _ _ ⟨2, ((ix word).getD 0 : Nat), 0, 0⟩ w5 h5 (by show p2.f.length + (p2.r.drop d).length + 1 ≤ _; omega)) ?_
              rintro v w6 ⟨rfl, h6⟩
              exact ⟨_, _, hfac, rfl, h6.step hm05 (Moved.refl _ _)⟩
            · refine store_mod h4.blk (by simp) (fun w5 hm5 hB5 => ?_)
              obtain ⟨h5, hm05⟩ := fin w5 (!(ix word).isSome) hm5 hB5 (by rw [show p2.u = false from hu]; cases ix word <;> rfl)
              refine call (put_fn base r A c _ _ ⟨2, ((ix word).getD 0 : Nat), 0, 0⟩ w5 h5 (by show p2.f.length + (p2.r.drop d).length + 1 ≤ _; omega)) ?_
              rintro v w6 ⟨rfl, h6⟩
              exact ⟨_, _, hfac, rfl, h6.step hm05 (Moved.refl _ _)⟩
end

section
open Go Go.RowKit

abbrev GPost := Exit → Act → World → Prop
def runs (P : Program) : List Code → GPost → Act → World → Prop
  | [], G, a, w => G .normal a w
  | y :: ys, G, a, w => y.wp P (fun e a w => match e with
    | .normal => runs P ys G a w
    | e => G e a w) a w
/-- From here on, whatever is deferred. -/
@[irreducible] def AtG (c : Cx) (l : List Code) (S : Env) (w : World) (G : GPost) : Prop := ∀ a, Fits c.N S a → runs c.g.P l G a w
@[irreducible] def OutG (c : Cx) (S : Env) (w : World) (e : Exit) (G : GPost) : Prop := ∀ a, Fits c.N S a → G e a w

section
variable {c : Cx} {S : Env} {w : World} {G : GPost}

theorem atG_nil (h : OutG c S w .normal G) : AtG c [] S w G := by unfold AtG; unfold OutG at h; exact h
theorem atG_seq {x y : Code} {l : List Code} (h : AtG c (x :: y :: l) S w G) : AtG c (.seq x y :: l) S w G := by
  unfold AtG at *
  intro a hf
  have h1 := h a hf
  unfold runs at h1
  unfold runs
  refine wp_seq (wp_mono h1 (fun e a w hq => ?_))
  cases e <;> first | exact hq | (unfold runs at hq; exact hq)
theorem atG_exec (hg : c.g.Ok) {x : Code} {l : List Code} (h : exec c x S w (fun e S w => match e with
    | .normal => AtG c l S w G
    | e => OutG c S w e G)) : AtG c (x :: l) S w G := by
  unfold AtG
  intro a hf
  unfold runs
  refine wp_mono (exec_sound hg x S w _ a h hf) (fun e a w ⟨S', hf', hq⟩ => ?_)
  cases e with
  | normal => simp only at hq; unfold AtG at hq; exact hq a hf'
  | exit i => simp only at hq; unfold OutG at hq; exact hq a hf'
  | goto i => simp only at hq; unfold OutG at hq; exact hq a hf'
  | ret => simp only at hq; unfold OutG at hq; exact hq a hf'
  | panic i => simp only at hq; unfold OutG at hq; exact hq a hf'
  | outgrown => simp only at hq; unfold OutG at hq; exact hq a hf'
theorem atG_t {t : Nat} {x y : Code} {l : List Code} {b : Bool} (ht : S.get t = some (.bool b)) (hb : b = true) (h : AtG c (x :: l) S w G) : AtG c (.cond (.tmp t) x y :: l) S w G := by
  subst hb
  unfold AtG at *
  intro a hf
  have h1 := h a hf
  unfold runs at *
  have := hf.get ht
  exact wp_cond_true (by simp [Act.eval, this]) h1
theorem atG_f {t : Nat} {x y : Code} {l : List Code} {b : Bool} (ht : S.get t = some (.bool b)) (hb : b = false) (h : AtG c (y :: l) S w G) : AtG c (.cond (.tmp t) x y :: l) S w G := by
  subst hb
  unfold AtG at *
  intro a hf
  have h1 := h a hf
  unfold runs at *
  have := hf.get ht
  exact wp_cond_false (by simp [Act.eval, this]) h1

/-- A region whose last operation defers a call. -/
theorem atG_defer (hg : c.g.Ok) {id : Nat} {ops : Array Oper} {l : List Code} {o : Oper} {f : Operand} {xs : Array Operand} {ts : Array TypeId} (hops : ops.toList = ops.toList.dropLast ++ [o]) (ho : o.op = .defer ⟨.value f, xs, ts⟩) (hgd : o.guard = none) (hdst : o.dst = none)
    (h : execL { c with named := 1000000 } ops.toList ops.toList.dropLast S w (fun S w => ∃ fv cap first asx, S.ev f = some (.func fv first cap) ∧ evL S xs.toList = some asx ∧ AtG { c with N := ⟨c.N.n, ⟨.fn fv cap, first ++ asx.toArray⟩ :: c.N.ds⟩ } l S w G) (fun e S w => OutG c S w e G)) : AtG c (.region id ops false :: l) S w G := by
  unfold AtG
  intro a hf
  unfold runs
  refine wp_region_list ?_
  have h1 := execL_sound (c := { c with named := 1000000 }) hg ops.toList ops.toList.dropLast S w a h hf
  have key : ∀ (Q : GPost) (m1 m2 : List Oper) (a : Act) (w : World), wpList c.g.P ops (fun e a w => match e with
      | .normal => wpList c.g.P ops Q m2 a w
      | e => Q e a w) m1 a w → wpList c.g.P ops Q (m1 ++ m2) a w := by
    intro Q m1
    induction m1 with
    | nil => intro m2 a w h; exact h
    | cons o1 m1 ih =>
      intro m2 a w h
      rw [List.cons_append]
      unfold wpList at h ⊢
      split
      · rename_i hw
        rw [if_pos hw] at h
        rcases h with h | ⟨h1, a0, w0, h2⟩
        · refine .inl ?_
          have h2 := Oper.wp_mono (K' := wpList c.g.P ops Q (m1 ++ m2)) (fun a w => ih m2 a w) h
          unfold Oper.wp at h2 ⊢
          generalize (execOp a.eval o1).run c.g.P w = r at *
          cases r with
          | ok n w' => cases n <;> simp only [Oper.upon] at h2 ⊢ <;> exact h2
          | halt x w' => cases x <;> simp only [Oper.upon] at h2 ⊢ <;> exact h2
        · exact .inr ⟨h1, a0, w0, h2⟩
      · rename_i hw
        rw [if_neg hw] at h
        exact ih m2 _ _ h
  rw [hops]
  refine key _ ops.toList.dropLast [o] a w ?_
  have e0 : ops.toList.toArray = ops := by simp
  rw [e0] at h1
  refine wpList_mono' (fun e a w hq => ?_) h1
  cases e with
  | normal =>
    obtain ⟨S', hf', fv, cap, first, asx, hfv, has, hq⟩ := hq
    show wpList _ _ _ [o] _ _
    unfold wpList
    rw [if_pos (by simp [Region.wanted, hgd])]
    refine .inl ?_
    have hev := hf'.ev hfv
    have hxs : (xs.map a.eval) = asx.toArray := by
      apply Array.ext'
      rw [Array.toList_map]
      exact evL_spec (ρ := a.eval) (fun x v h => hf'.ev h) _ _ has
    unfold Oper.wp
    have hrun : (execOp a.eval o).run c.g.P w = .ok (.defer ⟨.fn fv cap, first ++ asx.toArray⟩) w := by
      simp only [execOp, ho, resolve, hev, hxs]
      simp [Deferred.ofValue]
    rw [hrun, Oper.upon_defer]
    unfold wpList
    unfold AtG at hq
    refine hq _ ⟨?_, ?_, ?_⟩
    · rw [hdst]; exact hf'.size
    · rw [hdst]; show _ :: a.defers = _; rw [hf'.defers]
    · rw [hdst]; exact hf'.has
  | exit i => obtain ⟨S', hf', hq⟩ := hq; unfold OutG at hq; exact hq a hf'
  | goto i => obtain ⟨S', hf', hq⟩ := hq; unfold OutG at hq; exact hq a hf'
  | ret => obtain ⟨S', hf', hq⟩ := hq; unfold OutG at hq; exact hq a hf'
  | panic i => obtain ⟨S', hf', hq⟩ := hq; unfold OutG at hq; exact hq a hf'
  | outgrown => obtain ⟨S', hf', hq⟩ := hq; unfold OutG at hq; exact hq a hf'
end

/-- How a function that defers is to end. -/
def EndR (R : Value → World → Prop) : Ending → World → Prop
  | .returned v, w => R v w
  | _, _ => False

theorem fn_of_G {c : Cx} (hg : c.g.Ok) {f : FuncId} {fn : Func} {x : Code} {args : List Value} {w : World} {R : Value → World → Prop} (hf : c.g.P.funcs[f]? = some fn) (hb : fn.body = some x) (hN : ⟨fn.ntmps, []⟩ = c.N)
    (hl : Nat.ble args.length c.N.n = true) (h : envK [0, 1, 2, 3, 4, 5, 6, 7, 8, 9, 10, 11, 12, 13, 14, 15] args [] (fun S => AtG c [x] S w (bodyPostD c.g.P fn (EndR R)))) : Fn c.g.P f args w R := by
  unfold Fn
  have _ := hg
  obtain ⟨S, hS, hx⟩ := envK_spec _ args [] 0 args (fun j t ht => by
    match j, ht with
    | 0, ht | 1, ht | 2, ht | 3, ht | 4, ht | 5, ht | 6, ht | 7, ht | 8, ht | 9, ht | 10, ht | 11, ht | 12, ht | 13, ht | 14, ht | 15, ht => simp at ht; omega
    | j + 16, ht => simp at ht) (by simp) (fun k x hk => by simp [Env.ent] at hk) h
  have hn : fn.ntmps = c.N.n := congrArg Slots.n hN
  have hfit := fits_args (N := c.N.n) args (Nat.le_of_ble_eq_true hl) S hS
  rw [← hn, hN] at hfit
  unfold AtG at hx
  have h1 := hx _ hfit
  refine (calls_of_wp_defers hf hb (R := EndR R) ?_).mono (fun e w' he => by cases e <;> exact he)
  unfold runs at h1
  refine wp_mono h1 (fun e a w hq => ?_)
  cases e <;> first | exact hq | (unfold runs at hq; exact hq)

section
variable {c : Cx} {S : Env} {w : World}
/-- The end, with nothing deferred. -/
theorem out0 (hg : c.g.Ok) {fn : Func} {R : Value → World → Prop} {e : Exit} (hN : c.N.ds = []) (he : e = .ret ∨ e = .normal) (h : retK c S w R fn.results.toList []) : OutG c S w e (bodyPostD c.g.P fn (EndR R)) := by
  unfold OutG
  intro a hf
  obtain ⟨v, h1, h2⟩ := run_results hg hf h
  have hd : a.defers = [] := by rw [hf.defers, hN]
  rcases he with rfl | rfl <;>
  · unfold bodyPostD
    simp only
    rw [hd]
    exact ⟨v, h1, h2⟩
/-- Behind the one call that is deferred. -/
theorem leave1 (hg : c.g.Ok) {fn : Func} {R : Value → World → Prop} {u : FrameMode} {a : Act} {F : FuncId} {asx cap : Array Value} (hN : c.N.ds = [⟨.fn (.func F) cap, asx⟩]) (hF : memN F c.g.fns = true) (hu : u ≠ .run) (hf : Fits c.N S a) {args : Array Value} (hA : asx ++ cap = args)
    (h : CallsD c.g.P F args u w (fun e u' w' => ∃ v, e = .returned v ∧ settle u' = .returning ∧ retK c S w' R fn.results.toList [])) : Leaves c.g.P fn a.tmps (EndR R) a.defers u w := by
  subst hA
  rw [hf.defers, hN]
  refine leaves_cons (f := F) (args := asx ++ cap) hu ?_ ?_
  · have hc := hg.fns F (memN_spec hF)
    simp only [invoke]
    rw [run_callFunc hc]
  · refine h.mono (fun e u' w' he => ?_)
    obtain ⟨v, rfl, hs, hk⟩ := he
    simp only
    rw [hs]
    obtain ⟨v, h1, h2⟩ := run_results hg hf hk
    exact ⟨v, h1, h2⟩
theorem out1 (hg : c.g.Ok) {fn : Func} {R : Value → World → Prop} {e : Exit} {F : FuncId} {asx cap : Array Value} (hN : c.N.ds = [⟨.fn (.func F) cap, asx⟩]) (hF : memN F c.g.fns = true) (he : e = .ret ∨ e = .normal) {args : Array Value} (hA : asx ++ cap = args)
    (h : CallsD c.g.P F args .returning w (fun e u' w' => ∃ v, e = .returned v ∧ settle u' = .returning ∧ retK c S w' R fn.results.toList [])) : OutG c S w e (bodyPostD c.g.P fn (EndR R)) := by
  unfold OutG
  intro a hf
  have := leave1 hg hN hF (by simp) hf hA h
  rcases he with rfl | rfl <;> exact this
theorem out1p (hg : c.g.Ok) {fn : Func} {R : Value → World → Prop} {ch : List PanicEntry} {F : FuncId} {asx cap : Array Value} (hN : c.N.ds = [⟨.fn (.func F) cap, asx⟩]) (hF : memN F c.g.fns = true) {args : Array Value} (hA : asx ++ cap = args)
    (h : CallsD c.g.P F args (.panicking ch) w (fun e u' w' => ∃ v, e = .returned v ∧ settle u' = .returning ∧ retK c S w' R fn.results.toList [])) : OutG c S w (.panic ch) (bodyPostD c.g.P fn (EndR R)) := by
  unfold OutG
  intro a hf
  exact leave1 hg hN hF (by simp) hf hA h
end

/-- A function that is called as a deferred one, and does not recover. -/
theorem callsD_of_exec {c : Cx} (hg : c.g.Ok) {f : FuncId} {fn : Func} {x : Code} {args : List Value} {w : World} {R : Value → World → Prop} (u : FrameMode) (hf : c.g.P.funcs[f]? = some fn) (hb : fn.body = some x) (hN : ⟨fn.ntmps, []⟩ = c.N)
    (hl : Nat.ble args.length c.N.n = true) (h : envK [0, 1, 2, 3, 4, 5, 6, 7, 8, 9, 10, 11, 12, 13, 14, 15] args [] (fun S => exec c x S w (Fin c fn.results.toList R))) : CallsD c.g.P f args.toArray u w (fun e u' w' => u' = u ∧ ∃ v, e = .returned v ∧ R v w') := by
  obtain ⟨S, hS, hx⟩ := envK_spec _ args [] 0 args (fun j t ht => by
    match j, ht with
    | 0, ht | 1, ht | 2, ht | 3, ht | 4, ht | 5, ht | 6, ht | 7, ht | 8, ht | 9, ht | 10, ht | 11, ht | 12, ht | 13, ht | 14, ht | 15, ht => simp at ht; omega
    | j + 16, ht => simp at ht) (by simp) (fun k x hk => by simp [Env.ent] at hk) h
  refine callsD_of_wp hf hb ?_
  have hn : fn.ntmps = c.N.n := congrArg Slots.n hN
  have hfit := fits_args (N := c.N.n) args (Nat.le_of_ble_eq_true hl) S hS
  rw [← hn, hN] at hfit
  refine wp_mono (exec_sound hg x S w _ _ hx hfit) (fun e a w' hq => ?_)
  obtain ⟨S', hf', hq⟩ := hq
  have hd' : a.defers = [] := by rw [hf'.defers, ← hN]
  cases e with
  | normal => obtain ⟨v, h1, h2⟩ := run_results hg hf' hq; exact ⟨hd', v, h1, v, rfl, h2⟩
  | ret => obtain ⟨v, h1, h2⟩ := run_results hg hf' hq; exact ⟨hd', v, h1, v, rfl, h2⟩
  | exit i => exact hq.elim
  | goto l => exact hq.elim
  | panic ch => exact hq.elim
  | outgrown => exact hq.elim
end

section
open Go Go.RowKit

theorem at_assert_ok {c : Cx} (hg : c.g.Ok) {o : Oper} {S : Env} {w : World} {K : Env → World → Prop} {Q : Post} {x : Operand} {tx t : Nat} {k : IntKind} {v : Value} {r : TyRow} (ho : o.op = .typeAssert x tx t true) (hr : rowOf c.g.tys t = some r) (hd : r.d = .int k) (hx : S.ev x = some (.iface t v))
    (kk : putK c S o.dst (.v (.tuple #[v, .bool true])) (fun S => K S w)) : AtOp c o S w K Q := by
  have hr' := (hg.row hr).1
  rw [hd] at hr'
  refine at_run (w' := w) (v := .tuple #[v, .bool true]) (fun a hf => ?_) kk
  have e1 := hf.ev hx
  simp only [execOp, ho, e1]
  simp [Instr.typeAssert, run_underlying hr']

theorem equal_nil {P : Program} {t : TypeId} {ms : Array (String × TypeId)} {w : World} (hu : P.underlying t = some (.interface ms)) (n : Nat) : (Op.equalIn (n + 1) t .nilIface .nilIface).run P w = .ok true w := by simp [Op.equalIn, run_underlying hu]

theorem wpOpsS_rec {P : Program} {o1 o2 : Oper} {Q : Exit → Act → List Frame → World → Prop} {a : Act} {cs cs' : List Frame} {w : World} {d1 d2 : Nat} {v : Value} (h1 : o1.op = .call ⟨.builtin .recover, #[], #[]⟩) (h1d : o1.dst = some d1) (h1g : o1.guard = none) (h2 : o2.op = .assign (.tmp d1)) (h2d : o2.dst = some d2) (h2g : o2.guard = none)
    (hsz : d1 < a.tmps.size) (hrec : recoverD cs = some (v, cs') ∨ (recoverD cs = none ∧ v = .nilIface ∧ cs' = cs)) (h : Q .normal ((a.put (some d1) v).put (some d2) v) cs' w) : wpOpsS P #[o1, o2] Q (List.range 2) a cs w := by
  have e1 : ∀ ρ, (execOp ρ o1).run P w = .ok .recover w := fun ρ => by
    simp only [execOp, h1, resolve, invoke, builtin]
    simp
  have e2 : (execOp (a.put (some d1) v).eval o2).run P w = .ok (.value v) w := by
    simp only [execOp, h2]
    simp [Act.eval, Act.put, hsz]
  show wpOpsS P #[o1, o2] Q [0, 1] a cs w
  have key : wpOpsS P #[o1, o2] Q [1] (a.put (some d1) v) cs' w := by
    unfold wpOpsS
    simp only [List.getElem?_toArray, List.getElem?_cons_succ, List.getElem?_cons_zero]
    rw [if_pos (by simp [Region.wanted, h2g]), e2]
    simp only [Oper.upon, h2d]
    unfold wpOpsS
    exact h
  unfold wpOpsS
  simp only [List.getElem?_toArray, List.getElem?_cons_zero]
  rw [if_pos (by simp [Region.wanted, h1g]), e1]
  rcases hrec with hr | ⟨hr, rfl, rfl⟩
  · simp only [hr, h1d]; exact key
  · simp only [hr, h1d]; exact key

/-- The end of a function that recovers: the rest of it, walked by the engine. -/
theorem wpS_rest {c : Cx} (hg : c.g.Ok) {x : Code} {fn : Func} {c₀ : Frame} {cs : List Frame} {R : Ending → FrameMode → World → Prop} {S : Env} {a : Act} {w : World} {u' : FrameMode} (hN : c.N.ds = []) (hf : Fits c.N S a)
    (h : exec c x S w (Fin c fn.results.toList (fun v w' => R (.returned v) u' w'))) : x.wpS c.g.P (bodyPostS c.g.P fn c₀ cs R) a ({ c₀ with mode := u' } :: cs) w := by
  refine wpS_of_wp (wp_mono (exec_sound hg x S w _ a h hf) (fun e a' w' hq => ?_))
  obtain ⟨S', hf', hq⟩ := hq
  have hd' : a'.defers = [] := by rw [hf'.defers, hN]
  cases e with
  | normal => obtain ⟨v, h1, h2⟩ := run_results hg hf' hq; exact ⟨hd', u', rfl, v, h1, h2⟩
  | ret => obtain ⟨v, h1, h2⟩ := run_results hg hf' hq; exact ⟨hd', u', rfl, v, h1, h2⟩
  | exit i => exact hq.elim
  | goto l => exact hq.elim
  | panic ch => exact hq.elim
  | outgrown => exact hq.elim

/-- The two results' variables, behind a panic. -/
def RecOk (f e : Nat) (k : Int) (w w' : World) : Prop := Blk w' f 77 [.slice none 0 0] ∧ Blk w' e 30 [.int .i64 k] ∧ Mod (fun i => i = f ∨ i = e) w w'

theorem rec_fn (f e : Nat) (k : Int) (w : World) (v1 v2 : Value) (hne : f ≠ e) (hf : Blk w f 77 [v1]) (he : Blk w e 30 [v2]) :
    CallsD Tryz.prog 69 #[.pointer (some ⟨f, 0, none⟩), .pointer (some ⟨e, 0, none⟩)] (.panicking [{ v := .iface 30 (.int .i64 k), recovered := false }]) w
      (fun en u' w' => ∃ v, en = .returned v ∧ settle u' = .returning ∧ RecOk f e k w w') := by
  refine callsD_of_wpS Tryz.func69 rfl fun c₀ cs hu => ?_
  have hfit := fits_args (N := c69.N.n) [.pointer (some ⟨f, 0, none⟩), .pointer (some ⟨e, 0, none⟩)] (Nat.le_of_ble_eq_true rfl) [(0, .v (.pointer (some ⟨f, 0, none⟩))), (1, .v (.pointer (some ⟨e, 0, none⟩)))] (by
    intro k x hk
    match k, hk with
    | 0, hk => cases hk; rfl
    | 1, hk => cases hk; rfl
    | k + 2, hk => exact nomatch (show (none : Option Ent) = some x from hk))
  have hf5 := hfit.put (d := 5) (by decide) (.v (.iface 30 (.int .i64 k)))
  have hf2 := hf5.put (d := 2) (by decide) (.v (.iface 30 (.int .i64 k)))
  refine wpS_seq (wpS_region ?_)
  refine wpOpsS_rec (cs' := { c₀ with mode := .panicking [{ v := .iface 30 (.int .i64 k), recovered := true }] } :: cs) (v := .iface 30 (.int .i64 k)) rfl rfl rfl rfl rfl rfl (by simp) (.inl (by simp [recoverD, hu])) ?_
  refine wpS_rest (c := c69) gx_ok rfl hf2 ?_
  refine wif_t rfl ?_
  refine at_assert_ok gx_ok rfl rfl rfl rfl ?_
  refine wif_f rfl ?_
  refine store_mod0 hf (by simp) (fun w1 hm1 hB1 => ?_)
  refine store_mod0 (he.mod hm1 (fun h => hne h.symm)) (by simp) (fun w2 hm2 hB2 => ?_)
  exact ⟨_, rfl, rfl, hB1.mod hm2 hne, hB2, (hm1.mono (fun i hi => .inl (.inl hi))).trans hm2 (fun i hi => .inl (.inr hi))⟩

theorem rec_ret_fn (f e : Nat) (w : World) :
    CallsD Tryz.prog 69 #[.pointer (some ⟨f, 0, none⟩), .pointer (some ⟨e, 0, none⟩)] .returning w
      (fun en u' w' => ∃ v, en = .returned v ∧ settle u' = .returning ∧ w = w') := by
  refine callsD_of_wpS Tryz.func69 rfl fun c₀ cs hu => ?_
  have hfit := fits_args (N := c69.N.n) [.pointer (some ⟨f, 0, none⟩), .pointer (some ⟨e, 0, none⟩)] (Nat.le_of_ble_eq_true rfl) [(0, .v (.pointer (some ⟨f, 0, none⟩))), (1, .v (.pointer (some ⟨e, 0, none⟩)))] (by
    intro k x hk
    match k, hk with
    | 0, hk => cases hk; rfl
    | 1, hk => cases hk; rfl
    | k + 2, hk => exact nomatch (show (none : Option Ent) = some x from hk))
  have hf5 := hfit.put (d := 5) (by decide) (.v .nilIface)
  have hf2 := hf5.put (d := 2) (by decide) (.v .nilIface)
  refine wpS_seq (wpS_region ?_)
  refine wpOpsS_rec (cs' := { c₀ with mode := .returning } :: cs) (v := .nilIface) rfl rfl rfl rfl rfl rfl (by simp) (.inr ⟨by simp [recoverD, hu], rfl, by rw [← hu]⟩) ?_
  refine wpS_rest (c := c69) gx_ok rfl hf2 ?_
  refine at_run (w' := w) (v := .bool false) (fun a hf => ?_) ?_
  · have e1 := hf.ev (show Env.ev _ (.tmp 6) = some .nilIface from rfl)
    have hu := Tryz.underlying20
    have e2 : (Op.equal 20 .nilIface .nilIface).run Tryz.prog w = .ok true w := equal_nil hu 9999
    have e3 : binOp .neq 20 .nilIface .nilIface = (do pure (.bool (!(← Op.equal 20 .nilIface .nilIface)))) := rfl
    simp only [execOp, e1, eqGuard]
    simp [Act.eval, e3, show gx.P = Tryz.prog from rfl, e2]
  refine wif_f rfl ?_
  exact ⟨_, rfl, rfl, rfl⟩
end

section
open Go Go.RowKit

/-- The number of a name: the last one that it stands at. -/
def ixR (l : List Nat) : List (List Nat) → Nat → Option Nat → Option Nat
  | [], _, acc => acc
  | s :: names, i, acc => ixR l names (i + 1) (if s = l then some i else acc)
def ixN (names : List (List Nat)) (l : List Nat) : Option Nat := ixR l names 0 none
theorem ixR_ok (l : List Nat) (hl : ∀ x ∈ l, x < 256) : ∀ (names : List (List Nat)) (i : Nat) (acc : Option Nat) (m : List (ByteArray × Value)), NamesOk names → assoc (strOf l) m = acc.map (fun v : Nat => Value.int .i64 v) →
    assoc (strOf l) (nameM names i m) = (ixR l names i acc).map (fun v : Nat => Value.int .i64 v)
  | [], i, acc, m, _, h => h
  | s :: names, i, acc, m, hn, h => by
    simp only [nameM, ixR]
    refine ixR_ok l hl names (i + 1) _ _ (fun t ht => hn t (by simp [ht])) ?_
    rw [assoc_set]
    by_cases hs : s = l
    · subst hs; simp
    · rw [if_neg (fun e => hs (strOf_inj hl (hn s (by simp)).1 e).symm), if_neg hs]; exact h
theorem ixN_ok {names : List (List Nat)} (hn : NamesOk names) : IxOk (ixN names) (nameM names 0 []) := fun l hl => ixR_ok l hl names 0 none [] hn rfl

/-- What Parse answers. -/
def parseP (names : List (List Nat)) (s : List Nat) : List Fz × Int := if numsOk names then
    match wholeP (ixN names) (s.length + 1) ⟨s, [], false⟩ with
    | none => ([], 31)
    | some (_, p) => if trimB p.r ≠ [] then ([], 31) else if p.u then ([], 3) else if 512 < p.f.length then ([], 2) else (p.f, 0)
  else ([], 1)

/-- A formula and an error number. -/
def FzRes (w : World) (r : List Fz × Int) (v : Value) (w' : World) : Prop := ∃ F m cF, v = .tuple #[.slice F m cF, .int .i64 r.2] ∧ Ext w w' ∧ SlS Fz.cells 4 w' F m cF r.1

theorem skip_none (p : Ps) : skipP [] p = (true, { p with r := trimB p.r }) := by rw [skipP_eq]; rfl

theorem parse_fn (names : List (List Nat)) (A : Option Addr) (n c : Nat) (s : List Nat) (w : World) (h : Sl w 1 A n c (strsV names)) (hb : NamesOk names) (hs : ∀ x ∈ s, x < 256) (hl : s.length ≤ 1000000000000) :
    Fn Tryz.prog 43 [.slice A n c, .string (strOf s)] w (FzRes w (parseP names s)) := by
  refine fn_of_G (c := { c43 with cuts := [] }) gx_ok Tryz.func43 rfl rfl rfl ?_
  refine atG_seq (atG_exec gx_ok ?_)
  refine new (fun w1 hE1 hz1 hB1 => ?_)
  refine new (fun w2 hE2 hz2 hB2 => ?_)
  have hE02 := hE1.trans hE2
  refine atG_seq (atG_exec gx_ok ?_)
  refine call (numbers_fn names A n c w2 (h.ext hE02) hb) ?_
  rintro v w3 ⟨v1, rfl, hE3, hmap⟩
  have hE03 := hE02.trans hE3
  have hBf := (hB1.ext hE2).ext hE3
  have hBe := hB2.ext hE3
  refine atG_seq (atG_exec gx_ok ?_)
  cases hok : numsOk names with
  | false =>
    refine wif_t rfl ?_
    refine store_mod0 hBf (by simp [cellsL]) (fun w4 hm4 hB4 => ?_)
    have hne : w1.heap.size ≠ w.heap.size := by omega
    refine store_mod0 (hBe.mod hm4 hne) (by simp [cellsL]) (fun w5 hm5 hB5 => ?_)
    refine out0 gx_ok rfl (.inl rfl) ?_
    refine load_blk0 (hB4.mod hm5 hne.symm) rfl ?_
    refine load_blk0 hB5 rfl ?_
    have hE5 := hm5.ext (hm4.ext hE03 (fun i hi => by omega)) (fun i hi => by omega)
    refine ⟨none, 0, 0, ?_, hE5, ?_⟩
    · unfold parseP; rw [hok]; rfl
    · unfold parseP; rw [hok]; exact SlS.nil _
  | true =>
    refine wif_f rfl ?_
    obtain ⟨q, rfl, hq, hmq⟩ := hmap hok
    refine atG_seq (atG_defer gx_ok rfl rfl rfl rfl ⟨_, _, _, _, rfl, rfl, ?_⟩)
    refine atG_seq (atG_exec gx_ok ?_)
    refine new (fun w4 hE4 hz4 hB4 => ?_)
    have hE04 := hE03.trans hE4
    have hz3 := hE3.size
    have hR : Rd w4 w4.heap.size w3.heap.size none 0 (.map (some q)) ⟨s, [], false⟩ := ⟨hB4, Own.nil _ _ _ _, by omega, Nat.le_refl _, hs, by simpa using hl⟩
    have hG : GM w3.heap.size q (nameM names 0 []) w4 none := ⟨hmq.ext hE4, by have := hmq.lt; omega, fun ⟨_, e, _⟩ => by cases e⟩
    have hne : w.heap.size ≠ w1.heap.size := by omega
    have hnr : ∀ i, i < w3.heap.size → ¬ RdS w3.heap.size none i := fun i hi e => by
      rcases e with rfl | ⟨_, e, _⟩
      · omega
      · cases e
    have keep : ∀ w', Mod (RdS w3.heap.size none) w4 w' → Ext w w' ∧ Blk w' w.heap.size 77 [.slice none 0 0] ∧ Blk w' w1.heap.size 30 [.int .i64 0] := fun w' hm => by
      refine ⟨hm.ext hE04 (fun i hi => ?_), (hBf.ext hE4).mod hm (hnr _ (by omega)), (hBe.ext hE4).mod hm (hnr _ (by omega))⟩
      rcases hi with rfl | ⟨_, e, _⟩
      · omega
      · cases e
    have pan : ∀ k w' w'', Ext w w' → RecOk w.heap.size w1.heap.size k w' w'' → parseP names s = ([], k) → FzRes w (parseP names s) (.tuple #[.slice none 0 0, .int .i64 k]) w'' := fun k w' w'' hE hR hp => by
      rw [hp]
      refine ⟨none, 0, 0, rfl, hR.2.2.ext hE (fun i hi => by rcases hi with rfl | rfl <;> omega), SlS.nil _⟩
    have hpp : parseP names s = match wholeP (ixN names) (s.length + 1) ⟨s, [], false⟩ with
      | none => ([], 31)
      | some (_, p) => if trimB p.r ≠ [] then ([], 31) else if p.u then ([], 3) else if 512 < p.f.length then ([], 2) else (p.f, 0) := by unfold parseP; rw [if_pos hok]
    refine atG_seq (atG_exec gx_ok ?_)
    refine callP (whole_fn (s.length + 1) _ _ none 0 _ q _ _ _ w4 hR hG (Nat.lt_succ_self _) (factor_opd (ixN names) _ _ q _ (ixN_ok hb) (s.length + 1))) ?_ ?_
    rotate_left
    · rintro ch w5 ⟨ho, rfl, hm5⟩
      obtain ⟨hE5, hf5, he5⟩ := keep w5 hm5
      refine out1p gx_ok rfl rfl (args := #[.pointer (some ⟨w.heap.size, 0, none⟩), .pointer (some ⟨w1.heap.size, 0, none⟩)]) (by simp) ((rec_fn _ _ 31 w5 _ _ hne hf5 he5).mono ?_)
      rintro e u' w6 ⟨v, rfl, hs6, hR6⟩
      refine ⟨v, rfl, hs6, ?_⟩
      refine load_blk0 hR6.1 rfl ?_
      refine load_blk0 hR6.2.1 rfl ?_
      exact pan 31 w5 w6 hE5 hR6 (by rw [hpp]; unfold wholeP; rw [ho])
    rintro v w5 ⟨a, p, ho, rfl, A5, c5, h5, hm5, hv5⟩
    refine atG_seq (atG_exec gx_ok ?_)
    refine call (skip_fn _ _ A5 c5 _ p [] w5 h5 (by simp)) ?_
    rintro v w6 ⟨rfl, h6, hm6⟩
    rw [skip_none] at h6
    simp only at h6
    have hm06 : Mod (RdS w3.heap.size none) w4 w6 := hm5.trans hm6 (fun i hi => .inl (.inl hi))
    obtain ⟨hE6, hf6, he6⟩ := keep w6 hm06
    have hpq : parseP names s = if trimB p.r ≠ [] then ([], 31) else if p.u then ([], 3) else if 512 < p.f.length then ([], 2) else (p.f, 0) := by rw [hpp]; unfold wholeP; rw [ho]
    have e0 : ((strOf (trimB p.r) = (⟨#[]⟩ : ByteArray)) ↔ trimB p.r = []) := ⟨fun h => strOf_inj h6.b8 (by simp) h, fun h => by rw [h]; rfl⟩
    refine atG_seq (atG_exec gx_ok ?_)
    refine load_blk h6.blk rfl ?_
    by_cases ht : ¬ trimB p.r = []
    · refine wif_t (by rw [decide_eq_false (fun h => ht (e0.1 h))]; rfl) ?_
      refine at_panic rfl rfl ?_
      refine out1p gx_ok rfl rfl (args := #[.pointer (some ⟨w.heap.size, 0, none⟩), .pointer (some ⟨w1.heap.size, 0, none⟩)]) (by simp) ((rec_fn _ _ 31 w6 _ _ hne hf6 he6).mono ?_)
      rintro e u' w7 ⟨v, rfl, hs7, hR7⟩
      refine ⟨v, rfl, hs7, ?_⟩
      refine load_blk0 hR7.1 rfl ?_
      refine load_blk0 hR7.2.1 rfl ?_
      exact pan 31 w6 w7 hE6 hR7 (by rw [hpq, if_pos ht])
    replace ht := Decidable.not_not.1 ht
    refine wif_f (by rw [decide_eq_true (e0.2 ht)]; rfl) ?_
    rw [if_neg (fun h => h ht)] at hpq
    refine load_blk h6.blk rfl ?_
    refine wif (fun hu => ?_) (fun hu => ?_)
    · refine at_panic rfl rfl ?_
      refine out1p gx_ok rfl rfl (args := #[.pointer (some ⟨w.heap.size, 0, none⟩), .pointer (some ⟨w1.heap.size, 0, none⟩)]) (by simp) ((rec_fn _ _ 3 w6 _ _ hne hf6 he6).mono ?_)
      rintro e u' w7 ⟨v, rfl, hs7, hR7⟩
      refine ⟨v, rfl, hs7, ?_⟩
      refine load_blk0 hR7.1 rfl ?_
      refine load_blk0 hR7.2.1 rfl ?_
      exact pan 3 w6 w7 hE6 hR7 (by rw [hpq, if_pos hu])
    rw [if_neg (by rw [show p.u = false from hu]; decide)] at hpq
    refine load_blk h6.blk rfl ?_
    refine wif_d (fun hl => ?_) (fun hl => ?_)
    · refine at_panic rfl rfl ?_
      refine out1p gx_ok rfl rfl (args := #[.pointer (some ⟨w.heap.size, 0, none⟩), .pointer (some ⟨w1.heap.size, 0, none⟩)]) (by simp) ((rec_fn _ _ 2 w6 _ _ hne hf6 he6).mono ?_)
      rintro e u' w7 ⟨v, rfl, hs7, hR7⟩
      refine ⟨v, rfl, hs7, ?_⟩
      refine load_blk0 hR7.1 rfl ?_
      refine load_blk0 hR7.2.1 rfl ?_
      exact pan 2 w6 w7 hE6 hR7 (by rw [hpq, if_pos (show 512 < p.f.length by simp only at hl; omega)])
    have hl' : ¬ 512 < p.f.length := fun h => hl (by simp only; omega)
    rw [if_neg hl'] at hpq
    refine atG_seq (atG_exec gx_ok ?_)
    refine load_blk h6.blk rfl ?_
    refine store_mod0 hf6 (by simp) (fun w7 hm7 hB7 => ?_)
    refine store_mod0 (he6.mod hm7 hne.symm) (by simp) (fun w8 hm8 hB8 => ?_)
    refine atG_exec gx_ok ?_
    refine out1 gx_ok rfl rfl (.inl rfl) (args := #[.pointer (some ⟨w.heap.size, 0, none⟩), .pointer (some ⟨w1.heap.size, 0, none⟩)]) (by simp) ((rec_ret_fn _ _ w8).mono ?_)
    rintro e u' _ ⟨v, rfl, hs9, rfl⟩
    refine ⟨v, rfl, hs9, ?_⟩
    refine load_blk0 (hB7.mod hm8 hne) rfl ?_
    refine load_blk0 hB8 rfl ?_
    rw [hpq]
    have hM : Mod (fun i => i = w.heap.size ∨ i = w1.heap.size) w6 w8 := (hm7.mono (fun i hi => .inl (.inl hi))).trans hm8 (fun i hi => .inl (.inr hi))
    refine ⟨A5, p.f.length, c5, rfl, hM.ext hE6 (fun i hi => by rcases hi with rfl | rfl <;> omega), ?_, rfl⟩
    have hrow : ∀ i, rowS A5 i → w4.heap.size ≤ i := fun i hi => (h6.own.rows i hi).1
    exact (h6.own.mod hM (fun i hi e => by have := hrow i hi; rcases e with rfl | rfl <;> omega)).sl
end
end Go.Proofs.YtedopgkbajhanaaGreatDoor
