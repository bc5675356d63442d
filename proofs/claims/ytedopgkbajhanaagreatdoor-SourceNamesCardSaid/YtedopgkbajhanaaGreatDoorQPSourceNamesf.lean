/-
  What PSourceNames rests on, part 6: the texts of this work, without what it does not use; printed by a program (wip/shake.py).
  Conditions: none.
-/
import Derived.Test.YtedopgkbajhanaaGreatDoorQPSourceNamese
namespace Go.Proofs.YtedopgkbajhanaaGreatDoor
section
open Go Go.RowKit

theorem rtop_slice_h {c : Cx} (hg : c.g.Ok) {o : Oper} {S : Env} {C : World → Prop} {K : Env → Prop} {t e : Nat} {x y : Operand} {A : Option Addr} {n cp h : Nat} {r : TyRow} (ho : o.op = .slice t x none (some y) none) (hr : rowOf c.g.tys t = some r) (hd : r.d = .slice e) {re : TyRow} (hre : rowOf c.g.tys e = some re)
    (hx : S.ev x = some (.slice A n cp)) (hy : S.ev y = some (.int .i64 h)) (hh : h ≤ cp)
    (k : putK c S o.dst (.v (.slice A h cp)) K) : TOp c o S C K := by
  have hr' := (hg.row hr).1
  rw [hd] at hr'
  refine top_op (v := .slice A h cp) (fun a w hf _ => ?_) k
  have e1 := hf.ev hx
  have e2 := hf.ev hy
  simp [execOp, ho, e1, e2, Instr.sliceAt, Instr.slice, run_underlying hr', Instr.sliceBounds, Instr.sliceBound, asIntOf, hh, run_sizeOf hg hre]
  intro _
  cases A <;> simp [Addr.add]
theorem setE_err {nm : List (List Nat)} {s : List Nat} {e : Int} (h : setE nm s = .error e) : e ≠ 0 := by
  unfold setE at h
  split at h
  · cases h
  · cases h; split <;> decide
theorem Qr.reT {w0 w w1 : World} {base : Nat} {p : QP} {m : QM} {v0 v : QV} {T' : Nat → Prop} (h0 : Qr w0 w base p m v0) (h : Qr w0 w1 base p m v) (e : v.g.sg = v0.g.sg) (hT : ∀ i, T' i → m.T i ∨ w.heap.size ≤ i) (hlt : ∀ i, T' i → i < w1.heap.size) : Qr w0 w1 base p { m with T := T' } v := by
  refine ⟨h.e0, h.lor, h.rb, h.top, h.blk, h.rdo, h.out, h.len, fun j s x q1 q2 => ?_, h.tl, h.sl, h.b8, h.nf, hlt, h.dl, h.rl⟩
  have hd := h.dgs j s x q1 q2
  refine ⟨hd.sb, hd.st, fun ad ea h1 hh => ?_⟩
  rcases hh with hh | hh
  · exact hd.off ad ea h1 (.inl hh)
  · rcases hT _ hh with hh | hh
    · exact hd.off ad ea h1 (.inr hh)
    · rw [e] at q1
      have := SB.lt (h0.dgs j s x q1 q2).sb ad ea h1
      omega
/-- How the reader stands when a file was read. -/
def EndQ (v v2 : QV) : Except Pl Gs → Prop
  | .ok g' => v2.b = v.b ∧ v2.d = v.d ∧ { v2.g with fr := true } = g'
  | .error q => v2.b = q ∧ q.e ≠ 0 ∧ v.d ≤ v2.d
theorem EndQ.go {v v2 : QV} {R : Except Pl Gs} : EndQ v v2 R → match R with
    | .ok g' => ({ v2 with rd := v.rd, g := { v2.g with fr := true } } : QV) = { v with g := g' }
    | .error q => v2.b = q ∧ q.e ≠ 0 ∧ v.d ≤ v2.d := by
  intro h
  cases R with
  | ok g' =>
    obtain ⟨e1, e2, e3⟩ := h
    obtain ⟨vd, vrd, vg, vb⟩ := v2
    simp only at e1 e2 e3 ⊢
    rw [e1, e2, e3]
  | error q => exact h
theorem isDir_txt {s : List Nat} (h : dirOf s = .txt) : isDir s = false := by unfold isDir; rw [h]
theorem isDir_not {s : List Nat} (h : dirOf s ≠ .txt) : isDir s = true := by unfold isDir; split; exact absurd (by assumption) h; rfl
theorem dir_cases (s : List Nat) : dirOf s = .txt ∨ (∃ F, s = pIf ++ F ∧ dirOf s = .ifd F) ∨ (∃ F, s = pInc ++ F ∧ dirOf s = .inc F) ∨ (∃ F, s = pElif ++ F ∧ dirOf s = .elif F) ∨ (s = lElse ∧ dirOf s = .els) ∨ (s = lEnd ∧ dirOf s = .en) := by
  by_cases h1 : pIf.isPrefixOf s = true
  · obtain ⟨F, rfl⟩ := List.isPrefixOf_iff_prefix.1 h1
    exact .inr (.inl ⟨F, rfl, dir_ifs F⟩)
  by_cases h2 : pInc.isPrefixOf s = true
  · obtain ⟨F, rfl⟩ := List.isPrefixOf_iff_prefix.1 h2
    exact .inr (.inr (.inl ⟨F, rfl, dir_incs F⟩))
  by_cases h3 : pElif.isPrefixOf s = true
  · obtain ⟨F, rfl⟩ := List.isPrefixOf_iff_prefix.1 h3
    exact .inr (.inr (.inr (.inl ⟨F, rfl, dir_elifs F⟩)))
  by_cases h4 : s = lElse
  · exact .inr (.inr (.inr (.inr (.inl ⟨h4, by rw [h4]; rfl⟩))))
  by_cases h5 : s = lEnd
  · exact .inr (.inr (.inr (.inr (.inr ⟨h5, by rw [h5]; rfl⟩))))
  · left; unfold dirOf; rw [if_neg h1, if_neg h2, if_neg h3, if_neg h4, if_neg h5]

set_option maxRecDepth 2000 in
set_option maxHeartbeats 6400000 in
theorem rfile_fn (w0 : World) (base : Nat) (p : QP) (hP : QPok w0 p) (hb0 : w0.heap.size ≤ base) : ∀ f, QFile w0 base p f
  | 0 => fun m v n k o w h hk hn hr hd hf => absurd hf (by omega)
  | f + 1 => fun m v n k o w h hk hn hr hd hf hb hlr => by
    have ih := rfile_fn w0 base p hP hb0 f
    have hx : p.fs[n]? = some p.fs[n] := List.getElem?_eq_getElem hn
    have hfok := hP.flb _ (List.getElem_mem hn)
    have hunf : rdF p.nm p.fs (f + 1) v.rd v.d n o v.g = rdL p.nm n v.d (qincF p f n v.rd) (linesOf (p.fs[n].2)) 0 0 o [] { v.g with fr := true } := by
      rw [rdF, hx]; rfl
    generalize hres : rdF p.nm p.fs (f + 1) v.rd v.d n o v.g = res at *
    generalize htext : p.fs[n].2 = text at *
    have ht8 : ∀ x ∈ text, x < 256 := by rw [← htext]; exact hfok.t8
    have htl : text.length ≤ 1048576 := by rw [← htext]; exact hfok.tl
    have htok : unl (linesOf text) = text := unl_linesOf (by rw [← htext]; exact hfok.ok)
    have hfs := hP.fls.2
    have hsz := strOf_size text
    refine fn_of_exec (c := { c51 with cuts := [] }) gx_ok Tryz.func51 rfl rfl rfl ?_
    refine new (fun w1 hE1 hz1 hB1 => ?_)
    have h1 := h.ext hE1
    have htop := h.top
    have hrb := h.rb
    have npr : ¬ w.heap.size = p.r := fun e => by omega
    refine load_blk h1.blk rfl ?_
    refine at_buildN gx_ok [[Value.int .i64 ((n : Nat) : Int)]] rfl rfl rfl rfl rfl ⟨rfl, rfl, ⟨⟩⟩ rfl (fun cs hh => by simp only [List.mem_singleton] at hh; subst hh; rfl) rfl (by decide) (by decide) ?_
    intro w2 hE2 hz2 hB2
    have h2 := h1.ext hE2
    have hs2 : Sl w2 1 (some ⟨w1.heap.size, 0, none⟩) 1 1 [Value.int .i64 ((n : Nat) : Int)] := Sl.own (sz := 1) (n := 1) hB2 (Nat.le_refl _) (by decide) (by simp)
    have hrl := h.rl
    refine at_app (n := v.rd.length) gx_ok rfl rfl rfl rfl rfl (by decide) rfl rfl ⟨_, rfl⟩ rfl rfl h2.rdo hs2 (by simp [scalar]) (by unfold maxLen; omega) (by show (v.rd.length + 1) * 8 ≤ _; omega) h2.top ?_
    intro D' dc' w3 hm3 hown3 hmv3
    have nrow := h2.nrow
    refine store_mod (h2.blk.mod hm3 nrow.2) (show 3 < 10 by decide) (fun w4 hm4 hB4 => ?_)
    have hz12 := (hE1.trans hE2).size
    have hmv04 : Moved w m.DA D' := hmv3.back hz12
    -- the pushed reader, with the next line fresh
    let m4 : QM := { m with DA := D', dc := dc' }
    have hE02 := hE1.trans hE2
    refine load_blk hB4 rfl ?_
    have hE0w4 : Ext w0 w4 := hm4.ext (hm3.ext h2.e0 (fun i hi => by have := (h2.rdo.rows i hi).1; omega)) (fun i hi => by have := h.lor; omega)
    refine index_sls file_len (hP.fls.ext hE0w4) rfl (by omega) (fun pp x hxx hc => ?_)
    obtain rfl : p.fs[n] = x := Option.some.inj (hx.symm.trans hxx)
    refine load (hc 1 _ rfl) ?_
    rw [htext]
    refine at_buildN gx_ok [] rfl rfl rfl rfl rfl ⟨⟩ rfl (fun cs hh => by cases hh) rfl (by decide) (by decide) ?_
    intro w5 hE5 hz5 hB5
    refine store_mod (hB4.ext hE5) (show 6 < 10 by decide) (fun w6 hm6 hB6 => ?_)
    have hm26 : Mod (· = p.r) w3 w6 := ((hm4.trans (Mod.of_ext (· = p.r) hE5) (fun i hi => .inl hi))).trans hm6 (fun i hi => .inl hi)
    have h6 : Qr w0 w6 base p m4 { v with rd := n :: v.rd, g := { v.g with fr := true } } := by
      have hp2 : Qr w0 w2 base p m { v with g := { v.g with fr := true } } ∨ True := .inr trivial
      have hrs := TQ.moved (p := p) (m := m) (m' := m4) rfl (Moved.refl w2 m.OA) hmv3
      have hmm : Mod (QS p m) w2 w6 := (hm3.mono (S' := QS p m) (fun i hi => .inl (.inr (.inr hi)))).trans hm26 (fun i hi => .inl (.inl hi))
      have hpr : ∀ i, rowS D' i → ¬ i = p.r := fun i hi e => by subst e; have := (hown3.rows _ hi).1; omega
      have hz3 := hm3.size
      have hz6 := hm26.size
      have e : ixV (n :: v.rd).reverse = ixV v.rd.reverse ++ [.int .i64 n] := by simp [ixV]
      refine ⟨hmm.ext h2.e0 h2.lo, h.lor, h.rb, by omega, hB6, ?_, ?_, h2.len, fun j s x q1 q2 => (h2.dgs j s x q1 q2).step (hmm.mono (fun i hi => .inl (.inl hi))) hrs, h2.tl, h2.sl, h2.b8, fun hf => by (have hf : (true : Bool) = false := hf; cases hf), fun i hi => Nat.lt_of_lt_of_le (h2.tt i hi) (by omega), h2.dl, by show (n :: v.rd).length ≤ _; rw [List.length_cons]; omega⟩
      · show Own w6 base 3 1 D' (n :: v.rd).length dc' (ixV (n :: v.rd).reverse)
        rw [e, List.length_cons]; exact hown3.mod hm26 hpr
      · exact (h2.out.mod hm3 (fun i hi hj => h2.out.apart h2.rdo (by decide) hi hj)).mod hm26 (fun i hi e => by subst e; exact nrow.1 hi)
    have hz46 : w4.heap.size + 1 ≤ w6.heap.size := by have := hm6.size; omega
    have hz34 := hm4.size
    have hz23 := hm3.size
    have hA6 : Own w6 base sqT 6 (some ⟨w4.heap.size, 0, none⟩) 0 0 (seV []) := Own.empty (hB5.mod hm6 (by omega)) (by omega)
    have hm06 : Mod (QS p m) w w6 := ((Mod.of_ext (QS p m) hE02).trans (hm3.mono (S' := QS p m) (fun i hi => .inl (.inr (.inr hi)))) (fun i hi => .inl hi)).trans hm26 (fun i hi => .inl (.inl hi))
    have nbD : ¬ rowS m.DA w.heap.size := fun hi => by have := (h.rdo.rows _ hi).2; omega
    have hkb6 : Blk w6 w.heap.size 42 k.cells := ((hB1.ext hE2).mod hm3 nbD).mod hm26 npr
    have htt := h.tt
    let T1 : Nat → Prop := fun i => m.T i ∨ rowS (some ⟨w4.heap.size, 0, none⟩) i ∨ i = w.heap.size
    have hrow1 : ∀ i, rowS (some (⟨w4.heap.size, 0, none⟩ : Addr)) i → i = w4.heap.size := fun i hi => by obtain ⟨ad, e1, e2⟩ := hi; cases e1; exact e2.symm
    have hT1 : ∀ i, T1 i → m4.T i ∨ w.heap.size ≤ i := fun i hi => by
      rcases hi with hi | hi | hi
      · exact .inl hi
      · exact .inr (by have := hrow1 i hi; omega)
      · exact .inr (by omega)
    have h6' : Qr w0 w6 base p { m4 with T := T1 } { v with rd := n :: v.rd, g := { v.g with fr := true } } := by
      refine ⟨h6.e0, h6.lor, h6.rb, h6.top, h6.blk, h6.rdo, h6.out, h6.len, fun j s x q1 q2 => ?_, h6.tl, h6.sl, h6.b8, h6.nf, fun i hi => ?_, h6.dl, h6.rl⟩
      · have hd := h6.dgs j s x q1 q2
        refine ⟨hd.sb, hd.st, fun ad ea h1 hh => ?_⟩
        rcases hh with hh | hh
        · exact hd.off ad ea h1 (.inl hh)
        · rcases hT1 _ hh with hh | hh
          · exact hd.off ad ea h1 (.inr hh)
          · have := SB.lt (h.dgs j s x q1 q2).sb ad ea h1
            omega
      · rcases hi with hi | hi | hi
        · have := htt i hi; omega
        · have := hrow1 i hi; omega
        · omega
    have hk6 : DgO w6 (TQ p { m4 with T := T1 }) p.nm.length k o := by
      have hk0 := hk.step (S' := TQ p { m4 with T := T1 }) (w' := w6) (hm06.mono (fun i hi => .inl (.inl hi))) (fun i hi => by
        rcases hi with hi | hi
        · rcases QS.moved (p := p) (m := m) (m' := { m4 with T := T1 }) (Moved.refl w m.OA) hmv04 i hi with h1 | h1
          · exact .inl (.inl h1)
          · exact .inr h1
        · rcases hT1 i hi with h1 | h1
          · exact .inl (.inr h1)
          · exact .inr h1)
      exact hk0
    have hll : (linesOf text).length ≤ text.length := by have := unl_le (linesOf text); rw [htok] at this; exact this
    have hbkk : w.heap.size ≤ w.heap.size := Nat.le_refl _
    refine loop gx_ok [8, 9, 7] (fun s : LQ => [.int .i64 s.ln, .int .i64 s.at_, .slice s.A s.z.length s.c]) (fun s w' => FqI w0 w base p m v n w.heap.size text (qincF p f n v.rd) res s w') (fun s _ => s.ls.length) ⟨k, o, [], { m4 with T := T1 }, { v with rd := n :: v.rd, g := { v.g with fr := true } }, 0, 0, linesOf text, some ⟨w4.heap.size, 0, none⟩, 0⟩ rfl
      ⟨h6', rfl, rfl, hkb6, hk6, hA6, (fun z hz => by cases hz), (fun z hz => by cases hz), (by rw [htok]; rfl), (by rw [htok]; simp), linesOf_lines text, hm06, Moved.refl _ _, hmv04, (fun i hi => by have := hrow1 i hi; omega), (Nat.zero_le _), (by show 0 + (linesOf text).length ≤ _; omega), .inl ⟨rfl, rfl, hd, hunf.symm⟩⟩ ?_
    rintro s w7 hI
    have h7 := hI.rr
    have hal := hI.al
    have hzz7 := hI.mw.size
    have nbk : ¬ QS p s.m w.heap.size := fun hq => by
      rcases hq with e | hq | hq
      · exact npr e
      · exact hI.kb.apart h7.out (by decide) hq
      · exact hI.kb.apart h7.rdo (by decide) hq
    have nbA : ¬ rowS s.A w.heap.size := hI.kb.apart hI.ow (by decide)
    have nopr : ∀ i, rowS s.A i → ¬ i = p.r := fun i hi e => by have := (hI.ow.rows i hi).1; omega
    have hoffA : ∀ i, rowS s.A i → ¬ QS p s.m i := fun i hi hq => by
      rcases hq with e | hq | hq
      · exact nopr i hi e
      · exact hI.ow.apart h7.out (by decide) hi hq
      · exact hI.ow.apart h7.rdo (by decide) hi hq
    have htA : ∀ i, rowS s.A i → s.m.T i := fun i hi => by rw [hI.tt]; exact .inr (.inl hi)
    have htB : s.m.T w.heap.size := by rw [hI.tt]; exact .inr (.inr rfl)
    have hloA : ∀ i, rowS s.A i → w0.heap.size ≤ i := fun i hi => by have := (hI.ow.rows i hi).1; omega
    have hlob : w0.heap.size ≤ w.heap.size := h.e0.size
    have htm : ∀ i, m.T i → s.m.T i := fun i hi => by rw [hI.tt]; exact .inl hi
    refine wif_d (fun c1 => ?_) (fun c1 => ?_)
    rotate_left
    · have hend : s.ls = [] ∨ s.v.b.e ≠ 0 := .inl (List.eq_nil_of_length_eq_zero (by have := unl_le s.ls; omega))
      have fin : ∀ (v2 : QV) (w9 : World), Qr w0 w9 base p s.m v2 → Mod (· = p.r) w7 w9 → v2.rd = n :: v.rd → EndQ v v2 res → ∀ w10, Mod (· = p.r) w9 w10 → Blk w10 p.r 97 (qdC p s.m { v2 with rd := v.rd, g := { v2.g with fr := true } }) → QGo w0 base p m v res w w10 := fun v2 w9 h9 hm9 hrd2 hres2 w10 hm10 hB10 => by
        have h10 := h9.pop hrd2 hm10 (g' := { v2.g with fr := true }) rfl rfl rfl hB10
        have hm710 : Mod (· = p.r) w7 w10 := hm9.trans hm10 (fun i hi => .inl hi)
        have h11 : Qr w0 w10 base p { s.m with T := m.T } { v2 with rd := v.rd, g := { v2.g with fr := true } } := h10.modT (U := fun _ => False) (Mod.refl _ _) (fun i hi => hi.elim) (fun i hi => hi.elim) (fun i hi => hi.elim) (fun i hi => .inl (htm i hi)) (fun i hi => by have := htt i hi; have := hm710.size; omega)
        refine ⟨{ s.m with T := m.T }, _, rfl, h11, hI.mw' hbkk (hm710.mono (fun i hi => .inl (.inl (.inl hi)))), hI.ma, hI.mb, rfl, hres2.go⟩
      refine wif_d (fun hz => ?_) (fun hz => ?_)
      · obtain ⟨z', x, hzz⟩ : ∃ z' x, s.z = z' ++ [x] := by
          rcases List.eq_nil_or_concat s.z with h0 | ⟨z', x, h0⟩
          · rw [h0] at hz; exact absurd hz (by decide)
          · exact ⟨z', x, by rw [h0]; simp⟩
        have hzl : s.z.length = z'.length + 1 := by rw [hzz]; simp
        have hrev : s.z.reverse.map (·.s) = x.s :: z'.reverse.map (·.s) := by rw [hzz]; simp
        have hdl := hI.dl
        obtain ⟨oa, hoa, _⟩ := hI.ow.sl.at_ (by omega : 0 < s.z.length)
        have ho7 : Own w7 base sqT 6 (some oa) s.z.length s.c (seV z' ++ x.cells) := by rw [← hoa, ← seV_snoc, ← hzz]; exact hI.ow
        refine norm_i64_to ((z'.length : Nat) : Int) (by omega) (by omega) ?_
        rw [hoa]
        refine index_n (j := z'.length) (by omega) ?_
        rw [show z'.length * 6 = (seV z').length from (seV_len z').symm]
        refine load_own ho7 (by omega) (pre_get (i := 5) (u := .int .i64 x.s.ln) rfl) ?_
        refine call (rfail_fn 72 n x.s.ln w7 h7) ?_
        rintro _ w9 ⟨h9, hm9⟩
        have hres2 : EndQ v { s.v with b := bad1 s.v.b ⟨72, (n : Int), (x.s.ln : Int)⟩ } res := by
          rcases hI.st with ⟨a1, a2, a3, a4⟩ | ⟨a1, a2, a3⟩
          · have hls : s.ls = [] := hend.resolve_right (fun hh => hh (by rw [a1]; exact hb))
            rw [hls, rdL.eq_def, hrev] at a4
            rw [← a4]
            refine ⟨?_, (by show (72 : Int) ≠ 0; decide), (by show v.d ≤ s.v.d; omega)⟩
            show bad1 s.v.b ⟨72, (n : Int), (x.s.ln : Int)⟩ = _
            rw [a1]; exact if_pos hb
          · rw [a2]
            exact ⟨if_neg a1, a1, a3⟩
        have hrdl : { s.v with b := bad1 s.v.b ⟨72, (n : Int), (x.s.ln : Int)⟩ }.rd.length = v.rd.length + 1 := by show s.v.rd.length = _; rw [hI.rdv]; rfl
        have hle9 := h9.rdo.sl.le
        refine draw_plan gx_ok (Ext w9) 12 [(true, 0), (true, 1), (true, 2), (true, 3), (true, 4), (true, 5), (true, 6), (true, 7), (true, 8), (true, 9), (true, 10), (true, 11)] (by kernel_rfl) (Ext.drew w9) ?_
        refine qload (v := .slice s.m.DA s.v.rd.length s.m.dc) (fun w' hw' => by rw [(h9.blk.ext hw').cell]; rfl) ?_
        refine qload (v := .slice s.m.DA s.v.rd.length s.m.dc) (fun w' hw' => by rw [(h9.blk.ext hw').cell]; rfl) ?_
        refine norm_i64_to ((v.rd.length : Nat) : Int) (by rw [hI.rdv, List.length_cons]; omega) (by omega) ?_
        refine rtop_slice_h (h := v.rd.length) gx_ok rfl rfl rfl rfl rfl rfl (by have hle9 : s.v.rd.length ≤ s.m.dc := hle9; rw [hI.rdv, List.length_cons] at hle9; omega) ?_
        have hdX := Ext.drew w9
        refine store_mod (h9.blk.ext hdX) (show 3 < 10 by decide) (fun w10 hm10 hB10 => ?_)
        refine store_mod hB10 (show 6 < 10 by decide) (fun w11 hm11 hB11 => ?_)
        exact fin _ w9 h9 hm9 hI.rdv hres2 w11 (((Mod.of_ext (· = p.r) hdX).trans hm10 (fun i hi => .inl hi)).trans hm11 (fun i hi => .inl hi)) hB11
      · have hz0 : s.z = [] := List.eq_nil_of_length_eq_zero (by omega)
        have h9 := h7
        have hm9 : Mod (· = p.r) w7 w7 := Mod.refl _ _
        have hres2 : EndQ v s.v res := by
          rcases hI.st with ⟨a1, a2, a3, a4⟩ | ⟨a1, a2, a3⟩
          · have hls : s.ls = [] := hend.resolve_right (fun hh => hh (by rw [a1]; exact hb))
            rw [hls, rdL.eq_def, hz0] at a4
            rw [← a4]
            exact ⟨a1, by rw [a2, hz0]; rfl, rfl⟩
          · rw [a2]
            exact ⟨rfl, a1, a3⟩
        have hrdl : s.v.rd.length = v.rd.length + 1 := by show s.v.rd.length = _; rw [hI.rdv]; rfl
        have hle9 := h9.rdo.sl.le
        refine draw_plan gx_ok (Ext w7) 12 [(true, 0), (true, 1), (true, 2), (true, 3), (true, 4), (true, 5), (true, 6), (true, 7), (true, 8), (true, 9), (true, 10), (true, 11)] (by kernel_rfl) (Ext.drew w7) ?_
        refine qload (v := .slice s.m.DA s.v.rd.length s.m.dc) (fun w' hw' => by rw [(h9.blk.ext hw').cell]; rfl) ?_
        refine qload (v := .slice s.m.DA s.v.rd.length s.m.dc) (fun w' hw' => by rw [(h9.blk.ext hw').cell]; rfl) ?_
        refine norm_i64_to ((v.rd.length : Nat) : Int) (by rw [hI.rdv, List.length_cons]; omega) (by omega) ?_
        refine rtop_slice_h (h := v.rd.length) gx_ok rfl rfl rfl rfl rfl rfl (by have hle9 : s.v.rd.length ≤ s.m.dc := hle9; rw [hI.rdv, List.length_cons] at hle9; omega) ?_
        have hdX := Ext.drew w7
        refine store_mod (h9.blk.ext hdX) (show 3 < 10 by decide) (fun w10 hm10 hB10 => ?_)
        refine store_mod hB10 (show 6 < 10 by decide) (fun w11 hm11 hB11 => ?_)
        exact fin _ w7 h9 hm9 hI.rdv hres2 w11 (((Mod.of_ext (· = p.r) hdX).trans hm10 (fun i hi => .inl hi)).trans hm11 (fun i hi => .inl hi)) hB11
    refine load_blk2 h7.blk rfl ?_
    refine wif_eq (fun c2 => ?_) (fun c2 => ?_)
    rotate_left
    · have hend : s.ls = [] ∨ s.v.b.e ≠ 0 := .inr c2
      have fin : ∀ (v2 : QV) (w9 : World), Qr w0 w9 base p s.m v2 → Mod (· = p.r) w7 w9 → v2.rd = n :: v.rd → EndQ v v2 res → ∀ w10, Mod (· = p.r) w9 w10 → Blk w10 p.r 97 (qdC p s.m { v2 with rd := v.rd, g := { v2.g with fr := true } }) → QGo w0 base p m v res w w10 := fun v2 w9 h9 hm9 hrd2 hres2 w10 hm10 hB10 => by
        have h10 := h9.pop hrd2 hm10 (g' := { v2.g with fr := true }) rfl rfl rfl hB10
        have hm710 : Mod (· = p.r) w7 w10 := hm9.trans hm10 (fun i hi => .inl hi)
        have h11 : Qr w0 w10 base p { s.m with T := m.T } { v2 with rd := v.rd, g := { v2.g with fr := true } } := h10.modT (U := fun _ => False) (Mod.refl _ _) (fun i hi => hi.elim) (fun i hi => hi.elim) (fun i hi => hi.elim) (fun i hi => .inl (htm i hi)) (fun i hi => by have := htt i hi; have := hm710.size; omega)
        refine ⟨{ s.m with T := m.T }, _, rfl, h11, hI.mw' hbkk (hm710.mono (fun i hi => .inl (.inl (.inl hi)))), hI.ma, hI.mb, rfl, hres2.go⟩
      refine wif_d (fun hz => ?_) (fun hz => ?_)
      · obtain ⟨z', x, hzz⟩ : ∃ z' x, s.z = z' ++ [x] := by
          rcases List.eq_nil_or_concat s.z with h0 | ⟨z', x, h0⟩
          · rw [h0] at hz; exact absurd hz (by decide)
          · exact ⟨z', x, by rw [h0]; simp⟩
        have hzl : s.z.length = z'.length + 1 := by rw [hzz]; simp
        have hrev : s.z.reverse.map (·.s) = x.s :: z'.reverse.map (·.s) := by rw [hzz]; simp
        have hdl := hI.dl
        obtain ⟨oa, hoa, _⟩ := hI.ow.sl.at_ (by omega : 0 < s.z.length)
        have ho7 : Own w7 base sqT 6 (some oa) s.z.length s.c (seV z' ++ x.cells) := by rw [← hoa, ← seV_snoc, ← hzz]; exact hI.ow
        refine norm_i64_to ((z'.length : Nat) : Int) (by omega) (by omega) ?_
        rw [hoa]
        refine index_n (j := z'.length) (by omega) ?_
        rw [show z'.length * 6 = (seV z').length from (seV_len z').symm]
        refine load_own ho7 (by omega) (pre_get (i := 5) (u := .int .i64 x.s.ln) rfl) ?_
        refine call (rfail_fn 72 n x.s.ln w7 h7) ?_
        rintro _ w9 ⟨h9, hm9⟩
        have hres2 : EndQ v { s.v with b := bad1 s.v.b ⟨72, (n : Int), (x.s.ln : Int)⟩ } res := by
          rcases hI.st with ⟨a1, a2, a3, a4⟩ | ⟨a1, a2, a3⟩
          · have hls : s.ls = [] := hend.resolve_right (fun hh => hh (by rw [a1]; exact hb))
            rw [hls, rdL.eq_def, hrev] at a4
            rw [← a4]
            refine ⟨?_, (by show (72 : Int) ≠ 0; decide), (by show v.d ≤ s.v.d; omega)⟩
            show bad1 s.v.b ⟨72, (n : Int), (x.s.ln : Int)⟩ = _
            rw [a1]; exact if_pos hb
          · rw [a2]
            exact ⟨if_neg a1, a1, a3⟩
        have hrdl : { s.v with b := bad1 s.v.b ⟨72, (n : Int), (x.s.ln : Int)⟩ }.rd.length = v.rd.length + 1 := by show s.v.rd.length = _; rw [hI.rdv]; rfl
        have hle9 := h9.rdo.sl.le
        refine draw_plan gx_ok (Ext w9) 12 [(true, 0), (true, 1), (true, 2), (true, 3), (true, 4), (true, 5), (true, 6), (true, 7), (true, 8), (true, 9), (true, 10), (true, 11)] (by kernel_rfl) (Ext.drew w9) ?_
        refine qload (v := .slice s.m.DA s.v.rd.length s.m.dc) (fun w' hw' => by rw [(h9.blk.ext hw').cell]; rfl) ?_
        refine qload (v := .slice s.m.DA s.v.rd.length s.m.dc) (fun w' hw' => by rw [(h9.blk.ext hw').cell]; rfl) ?_
        refine norm_i64_to ((v.rd.length : Nat) : Int) (by rw [hI.rdv, List.length_cons]; omega) (by omega) ?_
        refine rtop_slice_h (h := v.rd.length) gx_ok rfl rfl rfl rfl rfl rfl (by have hle9 : s.v.rd.length ≤ s.m.dc := hle9; rw [hI.rdv, List.length_cons] at hle9; omega) ?_
        have hdX := Ext.drew w9
        refine store_mod (h9.blk.ext hdX) (show 3 < 10 by decide) (fun w10 hm10 hB10 => ?_)
        refine store_mod hB10 (show 6 < 10 by decide) (fun w11 hm11 hB11 => ?_)
        exact fin _ w9 h9 hm9 hI.rdv hres2 w11 (((Mod.of_ext (· = p.r) hdX).trans hm10 (fun i hi => .inl hi)).trans hm11 (fun i hi => .inl hi)) hB11
      · have hz0 : s.z = [] := List.eq_nil_of_length_eq_zero (by omega)
        have h9 := h7
        have hm9 : Mod (· = p.r) w7 w7 := Mod.refl _ _
        have hres2 : EndQ v s.v res := by
          rcases hI.st with ⟨a1, a2, a3, a4⟩ | ⟨a1, a2, a3⟩
          · have hls : s.ls = [] := hend.resolve_right (fun hh => hh (by rw [a1]; exact hb))
            rw [hls, rdL.eq_def, hz0] at a4
            rw [← a4]
            exact ⟨a1, by rw [a2, hz0]; rfl, rfl⟩
          · rw [a2]
            exact ⟨rfl, a1, a3⟩
        have hrdl : s.v.rd.length = v.rd.length + 1 := by show s.v.rd.length = _; rw [hI.rdv]; rfl
        have hle9 := h9.rdo.sl.le
        refine draw_plan gx_ok (Ext w7) 12 [(true, 0), (true, 1), (true, 2), (true, 3), (true, 4), (true, 5), (true, 6), (true, 7), (true, 8), (true, 9), (true, 10), (true, 11)] (by kernel_rfl) (Ext.drew w7) ?_
        refine qload (v := .slice s.m.DA s.v.rd.length s.m.dc) (fun w' hw' => by rw [(h9.blk.ext hw').cell]; rfl) ?_
        refine qload (v := .slice s.m.DA s.v.rd.length s.m.dc) (fun w' hw' => by rw [(h9.blk.ext hw').cell]; rfl) ?_
        refine norm_i64_to ((v.rd.length : Nat) : Int) (by rw [hI.rdv, List.length_cons]; omega) (by omega) ?_
        refine rtop_slice_h (h := v.rd.length) gx_ok rfl rfl rfl rfl rfl rfl (by have hle9 : s.v.rd.length ≤ s.m.dc := hle9; rw [hI.rdv, List.length_cons] at hle9; omega) ?_
        have hdX := Ext.drew w7
        refine store_mod (h9.blk.ext hdX) (show 3 < 10 by decide) (fun w10 hm10 hB10 => ?_)
        refine store_mod hB10 (show 6 < 10 by decide) (fun w11 hm11 hB11 => ?_)
        exact fin _ w7 h9 hm9 hI.rdv hres2 w11 (((Mod.of_ext (· = p.r) hdX).trans hm10 (fun i hi => .inl hi)).trans hm11 (fun i hi => .inl hi)) hB11
    obtain ⟨hsb, hsd, hsd64, hrs⟩ : s.v.b = v.b ∧ s.v.d = v.d + s.z.length ∧ s.v.d ≤ 64 ∧ rdL p.nm n v.d (qincF p f n v.rd) s.ls s.ln s.at_ s.o (s.z.reverse.map (·.s)) s.v.g = res := by
      rcases hI.st with hh | ⟨hh, _⟩
      · exact hh
      · exact absurd c2 hh
    cases hls : s.ls with
    | nil =>
      rw [hls] at hal
      have : (unl ([] : List (List Nat))).length = 0 := rfl
      omega
    | cons l ls =>
    have hdr := hI.dr
    rw [hls, unl_cons] at hdr
    rw [hls, unl_cons] at hal
    simp only [List.length_append, List.length_cons] at hal
    have l1 : 10 ∉ l := hI.li l (by rw [hls]; simp)
    have hl8 : ∀ x ∈ l, x < 256 := fun x hx => ht8 x (List.mem_of_mem_drop (by rw [hdr]; simp [hx] : x ∈ text.drop s.at_))
    have hlb := hI.lb
    rw [hls, List.length_cons] at hlb
    have hls2 := strOf_size l
    refine loop gx_ok [10] (fun e : Nat => [.int .i64 e]) (fun e w' => w7 = w' ∧ s.at_ ≤ e ∧ e ≤ s.at_ + l.length) (fun e _ => s.at_ + l.length - e) s.at_ rfl ⟨rfl, Nat.le_refl _, by omega⟩ ?_
    rintro en _ ⟨rfl, he1, he2⟩
    refine sindex' (j := en) (by omega) (fun b hb' hb2 => ?_)
    rw [bytesOf_strOf ht8] at hb'
    refine wif_ne (fun d1 => ?_) (fun d1 => ?_)
    · have hne : en ≠ s.at_ + l.length := fun e => by
        rw [e, text_lf hdr] at hb'
        cases hb'; exact d1 rfl
      refine norm_i64_to ((en + 1 : Nat) : Int) (by show ((en : Nat) : Int) + 1 = _; omega) (by omega) ?_
      exact ⟨en + 1, rfl, ⟨rfl, by omega, by omega⟩, by show s.at_ + l.length - (en + 1) < s.at_ + l.length - en; omega⟩
    have hen : en = s.at_ + l.length := by
      by_cases h : en < s.at_ + l.length
      · have h2 := text_at hdr (j := en - s.at_) (by omega)
        rw [show s.at_ + (en - s.at_) = en by omega, hb'] at h2
        have := List.mem_of_getElem? h2.symm
        exact absurd (by rw [show b = 10 by omega] at this; exact this) l1
      · omega
    have hcut : (text.take (s.at_ + l.length)).drop s.at_ = l := by
      rw [List.drop_take, hdr, show s.at_ + l.length - s.at_ = l.length by omega, List.take_left' rfl]
    have hcut2 : (text.take (s.at_ + l.length + 1)).drop s.at_ = l ++ [10] := by
      rw [List.drop_take, hdr, show s.at_ + l.length + 1 - s.at_ = l.length + 1 by omega, show l ++ 10 :: unl ls = (l ++ [10]) ++ unl ls by simp, List.take_left' (by simp)]
    subst hen
    refine norm_i64_to ((s.ln + 1 : Nat) : Int) (by show ((s.ln : Nat) : Int) + 1 = _; omega) (by omega) ?_
    refine need_to (v' := .string (strOf l)) ⟨by omega, by omega, by omega⟩ (by rw [strOf_extract]; simp only [Int.toNat_natCast]; rw [hcut]) ?_
    refine call (rdirective_fn l w7 hl8) ?_
    rintro _ _ ⟨rfl, rfl⟩
    have bg : ∀ q : List Nat, (∀ b ∈ q, b < 256) → ∀ w', Fn Tryz.prog 59 [.string (strOf l), .string (strOf q)] w' (fun v w'' => v = .bool (q.isPrefixOf l) ∧ w' = w'') := fun q hq w' => begins_fn l q w' hl8 hq
    have hdl := hI.dl
    have hrd7 : s.v.rd = n :: v.rd := hI.rdv
    have hrlen : s.v.rd.length ≤ s.v.d + 1 := by rw [hrd7, List.length_cons]; omega
    rw [hls] at hrs
    have mu : ls.length < (l :: ls).length := by simp
    rcases dir_cases l with hdir | ⟨F, hlF, hdir⟩ | ⟨F, hlF, hdir⟩ | ⟨F, hlF, hdir⟩ | ⟨hlF, hdir⟩ | ⟨hlF, hdir⟩
    · have hdB := isDir_txt hdir
      refine wif_t (by rw [hdB]; rfl) ?_
      have hd7 := Ext.drew w7
      refine draw_plan gx_ok (Mod (QS p s.m) w7) 11 [(true, 0), (true, 1), (true, 2), (true, 3), (true, 4), (true, 5), (true, 6), (true, 7), (true, 8), (true, 9), (false, 10)] (by kernel_rfl) (Mod.of_ext _ hd7) ?_
      refine norm_i64_to ((s.at_ + l.length + 1 : Nat) : Int) (by show ((s.at_ + l.length : Nat) : Int) + 1 = _; omega) (by omega) ?_
      refine need_to (v' := .string (strOf (l ++ [10]))) ⟨by omega, by omega, by omega⟩ (by rw [strOf_extract]; simp only [Int.toNat_natCast]; rw [hcut2]) ?_
      refine qloadN (vs := s.k.cells) rfl (fun w' hw' j u hj => by rw [(hI.kb.mod hw' nbk).cell]; exact hj) ?_
      refine call (rtext_fn s.m s.v (l ++ [10]) n s.at_ ((s.ln + 1 : Nat) : Int) s.k s.o w7.drew (h7.ext hd7) (hI.kd.ext hd7) (b8_app hl8 (by decide)) (by simp; omega) (by rw [hrd7]; simp)) ?_
      rintro _ w8 hT
      unfold TxQ at hT
      have hrs2 := hrs
      rw [rdL_txt hdir] at hrs2
      cases ha : addG (l ++ [10]) n s.at_ s.o s.v.g with
      | none =>
        rw [ha] at hT hrs2
        simp only at hT hrs2
        obtain ⟨h8, hm8⟩ := hT
        have hm78 : Mod (· = p.r) w7 w8 := (Mod.of_ext (· = p.r) hd7).trans hm8 (fun i hi => .inl hi)
        refine ⟨hm78.mono (fun i hi => .inl (.inl hi)), ?_⟩
        have hb2 : bad1 s.v.b ⟨2, (n : Int), ((s.ln + 1 : Nat) : Int)⟩ = ⟨2, n, ((s.ln + 1 : Nat) : Int)⟩ := if_pos c2
        have key : ∀ wY, Mod (· = p.r) w8 wY → Qr w0 wY base p s.m { s.v with b := bad1 s.v.b ⟨2, (n : Int), ((s.ln + 1 : Nat) : Int)⟩ } → FqI w0 w base p m v n w.heap.size text (qincF p f n v.rd) res ⟨s.k, s.o, s.z, s.m, { s.v with b := bad1 s.v.b ⟨2, (n : Int), ((s.ln + 1 : Nat) : Int)⟩ }, s.ln + 1, s.at_ + l.length + 1, ls, s.A, s.c⟩ wY := fun wY hmY hY => by
          have hm7Y : Mod (· = p.r) w7 wY := hm78.trans hmY (fun i hi => .inl hi)
          have hmW : Mod (WrQ p s.m s.A w.heap.size) w7 wY := hm7Y.mono (fun i hi => .inl (.inl (.inl hi)))
          have kp : ∀ {x : DV} {ox : BF}, DgO w7 (TQ p s.m) p.nm.length x ox → DgO wY (TQ p s.m) p.nm.length x ox := fun hx => hx.keep hm7Y (fun i hi => .inl (.inl (.inl hi)))
          exact hI.go hbkk hmW hY hrd7 hI.tt hI.nw (Moved.refl _ _) (Moved.refl _ _) (hI.kb.mod hm7Y npr) (kp hI.kd) (hI.ow.mod hm7Y nopr) (fun z hz => kp (hI.zx z hz)) (fun z hz => kp (hI.zy z hz)) hls rfl hdl rfl (.inr ⟨by show (bad1 s.v.b ⟨2, (n : Int), ((s.ln + 1 : Nat) : Int)⟩).e ≠ 0; rw [hb2]; show (2 : Int) ≠ 0; decide, by show res = .error (bad1 s.v.b ⟨2, (n : Int), ((s.ln + 1 : Nat) : Int)⟩); rw [hb2]; exact hrs2.symm, by show v.d ≤ s.v.d; omega⟩)
        refine load_blk h8.blk rfl ?_
        refine wif (fun fr1 => ?_) (fun fr1 => ?_)
        · have fr1 : s.v.g.fr = true := fr1
          refine store_mod h8.blk (show 6 < 10 by decide) (fun wY hmY hBY => ?_)
          refine norm_i64_to ((s.at_ + l.length + 1 : Nat) : Int) (by show ((s.at_ + l.length : Nat) : Int) + 1 = _; omega) (by omega) ?_
          have hQ : Qr w0 wY base p s.m { s.v with b := bad1 s.v.b ⟨2, (n : Int), ((s.ln + 1 : Nat) : Int)⟩ } := h8.put hmY (by rw [← fr1] at hBY; exact hBY) rfl rfl rfl h8.nf h8.dl
          exact ⟨⟨s.k, s.o, s.z, s.m, { s.v with b := bad1 s.v.b ⟨2, (n : Int), ((s.ln + 1 : Nat) : Int)⟩ }, s.ln + 1, s.at_ + l.length + 1, ls, s.A, s.c⟩, rfl, key wY hmY hQ, mu⟩
        · have fr1 : s.v.g.fr = false := fr1
          refine call (rdirective_fn l _ hl8) ?_
          rw [hdB]
          rintro _ _ ⟨rfl, rfl⟩
          refine store_mod h8.blk (show 6 < 10 by decide) (fun wY hmY hBY => ?_)
          refine norm_i64_to ((s.at_ + l.length + 1 : Nat) : Int) (by show ((s.at_ + l.length : Nat) : Int) + 1 = _; omega) (by omega) ?_
          have hQ : Qr w0 wY base p s.m { s.v with b := bad1 s.v.b ⟨2, (n : Int), ((s.ln + 1 : Nat) : Int)⟩ } := h8.put hmY (by rw [← fr1] at hBY; exact hBY) rfl rfl rfl h8.nf h8.dl
          exact ⟨⟨s.k, s.o, s.z, s.m, { s.v with b := bad1 s.v.b ⟨2, (n : Int), ((s.ln + 1 : Nat) : Int)⟩ }, s.ln + 1, s.at_ + l.length + 1, ls, s.A, s.c⟩, rfl, key wY hmY hQ, mu⟩
      | some g' =>
        rw [ha] at hT hrs2
        simp only at hT hrs2
        obtain ⟨m8, hT8, h8, hm8, hv8, hu8⟩ := hT
        have hm78 : Mod (QS p s.m) w7 w8 := (Mod.of_ext (QS p s.m) hd7).trans hm8 (fun i hi => .inl hi)
        refine ⟨hm78, ?_⟩
        have hfr : g'.fr = false := by
          unfold addG at ha
          split at ha
          · cases ha
          · cases ha; rfl
        have hO7 : Moved w7 s.m.OA m8.OA := hv8.back hd7.size
        have hD7 : Moved w7 s.m.DA m8.DA := hu8.back hd7.size
        refine load_blk h8.blk rfl ?_
        refine wif_f hfr ?_
        refine call (rdirective_fn l _ hl8) ?_
        rw [hdB]
        rintro _ _ ⟨rfl, rfl⟩
        refine store_mod h8.blk (show 6 < 10 by decide) (fun wY hmY hBY => ?_)
        refine norm_i64_to ((s.at_ + l.length + 1 : Nat) : Int) (by show ((s.at_ + l.length : Nat) : Int) + 1 = _; omega) (by omega) ?_
        have hY : Qr w0 wY base p m8 { s.v with g := g' } := h8.put hmY (by rw [← hfr] at hBY; exact hBY) rfl rfl rfl h8.nf h8.dl
        let s' : LQ := ⟨s.k, s.o, s.z, m8, { s.v with g := g' }, s.ln + 1, s.at_ + l.length + 1, ls, s.A, s.c⟩
        have tt' : s'.m.T = fun i => m.T i ∨ rowS s'.A i ∨ i = w.heap.size := by show m8.T = _; rw [hT8, hI.tt]
        have hmW : Mod (WrQ p s.m s.A w.heap.size) w7 wY := (hm78.mono (S' := WrQ p s.m s.A w.heap.size) (fun i hi => .inl (.inl hi))).trans hmY (fun i hi => .inl (.inl (.inl hi)))
        have kp : ∀ {x : DV} {ox : BF}, DgO w7 (TQ p s.m) p.nm.length x ox → DgO wY (TQ p s'.m) p.nm.length x ox := fun hx => hI.kp (s' := s') hmW tt' (Moved.refl _ _) hO7 hD7 hx
        refine ⟨s', rfl, hI.go (s' := s') hbkk hmW hY hrd7 tt' hI.nw hO7 hD7 ((hI.kb.mod hm78 nbk).mod hmY npr) (kp hI.kd) ((hI.ow.mod hm78 hoffA).mod hmY nopr) (fun z hz => kp (hI.zx z hz)) (fun z hz => kp (hI.zy z hz)) hls rfl hdl rfl (.inl ⟨hsb, hsd, hsd64, hrs2⟩), mu⟩
    · have hdB := isDir_not (s := l) (by rw [hdir]; simp)
      have hlen4 : l.length = 4 + F.length := by rw [hlF]; simp [pIf]; omega
      refine wif_f (by rw [hdB]; rfl) ?_
      refine call (bg pIf (by decide) w7) ?_
      rintro _ _ ⟨rfl, rfl⟩
      refine wif_t (by rw [hlF]; exact pre_self _ _) ?_
      have hF8 : ∀ b ∈ F, b < 256 := fun b hb => hl8 b (by rw [hlF]; simp [hb])
      refine need_to (v' := .string (strOf F)) ⟨by decide, by omega, by omega⟩ (by
        rw [strOf_extract, hls2]
        simp only [Int.toNat_natCast]
        rw [List.take_of_length_le (Nat.le_refl _), hlF]
        rfl) ?_
      refine call (rset_fn F n ((s.ln + 1 : Nat) : Int) w7 hP h7 hF8 (by omega)) ?_
      rintro _ w8 ⟨t, d, rfl, h8, hm8, ht8', hts, htr, hok⟩
      have hz78 := hm8.size
      refine new (fun w9 hE9 hz9 hB9 => ?_)
      refine storeN_blk0 hB9 rfl (sc rfl) (fun w10 hg10 _ hB10 => ?_)
      have hE810 : Ext w8 w10 := newBox hE9 hB9 hg10
      have hz810 := hE810.size
      have h10 := h8.ext hE810
      refine call (rdeeper_fn n ((s.ln + 1 : Nat) : Int) w10 h10 hsd64) ?_
      rintro _ w11 ⟨h11, hm11⟩
      have hz11 := hm11.size
      generalize hb2 : (if ({ s.v with b := badR s.v.b (n : Int) ((s.ln + 1 : Nat) : Int) (setE p.nm F) } : QV).d = 64 then bad1 (badR s.v.b (n : Int) ((s.ln + 1 : Nat) : Int) (setE p.nm F)) ⟨2, (n : Int), ((s.ln + 1 : Nat) : Int)⟩ else badR s.v.b (n : Int) ((s.ln + 1 : Nat) : Int) (setE p.nm F)) = b2 at h11
      have hm711 : Mod (· = p.r) w7 w11 := (hm8.trans (Mod.of_ext (· = p.r) hE810) (fun i hi => .inl hi)).trans hm11 (fun i hi => .inl hi)
      have n8r : ¬ w8.heap.size = p.r := fun e => by have := h7.top; omega
      have hkb11 := hI.kb.mod hm711 npr
      have hB11 := hB10.mod hm11 n8r
      have hkd11 : DgO w11 (TQ p s.m) p.nm.length s.k s.o := hI.kd.keep hm711 (fun i hi => .inl (.inl (.inl hi)))
      have ht11 : SB w11 t.A t.n t.c t.nd := SB.modo (ht8'.ext hE810) hm11 (fun ad e h0 hh => by have := htr ad e h0; have := h7.top; omega)
      have how11 := hI.ow.mod hm711 nopr
      have nbt : ¬ rowS s.A w8.heap.size := fun hi => by have := (hI.ow.rows _ hi).2; omega
      have hd11 := Ext.drew w11
      refine draw_plan gx_ok (Mod (rowS s.A) w11) 10 [(true, 0), (true, 1), (true, 2), (true, 3), (true, 5), (false, 4), (true, 6), (false, 7), (false, 8), (true, 9)] (by kernel_rfl) (Mod.of_ext _ hd11) ?_
      refine qloadN (vs := s.k.cells) rfl (fun w' hw' j u hj => by rw [(hkb11.mod hw' nbA).cell]; exact hj) ?_
      refine qloadN (vs := s.k.cells) rfl (fun w' hw' j u hj => by rw [(hkb11.mod hw' nbA).cell]; exact hj) ?_
      refine qloadN (vs := t.cells) rfl (fun w' hw' j u hj => by rw [(hB11.mod hw' nbt).cell]; exact hj) ?_
      refine call (rminus_fn hP.nmk s.k.A s.k.n s.k.c t.A t.n t.c w11.drew (hkd11.sb.ext hd11) (ht11.ext hd11) hkd11.st hts) ?_
      rintro _ w12 ⟨rA, rn, rc, rnd, rr, rfl, hE12, hr12, hrS, hrR⟩
      have hE1112 := hd11.trans hE12
      refine ⟨Mod.of_ext _ hE1112, ?_⟩
      let b : DV := ⟨rA, rn, rc, rnd, rr⟩
      let zn : SeV := ⟨⟨s.o, bSub s.o d, false, s.ln + 1⟩, s.k, b⟩
      refine at_buildN gx_ok [zn.cells] rfl rfl rfl rfl rfl ⟨rfl, rfl, ⟨⟩⟩ rfl (fun cs hh => by simp only [List.mem_singleton] at hh; subst hh; rfl) rfl (by decide) (by decide) ?_
      intro w13 hE13 hz13 hB13
      have hE1113 := hE1112.trans hE13
      refine ⟨Mod.of_ext _ hE1113, ?_⟩
      have hs13 : Sl w13 6 (some ⟨w12.heap.size, 0, none⟩) 1 1 zn.cells := Sl.own (sz := 6) (n := 1) hB13 (Nat.le_refl _) (by decide) (by simp [SeV.cells])
      refine at_app gx_ok rfl rfl rfl rfl rfl (by decide) rfl rfl ⟨_, rfl⟩ rfl rfl (how11.ext hE1113) hs13 (sev_scalar zn) (by unfold maxLen; omega) (by show (s.z.length + 1) * 80 ≤ _; omega) (h11.ext hE1113).top ?_
      intro A' c' w14 hm14 hown14 hmv14
      have hm1114 : Mod (rowS s.A) w11 w14 := (Mod.of_ext (rowS s.A) hE1113).trans hm14 (fun i hi => .inl hi)
      refine ⟨hm1114, ?_⟩
      have hz14 := hm1114.size
      have hz1112 := hE1112.size
      have hz1113 := hE1113.size
      have hkb14 := hkb11.mod hm1114 nbA
      have hB14 := hB11.mod hm1114 nbt
      have hkd14 : DgO w14 (TQ p s.m) p.nm.length s.k s.o := hkd11.keep hm1114 (fun i hi => .inl (.inr (htA i hi)))
      have offrow : ∀ i, rowS s.A i → i < w7.heap.size := fun i hi => (hI.ow.rows i hi).2
      have ht14 : SB w14 t.A t.n t.c t.nd := SB.modo ht11 hm1114 (fun ad e h0 hh => by have := htr ad e h0; have := offrow _ hh; omega)
      have hr14 : SB w14 b.A b.n b.c b.nd := SB.modo (w := w13) (hr12.ext hE13) hm14 (fun ad e h0 hh => by have := hrR ad.block ⟨ad, e, rfl⟩; have := offrow _ hh; have := hd11.size; omega)
      refine loadN_blk0 hkb14 rfl ?_
      refine loadN_blk0 hB14 rfl ?_
      refine call (rinter_fn hP.nmk s.k.A s.k.n s.k.c t.A t.n t.c w14 hkd14.sb ht14 hkd14.st hts) ?_
      rintro _ w15 ⟨aA, an, ac, and_, ar, rfl, hE15, ha15, haS, haR⟩
      have hz15 := hE15.size
      let a : DV := ⟨aA, an, ac, and_, ar⟩
      refine storeN_blk0 (hkb14.ext hE15) rfl (sc rfl) (fun w16 hg16 _ hB16 => ?_)
      have hM16 : Mod (· = w.heap.size) w15 w16 := Mod.of_grown hg16 rfl
      have hz16 := hM16.size
      have h14 : Qr w0 w14 base p s.m { s.v with d := s.v.d + 1, b := b2 } := h11.modT (T' := s.m.T) hm1114 htA hoffA hloA (fun i hi => .inl hi) (fun i hi => Nat.lt_of_lt_of_le (h11.tt i hi) hz14)
      have h16 : Qr w0 w16 base p s.m { s.v with d := s.v.d + 1, b := b2 } := (h14.ext hE15).modT (T' := s.m.T) hM16 (fun i hi => by subst hi; exact htB) (fun i hi => by subst hi; exact nbk) (fun i hi => by omega) (fun i hi => .inl hi) (fun i hi => Nat.lt_of_lt_of_le ((h14.ext hE15).tt i hi) hz16)
      let T2 : Nat → Prop := fun i => m.T i ∨ rowS A' i ∨ i = w.heap.size
      have hmv7 : Moved w7 s.A A' := hmv14.back (by omega)
      have hT2 : ∀ i, T2 i → s.m.T i ∨ w7.heap.size ≤ i := fun i hi => by
        rcases hi with hi | hi | hi
        · exact .inl (htm i hi)
        · rcases hmv7.rows i hi with h1 | h1
          · exact .inl (htA i h1)
          · exact .inr h1
        · exact .inl (by rw [hi]; exact htB)
      have hlt2 : ∀ i, T2 i → i < w16.heap.size := fun i hi => by
        rcases hi with hi | hi | hi
        · have := htt i hi; omega
        · have := (hown14.rows i hi).2; omega
        · omega
      have hQ : Qr w0 w16 base p { s.m with T := T2 } { s.v with d := s.v.d + 1, b := b2 } := h7.reT h16 rfl hT2 hlt2
      let s' : LQ := ⟨a, bAnd s.o d, s.z ++ [zn], { s.m with T := T2 }, { s.v with d := s.v.d + 1, b := b2, g := { s.v.g with fr := true } }, s.ln + 1, s.at_ + l.length + 1, ls, A', c'⟩
      have hm7_14 : Mod (WrQ p s.m s.A w.heap.size) w7 w14 := (hm711.mono (S' := WrQ p s.m s.A w.heap.size) (fun i hi => .inl (.inl (.inl hi)))).trans hm1114 (fun i hi => .inl (.inr (.inl hi)))
      have hm7_16 : Mod (WrQ p s.m s.A w.heap.size) w7 w16 := (hm7_14.trans (Mod.of_ext (WrQ p s.m s.A w.heap.size) hE15) (fun i hi => .inl hi)).trans hM16 (fun i hi => .inl (.inr (.inr hi)))
      have hlen' : (s.z ++ [zn]).length = s.z.length + 1 := by simp
      have key : ∀ wY, Mod (· = p.r) w16 wY → Qr w0 wY base p { s.m with T := T2 } { s.v with d := s.v.d + 1, b := b2, g := { s.v.g with fr := true } } → FqI w0 w base p m v n w.heap.size text (qincF p f n v.rd) res s' wY := fun wY hmY hY => by
        have hmW : Mod (WrQ p s.m s.A w.heap.size) w7 wY := hm7_16.trans hmY (fun i hi => .inl (.inl (.inl hi)))
        have kp : ∀ {x : DV} {ox : BF}, DgO w7 (TQ p s.m) p.nm.length x ox → DgO wY (TQ p s'.m) p.nm.length x ox := fun hx => hI.kp (s' := s') hmW rfl hmv7 (Moved.refl _ _) (Moved.refl _ _) hx
        have hq7 : ∀ i, QS p s'.m i → i < w7.heap.size := fun i hi => h7.hi i hi
        have haY : SB wY a.A a.n a.c a.nd := SB.modo (SB.modo (w := w15) ha15 hM16 (fun ad e h0 hh => by have := haR ad.block ⟨ad, e, rfl⟩; omega)) hmY (fun ad e h0 hh => by have := haR ad.block ⟨ad, e, rfl⟩; have := h7.top; omega)
        have hbY : SB wY b.A b.n b.c b.nd := SB.modo (SB.modo (w := w15) (hr14.ext hE15) hM16 (fun ad e h0 hh => by have := hrR ad.block ⟨ad, e, rfl⟩; have := hd11.size; omega)) hmY (fun ad e h0 hh => by have := hrR ad.block ⟨ad, e, rfl⟩; have := hd11.size; have := h7.top; omega)
        have ka : DgO wY (TQ p s'.m) p.nm.length a (bAnd s.o d) := hI.new (s' := s') (x := a) (w1 := w7) (Nat.le_refl _) rfl (fun i hi => by
          right; intro ad e h0 hh
          have := haR ad.block ⟨ad, e, rfl⟩
          have := (hown14.rows i hi).2
          omega) haY (haS.congr (fun e => by simp [opB])) (fun ad e h0 => by have := haR ad.block ⟨ad, e, rfl⟩; omega) hq7
        have kb' : DgO wY (TQ p s'.m) p.nm.length b (bSub s.o d) := hI.new (s' := s') (x := b) (w1 := w7) (Nat.le_refl _) rfl (fun i hi => by
          rcases hmv14.rows i hi with h1 | h1
          · exact .inl h1
          · right; intro ad e h0 hh
            have := SB.lt (w := w12) hr12 ad e h0
            have := hE13.size
            omega) hbY hrS (fun ad e h0 => by have := hrR ad.block ⟨ad, e, rfl⟩; have := hd11.size; omega) hq7
        refine hI.go (s' := s') hbkk hmW hY hrd7 rfl (fun i hi => ?_) (Moved.refl _ _) (Moved.refl _ _) (hB16.mod hmY npr) ka ?_ ?_ ?_ hls rfl ?_ rfl ?_
        · rcases hmv7.rows i hi with h1 | h1
          · exact hI.nw i h1
          · omega
        · show Own wY base sqT 6 A' (s.z ++ [zn]).length c' (seV (s.z ++ [zn]))
          rw [hlen', seV_snoc]
          exact ((hown14.ext hE15).mod hM16 (fun i hi e => by subst e; exact hkb14.apart hown14 (by decide) hi)).mod hmY (fun i hi e => by subst e; have := (hown14.rows _ hi).1; omega)
        · intro z hz
          simp only [s', List.mem_append, List.mem_singleton] at hz
          rcases hz with hz | rfl
          · exact kp (hI.zx z hz)
          · exact kp hI.kd
        · intro z hz
          simp only [s', List.mem_append, List.mem_singleton] at hz
          rcases hz with hz | rfl
          · exact kp (hI.zy z hz)
          · exact kb'
        · show (s.z ++ [zn]).length ≤ 65
          rw [hlen']; omega
        · have hrs2 := hrs
          rw [rdL_ifd hdir] at hrs2
          have hop : v.d + (s.z.reverse.map (·.s)).length = s.v.d := by simp; omega
          rw [hop] at hrs2
          cases hse : setE p.nm F with
          | error e =>
            rw [hse] at hrs2 hb2
            have he := setE_err hse
            have e1 : badR s.v.b (n : Int) ((s.ln + 1 : Nat) : Int) (Except.error e : Except Int BF) = ⟨e, n, ((s.ln + 1 : Nat) : Int)⟩ := if_pos c2
            rw [e1] at hb2
            have e2 : b2 = ⟨e, n, ((s.ln + 1 : Nat) : Int)⟩ := by
              rw [← hb2]; split
              · exact if_neg he
              · rfl
            exact .inr ⟨by show b2.e ≠ 0; rw [e2]; exact he, by show res = .error b2; rw [e2]; exact hrs2.symm, by show v.d ≤ s.v.d + 1; omega⟩
          | ok o' =>
            rw [hse] at hrs2 hb2
            have hdo := hok o' hse
            subst hdo
            simp only at hrs2
            by_cases h64 : s.v.d = 64
            · rw [if_pos h64] at hrs2
              have e2 : b2 = ⟨2, n, ((s.ln + 1 : Nat) : Int)⟩ := by
                rw [← hb2, if_pos (show ({ s.v with b := badR s.v.b (n : Int) ((s.ln + 1 : Nat) : Int) (Except.ok d : Except Int BF) } : QV).d = 64 from h64)]
                exact if_pos c2
              exact .inr ⟨by show b2.e ≠ 0; rw [e2]; show (2 : Int) ≠ 0; decide, by show res = .error b2; rw [e2]; exact hrs2.symm, by show v.d ≤ s.v.d + 1; omega⟩
            · rw [if_neg h64] at hrs2
              have e2 : b2 = s.v.b := by
                rw [← hb2, if_neg (show ¬ ({ s.v with b := badR s.v.b (n : Int) ((s.ln + 1 : Nat) : Int) (Except.ok d : Except Int BF) } : QV).d = 64 from h64)]
                rfl
              refine .inl ⟨by show b2 = v.b; rw [e2]; exact hsb, by show s.v.d + 1 = v.d + (s.z ++ [zn]).length; rw [hlen']; omega, by show s.v.d + 1 ≤ 64; omega, ?_⟩
              rw [← hrs2]
              simp [s', zn]
      refine load_blk hQ.blk rfl ?_
      refine wif (fun fr1 => ?_) (fun fr1 => ?_)
      · refine store_mod hQ.blk (show 6 < 10 by decide) (fun wY hmY hBY => ?_)
        refine norm_i64_to ((s.at_ + l.length + 1 : Nat) : Int) (by show ((s.at_ + l.length : Nat) : Int) + 1 = _; omega) (by omega) ?_
        exact ⟨s', (by show Has _ _; simp only [s', hlen']; rfl), key wY hmY (hQ.put hmY hBY rfl rfl rfl (fun e => by cases e) hQ.dl), mu⟩
      · refine call (rdirective_fn l _ hl8) ?_
        rw [hdB]
        rintro _ _ ⟨rfl, rfl⟩
        refine store_mod hQ.blk (show 6 < 10 by decide) (fun wY hmY hBY => ?_)
        refine norm_i64_to ((s.at_ + l.length + 1 : Nat) : Int) (by show ((s.at_ + l.length : Nat) : Int) + 1 = _; omega) (by omega) ?_
        exact ⟨s', (by show Has _ _; simp only [s', hlen']; rfl), key wY hmY (hQ.put hmY hBY rfl rfl rfl (fun e => by cases e) hQ.dl), mu⟩
    · have hdB := isDir_not (s := l) (by rw [hdir]; simp)
      have hlen9 : l.length = 9 + F.length := by rw [hlF]; simp [pInc]; omega
      refine wif_f (by rw [hdB]; rfl) ?_
      refine call (bg pIf (by decide) w7) ?_
      rintro _ _ ⟨rfl, rfl⟩
      refine wif_f (by rw [hlF]; simp [pIf, pInc, List.isPrefixOf]) ?_
      refine call (bg pInc (by decide) w7) ?_
      rintro _ _ ⟨rfl, rfl⟩
      refine wif_t (by rw [hlF]; exact pre_self _ _) ?_
      have hF8 : ∀ b ∈ F, b < 256 := fun b hb => hl8 b (by rw [hlF]; simp [hb])
      have hd7 := Ext.drew w7
      refine draw_plan gx_ok (Mod (QS p s.m) w7) 7 [(true, 0), (true, 1), (true, 2), (true, 3), (true, 4), (true, 5), (false, 6)] (by kernel_rfl) (Mod.of_ext _ hd7) ?_
      refine need_to (v' := .string (strOf F)) ⟨by decide, by omega, by omega⟩ (by
        rw [strOf_extract, hls2]
        simp only [Int.toNat_natCast]
        rw [List.take_of_length_le (Nat.le_refl _), hlF]
        rfl) ?_
      refine qloadN (vs := s.k.cells) rfl (fun w' hw' j u hj => by rw [(hI.kb.mod hw' nbk).cell]; exact hj) ?_
      refine call (rinclude_fn ih s.m s.v n v.rd F (s.ln + 1) s.k s.o w7.drew hP (h7.ext hd7) (hI.kd.ext hd7) hF8 (by omega) hrd7 hsd64 (by omega) c2 hrlen) ?_
      rintro _ w8 ⟨m8, v8, hT8, h8, hm8, hv8, hu8, hr8, hres8⟩
      have hm78 : Mod (QS p s.m) w7 w8 := (Mod.of_ext (QS p s.m) hd7).trans hm8 (fun i hi => .inl hi)
      refine ⟨hm78, ?_⟩
      have hO7 : Moved w7 s.m.OA m8.OA := hv8.back hd7.size
      have hD7 : Moved w7 s.m.DA m8.DA := hu8.back hd7.size
      let s' : LQ := ⟨s.k, s.o, s.z, m8, { v8 with g := { v8.g with fr := true } }, s.ln + 1, s.at_ + l.length + 1, ls, s.A, s.c⟩
      have key : ∀ wY, Mod (· = p.r) w8 wY → Qr w0 wY base p m8 { v8 with g := { v8.g with fr := true } } → FqI w0 w base p m v n w.heap.size text (qincF p f n v.rd) res s' wY := fun wY hmY hY => by
        have tt' : s'.m.T = fun i => m.T i ∨ rowS s'.A i ∨ i = w.heap.size := by show m8.T = _; rw [hT8, hI.tt]
        have hmW : Mod (WrQ p s.m s.A w.heap.size) w7 wY := (hm78.mono (S' := WrQ p s.m s.A w.heap.size) (fun i hi => .inl (.inl hi))).trans hmY (fun i hi => .inl (.inl (.inl hi)))
        have kp : ∀ {x : DV} {ox : BF}, DgO w7 (TQ p s.m) p.nm.length x ox → DgO wY (TQ p s'.m) p.nm.length x ox := fun hx => hI.kp (s' := s') hmW tt' (Moved.refl _ _) hO7 hD7 hx
        refine hI.go (s' := s') hbkk hmW hY (by show v8.rd = _; rw [hr8]; exact hrd7) tt' hI.nw hO7 hD7 ((hI.kb.mod hm78 nbk).mod hmY npr) (kp hI.kd) ((hI.ow.mod hm78 hoffA).mod hmY nopr) (fun z hz => kp (hI.zx z hz)) (fun z hz => kp (hI.zy z hz)) hls rfl hdl rfl ?_
        have hrs2 := hrs
        rw [rdL_inc hdir] at hrs2
        have hop : v.d + (s.z.reverse.map (·.s)).length = s.v.d := by simp; omega
        rw [hop] at hrs2
        cases hq : qincF p f n v.rd F (s.ln + 1) s.v.d s.o s.v.g with
        | error q =>
          rw [hq] at hres8 hrs2
          simp only at hres8 hrs2
          obtain ⟨q1, q2, q3⟩ := hres8
          exact .inr ⟨by show v8.b.e ≠ 0; rw [q1]; exact q2, by show res = .error v8.b; rw [q1]; exact hrs2.symm, by show v.d ≤ v8.d; omega⟩
        | ok g' =>
          rw [hq] at hres8 hrs2
          simp only at hres8 hrs2
          refine .inl ⟨by show v8.b = _; rw [hres8]; exact hsb, by show v8.d = _; rw [hres8]; exact hsd, by show v8.d ≤ 64; rw [hres8]; exact hsd64, ?_⟩
          show rdL p.nm n v.d (qincF p f n v.rd) ls (s.ln + 1) (s.at_ + l.length + 1) s.o (s.z.reverse.map (·.s)) { v8.g with fr := true } = res
          rw [hres8]; exact hrs2
      refine load_blk h8.blk rfl ?_
      refine wif (fun fr1 => ?_) (fun fr1 => ?_)
      · refine store_mod h8.blk (show 6 < 10 by decide) (fun wY hmY hBY => ?_)
        refine norm_i64_to ((s.at_ + l.length + 1 : Nat) : Int) (by show ((s.at_ + l.length : Nat) : Int) + 1 = _; omega) (by omega) ?_
        exact ⟨s', rfl, key wY hmY (h8.put hmY hBY rfl rfl rfl (fun e => by cases e) h8.dl), mu⟩
      · refine call (rdirective_fn l _ hl8) ?_
        rw [hdB]
        rintro _ _ ⟨rfl, rfl⟩
        refine store_mod h8.blk (show 6 < 10 by decide) (fun wY hmY hBY => ?_)
        refine norm_i64_to ((s.at_ + l.length + 1 : Nat) : Int) (by show ((s.at_ + l.length : Nat) : Int) + 1 = _; omega) (by omega) ?_
        exact ⟨s', rfl, key wY hmY (h8.put hmY hBY rfl rfl rfl (fun e => by cases e) h8.dl), mu⟩
    · have hdB := isDir_not (s := l) (by rw [hdir]; simp)
      refine wif_f (by rw [hdB]; rfl) ?_
      refine call (bg pIf (by decide) w7) ?_
      rintro _ _ ⟨rfl, rfl⟩
      refine wif_f (by rw [hlF]; simp [pIf, pElif, List.isPrefixOf]) ?_
      refine call (bg pInc (by decide) w7) ?_
      rintro _ _ ⟨rfl, rfl⟩
      refine wif_f (by rw [hlF]; simp [pInc, pElif, List.isPrefixOf]) ?_
      by_cases hz : s.z = []
      · have hz0 : s.z.length = 0 := by rw [hz]; rfl
        rw [hz0]
        refine call (rbranch_nil l s.A s.c n ((s.ln + 1 : Nat) : Int) w7 h7) ?_
        rintro _ w8 ⟨rfl, h8, hm78⟩
        have hkb8 := hI.kb.mod hm78 npr
        refine storeN_blk0 hkb8 rfl (sc rfl) (fun w9 hg9 _ hB9 => ?_)
        have hM9 : Mod (· = w.heap.size) w8 w9 := Mod.of_grown hg9 rfl
        have hz9 := hM9.size
        have hz78 := hm78.size
        have hm79 : Mod (WrQ p s.m s.A w.heap.size) w7 w9 := (hm78.mono (S' := WrQ p s.m s.A w.heap.size) (fun i hi => .inl (.inl (.inl hi)))).trans hM9 (fun i hi => .inl (.inr (.inr hi)))
        have h9 := h8.modT (T' := s.m.T) hM9 (fun i hi => by subst hi; exact htB) (fun i hi => by subst hi; exact nbk) (fun i hi => by omega) (fun i hi => .inl hi) (fun i hi => Nat.lt_of_lt_of_le (h8.tt i hi) hz9)
        let s' : LQ := ⟨⟨none, 0, 0, [], 0⟩, fun _ => false, s.z, s.m, { s.v with b := bad1 s.v.b ⟨72, (n : Int), ((s.ln + 1 : Nat) : Int)⟩, g := { s.v.g with fr := true } }, s.ln + 1, s.at_ + l.length + 1, ls, s.A, s.c⟩
        have hb2 : bad1 s.v.b ⟨72, (n : Int), ((s.ln + 1 : Nat) : Int)⟩ = ⟨72, n, ((s.ln + 1 : Nat) : Int)⟩ := if_pos c2
        have key : ∀ wY, Mod (· = p.r) w9 wY → Qr w0 wY base p s.m { s.v with b := bad1 s.v.b ⟨72, (n : Int), ((s.ln + 1 : Nat) : Int)⟩, g := { s.v.g with fr := true } } → FqI w0 w base p m v n w.heap.size text (qincF p f n v.rd) res s' wY := fun wY hmY hY => by
          have hmW : Mod (WrQ p s.m s.A w.heap.size) w7 wY := hm79.trans hmY (fun i hi => .inl (.inl (.inl hi)))
          have kp : ∀ {x : DV} {ox : BF}, DgO w7 (TQ p s.m) p.nm.length x ox → DgO wY (TQ p s'.m) p.nm.length x ox := fun hx => hI.kp (s' := s') hmW hI.tt (Moved.refl _ _) (Moved.refl _ _) (Moved.refl _ _) hx
          have how9 := (hI.ow.mod hm78 nopr).mod hM9 (fun i hi e => by subst e; exact nbA hi)
          refine hI.go (s' := s') hbkk hmW hY hrd7 hI.tt hI.nw (Moved.refl _ _) (Moved.refl _ _) (hB9.mod hmY npr) ⟨SlS.nil wY, const_set _ false, fun ad e => by cases e⟩ (how9.mod hmY nopr) (fun z hz => kp (hI.zx z hz)) (fun z hz => kp (hI.zy z hz)) hls rfl hdl rfl ?_
          have hrs2 := hrs
          rw [rdL_elif hdir, hz] at hrs2
          exact .inr ⟨by show (bad1 s.v.b ⟨72, (n : Int), ((s.ln + 1 : Nat) : Int)⟩).e ≠ 0; rw [hb2]; show (72 : Int) ≠ 0; decide, by show res = .error (bad1 s.v.b ⟨72, (n : Int), ((s.ln + 1 : Nat) : Int)⟩); rw [hb2]; exact hrs2.symm, by show v.d ≤ s.v.d; omega⟩
        refine load_blk h9.blk rfl ?_
        refine wif (fun fr1 => ?_) (fun fr1 => ?_)
        · refine store_mod h9.blk (show 6 < 10 by decide) (fun wY hmY hBY => ?_)
          refine norm_i64_to ((s.at_ + l.length + 1 : Nat) : Int) (by show ((s.at_ + l.length : Nat) : Int) + 1 = _; omega) (by omega) ?_
          exact ⟨s', (by show Has _ _; simp only [s', hz0]; rfl), key wY hmY (h9.put hmY hBY rfl rfl rfl (fun e => by cases e) h9.dl), mu⟩
        · refine call (rdirective_fn l _ hl8) ?_
          rw [hdB]
          rintro _ _ ⟨rfl, rfl⟩
          refine store_mod h9.blk (show 6 < 10 by decide) (fun wY hmY hBY => ?_)
          refine norm_i64_to ((s.at_ + l.length + 1 : Nat) : Int) (by show ((s.at_ + l.length : Nat) : Int) + 1 = _; omega) (by omega) ?_
          exact ⟨s', (by show Has _ _; simp only [s', hz0]; rfl), key wY hmY (h9.put hmY hBY rfl rfl rfl (fun e => by cases e) h9.dl), mu⟩
      obtain ⟨z', x, hzz⟩ : ∃ z' x, s.z = z' ++ [x] := by
        rcases List.eq_nil_or_concat s.z with h0 | ⟨z', x, h0⟩
        · exact absurd h0 hz
        · exact ⟨z', x, by rw [h0]; simp⟩
      have hzl : s.z.length = z'.length + 1 := by rw [hzz]; simp
      have hrev : s.z.reverse.map (·.s) = x.s :: z'.reverse.map (·.s) := by rw [hzz]; simp
      have hxz : x ∈ s.z := by rw [hzz]; simp
      have ho7 : Own w7 base sqT 6 s.A (z'.length + 1) s.c (seV z' ++ x.cells) := by
        have := hI.ow
        rw [hzl, hzz, seV_snoc] at this
        exact this
      rw [hzl]
      cases hot : x.s.ot with
      | true =>
        refine call (rbranch_dup l z' x s.A s.c n ((s.ln + 1 : Nat) : Int) w7 hl8 (by rw [hlF]; simp [pElif, lEnd]) hot h7 ho7 (by omega)) ?_
        rintro _ w8 ⟨rfl, h8, hm78⟩
        have hkb8 := hI.kb.mod hm78 npr
        refine storeN_blk0 hkb8 rfl (sc rfl) (fun w9 hg9 _ hB9 => ?_)
        have hM9 : Mod (· = w.heap.size) w8 w9 := Mod.of_grown hg9 rfl
        have hz9 := hM9.size
        have hz78 := hm78.size
        have hm79 : Mod (WrQ p s.m s.A w.heap.size) w7 w9 := (hm78.mono (S' := WrQ p s.m s.A w.heap.size) (fun i hi => .inl (.inl (.inl hi)))).trans hM9 (fun i hi => .inl (.inr (.inr hi)))
        have h9 := h8.modT (T' := s.m.T) hM9 (fun i hi => by subst hi; exact htB) (fun i hi => by subst hi; exact nbk) (fun i hi => by omega) (fun i hi => .inl hi) (fun i hi => Nat.lt_of_lt_of_le (h8.tt i hi) hz9)
        let s' : LQ := ⟨⟨none, 0, 0, [], 0⟩, fun _ => false, s.z, s.m, { s.v with b := bad1 s.v.b ⟨71, (n : Int), ((s.ln + 1 : Nat) : Int)⟩, g := { s.v.g with fr := true } }, s.ln + 1, s.at_ + l.length + 1, ls, s.A, s.c⟩
        have hb2 : bad1 s.v.b ⟨71, (n : Int), ((s.ln + 1 : Nat) : Int)⟩ = ⟨71, n, ((s.ln + 1 : Nat) : Int)⟩ := if_pos c2
        have key : ∀ wY, Mod (· = p.r) w9 wY → Qr w0 wY base p s.m { s.v with b := bad1 s.v.b ⟨71, (n : Int), ((s.ln + 1 : Nat) : Int)⟩, g := { s.v.g with fr := true } } → FqI w0 w base p m v n w.heap.size text (qincF p f n v.rd) res s' wY := fun wY hmY hY => by
          have hmW : Mod (WrQ p s.m s.A w.heap.size) w7 wY := hm79.trans hmY (fun i hi => .inl (.inl (.inl hi)))
          have kp : ∀ {x : DV} {ox : BF}, DgO w7 (TQ p s.m) p.nm.length x ox → DgO wY (TQ p s'.m) p.nm.length x ox := fun hx => hI.kp (s' := s') hmW hI.tt (Moved.refl _ _) (Moved.refl _ _) (Moved.refl _ _) hx
          have how9 := (hI.ow.mod hm78 nopr).mod hM9 (fun i hi e => by subst e; exact nbA hi)
          refine hI.go (s' := s') hbkk hmW hY hrd7 hI.tt hI.nw (Moved.refl _ _) (Moved.refl _ _) (hB9.mod hmY npr) ⟨SlS.nil wY, const_set _ false, fun ad e => by cases e⟩ (how9.mod hmY nopr) (fun z hz => kp (hI.zx z hz)) (fun z hz => kp (hI.zy z hz)) hls rfl hdl rfl ?_
          have hrs2 := hrs
          rw [rdL_elif hdir, hrev] at hrs2
          simp only [hot, if_true] at hrs2
          exact .inr ⟨by show (bad1 s.v.b ⟨71, (n : Int), ((s.ln + 1 : Nat) : Int)⟩).e ≠ 0; rw [hb2]; show (71 : Int) ≠ 0; decide, by show res = .error (bad1 s.v.b ⟨71, (n : Int), ((s.ln + 1 : Nat) : Int)⟩); rw [hb2]; exact hrs2.symm, by show v.d ≤ s.v.d; omega⟩
        refine load_blk h9.blk rfl ?_
        refine wif (fun fr1 => ?_) (fun fr1 => ?_)
        · refine store_mod h9.blk (show 6 < 10 by decide) (fun wY hmY hBY => ?_)
          refine norm_i64_to ((s.at_ + l.length + 1 : Nat) : Int) (by show ((s.at_ + l.length : Nat) : Int) + 1 = _; omega) (by omega) ?_
          exact ⟨s', (by show Has _ _; simp only [s', hzl]; rfl), key wY hmY (h9.put hmY hBY rfl rfl rfl (fun e => by cases e) h9.dl), mu⟩
        · refine call (rdirective_fn l _ hl8) ?_
          rw [hdB]
          rintro _ _ ⟨rfl, rfl⟩
          refine store_mod h9.blk (show 6 < 10 by decide) (fun wY hmY hBY => ?_)
          refine norm_i64_to ((s.at_ + l.length + 1 : Nat) : Int) (by show ((s.at_ + l.length : Nat) : Int) + 1 = _; omega) (by omega) ?_
          exact ⟨s', (by show Has _ _; simp only [s', hzl]; rfl), key wY hmY (h9.put hmY hBY rfl rfl rfl (fun e => by cases e) h9.dl), mu⟩
      | false =>
        have hF8 : ∀ b ∈ F, b < 256 := fun b hb => hl8 b (by rw [hlF]; simp [hb])
        have hFl : F.length ≤ l.length := by rw [hlF]; simp
        rw [hlF]
        refine call (rbranch_elif F z' x s.A s.c n ((s.ln + 1 : Nat) : Int) w7 hP hF8 (by omega) hot h7 ho7 (by omega) (hI.zy x hxz) nopr) ?_
        rintro _ w8 ⟨A', c', d, b, r, hap, rfl, hok, hb8, hbs, hbf, hr8, hrs', hrf, hBr⟩
        rw [← hlF]
        have h8 := hBr.rr
        have hm78 := hBr.md

        have hkb8 := hI.kb.mod hm78 npr
        refine storeN_blk0 hkb8 rfl (sc rfl) (fun w9 hg9 _ hB9 => ?_)
        have hM9 : Mod (· = w.heap.size) w8 w9 := Mod.of_grown hg9 rfl
        have hz9 := hM9.size
        have hz78 := hm78.size
        have hm79 : Mod (WrQ p s.m s.A w.heap.size) w7 w9 := (hm78.mono (S' := WrQ p s.m s.A w.heap.size) (fun i hi => .inl (.inl (.inl hi)))).trans hM9 (fun i hi => .inl (.inr (.inr hi)))
        have h9 := h8.modT (T' := s.m.T) hM9 (fun i hi => by subst hi; exact htB) (fun i hi => by subst hi; exact nbk) (fun i hi => by omega) (fun i hi => .inl hi) (fun i hi => Nat.lt_of_lt_of_le (h8.tt i hi) hz9)

        let T2 : Nat → Prop := fun i => m.T i ∨ rowS A' i ∨ i = w.heap.size
        have hmv7 : Moved w7 s.A A' := fun ad e => .inr (hBr.nw ad.block ⟨ad, e, rfl⟩)
        have hT2 : ∀ i, T2 i → s.m.T i ∨ w7.heap.size ≤ i := fun i hi => by
          rcases hi with hi | hi | hi
          · exact .inl (htm i hi)
          · exact .inr (hBr.nw i hi)
          · exact .inl (by rw [hi]; exact htB)
        have hlt2 : ∀ i, T2 i → i < w9.heap.size := fun i hi => by
          rcases hi with hi | hi | hi
          · have := htt i hi; omega
          · have := (hBr.ow.rows i hi).2; omega
          · have := hI.kb.lt; omega
        have hQ := h7.reT h9 rfl hT2 hlt2
        have how9 := hBr.ow.mod hM9 (fun i hi e => by subst e; exact hkb8.apart hBr.ow (by decide) hi)
        have nopr' : ∀ i, rowS A' i → ¬ i = p.r := fun i hi e => by have := (hBr.ow.rows i hi).1; omega

        let zn : SeV := ⟨{ x.s with re := bSub x.s.re d }, x.x, r⟩
        have hzn : (z' ++ [zn]).length = z'.length + 1 := by simp
        let s' : LQ := ⟨b, bAnd x.s.re d, z' ++ [zn], { s.m with T := T2 }, { s.v with b := badR s.v.b (n : Int) ((s.ln + 1 : Nat) : Int) (setE p.nm F), g := { s.v.g with fr := true } }, s.ln + 1, s.at_ + l.length + 1, ls, A', c'⟩
        have key : ∀ wY, Mod (· = p.r) w9 wY → Qr w0 wY base p { s.m with T := T2 } { s.v with b := badR s.v.b (n : Int) ((s.ln + 1 : Nat) : Int) (setE p.nm F), g := { s.v.g with fr := true } } → FqI w0 w base p m v n w.heap.size text (qincF p f n v.rd) res s' wY := fun wY hmY hY => by
          have hmW : Mod (WrQ p s.m s.A w.heap.size) w7 wY := hm79.trans hmY (fun i hi => .inl (.inl (.inl hi)))
          have kp : ∀ {x : DV} {ox : BF}, DgO w7 (TQ p s.m) p.nm.length x ox → DgO wY (TQ p s'.m) p.nm.length x ox := fun hx => hI.kp (s' := s') hmW rfl hmv7 (Moved.refl _ _) (Moved.refl _ _) hx
          have hq7 : ∀ i, QS p s'.m i → i < w7.heap.size := fun i hi => h7.hi i hi
          have hbY : SB wY b.A b.n b.c b.nd := SB.modo (SB.modo hb8 hM9 (fun ad e h0 hh => by have := hbf ad e h0; have := hI.kb.lt; omega)) hmY (fun ad e h0 hh => by have := hbf ad e h0; have := h7.top; omega)
          have hrY : SB wY r.A r.n r.c r.nd := SB.modo (SB.modo hr8 hM9 (fun ad e h0 hh => by have := hrf ad e h0; have := hI.kb.lt; omega)) hmY (fun ad e h0 hh => by have := hrf ad e h0; have := h7.top; omega)
          have kb' : DgO wY (TQ p s'.m) p.nm.length b (bAnd x.s.re d) := hI.new (s' := s') (x := b) (w1 := w7) (Nat.le_refl _) rfl (fun i hi => .inr (fun ad e h0 hh => by have := (hap i hi).1 ad e h0; omega)) hbY hbs hbf hq7
          have kr' : DgO wY (TQ p s'.m) p.nm.length r (bSub x.s.re d) := hI.new (s' := s') (x := r) (w1 := w7) (Nat.le_refl _) rfl (fun i hi => .inr (fun ad e h0 hh => by have := (hap i hi).2 ad e h0; omega)) hrY hrs' hrf hq7
          refine hI.go (s' := s') hbkk hmW hY hrd7 rfl (fun i hi => by have := hBr.nw i hi; omega) (Moved.refl _ _) (Moved.refl _ _) (hB9.mod hmY npr) kb' (how9.mod hmY nopr') ?_ ?_ hls rfl (by show (z' ++ [zn]).length ≤ 65; rw [hzn]; omega) rfl ?_
          · intro z hz
            simp only [s', List.mem_append, List.mem_singleton] at hz
            rcases hz with hz | rfl
            · exact kp (hI.zx z (by rw [hzz]; simp [hz]))
            · exact kp (hI.zx x hxz)
          · intro z hz
            simp only [s', List.mem_append, List.mem_singleton] at hz
            rcases hz with hz | rfl
            · exact kp (hI.zy z (by rw [hzz]; simp [hz]))
            · exact kr'
          · have hrs2 := hrs
            rw [rdL_elif hdir, hrev] at hrs2
            simp only [hot] at hrs2
            cases hse : setE p.nm F with
            | error e =>
              rw [hse] at hrs2
              have he := setE_err hse
              have e1 : badR s.v.b (n : Int) ((s.ln + 1 : Nat) : Int) (Except.error e : Except Int BF) = ⟨e, n, ((s.ln + 1 : Nat) : Int)⟩ := if_pos c2
              refine .inr ⟨?_, ?_, by show v.d ≤ s.v.d; omega⟩
              · show (badR s.v.b (n : Int) ((s.ln + 1 : Nat) : Int) (setE p.nm F)).e ≠ 0
                rw [hse, e1]; exact he
              · show res = .error (badR s.v.b (n : Int) ((s.ln + 1 : Nat) : Int) (setE p.nm F))
                rw [hse, e1]; exact hrs2.symm
            | ok o' =>
              rw [hse] at hrs2
              have hdo := hok o' hse
              subst hdo
              refine .inl ⟨by show badR s.v.b (n : Int) ((s.ln + 1 : Nat) : Int) (setE p.nm F) = v.b; rw [hse]; exact hsb, by show s.v.d = v.d + (z' ++ [zn]).length; rw [hzn]; omega, hsd64, ?_⟩
              rw [← hrs2]
              simp [s', zn, hot]
        refine load_blk hQ.blk rfl ?_
        refine wif (fun fr1 => ?_) (fun fr1 => ?_)
        · refine store_mod hQ.blk (show 6 < 10 by decide) (fun wY hmY hBY => ?_)
          refine norm_i64_to ((s.at_ + l.length + 1 : Nat) : Int) (by show ((s.at_ + l.length : Nat) : Int) + 1 = _; omega) (by omega) ?_
          exact ⟨s', (by show Has _ _; simp only [s', hzn]; rfl), key wY hmY (hQ.put hmY hBY rfl rfl rfl (fun e => by cases e) hQ.dl), mu⟩
        · refine call (rdirective_fn l _ hl8) ?_
          rw [hdB]
          rintro _ _ ⟨rfl, rfl⟩
          refine store_mod hQ.blk (show 6 < 10 by decide) (fun wY hmY hBY => ?_)
          refine norm_i64_to ((s.at_ + l.length + 1 : Nat) : Int) (by show ((s.at_ + l.length : Nat) : Int) + 1 = _; omega) (by omega) ?_
          exact ⟨s', (by show Has _ _; simp only [s', hzn]; rfl), key wY hmY (hQ.put hmY hBY rfl rfl rfl (fun e => by cases e) hQ.dl), mu⟩
    · have hdB := isDir_not (s := l) (by rw [hdir]; simp)
      refine wif_f (by rw [hdB]; rfl) ?_
      refine call (bg pIf (by decide) w7) ?_
      rintro _ _ ⟨rfl, rfl⟩
      refine wif_f (by rw [hlF]; rfl) ?_
      refine call (bg pInc (by decide) w7) ?_
      rintro _ _ ⟨rfl, rfl⟩
      refine wif_f (by rw [hlF]; rfl) ?_
      by_cases hz : s.z = []
      · have hz0 : s.z.length = 0 := by rw [hz]; rfl
        rw [hz0]
        refine call (rbranch_nil l s.A s.c n ((s.ln + 1 : Nat) : Int) w7 h7) ?_
        rintro _ w8 ⟨rfl, h8, hm78⟩
        have hkb8 := hI.kb.mod hm78 npr
        refine storeN_blk0 hkb8 rfl (sc rfl) (fun w9 hg9 _ hB9 => ?_)
        have hM9 : Mod (· = w.heap.size) w8 w9 := Mod.of_grown hg9 rfl
        have hz9 := hM9.size
        have hz78 := hm78.size
        have hm79 : Mod (WrQ p s.m s.A w.heap.size) w7 w9 := (hm78.mono (S' := WrQ p s.m s.A w.heap.size) (fun i hi => .inl (.inl (.inl hi)))).trans hM9 (fun i hi => .inl (.inr (.inr hi)))
        have h9 := h8.modT (T' := s.m.T) hM9 (fun i hi => by subst hi; exact htB) (fun i hi => by subst hi; exact nbk) (fun i hi => by omega) (fun i hi => .inl hi) (fun i hi => Nat.lt_of_lt_of_le (h8.tt i hi) hz9)
        let s' : LQ := ⟨⟨none, 0, 0, [], 0⟩, fun _ => false, s.z, s.m, { s.v with b := bad1 s.v.b ⟨72, (n : Int), ((s.ln + 1 : Nat) : Int)⟩, g := { s.v.g with fr := true } }, s.ln + 1, s.at_ + l.length + 1, ls, s.A, s.c⟩
        have hb2 : bad1 s.v.b ⟨72, (n : Int), ((s.ln + 1 : Nat) : Int)⟩ = ⟨72, n, ((s.ln + 1 : Nat) : Int)⟩ := if_pos c2
        have key : ∀ wY, Mod (· = p.r) w9 wY → Qr w0 wY base p s.m { s.v with b := bad1 s.v.b ⟨72, (n : Int), ((s.ln + 1 : Nat) : Int)⟩, g := { s.v.g with fr := true } } → FqI w0 w base p m v n w.heap.size text (qincF p f n v.rd) res s' wY := fun wY hmY hY => by
          have hmW : Mod (WrQ p s.m s.A w.heap.size) w7 wY := hm79.trans hmY (fun i hi => .inl (.inl (.inl hi)))
          have kp : ∀ {x : DV} {ox : BF}, DgO w7 (TQ p s.m) p.nm.length x ox → DgO wY (TQ p s'.m) p.nm.length x ox := fun hx => hI.kp (s' := s') hmW hI.tt (Moved.refl _ _) (Moved.refl _ _) (Moved.refl _ _) hx
          have how9 := (hI.ow.mod hm78 nopr).mod hM9 (fun i hi e => by subst e; exact nbA hi)
          refine hI.go (s' := s') hbkk hmW hY hrd7 hI.tt hI.nw (Moved.refl _ _) (Moved.refl _ _) (hB9.mod hmY npr) ⟨SlS.nil wY, const_set _ false, fun ad e => by cases e⟩ (how9.mod hmY nopr) (fun z hz => kp (hI.zx z hz)) (fun z hz => kp (hI.zy z hz)) hls rfl hdl rfl ?_
          have hrs2 := hrs
          rw [rdL_els hdir, hz] at hrs2
          exact .inr ⟨by show (bad1 s.v.b ⟨72, (n : Int), ((s.ln + 1 : Nat) : Int)⟩).e ≠ 0; rw [hb2]; show (72 : Int) ≠ 0; decide, by show res = .error (bad1 s.v.b ⟨72, (n : Int), ((s.ln + 1 : Nat) : Int)⟩); rw [hb2]; exact hrs2.symm, by show v.d ≤ s.v.d; omega⟩
        refine load_blk h9.blk rfl ?_
        refine wif (fun fr1 => ?_) (fun fr1 => ?_)
        · refine store_mod h9.blk (show 6 < 10 by decide) (fun wY hmY hBY => ?_)
          refine norm_i64_to ((s.at_ + l.length + 1 : Nat) : Int) (by show ((s.at_ + l.length : Nat) : Int) + 1 = _; omega) (by omega) ?_
          exact ⟨s', (by show Has _ _; simp only [s', hz0]; rfl), key wY hmY (h9.put hmY hBY rfl rfl rfl (fun e => by cases e) h9.dl), mu⟩
        · refine call (rdirective_fn l _ hl8) ?_
          rw [hdB]
          rintro _ _ ⟨rfl, rfl⟩
          refine store_mod h9.blk (show 6 < 10 by decide) (fun wY hmY hBY => ?_)
          refine norm_i64_to ((s.at_ + l.length + 1 : Nat) : Int) (by show ((s.at_ + l.length : Nat) : Int) + 1 = _; omega) (by omega) ?_
          exact ⟨s', (by show Has _ _; simp only [s', hz0]; rfl), key wY hmY (h9.put hmY hBY rfl rfl rfl (fun e => by cases e) h9.dl), mu⟩
      obtain ⟨z', x, hzz⟩ : ∃ z' x, s.z = z' ++ [x] := by
        rcases List.eq_nil_or_concat s.z with h0 | ⟨z', x, h0⟩
        · exact absurd h0 hz
        · exact ⟨z', x, by rw [h0]; simp⟩
      have hzl : s.z.length = z'.length + 1 := by rw [hzz]; simp
      have hrev : s.z.reverse.map (·.s) = x.s :: z'.reverse.map (·.s) := by rw [hzz]; simp
      have hxz : x ∈ s.z := by rw [hzz]; simp
      have ho7 : Own w7 base sqT 6 s.A (z'.length + 1) s.c (seV z' ++ x.cells) := by
        have := hI.ow
        rw [hzl, hzz, seV_snoc] at this
        exact this
      rw [hzl]
      cases hot : x.s.ot with
      | true =>
        refine call (rbranch_dup l z' x s.A s.c n ((s.ln + 1 : Nat) : Int) w7 hl8 (by rw [hlF]; decide) hot h7 ho7 (by omega)) ?_
        rintro _ w8 ⟨rfl, h8, hm78⟩
        have hkb8 := hI.kb.mod hm78 npr
        refine storeN_blk0 hkb8 rfl (sc rfl) (fun w9 hg9 _ hB9 => ?_)
        have hM9 : Mod (· = w.heap.size) w8 w9 := Mod.of_grown hg9 rfl
        have hz9 := hM9.size
        have hz78 := hm78.size
        have hm79 : Mod (WrQ p s.m s.A w.heap.size) w7 w9 := (hm78.mono (S' := WrQ p s.m s.A w.heap.size) (fun i hi => .inl (.inl (.inl hi)))).trans hM9 (fun i hi => .inl (.inr (.inr hi)))
        have h9 := h8.modT (T' := s.m.T) hM9 (fun i hi => by subst hi; exact htB) (fun i hi => by subst hi; exact nbk) (fun i hi => by omega) (fun i hi => .inl hi) (fun i hi => Nat.lt_of_lt_of_le (h8.tt i hi) hz9)
        let s' : LQ := ⟨⟨none, 0, 0, [], 0⟩, fun _ => false, s.z, s.m, { s.v with b := bad1 s.v.b ⟨71, (n : Int), ((s.ln + 1 : Nat) : Int)⟩, g := { s.v.g with fr := true } }, s.ln + 1, s.at_ + l.length + 1, ls, s.A, s.c⟩
        have hb2 : bad1 s.v.b ⟨71, (n : Int), ((s.ln + 1 : Nat) : Int)⟩ = ⟨71, n, ((s.ln + 1 : Nat) : Int)⟩ := if_pos c2
        have key : ∀ wY, Mod (· = p.r) w9 wY → Qr w0 wY base p s.m { s.v with b := bad1 s.v.b ⟨71, (n : Int), ((s.ln + 1 : Nat) : Int)⟩, g := { s.v.g with fr := true } } → FqI w0 w base p m v n w.heap.size text (qincF p f n v.rd) res s' wY := fun wY hmY hY => by
          have hmW : Mod (WrQ p s.m s.A w.heap.size) w7 wY := hm79.trans hmY (fun i hi => .inl (.inl (.inl hi)))
          have kp : ∀ {x : DV} {ox : BF}, DgO w7 (TQ p s.m) p.nm.length x ox → DgO wY (TQ p s'.m) p.nm.length x ox := fun hx => hI.kp (s' := s') hmW hI.tt (Moved.refl _ _) (Moved.refl _ _) (Moved.refl _ _) hx
          have how9 := (hI.ow.mod hm78 nopr).mod hM9 (fun i hi e => by subst e; exact nbA hi)
          refine hI.go (s' := s') hbkk hmW hY hrd7 hI.tt hI.nw (Moved.refl _ _) (Moved.refl _ _) (hB9.mod hmY npr) ⟨SlS.nil wY, const_set _ false, fun ad e => by cases e⟩ (how9.mod hmY nopr) (fun z hz => kp (hI.zx z hz)) (fun z hz => kp (hI.zy z hz)) hls rfl hdl rfl ?_
          have hrs2 := hrs
          rw [rdL_els hdir, hrev] at hrs2
          simp only [hot, if_true] at hrs2
          exact .inr ⟨by show (bad1 s.v.b ⟨71, (n : Int), ((s.ln + 1 : Nat) : Int)⟩).e ≠ 0; rw [hb2]; show (71 : Int) ≠ 0; decide, by show res = .error (bad1 s.v.b ⟨71, (n : Int), ((s.ln + 1 : Nat) : Int)⟩); rw [hb2]; exact hrs2.symm, by show v.d ≤ s.v.d; omega⟩
        refine load_blk h9.blk rfl ?_
        refine wif (fun fr1 => ?_) (fun fr1 => ?_)
        · refine store_mod h9.blk (show 6 < 10 by decide) (fun wY hmY hBY => ?_)
          refine norm_i64_to ((s.at_ + l.length + 1 : Nat) : Int) (by show ((s.at_ + l.length : Nat) : Int) + 1 = _; omega) (by omega) ?_
          exact ⟨s', (by show Has _ _; simp only [s', hzl]; rfl), key wY hmY (h9.put hmY hBY rfl rfl rfl (fun e => by cases e) h9.dl), mu⟩
        · refine call (rdirective_fn l _ hl8) ?_
          rw [hdB]
          rintro _ _ ⟨rfl, rfl⟩
          refine store_mod h9.blk (show 6 < 10 by decide) (fun wY hmY hBY => ?_)
          refine norm_i64_to ((s.at_ + l.length + 1 : Nat) : Int) (by show ((s.at_ + l.length : Nat) : Int) + 1 = _; omega) (by omega) ?_
          exact ⟨s', (by show Has _ _; simp only [s', hzl]; rfl), key wY hmY (h9.put hmY hBY rfl rfl rfl (fun e => by cases e) h9.dl), mu⟩
      | false =>
        rw [hlF]
        refine call (rbranch_else z' x s.A s.c n ((s.ln + 1 : Nat) : Int) w7 hot h7 ho7 (by omega)) ?_
        rintro _ w8 ⟨A', c', rfl, hBr⟩
        rw [← hlF]
        have h8 := hBr.rr
        have hm78 := hBr.md

        have hkb8 := hI.kb.mod hm78 npr
        refine storeN_blk0 hkb8 rfl (sc rfl) (fun w9 hg9 _ hB9 => ?_)
        have hM9 : Mod (· = w.heap.size) w8 w9 := Mod.of_grown hg9 rfl
        have hz9 := hM9.size
        have hz78 := hm78.size
        have hm79 : Mod (WrQ p s.m s.A w.heap.size) w7 w9 := (hm78.mono (S' := WrQ p s.m s.A w.heap.size) (fun i hi => .inl (.inl (.inl hi)))).trans hM9 (fun i hi => .inl (.inr (.inr hi)))
        have h9 := h8.modT (T' := s.m.T) hM9 (fun i hi => by subst hi; exact htB) (fun i hi => by subst hi; exact nbk) (fun i hi => by omega) (fun i hi => .inl hi) (fun i hi => Nat.lt_of_lt_of_le (h8.tt i hi) hz9)

        let T2 : Nat → Prop := fun i => m.T i ∨ rowS A' i ∨ i = w.heap.size
        have hmv7 : Moved w7 s.A A' := fun ad e => .inr (hBr.nw ad.block ⟨ad, e, rfl⟩)
        have hT2 : ∀ i, T2 i → s.m.T i ∨ w7.heap.size ≤ i := fun i hi => by
          rcases hi with hi | hi | hi
          · exact .inl (htm i hi)
          · exact .inr (hBr.nw i hi)
          · exact .inl (by rw [hi]; exact htB)
        have hlt2 : ∀ i, T2 i → i < w9.heap.size := fun i hi => by
          rcases hi with hi | hi | hi
          · have := htt i hi; omega
          · have := (hBr.ow.rows i hi).2; omega
          · have := hI.kb.lt; omega
        have hQ := h7.reT h9 rfl hT2 hlt2
        have how9 := hBr.ow.mod hM9 (fun i hi e => by subst e; exact hkb8.apart hBr.ow (by decide) hi)
        have nopr' : ∀ i, rowS A' i → ¬ i = p.r := fun i hi e => by have := (hBr.ow.rows i hi).1; omega

        let zn : SeV := ⟨{ x.s with ot := true }, x.x, x.y⟩
        have hzn : (z' ++ [zn]).length = z'.length + 1 := by simp
        let s' : LQ := ⟨x.y, x.s.re, z' ++ [zn], { s.m with T := T2 }, { s.v with g := { s.v.g with fr := true } }, s.ln + 1, s.at_ + l.length + 1, ls, A', c'⟩
        have key : ∀ wY, Mod (· = p.r) w9 wY → Qr w0 wY base p { s.m with T := T2 } { s.v with g := { s.v.g with fr := true } } → FqI w0 w base p m v n w.heap.size text (qincF p f n v.rd) res s' wY := fun wY hmY hY => by
          have hmW : Mod (WrQ p s.m s.A w.heap.size) w7 wY := hm79.trans hmY (fun i hi => .inl (.inl (.inl hi)))
          have kp : ∀ {x : DV} {ox : BF}, DgO w7 (TQ p s.m) p.nm.length x ox → DgO wY (TQ p s'.m) p.nm.length x ox := fun hx => hI.kp (s' := s') hmW rfl hmv7 (Moved.refl _ _) (Moved.refl _ _) hx
          refine hI.go (s' := s') hbkk hmW hY hrd7 rfl (fun i hi => by have := hBr.nw i hi; omega) (Moved.refl _ _) (Moved.refl _ _) (hB9.mod hmY npr) (kp (hI.zy x hxz)) (how9.mod hmY nopr') ?_ ?_ hls rfl (by show (z' ++ [zn]).length ≤ 65; rw [hzn]; omega) rfl ?_
          · intro z hz
            simp only [s', List.mem_append, List.mem_singleton] at hz
            rcases hz with hz | rfl
            · exact kp (hI.zx z (by rw [hzz]; simp [hz]))
            · exact kp (hI.zx x hxz)
          · intro z hz
            simp only [s', List.mem_append, List.mem_singleton] at hz
            rcases hz with hz | rfl
            · exact kp (hI.zy z (by rw [hzz]; simp [hz]))
            · exact kp (hI.zy x hxz)
          · have hrs2 := hrs
            rw [rdL_els hdir, hrev] at hrs2
            simp only [hot] at hrs2
            refine .inl ⟨hsb, by show s.v.d = v.d + (z' ++ [zn]).length; rw [hzn]; omega, hsd64, ?_⟩
            rw [← hrs2]
            simp [s', zn]
        refine load_blk hQ.blk rfl ?_
        refine wif (fun fr1 => ?_) (fun fr1 => ?_)
        · refine store_mod hQ.blk (show 6 < 10 by decide) (fun wY hmY hBY => ?_)
          refine norm_i64_to ((s.at_ + l.length + 1 : Nat) : Int) (by show ((s.at_ + l.length : Nat) : Int) + 1 = _; omega) (by omega) ?_
          exact ⟨s', (by show Has _ _; simp only [s', hzn]; rfl), key wY hmY (hQ.put hmY hBY rfl rfl rfl (fun e => by cases e) hQ.dl), mu⟩
        · refine call (rdirective_fn l _ hl8) ?_
          rw [hdB]
          rintro _ _ ⟨rfl, rfl⟩
          refine store_mod hQ.blk (show 6 < 10 by decide) (fun wY hmY hBY => ?_)
          refine norm_i64_to ((s.at_ + l.length + 1 : Nat) : Int) (by show ((s.at_ + l.length : Nat) : Int) + 1 = _; omega) (by omega) ?_
          exact ⟨s', (by show Has _ _; simp only [s', hzn]; rfl), key wY hmY (hQ.put hmY hBY rfl rfl rfl (fun e => by cases e) hQ.dl), mu⟩
    · have hdB := isDir_not (s := l) (by rw [hdir]; simp)
      refine wif_f (by rw [hdB]; rfl) ?_
      refine call (bg pIf (by decide) w7) ?_
      rintro _ _ ⟨rfl, rfl⟩
      refine wif_f (by rw [hlF]; rfl) ?_
      refine call (bg pInc (by decide) w7) ?_
      rintro _ _ ⟨rfl, rfl⟩
      refine wif_f (by rw [hlF]; rfl) ?_
      by_cases hz : s.z = []
      · have hz0 : s.z.length = 0 := by rw [hz]; rfl
        rw [hz0]
        refine call (rbranch_nil l s.A s.c n ((s.ln + 1 : Nat) : Int) w7 h7) ?_
        rintro _ w8 ⟨rfl, h8, hm78⟩
        have hkb8 := hI.kb.mod hm78 npr
        refine storeN_blk0 hkb8 rfl (sc rfl) (fun w9 hg9 _ hB9 => ?_)
        have hM9 : Mod (· = w.heap.size) w8 w9 := Mod.of_grown hg9 rfl
        have hz9 := hM9.size
        have hz78 := hm78.size
        have hm79 : Mod (WrQ p s.m s.A w.heap.size) w7 w9 := (hm78.mono (S' := WrQ p s.m s.A w.heap.size) (fun i hi => .inl (.inl (.inl hi)))).trans hM9 (fun i hi => .inl (.inr (.inr hi)))
        have h9 := h8.modT (T' := s.m.T) hM9 (fun i hi => by subst hi; exact htB) (fun i hi => by subst hi; exact nbk) (fun i hi => by omega) (fun i hi => .inl hi) (fun i hi => Nat.lt_of_lt_of_le (h8.tt i hi) hz9)
        let s' : LQ := ⟨⟨none, 0, 0, [], 0⟩, fun _ => false, s.z, s.m, { s.v with b := bad1 s.v.b ⟨72, (n : Int), ((s.ln + 1 : Nat) : Int)⟩, g := { s.v.g with fr := true } }, s.ln + 1, s.at_ + l.length + 1, ls, s.A, s.c⟩
        have hb2 : bad1 s.v.b ⟨72, (n : Int), ((s.ln + 1 : Nat) : Int)⟩ = ⟨72, n, ((s.ln + 1 : Nat) : Int)⟩ := if_pos c2
        have key : ∀ wY, Mod (· = p.r) w9 wY → Qr w0 wY base p s.m { s.v with b := bad1 s.v.b ⟨72, (n : Int), ((s.ln + 1 : Nat) : Int)⟩, g := { s.v.g with fr := true } } → FqI w0 w base p m v n w.heap.size text (qincF p f n v.rd) res s' wY := fun wY hmY hY => by
          have hmW : Mod (WrQ p s.m s.A w.heap.size) w7 wY := hm79.trans hmY (fun i hi => .inl (.inl (.inl hi)))
          have kp : ∀ {x : DV} {ox : BF}, DgO w7 (TQ p s.m) p.nm.length x ox → DgO wY (TQ p s'.m) p.nm.length x ox := fun hx => hI.kp (s' := s') hmW hI.tt (Moved.refl _ _) (Moved.refl _ _) (Moved.refl _ _) hx
          have how9 := (hI.ow.mod hm78 nopr).mod hM9 (fun i hi e => by subst e; exact nbA hi)
          refine hI.go (s' := s') hbkk hmW hY hrd7 hI.tt hI.nw (Moved.refl _ _) (Moved.refl _ _) (hB9.mod hmY npr) ⟨SlS.nil wY, const_set _ false, fun ad e => by cases e⟩ (how9.mod hmY nopr) (fun z hz => kp (hI.zx z hz)) (fun z hz => kp (hI.zy z hz)) hls rfl hdl rfl ?_
          have hrs2 := hrs
          rw [rdL_en hdir, hz] at hrs2
          exact .inr ⟨by show (bad1 s.v.b ⟨72, (n : Int), ((s.ln + 1 : Nat) : Int)⟩).e ≠ 0; rw [hb2]; show (72 : Int) ≠ 0; decide, by show res = .error (bad1 s.v.b ⟨72, (n : Int), ((s.ln + 1 : Nat) : Int)⟩); rw [hb2]; exact hrs2.symm, by show v.d ≤ s.v.d; omega⟩
        refine load_blk h9.blk rfl ?_
        refine wif (fun fr1 => ?_) (fun fr1 => ?_)
        · refine store_mod h9.blk (show 6 < 10 by decide) (fun wY hmY hBY => ?_)
          refine norm_i64_to ((s.at_ + l.length + 1 : Nat) : Int) (by show ((s.at_ + l.length : Nat) : Int) + 1 = _; omega) (by omega) ?_
          exact ⟨s', (by show Has _ _; simp only [s', hz0]; rfl), key wY hmY (h9.put hmY hBY rfl rfl rfl (fun e => by cases e) h9.dl), mu⟩
        · refine call (rdirective_fn l _ hl8) ?_
          rw [hdB]
          rintro _ _ ⟨rfl, rfl⟩
          refine store_mod h9.blk (show 6 < 10 by decide) (fun wY hmY hBY => ?_)
          refine norm_i64_to ((s.at_ + l.length + 1 : Nat) : Int) (by show ((s.at_ + l.length : Nat) : Int) + 1 = _; omega) (by omega) ?_
          exact ⟨s', (by show Has _ _; simp only [s', hz0]; rfl), key wY hmY (h9.put hmY hBY rfl rfl rfl (fun e => by cases e) h9.dl), mu⟩
      obtain ⟨z', x, hzz⟩ : ∃ z' x, s.z = z' ++ [x] := by
        rcases List.eq_nil_or_concat s.z with h0 | ⟨z', x, h0⟩
        · exact absurd h0 hz
        · exact ⟨z', x, by rw [h0]; simp⟩
      have hzl : s.z.length = z'.length + 1 := by rw [hzz]; simp
      have hrev : s.z.reverse.map (·.s) = x.s :: z'.reverse.map (·.s) := by rw [hzz]; simp
      have hxz : x ∈ s.z := by rw [hzz]; simp
      have ho7 : Own w7 base sqT 6 s.A (z'.length + 1) s.c (seV z' ++ x.cells) := by
        have := hI.ow
        rw [hzl, hzz, seV_snoc] at this
        exact this
      rw [hzl]
      rw [hlF]
      refine call (rbranch_end z' x s.A s.c n ((s.ln + 1 : Nat) : Int) w7 h7 ho7 (by omega) (by omega)) ?_
      rintro _ w8 ⟨_, rfl, rfl, h8, hm78⟩
      rw [← hlF]

      have hkb8 := hI.kb.mod hm78 npr
      refine storeN_blk0 hkb8 rfl (sc rfl) (fun w9 hg9 _ hB9 => ?_)
      have hM9 : Mod (· = w.heap.size) w8 w9 := Mod.of_grown hg9 rfl
      have hz9 := hM9.size
      have hz78 := hm78.size
      have hm79 : Mod (WrQ p s.m s.A w.heap.size) w7 w9 := (hm78.mono (S' := WrQ p s.m s.A w.heap.size) (fun i hi => .inl (.inl (.inl hi)))).trans hM9 (fun i hi => .inl (.inr (.inr hi)))
      have h9 := h8.modT (T' := s.m.T) hM9 (fun i hi => by subst hi; exact htB) (fun i hi => by subst hi; exact nbk) (fun i hi => by omega) (fun i hi => .inl hi) (fun i hi => Nat.lt_of_lt_of_le (h8.tt i hi) hz9)

      let s' : LQ := ⟨x.x, x.s.ou, z', s.m, { s.v with d := s.v.d - 1, g := { s.v.g with fr := true } }, s.ln + 1, s.at_ + l.length + 1, ls, s.A, s.c⟩
      have key : ∀ wY, Mod (· = p.r) w9 wY → Qr w0 wY base p s.m { s.v with d := s.v.d - 1, g := { s.v.g with fr := true } } → FqI w0 w base p m v n w.heap.size text (qincF p f n v.rd) res s' wY := fun wY hmY hY => by
        have hmW : Mod (WrQ p s.m s.A w.heap.size) w7 wY := hm79.trans hmY (fun i hi => .inl (.inl (.inl hi)))
        have kp : ∀ {x : DV} {ox : BF}, DgO w7 (TQ p s.m) p.nm.length x ox → DgO wY (TQ p s'.m) p.nm.length x ox := fun hx => hI.kp (s' := s') hmW hI.tt (Moved.refl _ _) (Moved.refl _ _) (Moved.refl _ _) hx
        have how9 := (hI.ow.mod hm78 nopr).mod hM9 (fun i hi e => by subst e; exact nbA hi)
        have how10 := (how9.mod hmY nopr).take (k := z'.length) (by omega)
        have e6 : (seV s.z).take (z'.length * 6) = seV z' := by rw [hzz, seV_snoc, List.take_left' (by rw [seV_len])]
        rw [e6] at how10
        refine hI.go (s' := s') hbkk hmW hY hrd7 hI.tt hI.nw (Moved.refl _ _) (Moved.refl _ _) (hB9.mod hmY npr) (kp (hI.zx x hxz)) how10 (fun z hz => kp (hI.zx z (by rw [hzz]; simp [show z ∈ z' from hz]))) (fun z hz => kp (hI.zy z (by rw [hzz]; simp [show z ∈ z' from hz]))) hls rfl (by show z'.length ≤ 65; omega) rfl ?_
        have hrs2 := hrs
        rw [rdL_en hdir, hrev] at hrs2
        exact .inl ⟨hsb, by show s.v.d - 1 = v.d + z'.length; omega, by show s.v.d - 1 ≤ 64; omega, hrs2⟩
      refine load_blk h9.blk rfl ?_
      refine wif (fun fr1 => ?_) (fun fr1 => ?_)
      · refine store_mod h9.blk (show 6 < 10 by decide) (fun wY hmY hBY => ?_)
        refine norm_i64_to ((s.at_ + l.length + 1 : Nat) : Int) (by show ((s.at_ + l.length : Nat) : Int) + 1 = _; omega) (by omega) ?_
        exact ⟨s', rfl, key wY hmY (h9.put hmY hBY rfl rfl rfl (fun e => by cases e) h9.dl), mu⟩
      · refine call (rdirective_fn l _ hl8) ?_
        rw [hdB]
        rintro _ _ ⟨rfl, rfl⟩
        refine store_mod h9.blk (show 6 < 10 by decide) (fun wY hmY hBY => ?_)
        refine norm_i64_to ((s.at_ + l.length + 1 : Nat) : Int) (by show ((s.at_ + l.length : Nat) : Int) + 1 = _; omega) (by omega) ?_
        exact ⟨s', rfl, key wY hmY (h9.put hmY hBY rfl rfl rfl (fun e => by cases e) h9.dl), mu⟩
end
end Go.Proofs.YtedopgkbajhanaaGreatDoor

namespace Go.Proofs.YtedopgkbajhanaaGreatDoor
section
open Go Go.RowKit

theorem vname_fn (s : List Nat) (w : World) (h8 : ∀ x ∈ s, x < 256) (hl : s.length ≤ 9223372036854775807) :
    Fn Tryz.prog 83 [.string (strOf s)] w (fun u w' => u = .bool (fnameOk s) ∧ w = w') := by
  have hsz := strOf_size s
  refine fn_of_exec (c := { c83 with cuts := [] }) gx_ok Tryz.func83 rfl rfl rfl ?_
  refine loop gx_ok [3] (fun i : Nat => [.int .i64 i]) (fun i w' => w = w' ∧ i ≤ s.length ∧ (s.take i).any badB = false) (fun i _ => s.length - i) 0 rfl ⟨rfl, Nat.zero_le _, by simp⟩ ?_
  rintro i _ ⟨rfl, hi, hno⟩
  refine wif_d (fun c1 => ?_) (fun c1 => ?_)
  · have hil : i < s.length := by omega
    obtain ⟨y, hy⟩ : ∃ y, s[i]? = some y := ⟨_, List.getElem?_eq_getElem hil⟩
    have idx : ∀ K : Int → Prop, K (y : Int) → SIndex (strOf s) ((i : Nat) : Int) K := fun K hK => by
      refine sindex' (by rw [hsz]; exact hil) (fun z hz _ => ?_)
      rw [bytesOf_strOf h8, hy] at hz
      cases hz; exact hK
    have bad : badB y = true → fnameOk s = false := fun hb => by
      rw [fnameOk_eq]
      have : s.any badB = true := List.any_eq_true.2 ⟨y, List.mem_of_getElem? hy, hb⟩
      rw [this]; simp
    refine idx _ ?_
    refine wif_d (fun d1 => ?_) (fun d1 => ?_)
    · exact ⟨by rw [bad (by have : y < 32 := by omega
                            simp [badB, this])], rfl⟩
    refine idx _ ?_
    refine wif_eq (fun d2 => ?_) (fun d2 => ?_)
    · exact ⟨by rw [bad (by have : y = 34 := by omega
                            simp [badB, this])], rfl⟩
    refine idx _ ?_
    refine wif_eq (fun d3 => ?_) (fun d3 => ?_)
    · exact ⟨by rw [bad (by have : y = 127 := by omega
                            simp [badB, this])], rfl⟩
    refine norm_i64_to ((i + 1 : Nat) : Int) (by show ((i : Nat) : Int) + 1 = _; omega) (by omega) ?_
    refine ⟨i + 1, rfl, ⟨rfl, hil, ?_⟩, by show s.length - (i + 1) < s.length - i; omega⟩
    rw [List.take_add_one, hy]
    have e1 : ¬ y < 32 := by omega
    have e2 : ¬ y = 34 := by omega
    have e3 : ¬ y = 127 := by omega
    simp [hno, badB, e1, e2, e3]
  · have hil : i = s.length := by omega
    rw [hil, List.take_length] at hno
    refine ⟨?_, rfl⟩
    rw [fnameOk_eq, hno]
    by_cases e : s = []
    · subst e; rfl
    · have : ¬ strOf s = (⟨#[]⟩ : ByteArray) := fun e' => e (strOf_inj h8 (by simp) e')
      simp [e, this]

theorem okP_not {b c d : Bool} : ¬ (b = true ∧ d = true ∧ c = true) ↔ (b && c && d) = false := by cases b <;> cases c <;> cases d <;> decide
set_option maxHeartbeats 800000 in
theorem rfiles_fn (fs : List (List Nat × List Nat)) (FA : Option Addr) (nf cf : Nat) (w : World) (h : SlS fileC 2 w FA nf cf fs) (hb : ∀ x ∈ fs, FileB x) (hnf : nf ≤ 1000000000000) :
    Fn Tryz.prog 49 [.slice FA nf cf] w (fun u w' => u = .agg (plC (plO (filesE fs))).toArray ∧ Ext w w') := by
  have hlen := h.2
  refine fn_of_exec (c := { c49 with cuts := [] }) gx_ok Tryz.func49 rfl rfl rfl ?_
  refine new (fun w1 hE1 hz1 hB1 => ?_)
  refine wif_d (fun c1 => ?_) (fun c1 => ?_)
  · refine storeN_blk0 hB1 rfl (sc rfl) (fun w2 hg2 _ hB2 => ?_)
    refine loadN_blk0 hB2 rfl ?_
    refine ⟨?_, newBox hE1 hB1 hg2⟩
    unfold filesE
    rw [if_pos (by omega)]; rfl
  have hfe : filesE fs = chkFs fs [] 0 := by unfold filesE; rw [if_neg (by omega)]
  have fin : ∀ (q : Pl) w3 w2, filesE fs = some q → Ext w1 w3 → w3.grownBy w2 (some w.heap.size) → (Value.agg (plC q).toArray = .agg (plC (plO (filesE fs))).toArray ∧ Ext w w2) := fun q w3 w2 hq hE hg => by
    have hM : Mod (· = w.heap.size) w3 w2 := Mod.of_grown hg rfl
    exact ⟨by rw [hq]; rfl, hM.ext (hE1.trans hE) (fun i hi => by omega)⟩
  refine loop gx_ok [3] (fun i : Nat => [.int .i64 i]) (fun i w' => Ext w1 w' ∧ i ≤ fs.length ∧ chkFs (fs.drop i) ((fs.take i).map (·.1)) i = filesE fs) (fun i _ => fs.length - i) 0 rfl ⟨Ext.refl _, Nat.zero_le _, by rw [hfe]; rfl⟩ ?_
  rintro i w2 ⟨hE2, hi, hrs⟩
  have h1 := h.ext (hE1.trans hE2)
  refine wif_d (fun c2 => ?_) (fun c2 => ?_)
  · have hin : i < nf := by omega
    obtain ⟨x, hx⟩ : ∃ x, fs[i]? = some x := ⟨_, List.getElem?_eq_getElem (by omega)⟩
    have hxb := hb x (List.mem_of_getElem? hx)
    have hns := strOf_size x.1
    have hts := strOf_size x.2
    have hnl := hxb.nl
    have htl := hxb.tl
    refine index_sls file_len h1 rfl hin (fun p y hy hc => ?_)
    obtain rfl : x = y := Option.some.inj (hx.symm.trans hy)
    refine load (hc 1 _ rfl) ?_
    refine index_sls file_len h1 rfl hin (fun p y hy hc => ?_)
    obtain rfl : x = y := Option.some.inj (hx.symm.trans hy)
    refine load (by have := hc 0 _ rfl; simpa [Addr.add] using this) ?_
    refine call (vname_fn x.1 w2 hxb.n8 hnl) ?_
    rintro _ _ ⟨rfl, rfl⟩
    have hdrop : fs.drop i = x :: fs.drop (i + 1) := by
      rw [List.drop_eq_getElem_cons (by omega)]
      congr 1
      exact Option.some.inj ((List.getElem?_eq_getElem (by omega)).symm.trans hx)
    rw [hdrop, chkFs] at hrs
    have hfl : i < fs.length := by omega
    have hmem : ∀ k, (decide (x.1 ∈ (fs.take k).map (·.1))) = ((fs.take k).map (·.1)).any (fun s => s == x.1) := fun k => by
      rw [Bool.eq_iff_iff]; simp only [decide_eq_true_iff, List.any_eq_true, beq_iff_eq]
      exact ⟨fun hm => ⟨_, hm, rfl⟩, fun ⟨_, hm, e⟩ => e ▸ hm⟩
    generalize hb0 : (fnameOk x.1 && textB x.2) = b0
    have hcond : (¬ (fnameOk x.1 = true ∧ x.1 ∉ (fs.take i).map (·.1) ∧ textB x.2 = true)) ↔ (b0 && !(((fs.take i).map (·.1)).any (fun s => s == x.1))) = false := by
      rw [← hb0, ← hmem, ← okP_not]; simp
    cases hv : fnameOk x.1 with
    | false =>
      rw [hv, Bool.false_and] at hb0
      subst hb0
      refine wif_f rfl ?_
      refine loop gx_ok [6, 5] (fun s : Nat × Bool => [.int .i64 s.1, .bool s.2]) (fun s w' => Ext w1 w' ∧ s.1 ≤ i ∧ s.2 = (false && !(((fs.take s.1).map (·.1)).any (fun s => s == x.1)))) (fun s _ => i - s.1) (0, false) rfl ⟨hE2, Nat.zero_le _, by simp⟩ ?_
      rintro ⟨k, b⟩ w3 ⟨hE3, hk, hbv⟩
      have hF3 := h.ext (hE1.trans hE3)
      simp only at hk hbv
      refine wif_d (fun c3 => ?_) (fun c3 => ?_)
      · have hki : k < i := by simp only at c3; omega
        obtain ⟨z, hz⟩ : ∃ z, fs[k]? = some z := ⟨_, List.getElem?_eq_getElem (by omega)⟩
        have hzb := hb z (List.mem_of_getElem? hz)
        have hstep : (((fs.take (k + 1)).map (·.1)).any (fun s => s == x.1)) = (((fs.take k).map (·.1)).any (fun s => s == x.1) || z.1 == x.1) := by
          rw [List.take_add_one, hz]; simp
        have go : ∀ b' : Bool, b' = (b && !(z.1 == x.1)) → b' = (false && !(((fs.take (k + 1)).map (·.1)).any (fun s => s == x.1))) := fun b' hb' => by rw [hb', hbv, hstep, Bool.not_or, Bool.and_assoc]
        have hEd := hE3.trans (Ext.drew w3)
        cases b with
        | false =>
          refine draw_plan gx_ok (Ext w3) 15 [(true, 0), (true, 1), (true, 2), (true, 3), (true, 4), (true, 5), (true, 6), (true, 7), (true, 8), (true, 9), (true, 10), (true, 11), (true, 12), (true, 13), (true, 14)] (by kernel_rfl) (Ext.drew w3) ?_
          refine wif_f rfl ?_
          refine norm_i64_to ((k + 1 : Nat) : Int) (by show ((k : Nat) : Int) + 1 = _; omega) (by omega) ?_
          exact ⟨(k + 1, false), rfl, ⟨hEd, hki, go false rfl⟩, by show i - (k + 1) < i - k; omega⟩
        | true =>
          refine draw_plan gx_ok (Ext w3) 15 [(true, 0), (true, 1), (true, 2), (true, 3), (true, 4), (true, 5), (true, 6), (true, 7), (true, 8), (true, 9), (true, 10), (true, 11), (true, 12), (true, 13), (true, 14)] (by kernel_rfl) (Ext.drew w3) ?_
          refine wif_t rfl ?_
          refine index_sls file_len hF3 rfl (by omega) (fun p y hy hc => ?_)
          obtain rfl : z = y := Option.some.inj (hz.symm.trans hy)
          refine qload (v := .string (strOf z.1)) (fun w' hw' => hw'.cell (by have := hc 0 _ rfl; simpa [Addr.add] using this)) ?_
          refine index_sls file_len hF3 rfl hin (fun p y hy hc => ?_)
          obtain rfl : x = y := Option.some.inj (hx.symm.trans hy)
          refine qload (v := .string (strOf x.1)) (fun w' hw' => hw'.cell (by have := hc 0 _ rfl; simpa [Addr.add] using this)) ?_
          refine norm_i64_to ((k + 1 : Nat) : Int) (by show ((k : Nat) : Int) + 1 = _; omega) (by omega) ?_
          refine ⟨(k + 1, !decide (strOf z.1 = strOf x.1)), rfl, ⟨hEd, hki, go _ ?_⟩, by show i - (k + 1) < i - k; omega⟩
          rw [Bool.true_and]
          by_cases e : z.1 = x.1
          · simp [e]
          · have : ¬ strOf z.1 = strOf x.1 := fun e' => e (strOf_inj hzb.n8 hxb.n8 e')
            simp [e, this]
      · have hki : k = i := by simp only at c3; omega
        subst hki
        refine wif (fun d1 => ?_) (fun d1 => ?_)
        · have d1 : b = false := by simpa using d1
          rw [if_pos (hcond.2 (by rw [← hbv, d1]))] at hrs
          refine storeN_blk0 (hB1.ext hE3) rfl (sc rfl) (fun w7 hg7 _ hB7 => ?_)
          refine loadN_blk0 hB7 rfl ?_
          exact fin _ w3 w7 hrs.symm hE3 hg7
        have d1 : b = true := by simpa using d1
        rw [if_neg (fun hh => by have := hcond.1 hh; rw [← hbv, d1] at this; cases this)] at hrs
        refine wif_d (fun d2 => ?_) (fun d2 => ?_)
        · rw [if_pos (by rw [hts] at d2; omega)] at hrs
          refine storeN_blk0 (hB1.ext hE3) rfl (sc rfl) (fun w7 hg7 _ hB7 => ?_)
          refine loadN_blk0 hB7 rfl ?_
          exact fin _ w3 w7 hrs.symm hE3 hg7
        rw [if_neg (by rw [hts] at d2; omega)] at hrs
        refine norm_i64_to ((k + 1 : Nat) : Int) (by show ((k : Nat) : Int) + 1 = _; omega) (by omega) ?_
        have htk : (fs.take (k + 1)).map (·.1) = (fs.take k).map (·.1) ++ [x.1] := by rw [List.take_add_one, hx]; simp
        exact ⟨k + 1, rfl, ⟨hE3, by omega, by rw [htk]; exact hrs⟩, by show fs.length - (k + 1) < fs.length - k; omega⟩
    | true =>
      rw [hv, Bool.true_and] at hb0
      refine wif_t rfl ?_
      by_cases p3 : x.2 = []
      · have e0 : textB x.2 = true := by rw [p3]; rfl
        rw [e0] at hb0
        subst hb0
        refine wif_eqt (by rw [hts, p3]; rfl) ?_
        refine loop gx_ok [6, 5] (fun s : Nat × Bool => [.int .i64 s.1, .bool s.2]) (fun s w' => Ext w1 w' ∧ s.1 ≤ i ∧ s.2 = (true && !(((fs.take s.1).map (·.1)).any (fun s => s == x.1)))) (fun s _ => i - s.1) (0, true) rfl ⟨hE2, Nat.zero_le _, by simp⟩ ?_
        rintro ⟨k, b⟩ w3 ⟨hE3, hk, hbv⟩
        have hF3 := h.ext (hE1.trans hE3)
        simp only at hk hbv
        refine wif_d (fun c3 => ?_) (fun c3 => ?_)
        · have hki : k < i := by simp only at c3; omega
          obtain ⟨z, hz⟩ : ∃ z, fs[k]? = some z := ⟨_, List.getElem?_eq_getElem (by omega)⟩
          have hzb := hb z (List.mem_of_getElem? hz)
          have hstep : (((fs.take (k + 1)).map (·.1)).any (fun s => s == x.1)) = (((fs.take k).map (·.1)).any (fun s => s == x.1) || z.1 == x.1) := by
            rw [List.take_add_one, hz]; simp
          have go : ∀ b' : Bool, b' = (b && !(z.1 == x.1)) → b' = (true && !(((fs.take (k + 1)).map (·.1)).any (fun s => s == x.1))) := fun b' hb' => by rw [hb', hbv, hstep, Bool.not_or, Bool.and_assoc]
          have hEd := hE3.trans (Ext.drew w3)
          cases b with
          | false =>
            refine draw_plan gx_ok (Ext w3) 15 [(true, 0), (true, 1), (true, 2), (true, 3), (true, 4), (true, 5), (true, 6), (true, 7), (true, 8), (true, 9), (true, 10), (true, 11), (true, 12), (true, 13), (true, 14)] (by kernel_rfl) (Ext.drew w3) ?_
            refine wif_f rfl ?_
            refine norm_i64_to ((k + 1 : Nat) : Int) (by show ((k : Nat) : Int) + 1 = _; omega) (by omega) ?_
            exact ⟨(k + 1, false), rfl, ⟨hEd, hki, go false rfl⟩, by show i - (k + 1) < i - k; omega⟩
          | true =>
            refine draw_plan gx_ok (Ext w3) 15 [(true, 0), (true, 1), (true, 2), (true, 3), (true, 4), (true, 5), (true, 6), (true, 7), (true, 8), (true, 9), (true, 10), (true, 11), (true, 12), (true, 13), (true, 14)] (by kernel_rfl) (Ext.drew w3) ?_
            refine wif_t rfl ?_
            refine index_sls file_len hF3 rfl (by omega) (fun p y hy hc => ?_)
            obtain rfl : z = y := Option.some.inj (hz.symm.trans hy)
            refine qload (v := .string (strOf z.1)) (fun w' hw' => hw'.cell (by have := hc 0 _ rfl; simpa [Addr.add] using this)) ?_
            refine index_sls file_len hF3 rfl hin (fun p y hy hc => ?_)
            obtain rfl : x = y := Option.some.inj (hx.symm.trans hy)
            refine qload (v := .string (strOf x.1)) (fun w' hw' => hw'.cell (by have := hc 0 _ rfl; simpa [Addr.add] using this)) ?_
            refine norm_i64_to ((k + 1 : Nat) : Int) (by show ((k : Nat) : Int) + 1 = _; omega) (by omega) ?_
            refine ⟨(k + 1, !decide (strOf z.1 = strOf x.1)), rfl, ⟨hEd, hki, go _ ?_⟩, by show i - (k + 1) < i - k; omega⟩
            rw [Bool.true_and]
            by_cases e : z.1 = x.1
            · simp [e]
            · have : ¬ strOf z.1 = strOf x.1 := fun e' => e (strOf_inj hzb.n8 hxb.n8 e')
              simp [e, this]
        · have hki : k = i := by simp only at c3; omega
          subst hki
          refine wif (fun d1 => ?_) (fun d1 => ?_)
          · have d1 : b = false := by simpa using d1
            rw [if_pos (hcond.2 (by rw [← hbv, d1]))] at hrs
            refine storeN_blk0 (hB1.ext hE3) rfl (sc rfl) (fun w7 hg7 _ hB7 => ?_)
            refine loadN_blk0 hB7 rfl ?_
            exact fin _ w3 w7 hrs.symm hE3 hg7
          have d1 : b = true := by simpa using d1
          rw [if_neg (fun hh => by have := hcond.1 hh; rw [← hbv, d1] at this; cases this)] at hrs
          refine wif_d (fun d2 => ?_) (fun d2 => ?_)
          · rw [if_pos (by rw [hts] at d2; omega)] at hrs
            refine storeN_blk0 (hB1.ext hE3) rfl (sc rfl) (fun w7 hg7 _ hB7 => ?_)
            refine loadN_blk0 hB7 rfl ?_
            exact fin _ w3 w7 hrs.symm hE3 hg7
          rw [if_neg (by rw [hts] at d2; omega)] at hrs
          refine norm_i64_to ((k + 1 : Nat) : Int) (by show ((k : Nat) : Int) + 1 = _; omega) (by omega) ?_
          have htk : (fs.take (k + 1)).map (·.1) = (fs.take k).map (·.1) ++ [x.1] := by rw [List.take_add_one, hx]; simp
          exact ⟨k + 1, rfl, ⟨hE3, by omega, by rw [htk]; exact hrs⟩, by show fs.length - (k + 1) < fs.length - k; omega⟩
      · have hpos : 0 < x.2.length := List.length_pos_iff.2 p3
        refine wif_eqf (by rw [hts]; omega) ?_
        refine index_sls file_len h1 rfl hin (fun p y hy hc => ?_)
        obtain rfl : x = y := Option.some.inj (hx.symm.trans hy)
        refine load (hc 1 _ rfl) ?_
        refine norm_i64_to ((x.2.length - 1 : Nat) : Int) (by rw [hts]; omega) (by omega) ?_
        refine sindex' (j := x.2.length - 1) (by omega) (fun z hz hz8 => ?_)
        rw [bytesOf_strOf hxb.t8] at hz
        have hlast : x.2.getLast? = some z := by rw [List.getLast?_eq_getElem?]; exact hz
        have e0 : ((z : Int) == 10) = b0 := by
          rw [← hb0]
          unfold textB
          rw [decide_eq_false p3, hlast]
          by_cases h10 : z = 10
          · subst h10; decide
          · have e1 : ((z : Int) == 10) = false := by simp; omega
            rw [e1]; simp [h10]
        refine loop gx_ok [6, 5] (fun s : Nat × Bool => [.int .i64 s.1, .bool s.2]) (fun s w' => Ext w1 w' ∧ s.1 ≤ i ∧ s.2 = (b0 && !(((fs.take s.1).map (·.1)).any (fun s => s == x.1)))) (fun s _ => i - s.1) (0, ((z : Int) == 10)) rfl ⟨hE2, Nat.zero_le _, by simp [e0]⟩ ?_
        rintro ⟨k, b⟩ w3 ⟨hE3, hk, hbv⟩
        have hF3 := h.ext (hE1.trans hE3)
        simp only at hk hbv
        refine wif_d (fun c3 => ?_) (fun c3 => ?_)
        · have hki : k < i := by simp only at c3; omega
          obtain ⟨z, hz⟩ : ∃ z, fs[k]? = some z := ⟨_, List.getElem?_eq_getElem (by omega)⟩
          have hzb := hb z (List.mem_of_getElem? hz)
          have hstep : (((fs.take (k + 1)).map (·.1)).any (fun s => s == x.1)) = (((fs.take k).map (·.1)).any (fun s => s == x.1) || z.1 == x.1) := by
            rw [List.take_add_one, hz]; simp
          have go : ∀ b' : Bool, b' = (b && !(z.1 == x.1)) → b' = (b0 && !(((fs.take (k + 1)).map (·.1)).any (fun s => s == x.1))) := fun b' hb' => by rw [hb', hbv, hstep, Bool.not_or, Bool.and_assoc]
          have hEd := hE3.trans (Ext.drew w3)
          cases b with
          | false =>
            refine draw_plan gx_ok (Ext w3) 15 [(true, 0), (true, 1), (true, 2), (true, 3), (true, 4), (true, 5), (true, 6), (true, 7), (true, 8), (true, 9), (true, 10), (true, 11), (true, 12), (true, 13), (true, 14)] (by kernel_rfl) (Ext.drew w3) ?_
            refine wif_f rfl ?_
            refine norm_i64_to ((k + 1 : Nat) : Int) (by show ((k : Nat) : Int) + 1 = _; omega) (by omega) ?_
            exact ⟨(k + 1, false), rfl, ⟨hEd, hki, go false rfl⟩, by show i - (k + 1) < i - k; omega⟩
          | true =>
            refine draw_plan gx_ok (Ext w3) 15 [(true, 0), (true, 1), (true, 2), (true, 3), (true, 4), (true, 5), (true, 6), (true, 7), (true, 8), (true, 9), (true, 10), (true, 11), (true, 12), (true, 13), (true, 14)] (by kernel_rfl) (Ext.drew w3) ?_
            refine wif_t rfl ?_
            refine index_sls file_len hF3 rfl (by omega) (fun p y hy hc => ?_)
            obtain rfl : z = y := Option.some.inj (hz.symm.trans hy)
            refine qload (v := .string (strOf z.1)) (fun w' hw' => hw'.cell (by have := hc 0 _ rfl; simpa [Addr.add] using this)) ?_
            refine index_sls file_len hF3 rfl hin (fun p y hy hc => ?_)
            obtain rfl : x = y := Option.some.inj (hx.symm.trans hy)
            refine qload (v := .string (strOf x.1)) (fun w' hw' => hw'.cell (by have := hc 0 _ rfl; simpa [Addr.add] using this)) ?_
            refine norm_i64_to ((k + 1 : Nat) : Int) (by show ((k : Nat) : Int) + 1 = _; omega) (by omega) ?_
            refine ⟨(k + 1, !decide (strOf z.1 = strOf x.1)), rfl, ⟨hEd, hki, go _ ?_⟩, by show i - (k + 1) < i - k; omega⟩
            rw [Bool.true_and]
            by_cases e : z.1 = x.1
            · simp [e]
            · have : ¬ strOf z.1 = strOf x.1 := fun e' => e (strOf_inj hzb.n8 hxb.n8 e')
              simp [e, this]
        · have hki : k = i := by simp only at c3; omega
          subst hki
          refine wif (fun d1 => ?_) (fun d1 => ?_)
          · have d1 : b = false := by simpa using d1
            rw [if_pos (hcond.2 (by rw [← hbv, d1]))] at hrs
            refine storeN_blk0 (hB1.ext hE3) rfl (sc rfl) (fun w7 hg7 _ hB7 => ?_)
            refine loadN_blk0 hB7 rfl ?_
            exact fin _ w3 w7 hrs.symm hE3 hg7
          have d1 : b = true := by simpa using d1
          rw [if_neg (fun hh => by have := hcond.1 hh; rw [← hbv, d1] at this; cases this)] at hrs
          refine wif_d (fun d2 => ?_) (fun d2 => ?_)
          · rw [if_pos (by rw [hts] at d2; omega)] at hrs
            refine storeN_blk0 (hB1.ext hE3) rfl (sc rfl) (fun w7 hg7 _ hB7 => ?_)
            refine loadN_blk0 hB7 rfl ?_
            exact fin _ w3 w7 hrs.symm hE3 hg7
          rw [if_neg (by rw [hts] at d2; omega)] at hrs
          refine norm_i64_to ((k + 1 : Nat) : Int) (by show ((k : Nat) : Int) + 1 = _; omega) (by omega) ?_
          have htk : (fs.take (k + 1)).map (·.1) = (fs.take k).map (·.1) ++ [x.1] := by rw [List.take_add_one, hx]; simp
          exact ⟨k + 1, rfl, ⟨hE3, by omega, by rw [htk]; exact hrs⟩, by show fs.length - (k + 1) < fs.length - k; omega⟩
  · have hie : i = fs.length := by omega
    rw [hie, List.drop_length] at hrs
    refine storeN_blk0 (hB1.ext hE2) rfl (sc rfl) (fun w7 hg7 _ hB7 => ?_)
    refine loadN_blk0 hB7 rfl ?_
    have hM : Mod (· = w.heap.size) w2 w7 := Mod.of_grown hg7 rfl
    exact ⟨by rw [← hrs]; rfl, hM.ext (hE1.trans hE2) (fun i hi => by omega)⟩

theorem chkFs_nd : ∀ (l : List (List Nat × List Nat)) (seen : List (List Nat)) (i : Nat), chkFs l seen i = none → (l.map (·.1)).Nodup ∧ ∀ x ∈ l, x.1 ∉ seen
  | [], _, _, _ => ⟨List.nodup_nil, fun x hx => by cases hx⟩
  | y :: l, seen, i, h => by
    unfold chkFs at h
    split at h
    · cases h
    split at h
    · cases h
    · rename_i h1 h2
      have h1 := Decidable.not_not.1 h1
      obtain ⟨k1, k2⟩ := chkFs_nd l _ _ h
      refine ⟨?_, fun x hx => ?_⟩
      · rw [List.map_cons, List.nodup_cons]
        refine ⟨fun hm => ?_, k1⟩
        obtain ⟨x, hx, e⟩ := List.mem_map.1 hm
        exact k2 x hx (by rw [e]; simp)
      · rcases List.mem_cons.1 hx with rfl | hx
        · exact h1.2.1
        · exact fun hm => k2 x hx (by simp [hm])
theorem filesE_nd {fs : List (List Nat × List Nat)} (h : filesE fs = none) : (fs.map (·.1)).Nodup := by
  unfold filesE at h
  split at h
  · cases h
  · exact (chkFs_nd _ _ _ h).1

set_option maxHeartbeats 800000 in
theorem rread_fn (nm : List (List Nat)) (NA : Option Addr) (nn nc : Nat) (fs : List (List Nat × List Nat)) (FA : Option Addr) (nf cf : Nat) (root : List Nat) (w : World) (hN : Sl w 1 NA nn nc (strsV nm)) (hnb : NamesOk nm) (hk : nm.length ≤ 12) (hF : SlS fileC 2 w FA nf cf fs) (hfb : ∀ x ∈ fs, FileB x) (hnf : nf ≤ 1000000000000) (hr8 : ∀ x ∈ root, x < 256) :
    Fn Tryz.prog 17 [.slice NA nn nc, .slice FA nf cf, .string (strOf root)] w (ReadR nm.length w (readE nm fs root)) := by
  refine fn_of_exec (c := { c17 with cuts := [] }) gx_ok Tryz.func17 rfl rfl rfl ?_
  refine new (fun w1 hE1 hz1 hB1 => ?_)
  refine new (fun w2 hE2 hz2 hB2 => ?_)
  have hE02 := hE1.trans hE2
  refine call (rnames_fn nm NA nn nc w2 (hN.ext hE02) hnb) ?_
  rintro _ w3 ⟨rfl, hE3⟩
  have hE03 := hE02.trans hE3
  have hBs := (hB1.ext hE2).ext hE3
  have hBp := hB2.ext hE3
  have hne : w1.heap.size ≠ w.heap.size := by omega
  have hs3 := hE3.size
  have hrd : readE nm fs root = if numsOk nm = false then .error ⟨30, -1, 0⟩ else match filesE fs with
    | some p => .error p
    | none => match ixN (fs.map (·.1)) root with
      | none => .error ⟨73, -1, 0⟩
      | some n => rdF nm fs 65 [] 0 n (fun _ => true) ⟨[], [], false⟩ := rfl
  have two : ∀ w3 w4 w5, Ext w w3 → w3.grownBy w4 (some w.heap.size) → w4.grownBy w5 (some w1.heap.size) → Ext w w5 := fun w3 w4 w5 hE hg4 hg5 => by
    have hM4 : Mod (· = w.heap.size) w3 w4 := Mod.of_grown hg4 rfl
    have hM5 : Mod (· = w1.heap.size) w4 w5 := Mod.of_grown hg5 rfl
    exact hM5.ext (hM4.ext hE (fun i hi => by omega)) (fun i hi => by omega)
  cases hok : numsOk nm with
  | false =>
    rw [if_pos hok] at hrd
    refine wif_t rfl ?_
    refine storeN_blk0 hBs rfl (sc rfl) (fun w4 hg4 _ hB4 => ?_)
    have hM4 : Mod (· = w.heap.size) w3 w4 := Mod.of_grown hg4 rfl
    refine storeN_blk0 (hBp.mod hM4 hne) rfl (sc rfl) (fun w5 hg5 _ hB5 => ?_)
    have hM5 : Mod (· = w1.heap.size) w4 w5 := Mod.of_grown hg5 rfl
    refine loadN_blk0 (hB4.mod hM5 hne.symm) rfl ?_
    refine loadN_blk0 hB5 rfl ?_
    rw [hrd]
    exact ⟨two _ _ _ hE03 hg4 hg5, rfl⟩
  | true =>
    rw [if_neg (by rw [hok]; decide)] at hrd
    refine wif_f rfl ?_
    refine call (rfiles_fn fs FA nf cf w3 (hF.ext hE03) hfb hnf) ?_
    rintro _ w4 ⟨rfl, hE4⟩
    refine new (fun w5 hE5 hz5 hB5 => ?_)
    refine storeN_blk0 hB5 rfl (sc rfl) (fun w6 hg6 _ hB6 => ?_)
    have hE46 : Ext w4 w6 := newBox hE5 hB5 hg6
    have hE36 := hE4.trans hE46
    have hE06 := hE03.trans hE36
    have hBs6 := hBs.ext hE36
    have hBp6 := hBp.ext hE36
    have hs4 := hE4.size
    refine load_blk hB6 rfl ?_
    cases hfe : filesE fs with
    | some q =>
      rw [hfe] at hrd hB6
      refine wif_net (filesE_ne hfe) ?_
      have n4 : ¬ w4.heap.size = w.heap.size := by omega
      have n41 : ¬ w4.heap.size = w1.heap.size := by omega
      have hd := Ext.drew w6
      refine draw_plan gx_ok (fun w' => Mod (fun i => i = w.heap.size ∨ i = w1.heap.size) w6 w') 4 [(true, 0), (true, 1), (false, 2), (false, 3)] (by kernel_rfl) (Mod.of_ext _ hd) ?_
      refine qloadN (vs := plC q) rfl (fun w' hw' j u hj => by rw [(hB6.mod hw' (fun hh => hh.elim n4 n41)).cell]; exact hj) ?_
      refine storeN_blk0 (hBs6.ext hd) rfl (sc rfl) (fun w7 hg7 _ hB7 => ?_)
      have hM7 : Mod (· = w.heap.size) w6.drew w7 := Mod.of_grown hg7 rfl
      have hM7' : Mod (fun i => i = w.heap.size ∨ i = w1.heap.size) w6 w7 := (Mod.of_ext _ hd).trans hM7 (fun i hi => .inl (.inl hi))
      refine ⟨hM7', ?_⟩
      refine storeN_blk0 ((hBp6.ext hd).mod hM7 hne) rfl (sc rfl) (fun w8 hg8 _ hB8 => ?_)
      have hM8 : Mod (· = w1.heap.size) w7 w8 := Mod.of_grown hg8 rfl
      have hM8' := hM7'.trans hM8 (fun i hi => .inl (.inr hi))
      refine ⟨hM8', ?_⟩
      refine loadN_blk0 (hB7.mod hM8 hne.symm) rfl ?_
      refine loadN_blk0 hB8 rfl ?_
      rw [hrd]
      exact ⟨hM8'.ext hE06 (fun i hi => by rcases hi with rfl | rfl <;> omega), rfl⟩
    | none =>
    rw [hfe] at hrd
    refine wif_nef rfl ?_
    obtain ⟨hfl, hfok⟩ := filesE_ok hfe hfb
    have hlen := hF.2
    refine new (fun w7 hE7 hz7 hB7 => ?_)
    have hE07 := hE06.trans hE7
    let p : QP := ⟨w6.heap.size, NA, nn, nc, nm, FA, nf, cf, fs⟩
    let m : QM := ⟨none, 0, none, 0, [], fun i => i = w.heap.size ∨ i = w1.heap.size⟩
    let v : QV := ⟨0, [], ⟨[], [], false⟩, ⟨0, 0, 0⟩⟩
    have hP : QPok w6 p := ⟨hN.ext hE06, hnb, hk, hF.ext hE06, hfok, hfl, filesE_nd hfe⟩
    have h7 : Qr w6 w7 w7.heap.size p m v := by
      refine ⟨hE7, Nat.le_refl _, ?_, Nat.le_refl _, hB7, Own.nil _ _ _ _, Own.nil _ _ _ _, rfl, (fun j s x hs => by simp [v] at hs), (Nat.zero_le _), (Nat.zero_le _), (fun x hx => by cases hx), (fun _ => .inr rfl), (fun i hi => by rcases hi with hi | hi <;> rw [hi] <;> (have := hE36.size; omega)), (Nat.zero_le _), (Nat.zero_le _)⟩
      show w6.heap.size < w7.heap.size; omega
    refine call (rnumber_fn root w7 hP h7 hr8) ?_
    rintro _ _ ⟨rfl, rfl⟩
    have hBs7 := hBs6.ext hE7
    have hBp7 := hBp6.ext hE7
    show _
    cases hix : ixN (fs.map (·.1)) root with
    | none =>
      rw [hix] at hrd
      refine wif_t rfl ?_
      refine storeN_blk0 hBs7 rfl (sc rfl) (fun w8 hg8 _ hB8 => ?_)
      have hM8 : Mod (· = w.heap.size) w7 w8 := Mod.of_grown hg8 rfl
      refine storeN_blk0 (hBp7.mod hM8 hne) rfl (sc rfl) (fun w9 hg9 _ hB9 => ?_)
      have hM9 : Mod (· = w1.heap.size) w8 w9 := Mod.of_grown hg9 rfl
      refine loadN_blk0 (hB8.mod hM9 hne.symm) rfl ?_
      refine loadN_blk0 hB9 rfl ?_
      rw [hrd]
      exact ⟨two _ _ _ hE07 hg8 hg9, rfl⟩
    | some n =>
    rw [hix] at hrd
    simp only at hrd
    have hnl : n < fs.length := by have := ixN_lt hix; simpa using this
    refine wif_df (by show ¬ ((n : Nat) : Int) < 0; omega) ?_
    refine call (rconst_fn true w7) ?_
    rintro _ w8 ⟨rfl, hE8⟩
    have h8 := h7.ext hE8
    have hk8 : DgO w8 (TQ p m) p.nm.length ⟨none, 0, 0, [], 1⟩ (fun _ => true) := ⟨SlS.nil _, const_set _ true, fun ad e => by cases e⟩
    refine call (rfile_fn w6 w7.heap.size p hP (by omega) 65 m v n ⟨none, 0, 0, [], 1⟩ (fun _ => true) w8 h8 hk8 hnl (fun hh => by cases hh) (Nat.zero_le _) (Nat.le_refl _) rfl (Nat.zero_le _)) ?_
    rintro _ w9 ⟨m9, v9, hT9, h9, hM9, _, _, hrd9, hres⟩
    have hres : match rdF nm fs 65 [] 0 n (fun _ => true) ⟨[], [], false⟩ with
      | .ok g' => v9 = { v with g := g' }
      | .error q => v9.b = q ∧ q.e ≠ 0 ∧ v.d ≤ v9.d := hres
    have hQ : ∀ i, QS p m i → i = w6.heap.size := fun i hi => by
      rcases hi with hi | ⟨_, e, _⟩ | ⟨_, e, _⟩
      · exact hi
      · cases e
      · cases e
    have hs6 := hE46.size
    have hs06 := hE06.size
    have hE09 : Ext w w9 := hM9.ext (hE07.trans hE8) (fun i hi => by rw [hQ i hi]; omega)
    have hBs9 := (hBs7.ext hE8).mod hM9 (fun hi => by have := hQ _ hi; omega)
    have hBp9 := (hBp7.ext hE8).mod hM9 (fun hi => by have := hQ _ hi; omega)
    refine load_blk2 h9.blk rfl ?_
    cases hrf : rdF nm fs 65 [] 0 n (fun _ => true) ⟨[], [], false⟩ with
    | error q =>
      rw [hrf] at hrd hres
      obtain ⟨rfl, hqe, _⟩ := hres
      refine wif_net hqe ?_
      have hd := Ext.drew w9
      have nr : ∀ i, (i = w.heap.size ∨ i = w1.heap.size) → ¬ i = w6.heap.size := fun i hi e => by rcases hi with hi | hi <;> omega
      refine draw_plan gx_ok (fun w' => Mod (fun i => i = w.heap.size ∨ i = w1.heap.size) w9 w') 7 [(true, 0), (true, 1), (true, 2), (true, 3), (true, 4), (false, 5), (false, 6)] (by kernel_rfl) (Mod.of_ext _ hd) ?_
      refine qloadN (vs := plC v9.b) rfl (fun w' hw' j u hj => by
        show w'.cell? (((⟨p.r, 0, none⟩ : Addr).add 7).add j) = some u
        rw [Addr.add_add, (h9.blk.mod hw' (fun hh => nr _ hh rfl)).cell]
        match j, hj with
        | 0, hj => exact hj
        | 1, hj => exact hj
        | 2, hj => exact hj) ?_
      refine storeN_blk0 (hBs9.ext hd) rfl (sc rfl) (fun w10 hg10 _ hB10 => ?_)
      have hM10 : Mod (· = w.heap.size) w9.drew w10 := Mod.of_grown hg10 rfl
      have hM10' : Mod (fun i => i = w.heap.size ∨ i = w1.heap.size) w9 w10 := (Mod.of_ext _ hd).trans hM10 (fun i hi => .inl (.inl hi))
      refine ⟨hM10', ?_⟩
      refine storeN_blk0 ((hBp9.ext hd).mod hM10 hne) rfl (sc rfl) (fun w11 hg11 _ hB11 => ?_)
      have hM11 : Mod (· = w1.heap.size) w10 w11 := Mod.of_grown hg11 rfl
      have hM11' := hM10'.trans hM11 (fun i hi => .inl (.inr hi))
      refine ⟨hM11', ?_⟩
      refine loadN_blk0 (hB10.mod hM11 hne.symm) rfl ?_
      refine loadN_blk0 hB11 rfl ?_
      rw [hrd]
      exact ⟨hM11'.ext hE09 (fun i hi => by rcases hi with rfl | rfl <;> omega), rfl⟩
    | ok g =>
      rw [hrf] at hrd hres
      have hres : v9 = { v with g := g } := hres
      subst hres
      refine wif_nef rfl ?_
      have hb9 := h9.rb
      refine loadN_blk (vs := [.string (strOf g.tx), .slice m9.OA g.sg.length m9.oc]) h9.blk rfl (fun j u hj => by match j, hj with | 0, hj => exact hj | 1, hj => exact hj) ?_
      refine storeN_blk0 hBs9 rfl (sc rfl) (fun w10 hg10 _ hB10 => ?_)
      have hM10 : Mod (· = w.heap.size) w9 w10 := Mod.of_grown hg10 rfl
      refine storeN_blk0 (hBp9.mod hM10 hne) rfl (sc rfl) (fun w11 hg11 _ hB11 => ?_)
      have hM11 : Mod (· = w1.heap.size) w10 w11 := Mod.of_grown hg11 rfl
      have hM11' : Mod (fun i => i = w.heap.size ∨ i = w1.heap.size) w9 w11 := (hM10.mono (S' := fun i => i = w.heap.size ∨ i = w1.heap.size) (fun i hi => .inl (.inl hi))).trans hM11 (fun i hi => .inl (.inr hi))
      refine loadN_blk0 (hB10.mod hM11 hne.symm) rfl ?_
      refine loadN_blk0 hB11 rfl ?_
      rw [hrd]
      have nO : ∀ i, rowS m9.OA i → ¬ (i = w.heap.size ∨ i = w1.heap.size) := fun i hi hh => by
        have := (h9.out.rows i hi).1
        rcases hh with rfl | rfl <;> omega
      refine ⟨two _ _ _ hE09 hg10 hg11, ⟨h9.b8, h9.tl, h9.sl⟩, m9.OA, m9.oc, m9.L, rfl, ⟨(h9.out.mod hM11' nO).sl, rfl, h9.len, fun j s x h1 h2 => ?_⟩⟩
      have hdg := h9.dgs j s x h1 h2
      exact ⟨SB.modo hdg.sb hM11' (fun ad e h0 hh => hdg.off ad e h0 (.inr (by rw [hT9]; exact hh))), hdg.st⟩

theorem rsource_same (k : Nat) (tx : List Nat) (A B : Option Addr) (n c e : Nat) (sg : List Sg) (L L' : List DV) (w : World) (h : SgIn w k A n c sg L) (h' : SgIn w k B n e sg L') (hn : n ≤ 65536) :
    Fn Tryz.prog 18 [srcV tx A n c, srcV tx B n e] w (fun u w' => u = .bool true ∧ Ext w w') := by
  obtain ⟨M, hX, hA⟩ := src_in h
  obtain ⟨M', hX', hA'⟩ := src_in h'
  have hsn := h.n
  have hMl := hA.len
  have hMl' := hA'.len
  refine fn_of_exec (c := { c18 with cuts := [] }) gx_ok Tryz.func18 rfl rfl rfl ?_
  refine new (fun w1 hE1 hz1 hB1 => ?_)
  refine new (fun w2 hE2 hz2 hB2 => ?_)
  have hB12 := hB1.ext hE2
  have hE02 := hE1.trans hE2
  refine load_blk0 hB12 rfl ?_
  refine load_blk0 hB2 rfl ?_
  refine wif_f (by simp) ?_
  refine load_blk hB12 rfl ?_
  refine load_blk hB2 rfl ?_
  refine wif_nef rfl ?_
  refine loop gx_ok [5] (fun s : Nat => [.int .i64 s]) (fun s w' => Ext w2 w' ∧ s ≤ n) (fun s _ => n - s) 0 rfl ⟨Ext.refl w2, Nat.zero_le _⟩ ?_
  rintro s w3 ⟨hE3, hs⟩
  have hE03 := hE02.trans hE3
  refine load_blk (hB12.ext hE3) rfl ?_
  refine wif_d (fun c1 => ?_) (fun c1 => ?_)
  · have hsl : s < n := by omega
    refine load_blk (hB12.ext hE3) rfl ?_
    refine index_sls sx_len (hX.ext hE03).sl rfl hsl (fun p y hy hc => ?_)
    refine loadN_at (vs := y.cells) rfl hc ?_
    refine new (fun w4 hE4 hz4 hB4 => ?_)
    refine storeN_blk0 hB4 rfl (sc rfl) (fun w5 hg5 _ hB5 => ?_)
    have hE35 : Ext w3 w5 := newBox hE4 hB4 hg5
    have hE05 := hE03.trans hE35
    refine load_blk ((hB2.ext hE3).ext hE35) rfl ?_
    refine index_sls sx_len (hX'.ext hE05).sl rfl hsl (fun p' z hz hc' => ?_)
    refine loadN_at (vs := z.cells) rfl hc' ?_
    refine new (fun w6 hE6 hz6 hB6 => ?_)
    refine storeN_blk0 hB6 rfl (sc rfl) (fun w7 hg7 _ hB7 => ?_)
    have hE57 : Ext w5 w7 := newBox hE6 hB6 hg7
    have hE07 := hE05.trans hE57
    have hY := hB5.ext hE57
    obtain ⟨x, hx⟩ : ∃ x, sg[s]? = some x := ⟨_, List.getElem?_eq_getElem (by omega)⟩
    obtain ⟨y1, y2, y3, y4, y5⟩ := hA.get hx hy
    obtain ⟨z1, z2, z3, z4, z5⟩ := hA'.get hx hz
    refine load_blk0 hY rfl ?_
    refine load_blk0 hB7 rfl ?_
    refine wif_nef (by rw [y1, z1]) ?_
    refine load_blk hY rfl ?_
    refine load_blk hB7 rfl ?_
    refine wif_nef (by rw [y2, z2]) ?_
    refine load_blk hY rfl ?_
    refine load_blk hB7 rfl ?_
    refine wif_nef (by rw [y3, z3]) ?_
    refine load_blk hY rfl ?_
    refine load_blk hB7 rfl ?_
    refine wif_nef (by rw [y4, z4]) ?_
    refine loadN_blk (vs := [.slice y.x.A y.x.n y.x.c, .int .i64 y.x.r]) hY rfl (fun j u hj => by match j, hj with | 0, hj => exact hj | 1, hj => exact hj) ?_
    refine loadN_blk (vs := [.slice z.x.A z.x.n z.x.c, .int .i64 z.x.r]) hB7 rfl (fun j u hj => by match j, hj with | 0, hj => exact hj | 1, hj => exact hj) ?_
    refine call (rsame_fn y.x.A z.x.A y.x.n y.x.c z.x.n z.x.c y.x.nd z.x.nd y.x.r z.x.r w7 ((hX.dg y (List.mem_of_getElem? hy)).ext hE07) ((hX'.dg z (List.mem_of_getElem? hz)).ext hE07)) ?_
    rintro _ w8 ⟨rfl, hE8⟩
    refine wif_f (by rw [decide_eq_true (y5.unique z5 (fun _ => rfl))]; rfl) ?_
    refine norm_i64_to ((s + 1 : Nat) : Int) (by show ((s : Nat) : Int) + 1 = _; omega) (by omega) ?_
    exact ⟨s + 1, rfl, ⟨((hE3.trans hE35).trans hE57).trans hE8, by omega⟩, by show n - (s + 1) < n - s; omega⟩
  · exact ⟨rfl, hE03⟩
end
end Go.Proofs.YtedopgkbajhanaaGreatDoor

namespace Go.Proofs.YtedopgkbajhanaaGreatDoor
section
open Go Go.RowKit

def gOf : Except Pl Gs → Gs
  | .ok g => g
  | .error _ => ⟨[], [], false⟩
def qOf : Except Pl Gs → Pl
  | .ok _ => ⟨0, 0, 0⟩
  | .error q => q
theorem read_form {k : Nat} {w w' : World} {r : Except Pl Gs} {u : Value} (h : ReadR k w r u w') : ∃ A c L, u = .tuple #[srcV (gOf r).tx A (gOf r).sg.length c, .agg (plC (qOf r)).toArray] ∧ Ext w w' ∧ (gOf r).sg.length ≤ 65536 ∧ SgIn w' k A (gOf r).sg.length c (gOf r).sg L := by
  cases r with
  | error q =>
    obtain ⟨hE, rfl⟩ := h
    exact ⟨none, 0, [], rfl, hE, Nat.zero_le _, ⟨Sl.nil _ _, rfl, rfl, fun j s x hs => by cases hs⟩⟩
  | ok g =>
    obtain ⟨hE, hg, A, c, L, rfl, hS⟩ := h
    exact ⟨A, c, L, rfl, hE, hg.sl, hS⟩
theorem str_form (s : ByteArray) : ∃ l : List Nat, s = strOf l ∧ ∀ x ∈ l, x < 256 := ⟨bytesOf s, (strOf_bytesOf s).symm, bytesOf_lt s⟩

theorem strs_cons {l : List Nat} {n : Nat} {t : List (List Nat)} (hg : t[n]? = some l) : t.take (n + 1) = t.take n ++ [l] := by rw [List.take_add_one, hg]; rfl
def textF : List Nat := [116, 101, 120, 116, 10]
def titleF (t : List Nat) : List Nat × List Nat := (t, textF)
set_option maxHeartbeats 800000 in
theorem names_law (NA : Option Addr) (nn nc : Nat) (nm : List (List Nat)) (TA : Option Addr) (tn tc : Nat) (ts : List (List Nat)) (root : ByteArray) (w : World) (h : Sl w 1 NA nn nc (strsV nm)) (hnb : NamesOk nm) (ht : Sl w 1 TA tn tc (strsV ts)) (htb : NamesOk ts) :
    Fn Tryz.prog 4 [.slice NA nn nc, .slice TA tn tc, .string root] w (fun v w' => v = .bool true ∧ Ext w w') := by
  have hnn : nm.length = nn := by have := h.len; rw [strsV_length] at this; omega
  have htn : ts.length = tn := by have := ht.len; rw [strsV_length] at this; omega
  obtain ⟨root, rfl, hr8⟩ := str_form root
  refine fn_of_exec (c := { c4 with cuts := [] }) gx_ok Tryz.func4 rfl rfl rfl ?_
  refine call (sanity7_fn w) ?_
  rintro _ w1 ⟨rfl, hE1⟩
  refine wif_d (fun c1 => ?_) (fun c1 => ?_)
  · exact ⟨rfl, hE1⟩
  refine wif_d (fun c2 => ?_) (fun c2 => ?_)
  · exact ⟨rfl, hE1⟩
  refine at_buildN gx_ok [] rfl rfl rfl rfl rfl ⟨⟩ rfl (fun cs h => by cases h) rfl (by decide) (by decide) ?_
  intro w2 hE2 hz2 hB2
  have hE02 := hE1.trans hE2
  refine loop gx_ok [9, 8] (fun s : Nat × Option Addr × Nat => [.int .i64 s.1, .slice s.2.1 s.1 s.2.2]) (fun s w' => Ext w1 w' ∧ s.1 ≤ tn ∧ Own w' w1.heap.size 38 2 s.2.1 s.1 s.2.2 (((ts.take s.1).map titleF).flatMap fileC) ∧ ∀ t ∈ ts.take s.1, t.length ≤ 20) (fun s _ => tn - s.1) (0, some ⟨w1.heap.size, 0, none⟩, 0) rfl ⟨hE2, Nat.zero_le _, Own.empty hB2 (Nat.le_refl _), fun t ht => by simp at ht⟩ ?_
  rintro ⟨i, O, oc⟩ w3 ⟨hE3, hi, hO, hall⟩
  simp only at hi hO hall
  have hE03 := hE1.trans hE3
  refine wif_d (fun c3 => ?_) (fun c3 => ?_)
  · have hin : i < tn := by simp only at c3; omega
    have hg : ts[i]? = some ts[i] := List.getElem?_eq_getElem (by omega)
    have hlb := htb _ (List.mem_of_getElem? hg)
    generalize ts[i] = l at *
    refine index_sl (ht.ext hE03) hin (fun ad u hA hu hcell => ?_)
    rw [strsV_get hg] at hu
    cases hu
    refine load hcell ?_
    have hls := strOf_size l
    refine wif_d (fun c4 => ?_) (fun c4 => ?_)
    · exact ⟨rfl, hE03⟩
    refine index_sl (ht.ext hE03) hin (fun ad u hA hu hcell => ?_)
    rw [strsV_get hg] at hu
    cases hu
    refine load hcell ?_
    refine at_buildN gx_ok [fileC (titleF l)] rfl rfl rfl rfl rfl ⟨rfl, rfl, ⟨⟩⟩ rfl (fun cs hh => by simp only [List.mem_singleton] at hh; subst hh; rfl) rfl (by decide) (by decide) ?_
    intro w4 hE4 hz4 hB4
    have hs4 : Sl w4 2 (some ⟨w3.heap.size, 0, none⟩) 1 1 (fileC (titleF l)) := Sl.own (sz := 2) (n := 1) hB4 (Nat.le_refl _) (by decide) (by simp [fileC])
    refine at_app (n := i) gx_ok rfl rfl rfl rfl rfl (by decide) rfl rfl ⟨_, rfl⟩ rfl rfl (hO.ext hE4) hs4 (by intro u hu; obtain ⟨s, rfl⟩ := file_str _ u hu; rfl) (by unfold maxLen; omega) (by show (i + 1) * 32 ≤ _; omega) (by have := hE3.size; have := hE4.size; omega) ?_
    intro A' c' w5 hm5 hown5 hmv5
    refine norm_i64_to ((i + 1 : Nat) : Int) (by show ((i : Nat) : Int) + 1 = _; omega) (by omega) ?_
    refine ⟨(i + 1, A', c'), rfl, ⟨hm5.ext (hE3.trans hE4) (fun k hk => (hO.rows k hk).1), by show i + 1 ≤ tn; omega, ?_, fun t htm => ?_⟩, by show tn - (i + 1) < tn - i; omega⟩
    · simp only
      rw [strs_cons hg, List.map_append, List.flatMap_append]
      simpa using hown5
    · simp only [strs_cons hg] at htm
      rcases List.mem_append.1 htm with htm | htm
      · exact hall t htm
      · rw [List.mem_singleton.1 htm]
        rw [hls] at c4; omega
  have hit : i = tn := by simp only at c3; omega
  subst hit
  rw [List.take_of_length_le (by omega)] at hO hall
  refine loop gx_ok [10] (fun s : Nat => [.int .i64 s]) (fun s w' => w3 = w' ∧ s ≤ nn) (fun s _ => nn - s) 0 rfl ⟨rfl, Nat.zero_le _⟩ ?_
  rintro s _ ⟨rfl, hs⟩
  refine wif_d (fun c5 => ?_) (fun c5 => ?_)
  · have hg : nm[s]? = some nm[s] := List.getElem?_eq_getElem (by omega)
    generalize nm[s] = l at *
    refine index_sl (h.ext hE03) (by omega) (fun ad u hA hu hcell => ?_)
    rw [strsV_get hg] at hu
    cases hu
    refine load hcell ?_
    refine wif_d (fun c4 => ?_) (fun c4 => ?_)
    · exact ⟨rfl, hE03⟩
    refine norm_i64_to ((s + 1 : Nat) : Int) (by show ((s : Nat) : Int) + 1 = _; omega) (by omega) ?_
    exact ⟨s + 1, rfl, ⟨rfl, by omega⟩, by show nn - (s + 1) < nn - s; omega⟩
  have hN := h.ext hE03
  have hEX := hE03
  have hF : SlS fileC 2 w3 O i oc (ts.map titleF) := ⟨hO.sl, by simp [htn]⟩
  have hnf : i ≤ 1000000000000 := by omega
  have hk : nm.length ≤ 12 := by omega
  have hfb : ∀ x ∈ ts.map titleF, FileB x := fun x hx => by
    obtain ⟨t, htm, rfl⟩ := List.mem_map.1 hx
    have := hall t htm
    exact ⟨(htb t htm).1, by simp [titleF, textF], by show t.length ≤ _; omega, by simp [titleF, textF]⟩
  refine call (sread_fn nm NA nn nc (ts.map titleF) O i oc root w3 hN hnb hk hF hfb hnf hr8) ?_
  intro u w5 hR5
  obtain ⟨A5, c5, L5, rfl, hE5, hl5, hS5⟩ := read_form hR5
  refine new (fun w6 hE6 hz6 hB6 => ?_)
  refine new (fun w7 hE7 hz7 hB7 => ?_)
  refine storeN_blk0 (hB6.ext hE7) rfl (sc rfl) (fun w8 hg8 _ hB8 => ?_)
  have hM8 : Mod (· = w5.heap.size) w7 w8 := Mod.of_grown hg8 rfl
  refine storeN_blk0 (hB7.mod hM8 (by omega)) rfl (sc rfl) (fun w9 hg9 _ hB9 => ?_)
  have hM9 : Mod (· = w6.heap.size) w8 w9 := Mod.of_grown hg9 rfl
  have hE59 : Ext w5 w9 := hM9.ext (hM8.ext (hE6.trans hE7) (fun i hi => by omega)) (fun i hi => by omega)
  have hE09 := hE5.trans hE59
  refine call (rread_fn nm NA nn nc (ts.map titleF) O i oc root w9 (hN.ext hE09) hnb hk (hF.ext hE09) hfb hnf hr8) ?_
  intro u w10 hR10
  obtain ⟨A10, c10, L10, rfl, hE10, hl10, hS10⟩ := read_form hR10
  refine new (fun w11 hE11 hz11 hB11 => ?_)
  refine new (fun w12 hE12 hz12 hB12 => ?_)
  refine storeN_blk0 (hB11.ext hE12) rfl (sc rfl) (fun w13 hg13 _ hB13 => ?_)
  have hM13 : Mod (· = w10.heap.size) w12 w13 := Mod.of_grown hg13 rfl
  refine storeN_blk0 (hB12.mod hM13 (by omega)) rfl (sc rfl) (fun w14 hg14 _ hB14 => ?_)
  have hM14 : Mod (· = w11.heap.size) w13 w14 := Mod.of_grown hg14 rfl
  have hE1014 : Ext w10 w14 := hM14.ext (hM13.ext (hE11.trans hE12) (fun i hi => by omega)) (fun i hi => by omega)
  have hE914 := hE10.trans hE1014
  refine loadN_blk0 (hB9.ext hE914) rfl ?_
  refine loadN_blk0 hB14 rfl ?_
  refine wif_t (by simp) ?_
  refine loadN_blk0 ((hB8.mod hM9 (by omega)).ext hE914) rfl ?_
  refine loadN_blk0 (hB13.mod hM14 (by omega)) rfl ?_
  refine call (rsource_same _ _ A5 A10 _ c5 c10 _ L5 L10 w14 (hS5.ext (hE59.trans hE914)) (hS10.ext hE1014) hl5) ?_
  rintro _ w15 ⟨rfl, hE15⟩
  refine wif_t rfl ?_
  exact ⟨rfl, (hEX.trans (hE09.trans hE914)).trans hE15⟩
end
end Go.Proofs.YtedopgkbajhanaaGreatDoor
