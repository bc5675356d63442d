/-
  source.reader.read: what holds at the head of each line.
  source.reader.read.
  Conditions: none.
-/
import Derived.Test.YtedopgkbajhanaaGreatDoorS2
namespace Go.Proofs.YtedopgkbajhanaaGreatDoor
section
open Go Go.RowKit

theorem scut2_fn (l : List Nat) (w : World) (hl : ∀ x ∈ l, x < 256) (hlen : l.length ≤ 1000000000000) :
    Fn Tryz.prog 73 [.string (strOf l), .string (strOf [32])] w (fun v w' => v = .tuple #[.string (strOf (cutH l)), .string (strOf (if 32 ∈ l then cutR l else [])), .bool (decide (32 ∈ l))] ∧ Ext w w') :=
  (scut_fn l w hl hlen).mono fun v w' h => by
    obtain ⟨h1, h2⟩ := h
    refine ⟨?_, h2⟩
    rw [h1]
    by_cases hm : 32 ∈ l
    · rw [if_pos hm, if_pos hm, decide_eq_true hm]
    · rw [if_neg hm, if_neg hm, decide_eq_false hm, cutH_no hm]

section
variable {nm : List (List Nat)} {fl d0 : Nat} {inc : List Nat → Nat → Nat → BF → Gs → Except Pl Gs} {s : List Nat} {ls : List (List Nat)} {ln at_ : Nat} {k : BF} {op : List Se} {g : Gs} {r : List Nat}
theorem rdL_ifd (h : dirOf s = .ifd r) : rdL nm fl d0 inc (s :: ls) ln at_ k op g = match setE nm r with
      | .error e => .error ⟨e, fl, ((ln + 1 : Nat) : Int)⟩
      | .ok d => if d0 + op.length = 64 then .error ⟨2, fl, ((ln + 1 : Nat) : Int)⟩ else rdL nm fl d0 inc ls (ln + 1) (at_ + s.length + 1) (bAnd k d) (⟨k, bSub k d, false, ln + 1⟩ :: op) { g with fr := true } := by
  rw [rdL.eq_def]; simp only [h]; rfl
theorem rdL_inc (h : dirOf s = .inc r) : rdL nm fl d0 inc (s :: ls) ln at_ k op g = match inc r (ln + 1) (d0 + op.length) k g with
      | .error p => .error p
      | .ok g' => rdL nm fl d0 inc ls (ln + 1) (at_ + s.length + 1) k op { g' with fr := true } := by
  rw [rdL.eq_def]; simp only [h]; rfl
theorem rdL_elif (h : dirOf s = .elif r) : rdL nm fl d0 inc (s :: ls) ln at_ k op g = match op with
      | [] => .error ⟨72, fl, ((ln + 1 : Nat) : Int)⟩
      | x :: op' => if x.ot then .error ⟨71, fl, ((ln + 1 : Nat) : Int)⟩ else match setE nm r with
        | .error e => .error ⟨e, fl, ((ln + 1 : Nat) : Int)⟩
        | .ok d => rdL nm fl d0 inc ls (ln + 1) (at_ + s.length + 1) (bAnd x.re d) ({ x with re := bSub x.re d } :: op') { g with fr := true } := by
  rw [rdL.eq_def]; simp only [h]; rfl
theorem rdL_els (h : dirOf s = .els) : rdL nm fl d0 inc (s :: ls) ln at_ k op g = match op with
      | [] => .error ⟨72, fl, ((ln + 1 : Nat) : Int)⟩
      | x :: op' => if x.ot then .error ⟨71, fl, ((ln + 1 : Nat) : Int)⟩ else rdL nm fl d0 inc ls (ln + 1) (at_ + s.length + 1) x.re ({ x with ot := true } :: op') { g with fr := true } := by
  rw [rdL.eq_def]; simp only [h]; rfl
theorem rdL_en (h : dirOf s = .en) : rdL nm fl d0 inc (s :: ls) ln at_ k op g = match op with
      | [] => .error ⟨72, fl, ((ln + 1 : Nat) : Int)⟩
      | x :: op' => rdL nm fl d0 inc ls (ln + 1) (at_ + s.length + 1) x.ou op' { g with fr := true } := by
  rw [rdL.eq_def]; simp only [h]; rfl
theorem rdL_txt (h : dirOf s = .txt) : rdL nm fl d0 inc (s :: ls) ln at_ k op g = match addG (s ++ [10]) fl at_ k g with
      | none => .error ⟨2, fl, ((ln + 1 : Nat) : Int)⟩
      | some g' => rdL nm fl d0 inc ls (ln + 1) (at_ + s.length + 1) k op g' := by
  rw [rdL.eq_def]; simp only [h]; rfl
end
theorem Own.take {w : World} {base e sz n c k : Nat} {A : Option Addr} {cs : List Value} (h : Own w base e sz A n c cs) (hk : k ≤ n) : Own w base e sz A k c (cs.take (k * sz)) := by
  have hr := h.row
  have hl := hr.1
  have hkn : k * sz ≤ n * sz := Nat.mul_le_mul_right _ hk
  refine ⟨⟨by rw [List.length_take]; omega, ?_⟩⟩
  rcases hr.2 with ⟨hv, hx⟩ | ⟨g, cap, cur, hv, hb, hg, hnc, hcm, hcs, htake⟩
  · cases hv
    obtain rfl : k = 0 := by omega
    exact .inl ⟨rfl, by simp⟩
  · cases hv
    refine .inr ⟨g, c, cur, rfl, hb, hg, by omega, hcm, hcs, ?_⟩
    have ht : cur.toList.take (n * sz) = cs := htake
    rw [← ht, List.take_take, Nat.min_eq_left hkn]
theorem incE_ok {ix : List Nat → Option Nat} {rd s : List Nat} {n : Nat} (h : incE ix rd s = .ok n) : n ∉ rd ∧ ∃ t, ix t = some n := by
  unfold incE at h
  split at h
  · cases h
  split at h
  · cases h
  · rename_i m hm
    split at h
    · cases h
    · rename_i hn; cases h; exact ⟨hn, _, hm⟩
/-- The state at the head of a line. -/
structure LS where
  k : DV
  o : BF
  z : List SeV
  m : RM
  g : Gs
  ln : Nat
  at_ : Nat
  ls : List (List Nat)
  A : Option Addr
  c : Nat
def seV (z : List SeV) : List Value := z.flatMap SeV.cells
theorem seV_len (z : List SeV) : (seV z).length = z.length * 6 := flat_length sev_len z
theorem seV_snoc (z : List SeV) (x : SeV) : seV (z ++ [x]) = seV z ++ x.cells := by simp [seV]
/-- What a file's reading writes. -/
def WrS (p : RP) (m : RM) (A : Option Addr) (bk : Nat) : Nat → Prop := fun i => RS p m i ∨ rowS A i ∨ i = bk
abbrev IncF := List Nat → Nat → Nat → BF → Gs → Except Pl Gs
structure FrI (w0 w : World) (base : Nat) (p : RP) (m : RM) (v : RV) (n bk : Nat) (text : List Nat) (inc : IncF) (res : Except Pl Gs) (s : LS) (w' : World) : Prop where
  rr : Rr w0 w' base p s.m ⟨v.d + s.z.length, n, s.ln, n :: v.rd, s.g⟩
  tt : s.m.T = fun i => m.T i ∨ rowS s.A i ∨ i = bk
  kb : Blk w' bk 42 s.k.cells
  kd : DgO w' (TS p s.m) p.nm.length s.k s.o
  ow : Own w' base seT 6 s.A s.z.length s.c (seV s.z)
  zx : ∀ z ∈ s.z, DgO w' (TS p s.m) p.nm.length z.x z.s.ou
  zy : ∀ z ∈ s.z, DgO w' (TS p s.m) p.nm.length z.y z.s.re
  dr : text.drop s.at_ = unl s.ls
  al : s.at_ + (unl s.ls).length = text.length
  li : Lines s.ls
  rs : rdL p.nm n v.d inc s.ls s.ln s.at_ s.o (s.z.reverse.map (·.s)) s.g = res
  mw : Mod (RS p m) w w'
  ma : Moved w m.OA s.m.OA
  mb : Moved w m.BA s.m.BA
  nw : ∀ i, rowS s.A i → w.heap.size ≤ i
  dl : v.d + s.z.length ≤ 64
  lb : s.ln + s.ls.length ≤ 1048576
section
variable {w0 w w' w'' : World} {base : Nat} {p : RP} {m : RM} {v : RV} {n bk : Nat} {text : List Nat} {inc : IncF} {res : Except Pl Gs} {s s' : LS}

theorem FrI.sub (h : FrI w0 w base p m v n bk text inc res s w') : ∀ i, WrS p s.m s.A bk i → TS p s.m i := fun i hi => by
  rcases hi with hi | hi | hi
  · exact .inl hi
  · exact .inr (by rw [h.tt]; exact .inr (.inl hi))
  · exact .inr (by rw [h.tt]; exact .inr (.inr hi))
/-- A set that stayed. -/
theorem FrI.kp (h : FrI w0 w base p m v n bk text inc res s w') (hm : Mod (WrS p s.m s.A bk) w' w'') (tt : s'.m.T = fun i => m.T i ∨ rowS s'.A i ∨ i = bk) (hA : Moved w' s.A s'.A) (hO : Moved w' s.m.OA s'.m.OA) (hB : Moved w' s.m.BA s'.m.BA) {x : DV} {o : BF} (hx : DgO w' (TS p s.m) p.nm.length x o) : DgO w'' (TS p s'.m) p.nm.length x o :=
  hx.step (hm.mono (fun i hi => .inl (h.sub i hi))) (fun i hi => by
    rcases hi with hi | hi
    · rcases RS.moved (p := p) hO hB i hi with h1 | h1
      · exact .inl (.inl h1)
      · exact .inr h1
    · rw [tt] at hi
      rcases hi with hi | hi | hi
      · exact .inl (.inr (by rw [h.tt]; exact .inl hi))
      · rcases hA.rows i hi with h1 | h1
        · exact .inl (.inr (by rw [h.tt]; exact .inr (.inl h1)))
        · exact .inr h1
      · exact .inl (.inr (by rw [h.tt]; exact .inr (.inr hi))))
theorem FrI.mw' (h : FrI w0 w base p m v n bk text inc res s w') (hbk : w.heap.size ≤ bk) (hm : Mod (WrS p s.m s.A bk) w' w'') : Mod (RS p m) w w'' :=
  h.mw.trans hm (fun i hi => by
    rcases hi with hi | hi | hi
    · exact RS.moved (p := p) h.ma h.mb i hi
    · exact .inr (h.nw i hi)
    · exact .inr (by omega))
theorem FrI.go (h : FrI w0 w base p m v n bk text inc res s w') (hbk : w.heap.size ≤ bk) (hm : Mod (WrS p s.m s.A bk) w' w'') (rr : Rr w0 w'' base p s'.m ⟨v.d + s'.z.length, n, s'.ln, n :: v.rd, s'.g⟩) (tt : s'.m.T = fun i => m.T i ∨ rowS s'.A i ∨ i = bk) (hA : Moved w' s.A s'.A) (hO : Moved w' s.m.OA s'.m.OA) (hB : Moved w' s.m.BA s'.m.BA)
    (kb : Blk w'' bk 42 s'.k.cells) (kd : DgO w'' (TS p s'.m) p.nm.length s'.k s'.o) (ow : Own w'' base seT 6 s'.A s'.z.length s'.c (seV s'.z)) (zx : ∀ z ∈ s'.z, DgO w'' (TS p s'.m) p.nm.length z.x z.s.ou) (zy : ∀ z ∈ s'.z, DgO w'' (TS p s'.m) p.nm.length z.y z.s.re)
    {l : List Nat} (hls : s.ls = l :: s'.ls) (hat : s'.at_ = s.at_ + l.length + 1) (rs : rdL p.nm n v.d inc s'.ls s'.ln s'.at_ s'.o (s'.z.reverse.map (·.s)) s'.g = res) (dl : v.d + s'.z.length ≤ 64) (hln : s'.ln = s.ln + 1) : FrI w0 w base p m v n bk text inc res s' w'' := by
  have hdr := h.dr
  have hal := h.al
  have hlb := h.lb
  have hli := h.li
  rw [hls, unl_cons] at hdr hal
  rw [hls] at hlb hli
  have hz := h.mw.size
  refine ⟨rr, tt, kb, kd, ow, zx, zy, ?_, ?_, fun t ht => hli t (by simp [ht]), rs, h.mw' hbk hm, h.ma.trans hO hz, h.mb.trans hB hz, fun i hi => ?_, dl, ?_⟩
  · rw [hat, show s.at_ + l.length + 1 = s.at_ + (l.length + 1) by omega, ← List.drop_drop, hdr, ← List.drop_drop, List.drop_left' rfl]; rfl
  · rw [hat]; simp only [List.length_append, List.length_cons] at hal; omega
  · rcases hA.rows i hi with h1 | h1
    · exact h.nw i h1
    · omega
  · rw [hln]; simp only [List.length_cons] at hlb; omega
theorem FrI.line (h : FrI w0 w base p m v n bk text inc res s w') (ht : text.length ≤ 1048576) {l : List Nat} {ls : List (List Nat)} (hls : s.ls = l :: ls) : 10 ∉ l ∧ s.at_ + l.length + 1 ≤ text.length ∧ text.drop s.at_ = l ++ 10 :: unl ls ∧ (text.drop s.at_).take l.length = l ∧ (text.drop s.at_).take (l.length + 1) = l ++ [10] := by
  have hdr := h.dr
  have hal := h.al
  have hli := h.li
  have _ := ht
  rw [hls, unl_cons] at hdr hal
  rw [hls] at hli
  simp only [List.length_append, List.length_cons] at hal
  refine ⟨hli l (by simp), by omega, hdr, by rw [hdr]; exact List.take_left' rfl, ?_⟩
  rw [hdr, show l ++ 10 :: unl ls = (l ++ [10]) ++ unl ls by simp]
  exact List.take_left' (by simp)
/-- Fields of the reader and the files that are being read are written. -/
theorem Rr.putq (h : Rr w0 w base p m v) {v' : RV} (hm : Mod (fun i => i = p.r ∨ i = p.q) w w') (hB : Blk w' p.r 88 (rdC p m v')) (h1 : v'.g.tx = v.g.tx) (h2 : v'.g.sg = v.g.sg) (h4 : v'.g.fr = false → v'.g.sg ≠ [] ∨ v'.rd = [])
    (hq : ∃ mp, MapAt intK w' p.q mp ∧ (mp.map (·.1)).Nodup ∧ ∀ n : Nat, assoc (n : Int) mp = if n ∈ v'.rd then some (.bool true) else none) : Rr w0 w' base p m v' := by
  have hE := hm.ext h.e0 (fun i hi => by rcases hi with rfl | rfl; exact h.lor; exact h.loq)
  have hb1 := h.rb; have hb2 := h.qb
  refine ⟨hE, h.lor, h.loq, h.rb, h.qb, h.ne, Nat.le_trans h.top hm.size, h.pa, hB, ?_, ?_, by rw [h2]; exact h.len, fun j s x hs hx => ?_, hq, by rw [h1]; exact h.tl, by rw [h2]; exact h.sl, by rw [h1]; exact h.b8, h4, fun i hi => Nat.lt_of_lt_of_le (h.tt i hi) hm.size⟩
  · rw [h1]; exact h.txt.mod hm (fun i hi e => by have := (h.txt.rows i hi).1; rcases e with rfl | rfl <;> omega)
  · rw [h2]; exact h.out.mod hm (fun i hi e => by have := (h.out.rows i hi).1; rcases e with rfl | rfl <;> omega)
  · rw [h2] at hs; exact (h.dgs j s x hs hx).keep hm (fun i hi => .inl (.inl (hi.elim .inl (fun e => .inr (.inl e)))))
end
end

section
open Go Go.RowKit

/-- What an include reads. -/
def incF (p : RP) (f n : Nat) (rd : List Nat) : IncF := fun r ln d k g => match incE (ixN (p.fs.map (·.1))) (n :: rd) r with
  | .error e => .error ⟨e, n, ln⟩
  | .ok m => if d = 64 then .error ⟨2, n, ln⟩ else rdF p.nm p.fs f (n :: rd) (d + 1) m k g
def ReadC (w0 : World) (base : Nat) (p : RP) (f : Nat) : Prop := ∀ (m : RM) (v : RV) (n : Nat) (k : DV) (o : BF) (w : World), Rr w0 w base p m v → DgO w (TS p m) p.nm.length k o → n < p.fs.length → n ∉ v.rd → v.d ≤ 64 → 65 ≤ f + v.d →
  FnP Tryz.prog 46 [.pointer (some ⟨p.r, 0, none⟩), .int .i64 n, dgV k.A k.n k.c k.r] w (fun _ w' => ∃ g', rdF p.nm p.fs f v.rd v.d n o v.g = .ok g' ∧ GTo w0 w base p m { v with g := g' } w') (fun ch w' => ∃ q, rdF p.nm p.fs f v.rd v.d n o v.g = .error q ∧ ch = failPan q.e q.f q.l ∧ Mod (RS p m) w w')

set_option maxRecDepth 2000 in
set_option maxHeartbeats 1600000 in
theorem read_fn (w0 : World) (base : Nat) (p : RP) (hP : RPok w0 p) (hb0 : w0.heap.size ≤ base) : ∀ f, ReadC w0 base p f
  | 0 => fun m v n k o w h hk hn hr hd hf => absurd hf (by omega)
  | f + 1 => fun m v n k o w h hk hn hr hd hf => by
    have ih := read_fn w0 base p hP hb0 f
    have hx : p.fs[n]? = some p.fs[n] := List.getElem?_eq_getElem hn
    have hfok := hP.flb _ (List.getElem_mem hn)
    have hunf : rdF p.nm p.fs (f + 1) v.rd v.d n o v.g = rdL p.nm n v.d (incF p f n v.rd) (linesOf (p.fs[n].2)) 0 0 o [] { v.g with fr := true } := by
      rw [rdF, hx]; rfl
    generalize hres : rdF p.nm p.fs (f + 1) v.rd v.d n o v.g = res at *
    generalize htext : p.fs[n].2 = text at *
    have ht8 : ∀ x ∈ text, x < 256 := by rw [← htext]; exact hfok.t8
    have htl : text.length ≤ 1048576 := by rw [← htext]; exact hfok.tl
    have htok : unl (linesOf text) = text := unl_linesOf (by rw [← htext]; exact hfok.ok)
    have hfs := hP.fls.2
    refine fnP_of_exec (c := { c46 with cuts := [] }) gx_ok Tryz.func46 rfl rfl rfl ?_
    refine new (fun w1 hE1 hz1 hB1 => ?_)
    let m1 : RM := { m with T := fun i => m.T i ∨ rowS (none : Option Addr) i ∨ i = w.heap.size }
    have htt := h.tt
    have h1 : Rr w0 w1 base p m1 v := h.modT (U := fun _ => False) (Mod.of_ext _ hE1) (fun i hi => hi.elim) (fun i hi => hi.elim) (fun i hi => hi.elim) (fun i hi => by
        rcases hi with hi | hi | hi
        · exact .inl hi
        · obtain ⟨_, e, _⟩ := hi; cases e
        · exact .inr (by omega)) (fun i hi => by
        rcases hi with hi | hi | hi
        · have := htt i hi; omega
        · obtain ⟨_, e, _⟩ := hi; cases e
        · omega)
    refine draw_plan gx_ok (Ext w1) 10 [(true, 0), (true, 1), (true, 2), (true, 3), (true, 4), (true, 5), (true, 6), (true, 7), (true, 8), (true, 9)] (by kernel_rfl) (Ext.drew w1) ?_
    refine qload (v := .int .i64 v.fl) (fun w' hw' => by rw [(h1.blk.ext hw').cell]; rfl) ?_
    refine qload (v := .int .i64 v.ln) (fun w' hw' => by rw [(h1.blk.ext hw').cell]; rfl) ?_
    have hd1 := Ext.drew w1
    have h2 := h1.ext hd1
    have hB2 := hB1.ext hd1
    generalize w1.drew = w2 at *
    obtain ⟨mp, hmp, hnd, hlk⟩ := h2.rdm
    refine load_blk h2.blk rfl ?_
    refine at_mapUpdate (kv := intK) (a := (n : Int)) gx_ok rfl rfl rfl rfl rfl (KeyV.int .i64) rfl rfl rfl hmp (fun w3 hg3 hz3 hm3 => ?_)
    have hM3 : Mod (· = p.q) w2 w3 := Mod.of_grown hg3 rfl
    have hmd3 : ((assocSet (n : Int) (Value.bool true) mp).map (·.1)).Nodup := (assocSet_keys _ _ _ hnd).1
    have hlk3 : ∀ j : Nat, assoc (j : Int) (assocSet (n : Int) (Value.bool true) mp) = if j ∈ n :: v.rd then some (.bool true) else none := fun j => by
      rw [assoc_set]
      by_cases hj : j = n
      · subst hj; simp
      · rw [if_neg (fun e => hj (by omega)), hlk j]
        simp [hj]
    have hbr := h2.blk.mod hM3 h2.ne
    refine store_mod hbr (show 9 < 11 by decide) (fun w4 hm4 hB4 => ?_)
    refine store_mod hB4 (show 10 < 11 by decide) (fun w5 hm5 hB5 => ?_)
    refine store_mod hB5 (show 8 < 11 by decide) (fun w6 hm6 hB6 => ?_)
    have hM36 : Mod (· = p.r) w3 w6 := (hm4.trans hm5 (fun i hi => .inl hi)).trans hm6 (fun i hi => .inl hi)
    have hM26 : Mod (fun i => i = p.r ∨ i = p.q) w2 w6 := (hM3.mono (S' := fun i => i = p.r ∨ i = p.q) (fun i hi => .inl (.inr hi))).trans hM36 (fun i hi => .inl (.inl hi))
    have h6 : Rr w0 w6 base p m1 ⟨v.d, n, 0, n :: v.rd, { v.g with fr := true }⟩ := h2.putq hM26 hB6 rfl rfl (fun e => by cases e) ⟨_, hm3.mod hM36 (fun e => h2.ne e.symm), hmd3, hlk3⟩
    have hbk : ¬ (w.heap.size = p.r ∨ w.heap.size = p.q) := fun e => by have := h.rb; have := h.qb; have := h.top; rcases e with e | e <;> omega
    have hB6k := hB2.mod hM26 hbk
    have hE06 : Mod (RS p m) w w6 := ((Mod.of_ext (RS p m) hE1).trans (Mod.of_ext (RS p m) hd1) (fun i hi => .inl hi)).trans (hM26.mono (S' := RS p m) (fun i hi => .inl (hi.elim .inl (fun e => .inr (.inl e))))) (fun i hi => .inl hi)
    refine load_blk hB6 rfl ?_
    refine index_sls file_len (hP.fls.ext h6.e0) rfl (by omega) (fun pp x hxx hc => ?_)
    obtain rfl : p.fs[n] = x := Option.some.inj (hx.symm.trans hxx)
    refine load (hc 1 _ rfl) ?_
    rw [htext]
    have hk1 : DgO w1 (TS p m1) p.nm.length k o := hk.step (Mod.of_ext _ hE1) (fun i hi => by
      rcases hi with hi | hi | hi | hi
      · exact .inl (.inl hi)
      · exact .inl (.inr hi)
      · obtain ⟨_, e, _⟩ := hi; cases e
      · exact .inr (by omega))
    have hk6 : DgO w6 (TS p m1) p.nm.length k o := (hk1.ext hd1).keep hM26 (fun i hi => .inl (.inl (hi.elim .inl (fun e => .inr (.inl e)))))
    have hll : (linesOf text).length ≤ text.length := by have := unl_le (linesOf text); rw [htok] at this; exact this
    refine loop gx_ok [8, 10] (fun s : LS => [.slice s.A s.z.length s.c, .int .i64 s.at_]) (fun s w' => FrI w0 w base p m v n w.heap.size text (incF p f n v.rd) res s w') (fun s _ => s.ls.length) ⟨k, o, [], m1, { v.g with fr := true }, 0, 0, linesOf text, none, 0⟩ rfl
      ⟨h6, rfl, hB6k, hk6, Own.nil _ _ _ _, (fun z hz => by cases hz), (fun z hz => by cases hz), (by rw [htok]; rfl), (by rw [htok]; simp), linesOf_lines text, hunf.symm, hE06, Moved.refl _ _, Moved.refl _ _, (fun i hi => by obtain ⟨_, e, _⟩ := hi; cases e), hd, (by show 0 + (linesOf text).length ≤ _; omega)⟩ ?_
    rintro s w7 hI
    have h7 := hI.rr
    have hal := hI.al
    refine wif_d (fun c1 => ?_) (fun c1 => ?_)
    rotate_left
    · have hls : s.ls = [] := by
        have hs := strOf_size text
        have := unl_le s.ls
        exact List.eq_nil_of_length_eq_zero (by omega)
      have h7z := hI.rr
      have hrs := hI.rs
      rw [hls] at hrs
      refine wif_d (fun hz => ?_) (fun hz => ?_)
      · obtain ⟨z', x, hzz⟩ : ∃ z' x, s.z = z' ++ [x] := by
          rcases List.eq_nil_or_concat s.z with h0 | ⟨z', x, h0⟩
          · rw [h0] at hz; exact absurd hz (by decide)
          · exact ⟨z', x, by rw [h0]; simp⟩
        have hzl : s.z.length = z'.length + 1 := by rw [hzz]; simp
        have hrev : s.z.reverse.map (·.s) = x.s :: z'.reverse.map (·.s) := by rw [hzz]; simp
        obtain ⟨oa, hoa, _⟩ := hI.ow.sl.at_ (by omega : 0 < s.z.length)
        have ho7 : Own w7 base seT 6 (some oa) s.z.length s.c (seV z' ++ x.cells) := by rw [← hoa, ← seV_snoc, ← hzz]; exact hI.ow
        have hdl := hI.dl
        refine norm_i64_to ((z'.length : Nat) : Int) (by omega) (by omega) ?_
        rw [hoa]
        refine index_n (j := z'.length) (by omega) ?_
        rw [show z'.length * 6 = (seV z').length from (seV_len z').symm]
        refine load_own ho7 (by omega) (pre_get (i := 5) (u := .int .i64 x.s.ln) rfl) ?_
        refine store_mod h7.blk (show 10 < 11 by decide) (fun w8 hm8 hB8 => ?_)
        have h8 : Rr w0 w8 base p s.m ⟨v.d + s.z.length, n, x.s.ln, n :: v.rd, s.g⟩ := h7.put hm8 hB8 rfl rfl rfl h7.nf
        refine callP (fail_fn 72 w8 h8) (fun _ _ hf => hf.elim) ?_
        rintro ch w9 ⟨rfl, hE9⟩
        refine ⟨⟨72, n, x.s.ln⟩, ?_, rfl, hI.mw' (Nat.le_refl _) ((hm8.mono (S' := WrS p s.m s.A w.heap.size) (fun i hi => .inl (.inl (.inl hi)))).trans (Mod.of_ext _ hE9) (fun i hi => .inl hi))⟩
        rw [← hrs, rdL.eq_def, hrev]
      · have hz0 : s.z = [] := List.eq_nil_of_length_eq_zero (by omega)
        obtain ⟨mq, k1, k2, k3⟩ := h7.rdm
        refine load_blk h7.blk rfl ?_
        refine at_delete (kv := intK) (a := (n : Int)) gx_ok rfl rfl rfl rfl rfl (KeyV.int .i64) rfl rfl k1 (fun w8 hM8 hz8 hm8 => ?_)
        refine store_mod (h7.blk.mod hM8 h7.ne) (show 9 < 11 by decide) (fun w9 hm9 hB9 => ?_)
        refine store_mod hB9 (show 10 < 11 by decide) (fun w10 hm10 hB10 => ?_)
        refine store_mod hB10 (show 8 < 11 by decide) (fun w11 hm11 hB11 => ?_)
        have hM811 : Mod (· = p.r) w8 w11 := (hm9.trans hm10 (fun i hi => .inl hi)).trans hm11 (fun i hi => .inl hi)
        have hM711 : Mod (fun i => i = p.r ∨ i = p.q) w7 w11 := (hM8.mono (S' := fun i => i = p.r ∨ i = p.q) (fun i hi => .inl (.inr hi))).trans hM811 (fun i hi => .inl (.inl hi))
        have hd0 : v.d + s.z.length = v.d := by rw [hz0]; rfl
        rw [hd0] at hB11
        have h11 : Rr w0 w11 base p s.m ⟨v.d, v.fl, v.ln, v.rd, { s.g with fr := true }⟩ := h7.putq hM711 hB11 rfl rfl (fun e => by cases e) ⟨_, hm8.mod hM811 (fun e => h7.ne e.symm), (k2.sublist ((assocDel_sub (n : Int) mq).map _)), fun j => by
          rw [assoc_del _ _ _ k2]
          by_cases hj : j = n
          · subst hj; rw [if_pos rfl, if_neg hr]
          · rw [if_neg (fun e => hj (by omega)), k3 j]
            simp [hj]⟩
        have h12 : Rr w0 w11 base p { s.m with T := m.T } ⟨v.d, v.fl, v.ln, v.rd, { s.g with fr := true }⟩ := h11.modT (U := fun _ => False) (Mod.refl _ _) (fun i hi => hi.elim) (fun i hi => hi.elim) (fun i hi => hi.elim) (fun i hi => .inl (by rw [hI.tt]; exact .inl hi)) (fun i hi => by
          have := htt i hi; have := hI.mw.size; have := hM711.size; omega)
        refine ⟨{ s.g with fr := true }, ?_, { s.m with T := m.T }, rfl, h12, hI.mw' (Nat.le_refl _) (hM711.mono (fun i hi => .inl (.inl (hi.elim .inl (fun e => .inr (.inl e)))))), hI.ma, hI.mb⟩
        rw [← hrs, rdL.eq_def, hz0]
        rfl
    · cases hls : s.ls with
      | nil =>
        have hs := strOf_size text
        rw [hls] at hal
        have : (unl ([] : List (List Nat))).length = 0 := rfl
        omega
      | cons l ls =>
        obtain ⟨l1, l2, l3, l4, l5⟩ := hI.line htl hls
        have hsz := strOf_size text
        have hl8 : ∀ x ∈ l, x < 256 := fun x hx => ht8 x (List.mem_of_mem_drop (by rw [l3]; simp [hx] : x ∈ text.drop s.at_))
        have hlb := hI.lb
        refine need_to (v' := .string (strOf (text.drop s.at_))) ⟨by omega, by rw [hsz]; omega, by rw [hsz]; omega⟩ ?_ ?_
        · rw [strOf_extract, hsz]
          simp only [Int.toNat_natCast]
          rw [List.take_of_length_le (Nat.le_refl _)]
        refine call (indexbyte_fn (text.drop s.at_) 10 w7 (fun x hx => ht8 x (List.mem_of_mem_drop hx)) (by decide)) ?_
        rintro _ _ ⟨rfl, rfl⟩
        have hix : ixB 10 (text.drop s.at_) = (l.length : Nat) := by
          unfold ixB
          rw [if_pos (by rw [l3]; simp), l3, List.takeWhile_append_of_pos (fun x hx => by simpa using fun e => l1 (by rw [← e]; exact hx))]
          simp
        rw [hix]
        refine norm_i64_to ((s.at_ + l.length : Nat) : Int) (by show ((s.at_ : Nat) : Int) + _ = _; omega) (by omega) ?_
        refine norm_i64_to ((s.at_ + l.length + 1 : Nat) : Int) (by omega) (by omega) ?_
        refine norm_i64_to ((s.at_ + l.length : Nat) : Int) (by omega) (by omega) ?_
        refine need_to (v' := .string (strOf l)) ⟨by omega, by omega, by rw [hsz]; omega⟩ ?_ ?_
        · rw [strOf_extract]
          simp only [Int.toNat_natCast]
          rw [List.drop_take, show s.at_ + l.length - s.at_ = l.length by omega, l4]
        refine load_blk h7.blk rfl ?_
        refine norm_i64_to ((s.ln + 1 : Nat) : Int) (by show ((s.ln : Nat) : Int) + 1 = _; omega) (by omega) ?_
        refine store_mod h7.blk (show 10 < 11 by decide) (fun w8 hm8 hB8 => ?_)
        have h8 : Rr w0 w8 base p s.m ⟨v.d + s.z.length, n, s.ln + 1, n :: v.rd, s.g⟩ := h7.put hm8 hB8 rfl rfl rfl h7.nf
        refine call (scut2_fn l w8 hl8 (by omega)) ?_
        rintro _ w9 ⟨rfl, hE9⟩
        have h9 := h8.ext hE9
        have hbkk : w.heap.size ≤ w.heap.size := Nat.le_refl _
        have hm79 : Mod (WrS p s.m s.A w.heap.size) w7 w9 := (hm8.mono (S' := WrS p s.m s.A w.heap.size) (fun i hi => .inl (.inl (.inl hi)))).trans (Mod.of_ext _ hE9) (fun i hi => .inl hi)
        have npr : ¬ w.heap.size = p.r := fun e => hbk (.inl e)
        have hkb9 : Blk w9 w.heap.size 42 s.k.cells := (hI.kb.mod hm8 npr).ext hE9
        have kp9 : ∀ {x : DV} {o : BF}, DgO w7 (TS p s.m) p.nm.length x o → DgO w9 (TS p s.m) p.nm.length x o := fun hx => hI.kp hm79 hI.tt (Moved.refl _ _) (Moved.refl _ _) (Moved.refl _ _) hx
        have hkd9 := kp9 hI.kd
        have nopr : ∀ i, rowS s.A i → ¬ i = p.r := fun i hi e => by have := (hI.ow.rows i hi).1; have := h7.rb; omega
        have how9 : Own w9 base seT 6 s.A s.z.length s.c (seV s.z) := (hI.ow.mod hm8 nopr).ext hE9
        have hrs := hI.rs
        rw [hls] at hrs
        have hsp : (((strOf (cutH l)).size : Int) < (strOf l).size) ↔ 32 ∈ l := by rw [strOf_size, strOf_size, ← cutH_lt]; omega
        have hdl := hI.dl
        have hll2 : l.length ≤ 1048576 := by omega
        have hzz9 := hm79.size
        have hzw7 := hI.mw.size
        have pan : ∀ (q : Pl) (ch : List PanicEntry) (w' : World), res = .error q → ch = failPan q.e q.f q.l → Mod (WrS p s.m s.A w.heap.size) w9 w' → ∃ q, res = .error q ∧ ch = failPan q.e q.f q.l ∧ Mod (RS p m) w w' := fun q ch w' h1 h2 h3 => ⟨q, h1, h2, hI.mw' hbkk (hm79.trans h3 (fun i hi => .inl hi))⟩
        have hloA : ∀ i, rowS s.A i → w0.heap.size ≤ i := fun i hi => by have := (how9.rows i hi).1; omega
        have hoffA : ∀ i, rowS s.A i → ¬ RS p s.m i := fun i hi hr => by
          have hb := (how9.rows i hi).1
          have := h9.rb; have := h9.qb
          rcases hr with rfl | rfl | hr | hr
          · omega
          · omega
          · exact how9.apart h9.out (by decide) hi hr
          · exact how9.apart h9.txt (by decide) hi hr
        have htA : ∀ i, rowS s.A i → s.m.T i := fun i hi => by rw [hI.tt]; exact .inr (.inl hi)
        have nbk : ¬ RS p s.m w.heap.size := fun hr => by
          have := h.rb; have := h.qb; have := h.top
          rcases hr with e | e | hr | hr
          · omega
          · omega
          · exact hkb9.apart h9.out (by decide) hr
          · exact hkb9.apart h9.txt (by decide) hr
        have hhA : ∀ i, rowS s.A i → i < w9.heap.size := fun i hi => (how9.rows i hi).2
        have nbA : ¬ rowS s.A w.heap.size := hkb9.apart how9 (by decide)
        have nprA : ¬ rowS s.A p.r := fun hi => nopr _ hi rfl
        by_cases P1 : cutH l = kIf ∧ 32 ∈ l
        · have hdir := dir_if P1.1 P1.2
          rw [if_pos P1.2]
          have hr8 : ∀ x ∈ cutR l, x < 256 := fun x hx => hl8 x (List.mem_of_mem_drop hx)
          have hrl : (cutR l).length ≤ 1000000000000 := by unfold cutR; rw [List.length_drop]; omega
          refine wif_dt (by rw [P1.1]; rfl) ?_
          refine wif_dt (hsp.2 P1.2) ?_
          refine callP (set_fn (cutR l) w9 hP h9 hr8 hrl) ?_ ?_
          rotate_left
          · rintro ch w10 ⟨e, he, rfl, hE10⟩
            refine pan ⟨e, n, ((s.ln + 1 : Nat) : Int)⟩ _ w10 ?_ rfl (Mod.of_ext _ hE10)
            rw [← hrs, rdL_ifd hdir, he]
          rintro _ w10 ⟨d, he, t, rfl, hE10, ht10, hts, htr⟩
          refine new (fun w11 hE11 hz11 hB11 => ?_)
          refine storeN_blk0 hB11 rfl (sc rfl) (fun w12 hg12 _ hB12 => ?_)
          have hE1012 : Ext w10 w12 := newBox hE11 hB11 hg12
          have hE912 := hE10.trans hE1012
          have h12 := h9.ext hE912
          have hz912 := hE912.size
          have hz910 := hE10.size
          refine callP (deeper_fn w12 h12 hdl) ?_ ?_
          rotate_left
          · rintro ch w13 ⟨e64, rfl, hE13⟩
            refine pan ⟨2, n, ((s.ln + 1 : Nat) : Int)⟩ _ w13 ?_ rfl (Mod.of_ext _ (hE912.trans hE13))
            have e64 : v.d + (s.z.reverse.map (·.s)).length = 64 := by simpa using e64
            rw [← hrs, rdL_ifd hdir, he]
            simp only [if_pos e64]
          rintro _ w13 ⟨n64, h13, hm13⟩
          have n64 : ¬ v.d + s.z.length = 64 := n64
          have hkb13 := (hkb9.ext hE912).mod hm13 npr
          have n10r : ¬ w10.heap.size = p.r := fun e => by have := h9.rb; have := h9.top; omega
          have hB1213 := hB12.mod hm13 n10r
          refine loadN_blk0 hkb13 rfl ?_
          refine loadN_blk0 hB1213 rfl ?_
          have hkd13 := (hkd9.ext hE912).keep hm13 (fun i hi => .inl (.inl (.inl hi)))
          have ht13 : SB w13 t.A t.n t.c t.nd := SB.mod (ht10.ext hE1012) hm13 (fun i hi e => by have := htr i hi; have := h9.rb; have := h9.top; omega)
          refine call (split_fn p.nm.length hP.nmk s.k t s.o d w13 hkd13.sb hkd13.st ht13 hts) ?_
          rintro _ w14 ⟨a, b, rfl, hE14, ha14, has, har, hb14, hbs, hbr⟩
          refine new (fun w15 hE15 hz15 hB15 => ?_)
          refine new (fun w16 hE16 hz16 hB16 => ?_)
          have hE1416 := hE15.trans hE16
          refine storeN_blk0 (hB15.ext hE16) rfl (sc rfl) (fun w17 hg17 _ hB17 => ?_)
          have hM17 : Mod (· = w14.heap.size) w16 w17 := Mod.of_grown hg17 rfl
          have hE1417 : Ext w14 w17 := hM17.ext hE1416 (fun i hi => by omega)
          refine storeN_blk0 (hB16.mod hM17 (by show ¬ w15.heap.size = w14.heap.size; omega)) rfl (sc rfl) (fun w18 hg18 _ hB18 => ?_)
          have hM18 : Mod (· = w15.heap.size) w17 w18 := Mod.of_grown hg18 rfl
          have hE1418 : Ext w14 w18 := hM18.ext hE1417 (fun i hi => by omega)
          have hB1718 := hB17.mod hM18 (by show ¬ w14.heap.size = w15.heap.size; omega)
          have hE1318 := hE14.trans hE1418
          have h18 := h13.ext hE1318
          have hkb18 := hkb13.ext hE1318
          have hkd18 := hkd13.ext hE1318
          have how13 := (how9.ext hE912).mod hm13 nopr
          have how18 := how13.ext hE1318
          have hd := Ext.drew w18
          have hz1318 := hE1318.size
          have hz1213 := hm13.size
          have hz1314 := hE14.size
          have hz1416 := hE1416.size
          have n15A : ¬ rowS s.A w15.heap.size := fun hi => by have := hhA _ hi; omega
          refine draw_plan gx_ok (Mod (rowS s.A) w18) 11 [(true, 0), (true, 1), (true, 2), (true, 3), (true, 4), (true, 5), (true, 6), (true, 7), (false, 8), (false, 9), (true, 10)] (by kernel_rfl) (Mod.of_ext _ hd) ?_
          refine qloadN (vs := s.k.cells) rfl (fun w' hw' j u hj => by rw [(hkb18.mod hw' nbA).cell]; exact hj) ?_
          refine qloadN (vs := b.cells) rfl (fun w' hw' j u hj => by rw [(hB18.mod hw' n15A).cell]; exact hj) ?_
          refine qload (v := .int .i64 ((s.ln + 1 : Nat) : Int)) (fun w' hw' => by rw [(h18.blk.mod hw' nprA).cell]; rfl) ?_
          let zn : SeV := ⟨⟨s.o, bSub s.o d, false, s.ln + 1⟩, s.k, b⟩
          refine at_buildN gx_ok [zn.cells] rfl rfl rfl rfl rfl ⟨rfl, rfl, ⟨⟩⟩ rfl (fun cs hh => by simp only [List.mem_singleton] at hh; subst hh; rfl) rfl (by decide) (by decide) ?_
          intro w19 hE19 hz19 hB19
          have hE1819 := hd.trans hE19
          refine ⟨Mod.of_ext _ hE1819, ?_⟩
          have hs19 : Sl w19 6 (some ⟨w18.drew.heap.size, 0, none⟩) 1 1 zn.cells := Sl.own (sz := 6) (n := 1) hB19 (Nat.le_refl _) (by decide) (by simp [SeV.cells])
          refine at_app gx_ok rfl rfl rfl rfl rfl (by decide) rfl rfl ⟨_, rfl⟩ rfl rfl (how18.ext hE1819) hs19 (sev_scalar zn) (by unfold maxLen; omega) (by show (s.z.length + 1) * 80 ≤ _; omega) (h18.ext hE1819).top ?_
          intro A' c' w20 hm20 hown20 hmv20
          have hm1820 : Mod (rowS s.A) w18 w20 := (Mod.of_ext (rowS s.A) hE1819).trans hm20 (fun i hi => .inl hi)
          refine ⟨hm1820, ?_⟩
          have n14A : ¬ rowS s.A w14.heap.size := fun hi => by have := hhA _ hi; omega
          refine loadN_blk0 (hB1718.mod hm1820 n14A) rfl ?_
          refine storeN_blk0 (hkb18.mod hm1820 nbA) rfl (sc rfl) (fun w21 hg21 _ hB21 => ?_)
          have hM21 : Mod (· = w.heap.size) w20 w21 := Mod.of_grown hg21 rfl
          have hM1821 : Mod (WrS p s.m s.A w.heap.size) w18 w21 := (hm1820.mono (S' := WrS p s.m s.A w.heap.size) (fun i hi => .inl (.inr (.inl hi)))).trans hM21 (fun i hi => .inl (.inr (.inr hi)))
          have hz20 := hm1820.size
          have h20 : Rr w0 w20 base p { s.m with T := fun i => m.T i ∨ rowS A' i ∨ i = w.heap.size } ⟨v.d + s.z.length + 1, n, s.ln + 1, n :: v.rd, s.g⟩ := h18.modT hm1820 htA hoffA hloA (fun i hi => by
              rcases hi with hi | hi | hi
              · exact .inl (by rw [hI.tt]; exact .inl hi)
              · rcases hmv20.rows i hi with h1 | h1
                · exact .inl (by rw [hI.tt]; exact .inr (.inl h1))
                · exact .inr (by have := hE1819.size; omega)
              · exact .inl (by rw [hI.tt]; exact .inr (.inr hi))) (fun i hi => by
              rcases hi with hi | hi | hi
              · have := htt i hi; omega
              · exact (hown20.rows i hi).2
              · have := hkb18.lt; omega)
          have h21 : Rr w0 w21 base p { s.m with T := fun i => m.T i ∨ rowS A' i ∨ i = w.heap.size } ⟨v.d + s.z.length + 1, n, s.ln + 1, n :: v.rd, s.g⟩ := h20.modT hM21 (fun i hi => .inr (.inr hi)) (fun i hi => by subst hi; exact nbk) (fun i hi => by have := h.e0.size; omega) (fun i hi => .inl hi) (fun i hi => Nat.lt_of_lt_of_le (h20.tt i hi) hM21.size)
          refine store_mod h21.blk (show 8 < 11 by decide) (fun w22 hm22 hB22 => ?_)
          have h22 : Rr w0 w22 base p { s.m with T := fun i => m.T i ∨ rowS A' i ∨ i = w.heap.size } ⟨v.d + s.z.length + 1, n, s.ln + 1, n :: v.rd, { s.g with fr := true }⟩ := h21.put hm22 hB22 rfl rfl rfl (fun e => by cases e)
          have hm9_18 : Mod (WrS p s.m s.A w.heap.size) w9 w18 := ((Mod.of_ext _ hE912).trans (hm13.mono (S' := WrS p s.m s.A w.heap.size) (fun i hi => .inl (.inl (.inl hi)))) (fun i hi => .inl hi)).trans (Mod.of_ext _ hE1318) (fun i hi => .inl hi)
          have hm18_22 : Mod (WrS p s.m s.A w.heap.size) w18 w22 := hM1821.trans hm22 (fun i hi => .inl (.inl (.inl hi)))
          have hm7_22 : Mod (WrS p s.m s.A w.heap.size) w7 w22 := (hm79.trans hm9_18 (fun i hi => .inl hi)).trans hm18_22 (fun i hi => .inl hi)
          have hmvA : Moved w7 s.A A' := hmv20.back (by have := hm79.size; have := hm9_18.size; have := hE1819.size; omega)
          have htt' : (fun i => m.T i ∨ rowS A' i ∨ i = w.heap.size) = (fun i => m.T i ∨ rowS A' i ∨ i = w.heap.size) := rfl
          let s' : LS := ⟨a, bAnd s.o d, s.z ++ [zn], { s.m with T := fun i => m.T i ∨ rowS A' i ∨ i = w.heap.size }, { s.g with fr := true }, s.ln + 1, s.at_ + l.length + 1, ls, A', c'⟩
          have kp : ∀ {x : DV} {o : BF}, DgO w7 (TS p s.m) p.nm.length x o → DgO w22 (TS p s'.m) p.nm.length x o := fun hx => hI.kp (s' := s') hm7_22 rfl hmvA (Moved.refl _ _) (Moved.refl _ _) hx
          have hlen' : (s.z ++ [zn]).length = s.z.length + 1 := by simp
          have hTlt : ∀ i, TS p s.m i → i < w13.heap.size := fun i hi => by
            have := h9.hiT i hi; omega
          have fresh : ∀ (x : DV) (ox : BF), (∀ i, rowS x.A i → w13.heap.size ≤ i) → SB w14 x.A x.n x.c x.nd → Set1 p.nm.length x.nd x.r ox → DgO w22 (TS p s'.m) p.nm.length x ox := fun x ox hr hx hs => by
            have e1 : DgO w18 (TS p s.m) p.nm.length x ox := ⟨hx.ext hE1418, hs, fun ad e _ hh => by have := hr _ ⟨ad, e, rfl⟩; have := hTlt _ hh; omega⟩
            exact e1.step (hm18_22.mono (fun i hi => .inl (hI.sub i hi))) (fun i hi => by
              rcases hi with hi | hi
              · exact .inl (.inl hi)
              · rcases hi with hi | hi | hi
                · exact .inl (.inr (by rw [hI.tt]; exact .inl hi))
                · rcases hmv20.rows i hi with h1 | h1
                  · exact .inl (.inr (by rw [hI.tt]; exact .inr (.inl h1)))
                  · exact .inr (by have := hE1819.size; omega)
                · exact .inl (.inr (by rw [hI.tt]; exact .inr (.inr hi))))
          refine ⟨s', ?_, ?_, ?_⟩
          · show Has _ _
            have e : (((s.z ++ [zn]).length : Nat) : Int) = ((s.z.length + 1 : Nat) : Int) := by rw [hlen']
            simp only [s', hlen']
            rfl
          · refine hI.go (s' := s') hbkk hm7_22 ?_ rfl hmvA (Moved.refl _ _) (Moved.refl _ _) ?_ ?_ ?_ ?_ ?_ hls rfl ?_ ?_ rfl
            · show Rr w0 w22 base p _ ⟨v.d + (s.z ++ [zn]).length, n, s.ln + 1, n :: v.rd, { s.g with fr := true }⟩
              rw [hlen']; exact h22
            · exact hB21.mod hm22 npr
            · exact fresh a _ har ha14 has
            · show Own w22 base seT 6 A' (s.z ++ [zn]).length c' (seV (s.z ++ [zn]))
              rw [hlen', seV_snoc]
              exact (hown20.mod hM21 (fun i hi e => by subst e; exact (hkb18.mod hm1820 nbA).apart hown20 (by decide) hi)).mod hm22 (fun i hi e => by subst e; have := (hown20.rows _ hi).1; have := h.rb; omega)
            · intro z hz
              simp only [s', List.mem_append, List.mem_singleton] at hz
              rcases hz with hz | rfl
              · exact kp (hI.zx z hz)
              · exact kp hI.kd
            · intro z hz
              simp only [s', List.mem_append, List.mem_singleton] at hz
              rcases hz with hz | rfl
              · exact kp (hI.zy z hz)
              · exact fresh b _ hbr hb14 hbs
            · have e64 : ¬ v.d + (s.z.reverse.map (·.s)).length = 64 := by simpa using n64
              rw [rdL_ifd hdir, he] at hrs
              simp only [if_neg e64] at hrs
              rw [← hrs]
              simp [s', zn]
            · show v.d + (s.z ++ [zn]).length ≤ 64
              rw [hlen']; omega
          · show ls.length < (l :: ls).length
            simp
        have hop : v.d + (s.z.reverse.map (·.s)).length = v.d + s.z.length := by simp
        have hr8 : ∀ x ∈ cutR l, x < 256 := fun x hx => hl8 x (List.mem_of_mem_drop hx)
        have hrl : (cutR l).length ≤ 1000000000000 := by unfold cutR; rw [List.length_drop]; omega
        by_cases P2 : cutH l = kInc ∧ 32 ∈ l
        · have hdir := dir_inc P2.1 P2.2
          rw [if_pos P2.2]
          refine wif_df (by rw [P2.1]; decide) ?_
          refine wif_dt (by rw [P2.1]; rfl) ?_
          refine wif_dt (hsp.2 P2.2) ?_
          refine callP (number_fn (cutR l) w9 hP h9 hr8 hrl) ?_ ?_
          rotate_left
          · rintro ch w10 ⟨e, he, rfl, hE10⟩
            refine pan ⟨e, n, ((s.ln + 1 : Nat) : Int)⟩ _ w10 ?_ rfl (Mod.of_ext _ hE10)
            rw [← hrs, rdL_inc hdir]
            have hi : incF p f n v.rd (cutR l) (s.ln + 1) (v.d + (s.z.reverse.map (·.s)).length) s.o s.g = .error ⟨e, n, ((s.ln + 1 : Nat) : Int)⟩ := by
              unfold incF
              rw [show incE (ixN (p.fs.map (·.1))) (n :: v.rd) (cutR l) = .error e from he]
            rw [hi]
          rintro _ w10 ⟨n', he, rfl, hE10⟩
          have he : incE (ixN (p.fs.map (·.1))) (n :: v.rd) (cutR l) = .ok n' := he
          have h10 := h9.ext hE10
          refine callP (deeper_fn w10 h10 hdl) ?_ ?_
          rotate_left
          · rintro ch w11 ⟨e64, rfl, hE11⟩
            refine pan ⟨2, n, ((s.ln + 1 : Nat) : Int)⟩ _ w11 ?_ rfl (Mod.of_ext _ (hE10.trans hE11))
            have e64 : v.d + (s.z.reverse.map (·.s)).length = 64 := by simpa using e64
            rw [← hrs, rdL_inc hdir]
            have hi : incF p f n v.rd (cutR l) (s.ln + 1) (v.d + (s.z.reverse.map (·.s)).length) s.o s.g = .error ⟨2, n, ((s.ln + 1 : Nat) : Int)⟩ := by
              unfold incF
              rw [he]
              simp only [if_pos e64]
            rw [hi]
          rintro _ w11 ⟨n64, h11, hm11⟩
          have n64 : ¬ v.d + s.z.length = 64 := n64
          have e64 : ¬ v.d + (s.z.reverse.map (·.s)).length = 64 := by simpa using n64
          have hkb11 := (hkb9.ext hE10).mod hm11 npr
          refine loadN_blk0 hkb11 rfl ?_
          obtain ⟨hnr, tn, htn⟩ := incE_ok he
          have hn' : n' < p.fs.length := by have := ixN_lt htn; simpa using this
          have hkd11 := (hkd9.ext hE10).keep hm11 (fun i hi => .inl (.inl (.inl hi)))
          have hinc : ∀ R, rdF p.nm p.fs f (n :: v.rd) (v.d + s.z.length + 1) n' s.o s.g = R → incF p f n v.rd (cutR l) (s.ln + 1) (v.d + (s.z.reverse.map (·.s)).length) s.o s.g = R := fun R hR => by
            unfold incF
            rw [he]
            simp only [if_neg e64]
            rw [hop]; exact hR
          have hm9_11 : Mod (WrS p s.m s.A w.heap.size) w9 w11 := (Mod.of_ext _ hE10).trans (hm11.mono (S' := WrS p s.m s.A w.heap.size) (fun i hi => .inl (.inl (.inl hi)))) (fun i hi => .inl hi)
          refine callP (ih s.m ⟨v.d + s.z.length + 1, n, s.ln + 1, n :: v.rd, s.g⟩ n' s.k s.o w11 h11 hkd11 hn' hnr (by show v.d + s.z.length + 1 ≤ 64; omega) (by show 65 ≤ f + (v.d + s.z.length + 1); omega)) ?_ ?_
          rotate_left
          · rintro ch w12 ⟨q, hq, rfl, hm12⟩
            refine pan q _ w12 ?_ rfl (hm9_11.trans hm12 (fun i hi => .inl (.inl hi)))
            rw [← hrs, rdL_inc hdir, hinc _ hq]
          rintro _ w12 ⟨g', hg', m', hT', h12, hm12, hv12, hu12⟩
          refine load_blk h12.blk rfl ?_
          refine norm_i64_to ((v.d + s.z.length : Nat) : Int) (by show ((v.d + s.z.length + 1 : Nat) : Int) - 1 = _; omega) (by omega) ?_
          refine store_mod h12.blk (show 4 < 11 by decide) (fun w13 hm13 hB13 => ?_)
          have h13 : Rr w0 w13 base p m' ⟨v.d + s.z.length, n, s.ln + 1, n :: v.rd, g'⟩ := h12.put hm13 hB13 rfl rfl rfl h12.nf
          refine store_mod h13.blk (show 8 < 11 by decide) (fun w14 hm14 hB14 => ?_)
          have h14 : Rr w0 w14 base p m' ⟨v.d + s.z.length, n, s.ln + 1, n :: v.rd, { g' with fr := true }⟩ := h13.put hm14 hB14 rfl rfl rfl (fun e => by cases e)
          have hm1214 : Mod (· = p.r) w12 w14 := hm13.trans hm14 (fun i hi => .inl hi)
          have hm9_14 : Mod (WrS p s.m s.A w.heap.size) w9 w14 := (hm9_11.trans hm12 (fun i hi => .inl (.inl hi))).trans hm1214 (fun i hi => .inl (.inl (.inl hi)))
          have hm7_14 : Mod (WrS p s.m s.A w.heap.size) w7 w14 := hm79.trans hm9_14 (fun i hi => .inl hi)
          have hzm := hm9_11.size
          have hv7 : Moved w7 s.m.OA m'.OA := hv12.back (by omega)
          have hu7 : Moved w7 s.m.BA m'.BA := hu12.back (by omega)
          let s' : LS := ⟨s.k, s.o, s.z, m', { g' with fr := true }, s.ln + 1, s.at_ + l.length + 1, ls, s.A, s.c⟩
          have hT2 : s'.m.T = fun i => m.T i ∨ rowS s'.A i ∨ i = w.heap.size := by show m'.T = _; rw [hT', hI.tt]
          have kp : ∀ {x : DV} {o : BF}, DgO w7 (TS p s.m) p.nm.length x o → DgO w14 (TS p s'.m) p.nm.length x o := fun hx => hI.kp (s' := s') hm7_14 hT2 (Moved.refl _ _) hv7 hu7 hx
          have how14 : Own w14 base seT 6 s.A s.z.length s.c (seV s.z) := ((((how9.ext hE10).mod hm11 nopr).mod hm12 hoffA).mod hm1214 nopr)
          have hkb14 := (hkb11.mod hm12 nbk).mod hm1214 npr
          refine ⟨s', rfl, ?_, ?_⟩
          · refine hI.go (s' := s') hbkk hm7_14 h14 hT2 (Moved.refl _ _) hv7 hu7 hkb14 (kp hI.kd) how14 (fun z hz => kp (hI.zx z hz)) (fun z hz => kp (hI.zy z hz)) hls rfl ?_ hdl rfl
            rw [rdL_inc hdir, hinc _ hg'] at hrs
            exact hrs
          · show ls.length < (l :: ls).length
            simp
        by_cases P3 : cutH l = kElif ∧ 32 ∈ l
        · have hdir := dir_elif P3.1 P3.2
          rw [if_pos P3.2]
          refine wif_df (by rw [P3.1]; decide) ?_
          refine wif_df (by rw [P3.1]; decide) ?_
          refine wif_dt (by rw [P3.1]; rfl) ?_
          refine wif_dt (hsp.2 P3.2) ?_
          refine wif_eq (fun hz => ?_) (fun hz => ?_)
          · have hz0 : s.z = [] := List.eq_nil_of_length_eq_zero (by omega)
            refine callP (fail_fn 72 w9 h9) (fun _ _ hf => hf.elim) ?_
            rintro ch w10 ⟨rfl, hE10⟩
            refine pan ⟨72, n, ((s.ln + 1 : Nat) : Int)⟩ _ w10 ?_ rfl (Mod.of_ext _ hE10)
            rw [← hrs, rdL_elif hdir, hz0]; rfl
          obtain ⟨z', x, hzz⟩ : ∃ z' x, s.z = z' ++ [x] := by
            rcases List.eq_nil_or_concat s.z with h0 | ⟨z', x, h0⟩
            · exact absurd (by rw [h0]; rfl) hz
            · exact ⟨z', x, by rw [h0]; simp⟩
          have hzl : s.z.length = z'.length + 1 := by rw [hzz]; simp
          have hrev : s.z.reverse.map (·.s) = x.s :: z'.reverse.map (·.s) := by rw [hzz]; simp
          obtain ⟨oa, hoa, _⟩ := how9.sl.at_ (by omega : 0 < s.z.length)
          have hoA : rowS (some oa) = rowS s.A := by rw [hoa]
          have ho9 : Own w9 base seT 6 (some oa) s.z.length s.c (seV z' ++ x.cells) := by rw [← hoa, ← seV_snoc, ← hzz]; exact how9
          have hxz : x ∈ s.z := by rw [hzz]; simp
          have hxx := kp9 (hI.zx x hxz)
          have hxy := kp9 (hI.zy x hxz)
          have hpl := seV_len z'
          have htT : ∀ i, TS p s.m i → i < w9.heap.size := h9.hiT
          refine norm_i64_to ((z'.length : Nat) : Int) (by omega) (by omega) ?_
          rw [hoa]
          refine index_n (j := z'.length) (by omega) ?_
          rw [show z'.length * 6 = (seV z').length from hpl.symm]
          refine wif_df (fun e => by have e2 : l = lEnd := strOf_inj hl8 (by decide) e; have := P3.2; rw [e2] at this; exact absurd this (by decide)) ?_
          have hoth : decide (strOf l = (⟨#[35, 101, 108, 115, 101]⟩ : ByteArray)) = false := decide_eq_false (fun e => by have e2 : l = lElse := strOf_inj hl8 (by decide) e; have := P3.2; rw [e2] at this; exact absurd this (by decide))
          refine callP (branch_fn s.m ⟨v.d + s.z.length, n, s.ln + 1, n :: v.rd, s.g⟩ oa s.z.length s.c (seV z') x (decide (strOf l = (⟨#[35, 101, 108, 115, 101]⟩ : ByteArray))) (cutR l) w9 hP h9 ho9 (by rw [hoA]; exact htA) (by rw [hpl]; omega) hxy hr8 hrl hb0) ?_ ?_
          rotate_left
          · rintro ch w10 ⟨e, he, rfl, hm10⟩
            refine pan ⟨e, n, ((s.ln + 1 : Nat) : Int)⟩ _ w10 ?_ rfl (hm10.mono (fun i hi => .inl (.inr (.inl (by rw [← hoA]; exact hi)))))
            rw [hoth] at he
            rw [← hrs, rdL_elif hdir, hrev]
            rcases he with ⟨h1, rfl⟩ | ⟨h1, _, h3⟩
            · simp only [h1, if_true]
            · simp only [h1, h3]; rfl
          rintro u w10 ⟨hot, hm10, hres⟩
          rw [hoth, if_neg (by decide)] at hres
          obtain ⟨o', b, d', hset, rfl, hb10, hbs, hbr, hd10, hds, hdr, ho10⟩ := hres
          let zn : SeV := ⟨{ x.s with re := bSub x.s.re o' }, x.x, d'⟩
          let nk : DV := b
          let no : BF := bAnd x.s.re o'
          rw [hoA] at hm10
          have hkb10 := hkb9.mod hm10 nbA
          have h10 : Rr w0 w10 base p s.m ⟨v.d + s.z.length, n, s.ln + 1, n :: v.rd, s.g⟩ := h9.modT hm10 htA hoffA hloA (fun i hi => .inl hi) (fun i hi => Nat.lt_of_lt_of_le (h9.tt i hi) hm10.size)
          refine storeN_blk0 hkb10 rfl (sc rfl) (fun w11 hg11 _ hB11 => ?_)
          have hM11 : Mod (· = w.heap.size) w10 w11 := Mod.of_grown hg11 rfl
          have h11 : Rr w0 w11 base p s.m ⟨v.d + s.z.length, n, s.ln + 1, n :: v.rd, s.g⟩ := h10.modT hM11 (fun i hi => by rw [hI.tt]; exact .inr (.inr hi)) (fun i hi => by subst hi; exact nbk) (fun i hi => by have := h.e0.size; omega) (fun i hi => .inl hi) (fun i hi => Nat.lt_of_lt_of_le (h10.tt i hi) hM11.size)
          refine store_mod h11.blk (show 8 < 11 by decide) (fun w12 hm12 hB12 => ?_)
          have h12 : Rr w0 w12 base p s.m ⟨v.d + s.z.length, n, s.ln + 1, n :: v.rd, { s.g with fr := true }⟩ := h11.put hm12 hB12 rfl rfl rfl (fun e => by cases e)
          have hm10_12 : Mod (WrS p s.m s.A w.heap.size) w10 w12 := (hM11.mono (S' := WrS p s.m s.A w.heap.size) (fun i hi => .inl (.inr (.inr hi)))).trans hm12 (fun i hi => .inl (.inl (.inl hi)))
          have hm9_12 : Mod (WrS p s.m s.A w.heap.size) w9 w12 := (hm10.mono (S' := WrS p s.m s.A w.heap.size) (fun i hi => .inl (.inr (.inl hi)))).trans hm10_12 (fun i hi => .inl hi)
          have hm7_12 : Mod (WrS p s.m s.A w.heap.size) w7 w12 := hm79.trans hm9_12 (fun i hi => .inl hi)
          have hzn : (z' ++ [zn]).length = s.z.length := by rw [hzl]; simp
          let s' : LS := ⟨nk, no, z' ++ [zn], s.m, { s.g with fr := true }, s.ln + 1, s.at_ + l.length + 1, ls, s.A, s.c⟩
          have kp : ∀ {x : DV} {o : BF}, DgO w7 (TS p s.m) p.nm.length x o → DgO w12 (TS p s'.m) p.nm.length x o := fun hx => hI.kp (s' := s') hm7_12 hI.tt (Moved.refl _ _) (Moved.refl _ _) (Moved.refl _ _) hx
          have fresh : ∀ (x : DV) (ox : BF), (∀ i, rowS x.A i → w9.heap.size ≤ i) → SB w10 x.A x.n x.c x.nd → Set1 p.nm.length x.nd x.r ox → DgO w12 (TS p s'.m) p.nm.length x ox := fun x ox hr hx hs => by
            have e1 : DgO w10 (TS p s.m) p.nm.length x ox := ⟨hx, hs, fun ad e _ hh => by have := hr _ ⟨ad, e, rfl⟩; have := htT _ hh; omega⟩
            exact e1.step (hm10_12.mono (fun i hi => .inl (hI.sub i hi))) (fun i hi => .inl hi)
          refine ⟨s', ?_, ?_, ?_⟩
          · show Has _ _
            simp only [s', hzn]
            rw [hoa]
            rfl
          · refine hI.go (s' := s') hbkk hm7_12 ?_ hI.tt (Moved.refl _ _) (Moved.refl _ _) (Moved.refl _ _) ?_ ?_ ?_ ?_ ?_ hls rfl ?_ ?_ rfl
            · show Rr w0 w12 base p _ ⟨v.d + (z' ++ [zn]).length, n, s.ln + 1, n :: v.rd, { s.g with fr := true }⟩
              rw [hzn]; exact h12
            · exact hB11.mod hm12 npr
            · exact fresh b _ hbr hb10 hbs
            · show Own w12 base seT 6 s.A (z' ++ [zn]).length s.c (seV (z' ++ [zn]))
              rw [hzn, seV_snoc]
              have ho10' : Own w10 base seT 6 s.A s.z.length s.c (seV z' ++ zn.cells) := by rw [hoa]; exact ho10
              exact (ho10'.mod hM11 (fun i hi e => by subst e; exact nbA hi)).mod hm12 nopr
            · intro z hz
              simp only [s', List.mem_append, List.mem_singleton] at hz
              rcases hz with hz | rfl
              · exact kp (hI.zx z (by rw [hzz]; simp [hz]))
              · exact kp (hI.zx x hxz)
            · intro z hz
              simp only [s', List.mem_append, List.mem_singleton] at hz
              rcases hz with hz | rfl
              · exact kp (hI.zy z (by rw [hzz]; simp [hz]))
              · exact fresh d' _ hdr hd10 hds
            · rw [rdL_elif hdir, hrev] at hrs
              simp only [hot, hset] at hrs
              rw [← hrs]
              simp [s', zn, no, hot]
            · show v.d + (z' ++ [zn]).length ≤ 64
              rw [hzn]; omega
          · show ls.length < (l :: ls).length
            simp
        have hdno := dir_no P1 P2 P3
        by_cases hl4 : l = lElse
        · have hdir : dirOf l = .els := by rw [hl4]; rfl
          have hno : 32 ∉ l := by rw [hl4]; decide
          have hch : cutH l = lElse := by rw [cutH_no hno, hl4]
          rw [if_neg hno]
          refine wif_df (by rw [hch]; decide) ?_
          refine wif_df (by rw [hch]; decide) ?_
          refine wif_df (by rw [hch]; decide) ?_
          refine wif_dt (by rw [hl4]; rfl) ?_
          refine wif_eq (fun hz => ?_) (fun hz => ?_)
          · have hz0 : s.z = [] := List.eq_nil_of_length_eq_zero (by omega)
            refine callP (fail_fn 72 w9 h9) (fun _ _ hf => hf.elim) ?_
            rintro ch w10 ⟨rfl, hE10⟩
            refine pan ⟨72, n, ((s.ln + 1 : Nat) : Int)⟩ _ w10 ?_ rfl (Mod.of_ext _ hE10)
            rw [← hrs, rdL_els hdir, hz0]; rfl
          obtain ⟨z', x, hzz⟩ : ∃ z' x, s.z = z' ++ [x] := by
            rcases List.eq_nil_or_concat s.z with h0 | ⟨z', x, h0⟩
            · exact absurd (by rw [h0]; rfl) hz
            · exact ⟨z', x, by rw [h0]; simp⟩
          have hzl : s.z.length = z'.length + 1 := by rw [hzz]; simp
          have hrev : s.z.reverse.map (·.s) = x.s :: z'.reverse.map (·.s) := by rw [hzz]; simp
          obtain ⟨oa, hoa, _⟩ := how9.sl.at_ (by omega : 0 < s.z.length)
          have hoA : rowS (some oa) = rowS s.A := by rw [hoa]
          have ho9 : Own w9 base seT 6 (some oa) s.z.length s.c (seV z' ++ x.cells) := by rw [← hoa, ← seV_snoc, ← hzz]; exact how9
          have hxz : x ∈ s.z := by rw [hzz]; simp
          have hxx := kp9 (hI.zx x hxz)
          have hxy := kp9 (hI.zy x hxz)
          have hpl := seV_len z'
          have htT : ∀ i, TS p s.m i → i < w9.heap.size := h9.hiT
          refine norm_i64_to ((z'.length : Nat) : Int) (by omega) (by omega) ?_
          rw [hoa]
          refine index_n (j := z'.length) (by omega) ?_
          rw [show z'.length * 6 = (seV z').length from hpl.symm]
          refine wif_df (by rw [hl4]; decide) ?_
          have hoth : decide (strOf l = (⟨#[35, 101, 108, 115, 101]⟩ : ByteArray)) = true := decide_eq_true (by rw [hl4]; rfl)
          refine callP (branch_fn s.m ⟨v.d + s.z.length, n, s.ln + 1, n :: v.rd, s.g⟩ oa s.z.length s.c (seV z') x (decide (strOf l = (⟨#[35, 101, 108, 115, 101]⟩ : ByteArray))) [] w9 hP h9 ho9 (by rw [hoA]; exact htA) (by rw [hpl]; omega) hxy (fun x hx => by cases hx) (by decide) hb0) ?_ ?_
          rotate_left
          · rintro ch w10 ⟨e, he, rfl, hm10⟩
            refine pan ⟨e, n, ((s.ln + 1 : Nat) : Int)⟩ _ w10 ?_ rfl (hm10.mono (fun i hi => .inl (.inr (.inl (by rw [← hoA]; exact hi)))))
            rw [hoth] at he
            rw [← hrs, rdL_els hdir, hrev]
            rcases he with ⟨h1, rfl⟩ | ⟨_, h2, _⟩
            · simp only [h1, if_true]
            · cases h2
          rintro u w10 ⟨hot, hm10, hres⟩
          rw [hoth, if_pos rfl] at hres
          obtain ⟨rfl, ho10⟩ := hres
          let zn : SeV := ⟨{ x.s with ot := true }, x.x, x.y⟩
          let nk : DV := x.y
          let no : BF := x.s.re
          rw [hoA] at hm10
          have hkb10 := hkb9.mod hm10 nbA
          have h10 : Rr w0 w10 base p s.m ⟨v.d + s.z.length, n, s.ln + 1, n :: v.rd, s.g⟩ := h9.modT hm10 htA hoffA hloA (fun i hi => .inl hi) (fun i hi => Nat.lt_of_lt_of_le (h9.tt i hi) hm10.size)
          refine storeN_blk0 hkb10 rfl (sc rfl) (fun w11 hg11 _ hB11 => ?_)
          have hM11 : Mod (· = w.heap.size) w10 w11 := Mod.of_grown hg11 rfl
          have h11 : Rr w0 w11 base p s.m ⟨v.d + s.z.length, n, s.ln + 1, n :: v.rd, s.g⟩ := h10.modT hM11 (fun i hi => by rw [hI.tt]; exact .inr (.inr hi)) (fun i hi => by subst hi; exact nbk) (fun i hi => by have := h.e0.size; omega) (fun i hi => .inl hi) (fun i hi => Nat.lt_of_lt_of_le (h10.tt i hi) hM11.size)
          refine store_mod h11.blk (show 8 < 11 by decide) (fun w12 hm12 hB12 => ?_)
          have h12 : Rr w0 w12 base p s.m ⟨v.d + s.z.length, n, s.ln + 1, n :: v.rd, { s.g with fr := true }⟩ := h11.put hm12 hB12 rfl rfl rfl (fun e => by cases e)
          have hm10_12 : Mod (WrS p s.m s.A w.heap.size) w10 w12 := (hM11.mono (S' := WrS p s.m s.A w.heap.size) (fun i hi => .inl (.inr (.inr hi)))).trans hm12 (fun i hi => .inl (.inl (.inl hi)))
          have hm9_12 : Mod (WrS p s.m s.A w.heap.size) w9 w12 := (hm10.mono (S' := WrS p s.m s.A w.heap.size) (fun i hi => .inl (.inr (.inl hi)))).trans hm10_12 (fun i hi => .inl hi)
          have hm7_12 : Mod (WrS p s.m s.A w.heap.size) w7 w12 := hm79.trans hm9_12 (fun i hi => .inl hi)
          have hzn : (z' ++ [zn]).length = s.z.length := by rw [hzl]; simp
          let s' : LS := ⟨nk, no, z' ++ [zn], s.m, { s.g with fr := true }, s.ln + 1, s.at_ + l.length + 1, ls, s.A, s.c⟩
          have kp : ∀ {x : DV} {o : BF}, DgO w7 (TS p s.m) p.nm.length x o → DgO w12 (TS p s'.m) p.nm.length x o := fun hx => hI.kp (s' := s') hm7_12 hI.tt (Moved.refl _ _) (Moved.refl _ _) (Moved.refl _ _) hx
          have fresh : ∀ (x : DV) (ox : BF), (∀ i, rowS x.A i → w9.heap.size ≤ i) → SB w10 x.A x.n x.c x.nd → Set1 p.nm.length x.nd x.r ox → DgO w12 (TS p s'.m) p.nm.length x ox := fun x ox hr hx hs => by
            have e1 : DgO w10 (TS p s.m) p.nm.length x ox := ⟨hx, hs, fun ad e _ hh => by have := hr _ ⟨ad, e, rfl⟩; have := htT _ hh; omega⟩
            exact e1.step (hm10_12.mono (fun i hi => .inl (hI.sub i hi))) (fun i hi => .inl hi)
          refine ⟨s', ?_, ?_, ?_⟩
          · show Has _ _
            simp only [s', hzn]
            rw [hoa]
            rfl
          · refine hI.go (s' := s') hbkk hm7_12 ?_ hI.tt (Moved.refl _ _) (Moved.refl _ _) (Moved.refl _ _) ?_ ?_ ?_ ?_ ?_ hls rfl ?_ ?_ rfl
            · show Rr w0 w12 base p _ ⟨v.d + (z' ++ [zn]).length, n, s.ln + 1, n :: v.rd, { s.g with fr := true }⟩
              rw [hzn]; exact h12
            · exact hB11.mod hm12 npr
            · exact kp (hI.zy x hxz)
            · show Own w12 base seT 6 s.A (z' ++ [zn]).length s.c (seV (z' ++ [zn]))
              rw [hzn, seV_snoc]
              have ho10' : Own w10 base seT 6 s.A s.z.length s.c (seV z' ++ zn.cells) := by rw [hoa]; exact ho10
              exact (ho10'.mod hM11 (fun i hi e => by subst e; exact nbA hi)).mod hm12 nopr
            · intro z hz
              simp only [s', List.mem_append, List.mem_singleton] at hz
              rcases hz with hz | rfl
              · exact kp (hI.zx z (by rw [hzz]; simp [hz]))
              · exact kp (hI.zx x hxz)
            · intro z hz
              simp only [s', List.mem_append, List.mem_singleton] at hz
              rcases hz with hz | rfl
              · exact kp (hI.zy z (by rw [hzz]; simp [hz]))
              · exact kp (hI.zy x hxz)
            · rw [rdL_els hdir, hrev] at hrs
              simp only [hot] at hrs
              rw [← hrs]
              simp [s', zn, no]
            · show v.d + (z' ++ [zn]).length ≤ 64
              rw [hzn]; omega
          · show ls.length < (l :: ls).length
            simp
        by_cases hl5 : l = lEnd
        · have hdir : dirOf l = .en := by rw [hl5]; rfl
          have hno : 32 ∉ l := by rw [hl5]; decide
          have hch : cutH l = lEnd := by rw [cutH_no hno, hl5]
          refine wif_df (by rw [hch]; decide) ?_
          refine wif_df (by rw [hch]; decide) ?_
          refine wif_df (by rw [hch]; decide) ?_
          refine wif_df (by rw [hl5]; decide) ?_
          refine wif_dt (by rw [hl5]; rfl) ?_
          refine wif_eq (fun hz => ?_) (fun hz => ?_)
          · have hz0 : s.z = [] := List.eq_nil_of_length_eq_zero (by omega)
            refine callP (fail_fn 72 w9 h9) (fun _ _ hf => hf.elim) ?_
            rintro ch w10 ⟨rfl, hE10⟩
            refine pan ⟨72, n, ((s.ln + 1 : Nat) : Int)⟩ _ w10 ?_ rfl (Mod.of_ext _ hE10)
            rw [← hrs, rdL_en hdir, hz0]; rfl
          obtain ⟨z', x, hzz⟩ : ∃ z' x, s.z = z' ++ [x] := by
            rcases List.eq_nil_or_concat s.z with h0 | ⟨z', x, h0⟩
            · exact absurd (by rw [h0]; rfl) hz
            · exact ⟨z', x, by rw [h0]; simp⟩
          have hzl : s.z.length = z'.length + 1 := by rw [hzz]; simp
          have hrev : s.z.reverse.map (·.s) = x.s :: z'.reverse.map (·.s) := by rw [hzz]; simp
          obtain ⟨oa, hoa, _⟩ := how9.sl.at_ (by omega : 0 < s.z.length)
          have hoA : rowS (some oa) = rowS s.A := by rw [hoa]
          have ho9 : Own w9 base seT 6 (some oa) s.z.length s.c (seV z' ++ x.cells) := by rw [← hoa, ← seV_snoc, ← hzz]; exact how9
          have hxz : x ∈ s.z := by rw [hzz]; simp
          have hxx := kp9 (hI.zx x hxz)
          have hxy := kp9 (hI.zy x hxz)
          have hpl := seV_len z'
          have htT : ∀ i, TS p s.m i → i < w9.heap.size := h9.hiT
          refine norm_i64_to ((z'.length : Nat) : Int) (by omega) (by omega) ?_
          rw [hoa]
          refine index_n (j := z'.length) (by omega) ?_
          rw [show z'.length * 6 = (seV z').length from hpl.symm]
          refine wif_dt (by rw [hl5]; rfl) ?_
          refine loadN_at (vs := x.x.cells) rfl (fun i u hi => ?_) ?_
          · show w9.cell? (((oa.add (seV z').length).add 0).add i) = some u
            rw [add_add]
            refine cell_own ho9 (by omega) (pre_get ?_)
            match i, hi with
            | 0, hi => exact hi
            | 1, hi => exact hi
            | _ + 2, hi => exact nomatch hi
          refine storeN_blk0 hkb9 rfl (sc rfl) (fun w10 hg10 _ hB10 => ?_)
          have hM10 : Mod (· = w.heap.size) w9 w10 := Mod.of_grown hg10 rfl
          have h10 : Rr w0 w10 base p s.m ⟨v.d + s.z.length, n, s.ln + 1, n :: v.rd, s.g⟩ := h9.modT hM10 (fun i hi => by rw [hI.tt]; exact .inr (.inr hi)) (fun i hi => by subst hi; exact nbk) (fun i hi => by have := h.e0.size; omega) (fun i hi => .inl hi) (fun i hi => Nat.lt_of_lt_of_le (h9.tt i hi) hM10.size)
          refine norm_i64_to ((z'.length : Nat) : Int) (by omega) (by omega) ?_
          refine at_slice_h (h := z'.length) gx_ok rfl rfl rfl rfl rfl rfl (by have := how9.sl.le; omega) ?_
          refine load_blk h10.blk rfl ?_
          refine norm_i64_to ((v.d + z'.length : Nat) : Int) (by show ((v.d + s.z.length : Nat) : Int) - 1 = _; omega) (by omega) ?_
          refine store_mod h10.blk (show 4 < 11 by decide) (fun w11 hm11 hB11 => ?_)
          have h11 : Rr w0 w11 base p s.m ⟨v.d + z'.length, n, s.ln + 1, n :: v.rd, s.g⟩ := h10.put hm11 hB11 rfl rfl rfl h10.nf
          refine store_mod h11.blk (show 8 < 11 by decide) (fun w12 hm12 hB12 => ?_)
          have h12 : Rr w0 w12 base p s.m ⟨v.d + z'.length, n, s.ln + 1, n :: v.rd, { s.g with fr := true }⟩ := h11.put hm12 hB12 rfl rfl rfl (fun e => by cases e)
          have hm1012 : Mod (· = p.r) w10 w12 := hm11.trans hm12 (fun i hi => .inl hi)
          have hm9_12 : Mod (WrS p s.m s.A w.heap.size) w9 w12 := (hM10.mono (S' := WrS p s.m s.A w.heap.size) (fun i hi => .inl (.inr (.inr hi)))).trans hm1012 (fun i hi => .inl (.inl (.inl hi)))
          have hm7_12 : Mod (WrS p s.m s.A w.heap.size) w7 w12 := hm79.trans hm9_12 (fun i hi => .inl hi)
          let s' : LS := ⟨x.x, x.s.ou, z', s.m, { s.g with fr := true }, s.ln + 1, s.at_ + l.length + 1, ls, s.A, s.c⟩
          have kp : ∀ {x : DV} {o : BF}, DgO w7 (TS p s.m) p.nm.length x o → DgO w12 (TS p s'.m) p.nm.length x o := fun hx => hI.kp (s' := s') hm7_12 hI.tt (Moved.refl _ _) (Moved.refl _ _) (Moved.refl _ _) hx
          refine ⟨s', ?_, ?_, ?_⟩
          · show Has _ _
            simp only [s']
            rw [hoa]
            rfl
          · refine hI.go (s' := s') hbkk hm7_12 h12 hI.tt (Moved.refl _ _) (Moved.refl _ _) (Moved.refl _ _) (hB10.mod hm1012 npr) (kp (hI.zx x hxz)) ?_ (fun z hz => kp (hI.zx z (by rw [hzz]; simp [show z ∈ z' from hz]))) (fun z hz => kp (hI.zy z (by rw [hzz]; simp [show z ∈ z' from hz]))) hls rfl ?_ ?_ rfl
            · have ht := how9.take (k := z'.length) (by omega)
              rw [hzz, seV_snoc, List.take_left' (by rw [hpl])] at ht
              exact (ht.mod hM10 (fun i hi e => by subst e; exact nbA hi)).mod hm1012 nopr
            · rw [rdL_en hdir, hrev] at hrs
              rw [← hrs]
            · show v.d + z'.length ≤ 64
              omega
          · show ls.length < (l :: ls).length
            simp
        have hdir : dirOf l = .txt := by rw [hdno, if_neg hl4, if_neg hl5]
        have nl4 : ¬ strOf l = (⟨#[35, 101, 108, 115, 101]⟩ : ByteArray) := fun e => hl4 (strOf_inj hl8 (by decide) e)
        have nl5 : ¬ strOf l = (⟨#[35, 101, 110, 100]⟩ : ByteArray) := fun e => hl5 (strOf_inj hl8 (by decide) e)
        have hc8 : ∀ x ∈ cutH l, x < 256 := fun x hx => hl8 x ((List.takeWhile_sublist _).subset hx)
        by_cases q1 : cutH l = kIf
        · refine wif_dt (by rw [q1]; rfl) ?_
          refine wif_df (fun e => P1 ⟨q1, hsp.1 e⟩) ?_
          refine wif_df (by rw [q1]; decide) ?_
          refine wif_df (by rw [q1]; decide) ?_
          refine wif_df nl4 ?_
          refine wif_df nl5 ?_
          have hd9 := Ext.drew w9
          refine draw_tail gx_ok 7 (by kernel_rfl) ?_
          refine need_to (v' := .string (strOf (l ++ [10]))) ⟨by omega, by omega, by rw [hsz]; omega⟩ ?_ ?_
          · rw [strOf_extract]
            simp only [Int.toNat_natCast]
            rw [List.drop_take, show s.at_ + l.length + 1 - s.at_ = l.length + 1 by omega, l5]
          refine qloadN (vs := s.k.cells) rfl (fun w' hw' j u hj => by subst hw'; rw [(hkb9.ext hd9).cell]; exact hj) ?_
          have h9d := h9.ext hd9
          have hkdd : DgO w9.drew (RS p s.m) p.nm.length s.k s.o := ⟨hkd9.sb.ext hd9, hkd9.st, fun ad e h0 hh => hkd9.off ad e h0 (.inl hh)⟩
          refine callP (add_fn s.m ⟨v.d + s.z.length, n, s.ln + 1, n :: v.rd, s.g⟩ (l ++ [10]) s.at_ s.k s.o w9.drew hP h9d hkdd (fun x hx => by
            rcases List.mem_append.1 hx with hx | hx
            · exact hl8 x hx
            · simp only [List.mem_singleton] at hx; omega) (by rw [List.length_append]; simp; omega) (List.cons_ne_nil _ _)) ?_ ?_
          rotate_left
          · rintro ch w10 ⟨hg, rfl, hE10⟩
            refine pan ⟨2, n, ((s.ln + 1 : Nat) : Int)⟩ _ w10 ?_ rfl (Mod.of_ext _ (hd9.trans hE10))
            rw [← hrs, rdL_txt hdir, show addG (l ++ [10]) n s.at_ s.o s.g = none from hg]
          rintro _ w10 ⟨g', hg', m', hT', h10, hm10, hv10, hu10⟩
          have hm9_10 : Mod (WrS p s.m s.A w.heap.size) w9 w10 := (Mod.of_ext _ hd9).trans hm10 (fun i hi => .inl (.inl hi))
          have hm7_10 : Mod (WrS p s.m s.A w.heap.size) w7 w10 := hm79.trans hm9_10 (fun i hi => .inl hi)
          have hzd := hd9.size
          have hv7 : Moved w7 s.m.OA m'.OA := hv10.back (by omega)
          have hu7 : Moved w7 s.m.BA m'.BA := hu10.back (by omega)
          let s' : LS := ⟨s.k, s.o, s.z, m', g', s.ln + 1, s.at_ + l.length + 1, ls, s.A, s.c⟩
          have hT2 : s'.m.T = fun i => m.T i ∨ rowS s'.A i ∨ i = w.heap.size := by show m'.T = _; rw [hT', hI.tt]
          have kp : ∀ {x : DV} {o : BF}, DgO w7 (TS p s.m) p.nm.length x o → DgO w10 (TS p s'.m) p.nm.length x o := fun hx => hI.kp (s' := s') hm7_10 hT2 (Moved.refl _ _) hv7 hu7 hx
          refine ⟨s', rfl, ?_, ?_⟩
          · refine hI.go (s' := s') hbkk hm7_10 h10 hT2 (Moved.refl _ _) hv7 hu7 ((hkb9.ext hd9).mod hm10 nbk) (kp hI.kd) ((how9.ext hd9).mod hm10 hoffA) (fun z hz => kp (hI.zx z hz)) (fun z hz => kp (hI.zy z hz)) hls rfl ?_ hdl rfl
            rw [rdL_txt hdir, show addG (l ++ [10]) n s.at_ s.o s.g = some g' from hg'] at hrs
            exact hrs
          · show ls.length < (l :: ls).length
            simp
        refine wif_df (fun e => q1 (strOf_inj hc8 (by decide) e)) ?_
        by_cases q2 : cutH l = kInc
        · refine wif_dt (by rw [q2]; rfl) ?_
          refine wif_df (fun e => P2 ⟨q2, hsp.1 e⟩) ?_
          refine wif_df (by rw [q2]; decide) ?_
          refine wif_df nl4 ?_
          refine wif_df nl5 ?_
          have hd9 := Ext.drew w9
          refine draw_tail gx_ok 7 (by kernel_rfl) ?_
          refine need_to (v' := .string (strOf (l ++ [10]))) ⟨by omega, by omega, by rw [hsz]; omega⟩ ?_ ?_
          · rw [strOf_extract]
            simp only [Int.toNat_natCast]
            rw [List.drop_take, show s.at_ + l.length + 1 - s.at_ = l.length + 1 by omega, l5]
          refine qloadN (vs := s.k.cells) rfl (fun w' hw' j u hj => by subst hw'; rw [(hkb9.ext hd9).cell]; exact hj) ?_
          have h9d := h9.ext hd9
          have hkdd : DgO w9.drew (RS p s.m) p.nm.length s.k s.o := ⟨hkd9.sb.ext hd9, hkd9.st, fun ad e h0 hh => hkd9.off ad e h0 (.inl hh)⟩
          refine callP (add_fn s.m ⟨v.d + s.z.length, n, s.ln + 1, n :: v.rd, s.g⟩ (l ++ [10]) s.at_ s.k s.o w9.drew hP h9d hkdd (fun x hx => by
            rcases List.mem_append.1 hx with hx | hx
            · exact hl8 x hx
            · simp only [List.mem_singleton] at hx; omega) (by rw [List.length_append]; simp; omega) (List.cons_ne_nil _ _)) ?_ ?_
          rotate_left
          · rintro ch w10 ⟨hg, rfl, hE10⟩
            refine pan ⟨2, n, ((s.ln + 1 : Nat) : Int)⟩ _ w10 ?_ rfl (Mod.of_ext _ (hd9.trans hE10))
            rw [← hrs, rdL_txt hdir, show addG (l ++ [10]) n s.at_ s.o s.g = none from hg]
          rintro _ w10 ⟨g', hg', m', hT', h10, hm10, hv10, hu10⟩
          have hm9_10 : Mod (WrS p s.m s.A w.heap.size) w9 w10 := (Mod.of_ext _ hd9).trans hm10 (fun i hi => .inl (.inl hi))
          have hm7_10 : Mod (WrS p s.m s.A w.heap.size) w7 w10 := hm79.trans hm9_10 (fun i hi => .inl hi)
          have hzd := hd9.size
          have hv7 : Moved w7 s.m.OA m'.OA := hv10.back (by omega)
          have hu7 : Moved w7 s.m.BA m'.BA := hu10.back (by omega)
          let s' : LS := ⟨s.k, s.o, s.z, m', g', s.ln + 1, s.at_ + l.length + 1, ls, s.A, s.c⟩
          have hT2 : s'.m.T = fun i => m.T i ∨ rowS s'.A i ∨ i = w.heap.size := by show m'.T = _; rw [hT', hI.tt]
          have kp : ∀ {x : DV} {o : BF}, DgO w7 (TS p s.m) p.nm.length x o → DgO w10 (TS p s'.m) p.nm.length x o := fun hx => hI.kp (s' := s') hm7_10 hT2 (Moved.refl _ _) hv7 hu7 hx
          refine ⟨s', rfl, ?_, ?_⟩
          · refine hI.go (s' := s') hbkk hm7_10 h10 hT2 (Moved.refl _ _) hv7 hu7 ((hkb9.ext hd9).mod hm10 nbk) (kp hI.kd) ((how9.ext hd9).mod hm10 hoffA) (fun z hz => kp (hI.zx z hz)) (fun z hz => kp (hI.zy z hz)) hls rfl ?_ hdl rfl
            rw [rdL_txt hdir, show addG (l ++ [10]) n s.at_ s.o s.g = some g' from hg'] at hrs
            exact hrs
          · show ls.length < (l :: ls).length
            simp
        refine wif_df (fun e => q2 (strOf_inj hc8 (by decide) e)) ?_
        by_cases q3 : cutH l = kElif
        · refine wif_dt (by rw [q3]; rfl) ?_
          refine wif_df (fun e => P3 ⟨q3, hsp.1 e⟩) ?_
          refine wif_df nl4 ?_
          refine wif_df nl5 ?_
          have hd9 := Ext.drew w9
          refine draw_tail gx_ok 7 (by kernel_rfl) ?_
          refine need_to (v' := .string (strOf (l ++ [10]))) ⟨by omega, by omega, by rw [hsz]; omega⟩ ?_ ?_
          · rw [strOf_extract]
            simp only [Int.toNat_natCast]
            rw [List.drop_take, show s.at_ + l.length + 1 - s.at_ = l.length + 1 by omega, l5]
          refine qloadN (vs := s.k.cells) rfl (fun w' hw' j u hj => by subst hw'; rw [(hkb9.ext hd9).cell]; exact hj) ?_
          have h9d := h9.ext hd9
          have hkdd : DgO w9.drew (RS p s.m) p.nm.length s.k s.o := ⟨hkd9.sb.ext hd9, hkd9.st, fun ad e h0 hh => hkd9.off ad e h0 (.inl hh)⟩
          refine callP (add_fn s.m ⟨v.d + s.z.length, n, s.ln + 1, n :: v.rd, s.g⟩ (l ++ [10]) s.at_ s.k s.o w9.drew hP h9d hkdd (fun x hx => by
            rcases List.mem_append.1 hx with hx | hx
            · exact hl8 x hx
            · simp only [List.mem_singleton] at hx; omega) (by rw [List.length_append]; simp; omega) (List.cons_ne_nil _ _)) ?_ ?_
          rotate_left
          · rintro ch w10 ⟨hg, rfl, hE10⟩
            refine pan ⟨2, n, ((s.ln + 1 : Nat) : Int)⟩ _ w10 ?_ rfl (Mod.of_ext _ (hd9.trans hE10))
            rw [← hrs, rdL_txt hdir, show addG (l ++ [10]) n s.at_ s.o s.g = none from hg]
          rintro _ w10 ⟨g', hg', m', hT', h10, hm10, hv10, hu10⟩
          have hm9_10 : Mod (WrS p s.m s.A w.heap.size) w9 w10 := (Mod.of_ext _ hd9).trans hm10 (fun i hi => .inl (.inl hi))
          have hm7_10 : Mod (WrS p s.m s.A w.heap.size) w7 w10 := hm79.trans hm9_10 (fun i hi => .inl hi)
          have hzd := hd9.size
          have hv7 : Moved w7 s.m.OA m'.OA := hv10.back (by omega)
          have hu7 : Moved w7 s.m.BA m'.BA := hu10.back (by omega)
          let s' : LS := ⟨s.k, s.o, s.z, m', g', s.ln + 1, s.at_ + l.length + 1, ls, s.A, s.c⟩
          have hT2 : s'.m.T = fun i => m.T i ∨ rowS s'.A i ∨ i = w.heap.size := by show m'.T = _; rw [hT', hI.tt]
          have kp : ∀ {x : DV} {o : BF}, DgO w7 (TS p s.m) p.nm.length x o → DgO w10 (TS p s'.m) p.nm.length x o := fun hx => hI.kp (s' := s') hm7_10 hT2 (Moved.refl _ _) hv7 hu7 hx
          refine ⟨s', rfl, ?_, ?_⟩
          · refine hI.go (s' := s') hbkk hm7_10 h10 hT2 (Moved.refl _ _) hv7 hu7 ((hkb9.ext hd9).mod hm10 nbk) (kp hI.kd) ((how9.ext hd9).mod hm10 hoffA) (fun z hz => kp (hI.zx z hz)) (fun z hz => kp (hI.zy z hz)) hls rfl ?_ hdl rfl
            rw [rdL_txt hdir, show addG (l ++ [10]) n s.at_ s.o s.g = some g' from hg'] at hrs
            exact hrs
          · show ls.length < (l :: ls).length
            simp
        · refine wif_df (fun e => q3 (strOf_inj hc8 (by decide) e)) ?_
          refine wif_df nl4 ?_
          refine wif_df nl5 ?_
          have hd9 := Ext.drew w9
          refine draw_tail gx_ok 7 (by kernel_rfl) ?_
          refine need_to (v' := .string (strOf (l ++ [10]))) ⟨by omega, by omega, by rw [hsz]; omega⟩ ?_ ?_
          · rw [strOf_extract]
            simp only [Int.toNat_natCast]
            rw [List.drop_take, show s.at_ + l.length + 1 - s.at_ = l.length + 1 by omega, l5]
          refine qloadN (vs := s.k.cells) rfl (fun w' hw' j u hj => by subst hw'; rw [(hkb9.ext hd9).cell]; exact hj) ?_
          have h9d := h9.ext hd9
          have hkdd : DgO w9.drew (RS p s.m) p.nm.length s.k s.o := ⟨hkd9.sb.ext hd9, hkd9.st, fun ad e h0 hh => hkd9.off ad e h0 (.inl hh)⟩
          refine callP (add_fn s.m ⟨v.d + s.z.length, n, s.ln + 1, n :: v.rd, s.g⟩ (l ++ [10]) s.at_ s.k s.o w9.drew hP h9d hkdd (fun x hx => by
            rcases List.mem_append.1 hx with hx | hx
            · exact hl8 x hx
            · simp only [List.mem_singleton] at hx; omega) (by rw [List.length_append]; simp; omega) (List.cons_ne_nil _ _)) ?_ ?_
          rotate_left
          · rintro ch w10 ⟨hg, rfl, hE10⟩
            refine pan ⟨2, n, ((s.ln + 1 : Nat) : Int)⟩ _ w10 ?_ rfl (Mod.of_ext _ (hd9.trans hE10))
            rw [← hrs, rdL_txt hdir, show addG (l ++ [10]) n s.at_ s.o s.g = none from hg]
          rintro _ w10 ⟨g', hg', m', hT', h10, hm10, hv10, hu10⟩
          have hm9_10 : Mod (WrS p s.m s.A w.heap.size) w9 w10 := (Mod.of_ext _ hd9).trans hm10 (fun i hi => .inl (.inl hi))
          have hm7_10 : Mod (WrS p s.m s.A w.heap.size) w7 w10 := hm79.trans hm9_10 (fun i hi => .inl hi)
          have hzd := hd9.size
          have hv7 : Moved w7 s.m.OA m'.OA := hv10.back (by omega)
          have hu7 : Moved w7 s.m.BA m'.BA := hu10.back (by omega)
          let s' : LS := ⟨s.k, s.o, s.z, m', g', s.ln + 1, s.at_ + l.length + 1, ls, s.A, s.c⟩
          have hT2 : s'.m.T = fun i => m.T i ∨ rowS s'.A i ∨ i = w.heap.size := by show m'.T = _; rw [hT', hI.tt]
          have kp : ∀ {x : DV} {o : BF}, DgO w7 (TS p s.m) p.nm.length x o → DgO w10 (TS p s'.m) p.nm.length x o := fun hx => hI.kp (s' := s') hm7_10 hT2 (Moved.refl _ _) hv7 hu7 hx
          refine ⟨s', rfl, ?_, ?_⟩
          · refine hI.go (s' := s') hbkk hm7_10 h10 hT2 (Moved.refl _ _) hv7 hu7 ((hkb9.ext hd9).mod hm10 nbk) (kp hI.kd) ((how9.ext hd9).mod hm10 hoffA) (fun z hz => kp (hI.zx z hz)) (fun z hz => kp (hI.zy z hz)) hls rfl ?_ hdl rfl
            rw [rdL_txt hdir, show addG (l ++ [10]) n s.at_ s.o s.g = some g' from hg'] at hrs
            exact hrs
          · show ls.length < (l :: ls).length
            simp
end
end Go.Proofs.YtedopgkbajhanaaGreatDoor
