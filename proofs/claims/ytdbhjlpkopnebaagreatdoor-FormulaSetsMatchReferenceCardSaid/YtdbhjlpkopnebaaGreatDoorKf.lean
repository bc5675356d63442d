/-
  formula: the canonical formula: put, side, build.
  formula: Of, Text.
  Conditions: none.
-/
import Derived.Test.YtdbhjlpkopnebaaGreatDoorKe
namespace Go.Proofs.YtdbhjlpkopnebaaGreatDoor
section
open Go Go.RowKit

def putC (x : Fz) (f : List Fz) : Nat × List Fz := if f.length ≤ 512 then (f.length, f ++ [x]) else (f.length - 1, f)
def sideC (bld : Int → List Fz → Nat × List Fz) (op v : Int) (pos : Bool) (num : Int) (f : List Fz) : Nat × List Fz :=
  let p := putC ⟨2, v, 0, 0⟩ f
  let a := if pos then p else putC ⟨3, 0, (p.1 : Nat), 0⟩ p.2
  if op = 4 ∧ num = 1 then a else
    let c := bld num a.2
    putC ⟨op, 0, (a.1 : Nat), (c.1 : Nat)⟩ c.2
def bldC (nd : List Br) : Nat → Int → List Fz → Nat × List Fz
  | 0, _, f => (0, f)
  | m + 1, n, f => if n < 2 ∨ 512 < f.length then putC ⟨min n 1, 0, 0, 0⟩ f else
      match nd[(n - 2).toNat]? with
      | none => (0, f)
      | some b =>
        if b.l = 0 then sideC (bldC nd m) 4 b.v true b.h f else
        if b.h = 0 then sideC (bldC nd m) 4 b.v false b.l f else
        if b.h = 1 then sideC (bldC nd m) 5 b.v true b.l f else
        if b.l = 1 then sideC (bldC nd m) 5 b.v false b.h f else
          let hi := sideC (bldC nd m) 4 b.v true b.h f
          let lo := sideC (bldC nd m) 4 b.v false b.l hi.2
          putC ⟨5, 0, (hi.1 : Nat), (lo.1 : Nat)⟩ lo.2

structure Cn (w : World) (base x : Nat) (NA : Option Addr) (nn nc : Nat) (nd : List Br) (root : Int) (A : Option Addr) (c : Nat) (f : List Fz) : Prop where
  blk : Blk w x 63 [.slice NA nn nc, .int .i64 root, .slice A f.length c]
  own : Own w base 51 4 A f.length c (fzV f)
  lt : x < base
  top : base ≤ w.heap.size
  nds : SB w NA nn nc nd
  row : ∀ ad, NA = some ad → 0 < nn → ad.block < base ∧ ad.block ≠ x
  lim : f.length ≤ 513
def CnTo (w : World) (base x : Nat) (NA : Option Addr) (nn nc : Nat) (nd : List Br) (root : Int) (A : Option Addr) (f : List Fz) (w' : World) : Prop := ∃ A' c', Cn w' base x NA nn nc nd root A' c' f ∧ Mod (RdS x A) w w' ∧ Moved w A A'

section
variable {base x : Nat} {NA : Option Addr} {nn nc : Nat} {nd : List Br} {root : Int}
theorem Cn.ext {w w' : World} {A : Option Addr} {c : Nat} {f : List Fz} (h : Cn w base x NA nn nc nd root A c f) (k : Ext w w') : Cn w' base x NA nn nc nd root A c f :=
  ⟨h.blk.ext k, h.own.ext k, h.lt, Nat.le_trans h.top k.size, h.nds.ext k, h.row, h.lim⟩
theorem CnTo.refl {w : World} {A : Option Addr} {c : Nat} {f : List Fz} (h : Cn w base x NA nn nc nd root A c f) : CnTo w base x NA nn nc nd root A f w := ⟨A, c, h, Mod.refl _ _, Moved.refl _ _⟩
theorem CnTo.step {w w1 w2 : World} {A A1 : Option Addr} {f : List Fz} (h : CnTo w1 base x NA nn nc nd root A1 f w2) (hm : Mod (RdS x A) w w1) (hv : Moved w A A1) : CnTo w base x NA nn nc nd root A f w2 := by
  obtain ⟨A2, c2, h2, hm2, hv2⟩ := h
  exact ⟨A2, c2, h2, RdS.trans hm hv hm2, hv.trans hv2 hm.size⟩
theorem Cn.keep {w w' : World} {A : Option Addr} {c : Nat} {f : List Fz} (h : Cn w base x NA nn nc nd root A c f) (hm : Mod (RdS x A) w w') : SB w' NA nn nc nd := by
  refine ⟨h.nds.1.modS hm ?_, h.nds.2⟩
  rintro h0 i ⟨ad, rfl, rfl⟩ hi
  obtain ⟨r1, r2⟩ := h.row ad rfl h0
  rcases hi with hi | hi
  · exact r2 hi
  · have := (h.own.rows _ hi).1; omega

theorem cput_fn (A : Option Addr) (c : Nat) (f : List Fz) (z : Fz) (w : World) (h : Cn w base x NA nn nc nd root A c f) :
    Fn Tryz.prog 64 [.pointer (some ⟨x, 0, none⟩), .agg z.cells.toArray] w (fun v w' => v = .int .i64 ((putC z f).1 : Nat) ∧ CnTo w base x NA nn nc nd root A (putC z f).2 w') := by
  refine fn_of_exec (c := { c64 with cuts := [] }) gx_ok Tryz.func64 rfl rfl rfl ?_
  refine new (fun w1 hE1 hz1 hB1 => ?_)
  have h1 := h.ext hE1
  have hlim := h.lim
  have hrows := h.own.rows
  have hlt := h.lt
  have htop := h.top
  have hnx : ¬ rowS A x := fun hr => by have := (hrows x hr).1; omega
  refine load_blk h1.blk rfl ?_
  refine wif_d (fun hl => ?_) (fun hl => ?_)
  · have hle : f.length ≤ 512 := by omega
    have e : putC z f = (f.length, f ++ [z]) := by unfold putC; rw [if_pos hle]
    rw [e]
    refine draw_plan gx_ok (Mod (rowS A) w1) 8 [(true, 0), (true, 1), (true, 2), (true, 3), (true, 4), (true, 5), (false, 6), (false, 7)] (by kernel_rfl) (Mod.of_ext _ (Ext.drew w1)) ?_
    refine qload (v := .slice A f.length c) (fun w' hw' => by rw [(h1.blk.mod hw' hnx).cell]; rfl) ?_
    have hn1 : ¬ rowS A w.heap.size := fun hr => by have := (hrows _ hr).2; omega
    refine qloadN (vs := z.cells) rfl (fun w' hw' j v hj => by rw [(hB1.mod hw' hn1).cell]; exact hj) ?_
    refine at_buildN gx_ok [z.cells] rfl rfl rfl rfl rfl ⟨rfl, rfl, ⟨⟩⟩ rfl (fun cs h => by simp only [List.mem_singleton] at h; subst h; rfl) rfl (by decide) (by decide) ?_
    intro w2 hE2 hz2 hB2
    have hE12 := (Ext.drew w1).trans hE2
    have h2 := h1.ext hE12
    refine ⟨Mod.of_ext _ hE12, ?_⟩
    have hs2 : Sl w2 4 (some ⟨w1.drew.heap.size, 0, none⟩) 1 1 z.cells := Sl.own (sz := 4) (n := 1) hB2 (Nat.le_refl _) (by decide) (by simp [Fz.cells])
    refine at_app gx_ok rfl rfl rfl rfl rfl (by decide) rfl rfl ⟨_, rfl⟩ rfl rfl h2.own hs2 (by intro u hu; simp [Fz.cells] at hu; rcases hu with rfl | rfl | rfl | rfl <;> rfl) (by unfold maxLen; omega) (by show _ * 32 ≤ _; omega) h2.top ?_
    intro A' c' w3 hm3 hown3 hmv3
    have hM13 : Mod (rowS A) w1 w3 := (Mod.of_ext (rowS A) hE12).trans hm3 (fun i hi => .inl hi)
    refine ⟨hM13, ?_⟩
    refine store_mod (h1.blk.mod hM13 hnx) (by simp) (fun w4 hm4 hB4 => ?_)
    refine load_blk hB4 rfl ?_
    have hz := hE12.size
    have hM4 : Mod (RdS x A) w w4 := ((Mod.of_ext (RdS x A) hE1).trans hM13 (fun i hi => .inl (.inr hi))).trans hm4 (fun i hi => .inl (.inl hi))
    refine norm_i64_to ((f.length : Nat) : Int) (by omega) (by omega) ?_
    refine ⟨rfl, A', c', ⟨?_, ?_, hlt, Nat.le_trans htop hM4.size, h.keep hM4, h.row, ?_⟩, hM4, hmv3.back (Nat.le_trans hE1.size hz)⟩
    · show Blk w4 x _ [_, _, .slice A' (f ++ [z]).length c']
      rw [List.length_append]; exact hB4
    · show Own w4 base _ 4 A' (f ++ [z]).length c' (fzV (f ++ [z]))
      rw [List.length_append, fzV_snoc]
      exact hown3.mod hm4 (fun k hk e => by have := (hown3.rows k hk).1; omega)
    · show (f ++ [z]).length ≤ 513
      rw [List.length_append]; simp only [List.length_cons, List.length_nil]; omega
  · have hle : ¬ f.length ≤ 512 := by omega
    have e : putC z f = (f.length - 1, f) := by unfold putC; rw [if_neg hle]
    rw [e]
    refine load_blk h1.blk rfl ?_
    refine norm_i64_to ((f.length - 1 : Nat) : Int) (by omega) (by omega) ?_
    exact ⟨rfl, A, c, h1, Mod.of_ext _ hE1, Moved.refl _ _⟩

/-- What build does, with this much fuel. -/
def BuildC (base x : Nat) (NA : Option Addr) (nn nc : Nat) (nd : List Br) (root : Int) (m : Nat) : Prop := ∀ (n : Int) (f : List Fz) (A : Option Addr) (c : Nat) (w : World), Cn w base x NA nn nc nd root A c f → 0 ≤ n → n < m → n < nn + 2 →
  Fn Tryz.prog 36 [.pointer (some ⟨x, 0, none⟩), .int .i64 n] w (fun v w' => v = .int .i64 ((bldC nd m n f).1 : Nat) ∧ CnTo w base x NA nn nc nd root A (bldC nd m n f).2 w')

theorem side_fn (m : Nat) (H : BuildC base x NA nn nc nd root m) (op v : Int) (pos : Bool) (n : Int) (f : List Fz) (A : Option Addr) (c : Nat) (w : World) (h : Cn w base x NA nn nc nd root A c f) (h0 : 0 ≤ n) (hm : n < m) (hn : n < nn + 2) :
    Fn Tryz.prog 65 [.pointer (some ⟨x, 0, none⟩), .int .i64 op, .int .i64 v, .bool pos, .int .i64 n] w (fun u w' => u = .int .i64 ((sideC (bldC nd m) op v pos n f).1 : Nat) ∧ CnTo w base x NA nn nc nd root A (sideC (bldC nd m) op v pos n f).2 w') := by
  refine fn_of_exec (c := { c65 with cuts := [2] }) gx_ok Tryz.func65 rfl rfl rfl ?_
  refine call (cput_fn A c f ⟨2, v, 0, 0⟩ w h) ?_
  rintro _ w1 ⟨rfl, A1, c1, h1, hm1, hv1⟩
  refine cutIn [] gx_ok [11] (fun a : Nat => [.int .i64 a]) (fun a w' => a = (if pos then putC ⟨2, v, 0, 0⟩ f else putC ⟨3, 0, ((putC ⟨2, v, 0, 0⟩ f).1 : Nat), 0⟩ (putC ⟨2, v, 0, 0⟩ f).2).1 ∧ CnTo w base x NA nn nc nd root A (if pos then putC ⟨2, v, 0, 0⟩ f else putC ⟨3, 0, ((putC ⟨2, v, 0, 0⟩ f).1 : Nat), 0⟩ (putC ⟨2, v, 0, 0⟩ f).2).2 w') ?_ ?_
  · refine wif_not (wif (fun hp => ?_) (fun hp => ?_))
    · subst hp
      exact ⟨_, rfl, rfl, A1, c1, h1, hm1, hv1⟩
    · subst hp
      refine call (cput_fn A1 c1 _ ⟨3, 0, ((putC ⟨2, v, 0, 0⟩ f).1 : Nat), 0⟩ w1 h1) ?_
      rintro _ w2 ⟨rfl, h2⟩
      exact ⟨_, rfl, rfl, h2.step hm1 hv1⟩
  rintro a w2 ⟨ha, A2, c2, h2, hm2, hv2⟩
  unfold sideC
  generalize hq : (if pos then putC ⟨2, v, 0, 0⟩ f else putC ⟨3, 0, ((putC ⟨2, v, 0, 0⟩ f).1 : Nat), 0⟩ (putC ⟨2, v, 0, 0⟩ f).2) = q at *
  subst ha
  simp only [hq]
  by_cases hon : op = 4 ∧ n = 1
  · rw [if_pos hon]
    refine wif_eqt hon.1 ?_
    refine wif_eqt hon.2 ?_
    exact ⟨rfl, A2, c2, h2, hm2, hv2⟩
  · rw [if_neg hon]
    by_cases h4 : op = 4
    · refine wif_eqt h4 ?_
      refine wif_eqf (fun h1 => hon ⟨h4, h1⟩) ?_
      refine call (H n q.2 A2 c2 w2 h2 h0 hm hn) ?_
      rintro _ w3 ⟨rfl, A3, c3, h3, hm3, hv3⟩
      refine call (cput_fn A3 c3 _ ⟨op, 0, (q.1 : Nat), ((bldC nd m n q.2).1 : Nat)⟩ w3 h3) ?_
      rintro _ w4 ⟨rfl, h4⟩
      exact ⟨rfl, (h4.step hm3 hv3).step hm2 hv2⟩
    · refine wif_eqf h4 ?_
      refine call (H n q.2 A2 c2 w2 h2 h0 hm hn) ?_
      rintro _ w3 ⟨rfl, A3, c3, h3, hm3, hv3⟩
      refine call (cput_fn A3 c3 _ ⟨op, 0, (q.1 : Nat), ((bldC nd m n q.2).1 : Nat)⟩ w3 h3) ?_
      rintro _ w4 ⟨rfl, h4⟩
      exact ⟨rfl, (h4.step hm3 hv3).step hm2 hv2⟩

theorem build_fn (hwf : WfB nd) : ∀ m, BuildC base x NA nn nc nd root m
  | 0 => fun n f A c w _ h0 hm _ => by omega
  | m + 1 => fun n f A c w h h0 hm hn => by
    have ih := build_fn hwf m
    have hlim := h.lim
    have hnl : nd.length = nn := h.nds.2
    refine fn_of_exec (c := { c36 with cuts := [] }) gx_ok Tryz.func36 rfl rfl rfl ?_
    by_cases h1 : n < 2
    · have e : bldC nd (m + 1) n f = putC ⟨min n 1, 0, 0, 0⟩ f := by rw [bldC, if_pos (.inl h1)]
      rw [e]
      refine wif_dt h1 ?_
      refine norm (m := min n 1) (by rw [Int.min_def]; split <;> split <;> omega) ?_
      refine call (cput_fn A c f ⟨min n 1, 0, 0, 0⟩ w h) ?_
      rintro _ w1 ⟨rfl, h1⟩
      exact ⟨rfl, h1⟩
    refine wif_df h1 ?_
    refine load_blk h.blk rfl ?_
    by_cases h2 : 512 < f.length
    · have e : bldC nd (m + 1) n f = putC ⟨min n 1, 0, 0, 0⟩ f := by rw [bldC, if_pos (.inr h2)]
      rw [e]
      refine wif_dt (by omega) ?_
      refine norm (m := min n 1) (by rw [Int.min_def]; split <;> split <;> omega) ?_
      refine call (cput_fn A c f ⟨min n 1, 0, 0, 0⟩ w h) ?_
      rintro _ w1 ⟨rfl, h1⟩
      exact ⟨rfl, h1⟩
    refine wif_df (by omega) ?_
    have hj : (n - 2).toNat < nd.length := by omega
    have hx := List.getElem?_eq_getElem hj
    generalize nd[(n - 2).toNat] = y at hx
    obtain ⟨x1, x2, x3, x4⟩ := hwf _ _ hx
    have e : bldC nd (m + 1) n f = (if y.l = 0 then sideC (bldC nd m) 4 y.v true y.h f else
        if y.h = 0 then sideC (bldC nd m) 4 y.v false y.l f else
        if y.h = 1 then sideC (bldC nd m) 5 y.v true y.l f else
        if y.l = 1 then sideC (bldC nd m) 5 y.v false y.h f else
          putC ⟨5, 0, ((sideC (bldC nd m) 4 y.v true y.h f).1 : Nat), ((sideC (bldC nd m) 4 y.v false y.l (sideC (bldC nd m) 4 y.v true y.h f).2).1 : Nat)⟩ (sideC (bldC nd m) 4 y.v false y.l (sideC (bldC nd m) 4 y.v true y.h f).2).2) := by
      rw [bldC, if_neg (by omega), hx]
    rw [e]
    refine load_blk0 h.blk rfl ?_
    refine norm_i64_to (((n - 2).toNat : Nat) : Int) (by omega) (by have := h.nds.1.le; have := h.nds.1.cap; simp only [maxLen] at this; omega) ?_
    refine index_sls br_len h.nds rfl (by omega) (fun ad z hy hcl => ?_)
    have hyx : z = y := Option.some.inj (hy.symm.trans hx)
    subst hyx
    refine loadN_at (vs := z.cells) rfl hcl ?_
    refine new (fun w1 hE1 hz1 hB1 => ?_)
    refine storeN_blk0 hB1 rfl (sc rfl) (fun w2 hg2 hz2 hX2 => ?_)
    have hE2 : Ext w w2 := newBox hE1 hB1 hg2
    have hM2 : Mod (RdS x A) w w2 := Mod.of_ext _ hE2
    have h2' := h.ext hE2
    have hbn : ¬ RdS x A w.heap.size := fun e => by
      have := h.blk.lt
      rcases e with e | e
      · omega
      · have := (h.own.rows _ e).2; omega
    refine load_blk hX2 rfl ?_
    refine wif_eq (fun c1 => ?_) (fun c1 => ?_)
    · rw [if_pos c1]
      refine load_blk0 hX2 rfl ?_
      refine load_blk hX2 rfl ?_
      refine call (side_fn m ih 4 z.v true z.h f A c w2 h2' x3 (by omega) (by omega)) ?_
      rintro _ w3 ⟨rfl, h3⟩
      exact ⟨rfl, h3.step hM2 (Moved.refl _ _)⟩
    rw [if_neg c1]
    refine load_blk hX2 rfl ?_
    refine wif_eq (fun c2 => ?_) (fun c2 => ?_)
    · rw [if_pos c2]
      refine load_blk0 hX2 rfl ?_
      refine load_blk hX2 rfl ?_
      refine call (side_fn m ih 4 z.v false z.l f A c w2 h2' x1 (by omega) (by omega)) ?_
      rintro _ w3 ⟨rfl, h3⟩
      exact ⟨rfl, h3.step hM2 (Moved.refl _ _)⟩
    rw [if_neg c2]
    refine load_blk hX2 rfl ?_
    refine wif_eq (fun c3 => ?_) (fun c3 => ?_)
    · rw [if_pos c3]
      refine load_blk0 hX2 rfl ?_
      refine load_blk hX2 rfl ?_
      refine call (side_fn m ih 5 z.v true z.l f A c w2 h2' x1 (by omega) (by omega)) ?_
      rintro _ w3 ⟨rfl, h3⟩
      exact ⟨rfl, h3.step hM2 (Moved.refl _ _)⟩
    rw [if_neg c3]
    refine load_blk hX2 rfl ?_
    refine wif_eq (fun c4 => ?_) (fun c4 => ?_)
    · rw [if_pos c4]
      refine load_blk0 hX2 rfl ?_
      refine load_blk hX2 rfl ?_
      refine call (side_fn m ih 5 z.v false z.h f A c w2 h2' x3 (by omega) (by omega)) ?_
      rintro _ w3 ⟨rfl, h3⟩
      exact ⟨rfl, h3.step hM2 (Moved.refl _ _)⟩
    rw [if_neg c4]
    refine load_blk0 hX2 rfl ?_
    refine load_blk hX2 rfl ?_
    refine call (side_fn m ih 4 z.v true z.h f A c w2 h2' x3 (by omega) (by omega)) ?_
    rintro _ w3 ⟨rfl, A3, c3, h3, hm3, hv3⟩
    have hX3 := hX2.mod hm3 hbn
    refine load_blk0 hX3 rfl ?_
    refine load_blk hX3 rfl ?_
    refine call (side_fn m ih 4 z.v false z.l _ A3 c3 w3 h3 x1 (by omega) (by omega)) ?_
    rintro _ w4 ⟨rfl, A4, c4, h4, hm4, hv4⟩
    refine call (cput_fn A4 c4 _ ⟨5, 0, ((sideC (bldC nd m) 4 z.v true z.h f).1 : Nat), ((sideC (bldC nd m) 4 z.v false z.l (sideC (bldC nd m) 4 z.v true z.h f).2).1 : Nat)⟩ w4 h4) ?_
    rintro _ w5 ⟨rfl, h5⟩
    exact ⟨rfl, (((h5.step hm4 hv4).step hm3 hv3)).step hM2 (Moved.refl _ _)⟩
end
end

section
open Go Go.RowKit

/-- What Of answers. -/
noncomputable def ofP (nd : List Br) (root : Int) : List Fz × Int := if chkD nd root = 0 then (if 512 < (bldC nd (root.toNat + 1) root []).2.length then ([], 2) else ((bldC nd (root.toNat + 1) root []).2, 0)) else ([], chkD nd root)
noncomputable def textP (names : List (List Nat)) (nd : List Br) (root : Int) : List Nat × Int := if numsOk names then (if (ofP nd root).2 = 0 then printP names (ofP nd root).1 else ([], (ofP nd root).2)) else ([], 1)

theorem of_fn (A : Option Addr) (n c : Nat) (nd : List Br) (root : Int) (w : World) (h : SB w A n c nd) :
    Fn Tryz.prog 10 [dgV A n c root] w (FzRes w (ofP nd root)) := by
  have hlen := h.2
  refine fn_of_exec (c := { c10 with cuts := [] }) gx_ok Tryz.func10 rfl rfl rfl ?_
  refine new (fun w1 hE1 hz1 hB1 => ?_)
  refine loadN_blk0 hB1 rfl ?_
  refine call (check2_fn A n c nd root w1 (h.ext hE1)) ?_
  rintro v w2 ⟨rfl, hE2⟩
  have hE02 := hE1.trans hE2
  have hB2 := hB1.ext hE2
  refine wif_ne (fun c1 => ?_) (fun c1 => ?_)
  · refine ⟨none, 0, 0, ?_, hE02, ?_⟩
    · unfold ofP; rw [if_neg c1]
    · unfold ofP; rw [if_neg c1]; exact SlS.nil _
  obtain ⟨hsm, hv⟩ := chkD_zero.1 c1
  have hwf := hv.wf
  refine loadN_blk0 hB2 rfl ?_
  refine new (fun w3 hE3 hz3 hB3 => ?_)
  have hE03 := hE02.trans hE3
  have hz1' := hE2.size
  have hC : Cn w3 w3.heap.size w2.heap.size A n c nd root none 0 [] := ⟨hB3, Own.nil _ _ _ _, by omega, Nat.le_refl _, h.ext hE03, fun ad e hn => by
    have h1 := SB.lt (h.ext hE02) ad e hn
    exact ⟨by omega, by omega⟩, by simp⟩
  refine load_blk (hB2.ext hE3) rfl ?_
  have r0 := hv.2.1
  have r1 := hv.2.2.1
  refine call (build_fn hwf (root.toNat + 1) root [] none 0 w3 hC r0 (by omega) (by omega)) ?_
  rintro v w4 ⟨rfl, A4, c4, hC4, hm4, hv4⟩
  have hE4 : Ext w w4 := hm4.ext hE03 (fun i hi => by
    rcases hi with rfl | ⟨_, e, _⟩
    · have := hE02.size; omega
    · cases e)
  refine load_blk hC4.blk rfl ?_
  refine wif_d (fun c2 => ?_) (fun c2 => ?_)
  · have e : ofP nd root = ([], 2) := by unfold ofP; rw [if_pos c1, if_pos (by omega)]
    rw [e]
    exact ⟨none, 0, 0, rfl, hE4, SlS.nil _⟩
  · have e : ofP nd root = ((bldC nd (root.toNat + 1) root []).2, 0) := by unfold ofP; rw [if_pos c1, if_neg (by omega)]
    rw [e]
    refine load_blk hC4.blk rfl ?_
    exact ⟨A4, _, c4, rfl, hE4, hC4.own.sl, rfl⟩

theorem text_fn (names : List (List Nat)) (A NA : Option Addr) (n c nn nc : Nat) (nd : List Br) (root : Int) (w : World) (h : Sl w 1 A n c (strsV names)) (hb : NamesOk names) (hN : SB w NA nn nc nd)
    (hl : (prF names 0 (treeOf (ofP nd root).1)).length ≤ 140737488355328) :
    Fn Tryz.prog 12 [.slice A n c, dgV NA nn nc root] w (StrRes w (textP names nd root)) := by
  refine fn_of_exec (c := { c12 with cuts := [] }) gx_ok Tryz.func12 rfl rfl rfl ?_
  refine new (fun w1 hE1 hz1 hB1 => ?_)
  refine call (numbers_fn names A n c w1 (h.ext hE1) hb) ?_
  rintro v w2 ⟨v1, rfl, hE2, _⟩
  have hE02 := hE1.trans hE2
  cases hok : numsOk names with
  | false =>
    refine wif_t rfl ?_
    exact ⟨by unfold textP; rw [hok]; rfl, hE02⟩
  | true =>
    refine wif_f rfl ?_
    refine loadN_blk0 (hB1.ext hE2) rfl ?_
    refine call (of_fn NA nn nc nd root w2 (hN.ext hE02)) ?_
    rintro v w3 ⟨F, m, cF, rfl, hE3, hF⟩
    have hE03 := hE02.trans hE3
    have e : textP names nd root = if (ofP nd root).2 = 0 then printP names (ofP nd root).1 else ([], (ofP nd root).2) := by unfold textP; rw [if_pos hok]
    refine wif_ne (fun c1 => ?_) (fun c1 => ?_)
    · exact ⟨by rw [e, if_neg c1]; rfl, hE03⟩
    · refine call (print_fn names A F n c m cF _ w3 (h.ext hE03) hb hF (fun _ _ => hl)) ?_
      rintro v w4 ⟨rfl, hE4⟩
      exact ⟨by rw [e, if_pos c1], hE03.trans hE4⟩
end
end Go.Proofs.YtdbhjlpkopnebaaGreatDoor
