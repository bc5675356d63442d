/-
  The reference's Of: the writer, sizes.
  Conditions: none.
-/
import Derived.Test.YtdbhjlpkopnebaaGreatDoorCf1
namespace Go.Proofs.YtdbhjlpkopnebaaGreatDoor
open Go Go.RowKit

/-- The writer at x: its nodes lie at A. -/
structure Wt (w0 w : World) (base x : Nat) (NA : Option Addr) (nn nc : Nat) (root : Int) (A : Option Addr) (c : Nat) (f : List Fz) : Prop where
  e0 : Ext w0 w
  x0 : w0.heap.size ≤ x
  lt : x < base
  top : base ≤ w.heap.size
  blk : Blk w x 68 [.slice NA nn nc, .int .i64 root, .slice A f.length c]
  own : Own w base 51 4 A f.length c (fzV f)
theorem Wt.nrow {w0 w : World} {base x : Nat} {NA : Option Addr} {nn nc : Nat} {root : Int} {A : Option Addr} {c : Nat} {f : List Fz} (h : Wt w0 w base x NA nn nc root A c f) : ¬ rowS A x := fun hr => by
  have := (h.own.rows x hr).1
  have := h.lt
  omega
theorem Wt.ext {w0 w w' : World} {base x : Nat} {NA : Option Addr} {nn nc : Nat} {root : Int} {A : Option Addr} {c : Nat} {f : List Fz} (h : Wt w0 w base x NA nn nc root A c f) (k : Ext w w') : Wt w0 w' base x NA nn nc root A c f :=
  ⟨h.e0.trans k, h.x0, h.lt, Nat.le_trans h.top k.size, h.blk.ext k, h.own.ext k⟩
def WtTo (w0 : World) (base x : Nat) (NA : Option Addr) (nn nc : Nat) (root : Int) (w : World) (A : Option Addr) (f : List Fz) (w' : World) : Prop := ∃ A' c', Wt w0 w' base x NA nn nc root A' c' f ∧ Mod (RdS x A) w w' ∧ Moved w A A'
theorem WtTo.step {w0 w w1 w2 : World} {base x : Nat} {NA : Option Addr} {nn nc : Nat} {root : Int} {A A1 : Option Addr} {f : List Fz} (h : WtTo w0 base x NA nn nc root w1 A1 f w2) (hm : Mod (RdS x A) w w1) (hv : Moved w A A1) : WtTo w0 base x NA nn nc root w A f w2 := by
  obtain ⟨A2, c2, h2, hm2, hv2⟩ := h
  exact ⟨A2, c2, h2, RdS.trans hm hv hm2, hv.trans hv2 hm.size⟩

section
variable {w0 : World} {base x : Nat} {NA : Option Addr} {nn nc : Nat} {nd : List Br} {root : Int}
theorem wput_fn (A : Option Addr) (c : Nat) (f : List Fz) (z : Fz) (w : World) (h : Wt w0 w base x NA nn nc root A c f) (hl : f.length + 1 ≤ 1000000000000) :
    Fn Tryz.prog 67 [.pointer (some ⟨x, 0, none⟩), .agg z.cells.toArray] w (fun v w' => v = .int .i64 (f.length : Nat) ∧ WtTo w0 base x NA nn nc root w A (f ++ [z]) w') := by
  refine fn_of_exec (c := c67) gx_ok Tryz.func67 rfl rfl rfl ?_
  refine new (fun w1 hE1 hz1 hB1 => ?_)
  have h1 := h.ext hE1
  have hrows := h.own.rows
  refine draw_plan gx_ok (Mod (rowS A) w1) 8 [(true, 0), (true, 1), (true, 2), (true, 3), (true, 4), (true, 5), (false, 6), (false, 7)] (by kernel_rfl) (Mod.of_ext _ (Ext.drew w1)) ?_
  refine qload (v := .slice A f.length c) (fun w' hw' => by rw [(h1.blk.mod hw' h.nrow).cell]; rfl) ?_
  have hn1 : ¬ rowS A w.heap.size := fun hr => by have := (hrows _ hr).2; omega
  refine qloadN (vs := z.cells) rfl (fun w' hw' j v hj => by rw [(hB1.mod hw' hn1).cell]; exact hj) ?_
  refine at_buildN gx_ok [z.cells] rfl rfl rfl rfl rfl ⟨rfl, rfl, ⟨⟩⟩ rfl (fun cs h => by simp only [List.mem_singleton] at h; subst h; rfl) rfl (by decide) (by decide) ?_
  intro w2 hE2 hz2 hB2
  have hE12 := (Ext.drew w1).trans hE2
  have h2 := h1.ext hE12
  refine ⟨Mod.of_ext _ hE12, ?_⟩
  have hs2 : Sl w2 4 (some ⟨w1.drew.heap.size, 0, none⟩) 1 1 z.cells := Sl.own (sz := 4) (n := 1) hB2 (Nat.le_refl _) (by decide) (by simp [Fz.cells])
  refine at_app gx_ok rfl rfl rfl rfl rfl (by decide) rfl rfl ⟨_, rfl⟩ rfl rfl h2.own hs2 (by intro u hu; simp [Fz.cells] at hu; rcases hu with rfl | rfl | rfl | rfl <;> rfl) (by unfold maxLen; omega) (by show _ * 32 ≤ _; omega) h2.top ?_
  intro A' c' w3 hm3 hown3 hmv3
  have hM13 : Mod (rowS A) w1 w3 := (Mod.of_ext (rowS A) hE12).trans hm3 (fun i hi => .inl hi)
  refine ⟨hM13, ?_⟩
  have hB3 := h1.blk.mod hM13 h.nrow
  refine store_mod hB3 (by simp) (fun w4 hm4 hB4 => ?_)
  refine load_blk hB4 rfl ?_
  refine norm_i64_to ((f.length : Nat) : Int) (by omega) (by omega) ?_
  have hE3 : Ext w0 w3 := hM13.ext h1.e0 (fun i hi => by have := (hrows i hi).1; have := h.lt; have := h.x0; omega)
  have el : (f ++ [z]).length = f.length + 1 := by simp
  have hz := hE12.size
  have hM4 : Mod (RdS x A) w w4 := ((Mod.of_ext (RdS x A) hE1).trans hM13 (fun i hi => .inl (.inr hi))).trans hm4 (fun i hi => .inl (.inl hi))
  refine ⟨rfl, A', c', ⟨hm4.ext hE3 (fun i hi => by have := h.x0; omega), h.x0, h.lt, ?_, ?_, ?_⟩, hM4, hmv3.back (Nat.le_trans hE1.size hz)⟩
  · have := hM13.size; have := hm4.size; have := h1.top; omega
  · rw [el]; exact hB4
  · rw [el, fzV_snoc]
    exact hown3.mod hm4 (fun k hk e => by have := (hown3.rows k hk).1; have := h.lt; omega)

/-- What a function of the writer does: it appends a tree. -/
def WtFn (w0 : World) (base x : Nat) (NA : Option Addr) (nn nc : Nat) (root : Int) (F : Nat) (args : List Value) (t : Fm) : Prop := ∀ (A : Option Addr) (c : Nat) (f : List Fz) (w : World), Wt w0 w base x NA nn nc root A c f → f.length + szF t ≤ 1000000000000 →
  Fn Tryz.prog F (.pointer (some ⟨x, 0, none⟩) :: args) w (fun v w' => v = .int .i64 ((f.length + szF t - 1 : Nat) : Int) ∧ WtTo w0 base x NA nn nc root w A (f ++ postF t f.length) w')

theorem wvariable_fn (v : Int) (pos : Bool) (hv : 0 ≤ v) : WtFn w0 base x NA nn nc root 68 [.int .i64 v, .bool pos] (litF v.toNat pos) := by
  intro A c f w h hl
  have e : (⟨2, v, 0, 0⟩ : Fz) = ⟨2, (v.toNat : Nat), 0, 0⟩ := by rw [Int.toNat_of_nonneg hv]
  refine fn_of_exec (c := { c68 with cuts := [] }) gx_ok Tryz.func68 rfl rfl rfl ?_
  cases pos with
  | true =>
    have hl' : f.length + 1 ≤ 1000000000000 := hl
    refine call (wput_fn A c f ⟨2, v, 0, 0⟩ w h hl') ?_
    rintro _ w1 ⟨rfl, h1⟩
    refine wif_t rfl ?_
    exact ⟨rfl, by rw [e] at h1; exact h1⟩
  | false =>
    have hl' : f.length + 2 ≤ 1000000000000 := hl
    refine call (wput_fn A c f ⟨2, v, 0, 0⟩ w h (by omega)) ?_
    rintro _ w1 ⟨rfl, A1, c1, h1, hm1, hv1⟩
    refine wif_f rfl ?_
    refine call (wput_fn A1 c1 _ ⟨3, 0, (f.length : Nat), 0⟩ w1 h1 (by simp; omega)) ?_
    rintro _ w2 ⟨rfl, h2⟩
    refine ⟨by simp [litF, szF], ?_⟩
    rw [e] at h2
    have e2 : f ++ postF (litF v.toNat false) f.length = (f ++ [⟨2, (v.toNat : Nat), 0, 0⟩]) ++ [⟨3, 0, (f.length : Nat), 0⟩] := by simp [litF, postF, szF]
    rw [e2]; exact h2.step hm1 hv1

theorem wjoined_fn (op v : Int) (pos : Bool) (n : Int) (t : Fm) (mk : Fm → Fm → Fm) (hv : 0 ≤ v) (H : WtFn w0 base x NA nn nc root 39 [.int .i64 n] t) (hs : ∀ a b, szF (mk a b) = szF a + szF b + 1)
    (hp : ∀ a b k, postF (mk a b) k = postF a k ++ postF b (k + szF a) ++ [⟨op, 0, ((k + szF a - 1 : Nat) : Int), ((k + szF a + szF b - 1 : Nat) : Int)⟩]) :
    WtFn w0 base x NA nn nc root 69 [.int .i64 op, .int .i64 v, .bool pos, .int .i64 n] (mk (litF v.toNat pos) t) := by
  intro A c f w h hl
  rw [hs] at hl
  have p1 := szF_pos (litF v.toNat pos)
  have p2 := szF_pos t
  refine fn_of_exec (c := { c69 with cuts := [] }) gx_ok Tryz.func69 rfl rfl rfl ?_
  refine call (wvariable_fn v pos hv A c f w h (by omega)) ?_
  rintro _ w1 ⟨rfl, A1, c1, h1, hm1, hv1⟩
  have l1 : (f ++ postF (litF v.toNat pos) f.length).length = f.length + szF (litF v.toNat pos) := by rw [List.length_append, postF_len]
  refine call (H A1 c1 _ w1 h1 (by rw [l1]; omega)) ?_
  rintro _ w2 ⟨rfl, A2, c2, h2, hm2, hv2⟩
  have l2 : (f ++ postF (litF v.toNat pos) f.length ++ postF t (f ++ postF (litF v.toNat pos) f.length).length).length = f.length + szF (litF v.toNat pos) + szF t := by rw [List.length_append, l1, postF_len]
  refine call (wput_fn A2 c2 _ ⟨op, 0, ((f.length + szF (litF v.toNat pos) - 1 : Nat) : Int), (((f ++ postF (litF v.toNat pos) f.length).length + szF t - 1 : Nat) : Int)⟩ w2 h2 (by rw [l2]; omega)) ?_
  rintro _ w3 ⟨rfl, h3⟩
  refine ⟨by rw [l2, hs]; congr 1; omega, ?_⟩
  have e2 : f ++ postF (mk (litF v.toNat pos) t) f.length = (f ++ postF (litF v.toNat pos) f.length ++ postF t (f ++ postF (litF v.toNat pos) f.length).length) ++ [⟨op, 0, ((f.length + szF (litF v.toNat pos) - 1 : Nat) : Int), (((f ++ postF (litF v.toNat pos) f.length).length + szF t - 1 : Nat) : Int)⟩] := by
    rw [hp, l1]; simp
  rw [e2]; exact (h3.step hm2 hv2).step hm1 hv1

theorem wnumber_fn (hN : SB w0 NA nn nc nd) (h : Rd0 nd) : ∀ (m : Nat) (n : Int), 0 ≤ n → n < m → n < nn + 2 → WtFn w0 base x NA nn nc root 39 [.int .i64 n] (cfT nd m n)
  | 0, n, h0, hm, _ => by omega
  | m + 1, n, h0, hm, hn => by
    have hnl := hN.2
    have hcap : nn ≤ 9223372036854775807 := by have := hN.1.le; have := hN.1.cap; simp only [maxLen] at this; omega
    intro A c f w hW hl
    by_cases h2 : n < 2
    · rw [cfT_lt h2] at hl ⊢
      have hl' : f.length + 1 ≤ 1000000000000 := hl
      refine fn_of_exec (c := { c39 with cuts := [] }) gx_ok Tryz.func39 rfl rfl rfl ?_
      refine wif_dt h2 ?_
      refine at_build2 gx_ok rfl rfl rfl rfl rfl rfl rfl rfl rfl rfl (fun w1 hE1 hz1 hB1 => ?_)
      have hs1 : Sl w1 1 (some ⟨w.heap.size, 0, none⟩) 2 2 [.int .i64 0, .int .i64 1] := Sl.own' (n := 2) hB1 rfl (by decide)
      obtain ⟨k, rfl⟩ : ∃ k : Nat, n = k := ⟨n.toNat, by omega⟩
      refine index_sl hs1 (by omega) (fun ad u hA hu hcell => ?_)
      have hu' : u = .int .i64 ((k : Nat) : Int) := by
        rcases (by omega : k = 0 ∨ k = 1) with rfl | rfl
        · exact (Option.some.inj hu).symm
        · exact (Option.some.inj hu).symm
      subst hu'
      refine load hcell ?_
      refine call (wput_fn A c f ⟨(k : Nat), 0, 0, 0⟩ w1 (hW.ext hE1) hl') ?_
      rintro _ w2 ⟨rfl, hT2⟩
      refine ⟨rfl, ?_⟩
      have e : (⟨(k : Nat), 0, 0, 0⟩ : Fz) = ⟨if decide ((k : Int) = 1) then 1 else 0, 0, 0, 0⟩ := by
        rcases (by omega : k = 0 ∨ k = 1) with rfl | rfl <;> rfl
      rw [e] at hT2; exact hT2.step (Mod.of_ext _ hE1) (Moved.refl _ _)
    obtain ⟨b, hb⟩ := getE h2 (show n < nd.length + 2 by omega)
    obtain ⟨b1, b2, b3, b4, b5, b6, b7, b8, b9, b10⟩ := h _ _ hb
    have ihl := wnumber_fn hN h m b.l b3 (by omega) (by omega)
    have ihh := wnumber_fn hN h m b.h b5 (by omega) (by omega)
    rw [cfT_ge h2 hb] at hl ⊢
    have J4 := fun pos n t H => wjoined_fn (w0 := w0) (base := base) (x := x) (NA := NA) (nn := nn) (nc := nc) (root := root) 4 b.v pos n t .and b1 H (fun _ _ => rfl) (fun _ _ _ => rfl)
    have J5 := fun pos n t H => wjoined_fn (w0 := w0) (base := base) (x := x) (NA := NA) (nn := nn) (nc := nc) (root := root) 5 b.v pos n t .or b1 H (fun _ _ => rfl) (fun _ _ _ => rfl)
    refine fn_of_exec (c := { c39 with cuts := [] }) gx_ok Tryz.func39 rfl rfl rfl ?_
    refine wif_df h2 ?_
    refine load_blk0 hW.blk rfl ?_
    refine norm_i64_to (((n - 2).toNat : Nat) : Int) (by omega) (by omega) ?_
    refine index_sls br_len (hN.ext hW.e0) rfl (by omega) (fun p y hy hc => ?_)
    have hyb : y = b := Option.some.inj (hy.symm.trans hb)
    subst hyb
    refine loadN_at (vs := y.cells) rfl hc ?_
    refine new (fun w1 hE1 hz1 hB1 => ?_)
    refine storeN_blk0 hB1 rfl (sc rfl) (fun w2 hg2 hz2 hB2 => ?_)
    have hE2 : Ext w w2 := newBox hE1 hB1 hg2
    have hW2 := hW.ext hE2
    have hM2 : Mod (RdS x A) w w2 := Mod.of_ext _ hE2
    have hbn : ¬ RdS x A w.heap.size := fun e => by
      have := hW.blk.lt
      rcases e with e | e
      · omega
      · have := (hW.own.rows _ e).2; omega
    refine load_blk hB2 rfl ?_
    by_cases hc : y.h < 2 ∧ y.l < 2
    · rw [if_pos hc] at hl ⊢
      refine wif_dt hc.1 ?_
      refine load_blk hB2 rfl ?_
      refine wif_dt hc.2 ?_
      refine load_blk0 hB2 rfl ?_
      refine load_blk hB2 rfl ?_
      have e : (y.h == 1) = decide (y.h = 1) := by by_cases hh : y.h = 1 <;> simp [hh]
      refine call (wvariable_fn y.v (decide (y.h = 1)) b1 A c f w2 hW2 hl) ?_
      rintro _ w3 ⟨rfl, hT3⟩
      exact ⟨rfl, hT3.step hM2 (Moved.refl _ _)⟩
    rw [if_neg hc] at hl ⊢
    have hgo : y.h < 2 → ¬ y.l < 2 := fun a b => hc ⟨a, b⟩
    rcases Classical.em (y.h < 2) with hh | hh
    all_goals first | (refine wif_dt hh ?_; refine load_blk hB2 rfl ?_; refine wif_df (hgo hh) ?_) | refine wif_df hh ?_
    all_goals clear hh
    all_goals
      by_cases c1 : y.l = 0
      · rw [if_pos c1] at hl ⊢
        refine load_blk hB2 rfl ?_
        refine wif_eqt c1 ?_
        refine load_blk0 hB2 rfl ?_
        refine load_blk hB2 rfl ?_
        refine call (J4 true y.h _ ihh A c f w2 hW2 hl) ?_
        rintro _ w3 ⟨rfl, hT3⟩
        exact ⟨rfl, hT3.step hM2 (Moved.refl _ _)⟩
      rw [if_neg c1] at hl ⊢
      refine load_blk hB2 rfl ?_
      refine wif_eqf c1 ?_
      by_cases c2 : y.h = 0
      · rw [if_pos c2] at hl ⊢
        refine load_blk hB2 rfl ?_
        refine wif_eqt c2 ?_
        refine load_blk0 hB2 rfl ?_
        refine load_blk hB2 rfl ?_
        refine call (J4 false y.l _ ihl A c f w2 hW2 hl) ?_
        rintro _ w3 ⟨rfl, hT3⟩
        exact ⟨rfl, hT3.step hM2 (Moved.refl _ _)⟩
      rw [if_neg c2] at hl ⊢
      refine load_blk hB2 rfl ?_
      refine wif_eqf c2 ?_
      by_cases c3 : y.h = 1
      · rw [if_pos c3] at hl ⊢
        refine load_blk hB2 rfl ?_
        refine wif_eqt c3 ?_
        refine load_blk0 hB2 rfl ?_
        refine load_blk hB2 rfl ?_
        refine call (J5 true y.l _ ihl A c f w2 hW2 hl) ?_
        rintro _ w3 ⟨rfl, hT3⟩
        exact ⟨rfl, hT3.step hM2 (Moved.refl _ _)⟩
      rw [if_neg c3] at hl ⊢
      refine load_blk hB2 rfl ?_
      refine wif_eqf c3 ?_
      by_cases c4 : y.l = 1
      · rw [if_pos c4] at hl ⊢
        refine load_blk hB2 rfl ?_
        refine wif_eqt c4 ?_
        refine load_blk0 hB2 rfl ?_
        refine load_blk hB2 rfl ?_
        refine call (J5 false y.h _ ihh A c f w2 hW2 hl) ?_
        rintro _ w3 ⟨rfl, hT3⟩
        exact ⟨rfl, hT3.step hM2 (Moved.refl _ _)⟩
      rw [if_neg c4] at hl ⊢
      refine load_blk hB2 rfl ?_
      refine wif_eqf c4 ?_
      have hl' : f.length + (szF (litF y.v.toNat true) + szF (cfT nd m y.h) + 1 + (szF (litF y.v.toNat false) + szF (cfT nd m y.l) + 1) + 1) ≤ 1000000000000 := hl
      refine load_blk0 hB2 rfl ?_
      refine load_blk hB2 rfl ?_
      refine call (J4 true y.h _ ihh A c f w2 hW2 (by show f.length + (szF (litF y.v.toNat true) + szF (cfT nd m y.h) + 1) ≤ _; omega)) ?_
      rintro _ w3 ⟨rfl, A3, c3, hT3, hm3, hv3⟩
      have l3 : (f ++ postF (.and (litF y.v.toNat true) (cfT nd m y.h)) f.length).length = f.length + szF (.and (litF y.v.toNat true) (cfT nd m y.h)) := by rw [List.length_append, postF_len]
      have hB3 := hB2.mod hm3 hbn
      refine load_blk0 hB3 rfl ?_
      refine load_blk hB3 rfl ?_
      refine call (J4 false y.l _ ihl A3 c3 _ w3 hT3 (by rw [l3]; show f.length + (szF (litF y.v.toNat true) + szF (cfT nd m y.h) + 1) + (szF (litF y.v.toNat false) + szF (cfT nd m y.l) + 1) ≤ _; omega)) ?_
      rintro _ w4 ⟨rfl, A4, c4, hT4, hm4, hv4⟩
      have l4 : (f ++ postF (.and (litF y.v.toNat true) (cfT nd m y.h)) f.length ++ postF (.and (litF y.v.toNat false) (cfT nd m y.l)) (f ++ postF (.and (litF y.v.toNat true) (cfT nd m y.h)) f.length).length).length = f.length + szF (.and (litF y.v.toNat true) (cfT nd m y.h)) + szF (.and (litF y.v.toNat false) (cfT nd m y.l)) := by rw [List.length_append, l3, postF_len]
      refine call (wput_fn A4 c4 _ ⟨5, 0, ((f.length + szF (.and (litF y.v.toNat true) (cfT nd m y.h)) - 1 : Nat) : Int), (((f ++ postF (.and (litF y.v.toNat true) (cfT nd m y.h)) f.length).length + szF (.and (litF y.v.toNat false) (cfT nd m y.l)) - 1 : Nat) : Int)⟩ w4 hT4 (by rw [l4]; show f.length + (szF (litF y.v.toNat true) + szF (cfT nd m y.h) + 1) + (szF (litF y.v.toNat false) + szF (cfT nd m y.l) + 1) + 1 ≤ _; omega)) ?_
      rintro _ w5 ⟨rfl, hT5⟩
      refine ⟨by rw [l4, show ∀ a b : Fm, szF (.or a b) = szF a + szF b + 1 from fun _ _ => rfl]; congr 1; omega, ?_⟩
      rw [l3] at hT5
      have e2 : f ++ postF (.or (.and (litF y.v.toNat true) (cfT nd m y.h)) (.and (litF y.v.toNat false) (cfT nd m y.l))) f.length = f ++ postF (.and (litF y.v.toNat true) (cfT nd m y.h)) f.length ++ postF (.and (litF y.v.toNat false) (cfT nd m y.l)) (f.length + szF (.and (litF y.v.toNat true) (cfT nd m y.h))) ++ [⟨5, 0, ((f.length + szF (.and (litF y.v.toNat true) (cfT nd m y.h)) - 1 : Nat) : Int), ((f.length + szF (.and (litF y.v.toNat true) (cfT nd m y.h)) + szF (.and (litF y.v.toNat false) (cfT nd m y.l)) - 1 : Nat) : Int)⟩] := by
        rw [show postF (.or (.and (litF y.v.toNat true) (cfT nd m y.h)) (.and (litF y.v.toNat false) (cfT nd m y.l))) f.length = postF (.and (litF y.v.toNat true) (cfT nd m y.h)) f.length ++ postF (.and (litF y.v.toNat false) (cfT nd m y.l)) (f.length + szF (.and (litF y.v.toNat true) (cfT nd m y.h))) ++ [⟨5, 0, ((f.length + szF (.and (litF y.v.toNat true) (cfT nd m y.h)) - 1 : Nat) : Int), ((f.length + szF (.and (litF y.v.toNat true) (cfT nd m y.h)) + szF (.and (litF y.v.toNat false) (cfT nd m y.l)) - 1 : Nat) : Int)⟩] from rfl]
        simp only [List.append_assoc]
      rw [e2]; exact ((hT5.step hm4 hv4).step hm3 hv3).step hM2 (Moved.refl _ _)
end
end Go.Proofs.YtdbhjlpkopnebaaGreatDoor
