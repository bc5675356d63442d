/-
  FormulaRoundTrip: the walk.
  Conditions: none.
-/
import Derived.Test.YtdbhjlpkopnebaaDoorPo
namespace Go.Proofs.YtdbhjlpkopnebaaDoor
open Go Go.RowKit

theorem parF_len (b : Bool) (s : List Nat) : (parF b s).length ≤ s.length + 2 := by cases b <;> simp [parF]
theorem prC_len {nm : List (List Nat)} {M : Nat} (hM : ∀ s ∈ nm, s.length ≤ M) : ∀ t : Fm, (prC nm t).length + 2 ≤ szF t * (M + 10)
  | .c b => by cases b <;> simp [prC, szF, trueL, falseL] <;> omega
  | .v n => by
    have : (nm[n]?.getD []).length ≤ M := by
      cases h : nm[n]? with
      | none => simp
      | some s => exact hM s (List.mem_of_getElem? h)
    show (nm[n]?.getD []).length + 2 ≤ 1 * (M + 10)
    omega
  | .not a => by
    have h1 := prC_len hM a
    have h2 := parF_len (decide (lvlF a < 2)) (prC nm a)
    show (33 :: parF _ _).length + 2 ≤ (szF a + 1) * (M + 10)
    rw [List.length_cons, Nat.add_mul]; omega
  | .and a b => by
    have h1 := prC_len hM a
    have h2 := prC_len hM b
    have h3 := parF_len (decide (lvlF a < 1)) (prC nm a)
    have h4 := parF_len (decide (lvlF b < 2)) (prC nm b)
    show (parF _ _ ++ [32, 38, 38, 32] ++ parF _ _).length + 2 ≤ (szF a + szF b + 1) * (M + 10)
    rw [List.length_append, List.length_append, Nat.add_mul, Nat.add_mul]
    simp only [List.length_cons, List.length_nil]; omega
  | .or a b => by
    have h1 := prC_len hM a
    have h2 := prC_len hM b
    have h3 := parF_len (decide (lvlF a < 0)) (prC nm a)
    have h4 := parF_len (decide (lvlF b < 1)) (prC nm b)
    show (parF _ _ ++ [32, 124, 124, 32] ++ parF _ _).length + 2 ≤ (szF a + szF b + 1) * (M + 10)
    rw [List.length_append, List.length_append, Nat.add_mul, Nat.add_mul]
    simp only [List.length_cons, List.length_nil]; omega
theorem prF_len {nm : List (List Nat)} {M : Nat} (hM : ∀ s ∈ nm, s.length ≤ M) (t : Fm) : (prF nm 0 t).length ≤ szF t * (M + 10) := by
  have h1 := prC_len hM t
  have h2 := parF_len (decide (lvlF t < 0)) (prC nm t)
  unfold prF; omega
theorem letters_len (k : Nat) : ∀ s ∈ letters12.take k, s.length ≤ 9 := by
  have : letters12.all (fun s => decide (s.length ≤ 9)) = true := by decide
  intro s hs
  simpa using List.all_eq_true.1 this s (List.mem_of_mem_take hs)

/-- What stands of a made formula: its tree. -/
structure MadeF (nv : Nat) (f : List Fz) (t : Fm) : Prop where
  fv : FV f
  vo : varsOk nv f
  tr : treeOf f = t
  vi : VarsIn nv t
  sz : szF t ≤ 80
theorem madeF {nv : Nat} {f : List Fz} (h : FV f) (hv : varsOk nv f) (hl : f.length ≤ 80) : MadeF nv f (treeOf f) :=
  ⟨h, hv, rfl, varsIn_of hv (treeOf_rep h), by rw [szF_total h]; exact hl⟩
theorem varsOk.mono {n m : Nat} (h : n ≤ m) {f : List Fz} (k : varsOk n f) : varsOk m f := fun x hx ho => by have := k x hx ho; omega
theorem lett_print {nv k : Nat} {f : List Fz} {t : Fm} (h : MadeF nv f t) (hk : k ≤ 12) (hv : nv ≤ k) : printP (letters12.take k) f = (prF (letters12.take k) 0 t, 0) ∧ (prF (letters12.take k) 0 t).length ≤ 1520 ∧ (∀ x ∈ prF (letters12.take k) 0 t, x < 256) := by
  obtain ⟨h1, h2, h3⟩ := letters_ok k hk
  refine ⟨?_, ?_, ?_⟩
  · rw [printP_ok h2 h.fv (by rw [h3]; exact h.vo.mono hv), h.tr]
  · have := prF_len (letters_len k) t
    have h5 := h.sz
    have : szF t * (9 + 10) ≤ 80 * 19 := Nat.mul_le_mul h5 (Nat.le_refl _)
    omega
  · intro x hx
    unfold prF at hx
    rw [show decide (lvlF t < 0) = false from decide_eq_false (by omega)] at hx
    exact prF_b8 h1 t x hx
theorem lett_parse {nv k : Nat} {f : List Fz} {t : Fm} (h : MadeF nv f t) (hk : k ≤ 12) (hv : nv ≤ k) : parseP (letters12.take k) (prF (letters12.take k) 0 t) = (postF t 0, 0) := by
  obtain ⟨h1, h2, h3⟩ := letters_ok k hk
  exact parse_print h2 (nmOk_of h1 h2) t (by rw [h3]; exact h.vi.mono hv) (by have := h.sz; omega)
theorem lett_post {nv k : Nat} {f : List Fz} {t : Fm} (h : MadeF nv f t) (hk : k ≤ 12) (hv : nv ≤ k) : printP (letters12.take k) (postF t 0) = (prF (letters12.take k) 0 t, 0) := by
  obtain ⟨h1, h2, h3⟩ := letters_ok k hk
  exact print_post h2 (by rw [h3]; exact h.vi.mono hv) (by omega) (by have := h.sz; omega)

theorem round_law (l : List Nat) (A : Option Addr) (n c : Nat) (k : Nat) (w : World) (h : Sl w 1 A n c (bytesV l)) (h8 : ∀ x ∈ l, x ≤ 255) (_ : k ≤ 255) :
    Fn Tryd.prog 5 [.slice A n c, .int .u8 k] w (fun v w' => v = .bool true ∧ Ext w w') := by
  refine fn_of_exec (c := { c5 with cuts := [] }) gx_ok Tryd.func5 rfl rfl rfl ?_
  refine call (sanity_fn w) ?_
  rintro _ w1 ⟨rfl, hE1⟩
  refine call (letters_fn 12 w1 (by decide)) ?_
  rintro _ w2 ⟨LA, lc, rfl, hE2, hL⟩
  have hE02 := hE1.trans hE2
  obtain ⟨lb, lo, ll⟩ := letters_ok 12 (by decide)
  have km : k % 12 < 12 := Nat.mod_lt _ (by decide)
  refine norm_rem (d := 12) (by decide) ?_
  refine norm_i64_to ((k % 12 : Nat) : Int) rfl (by omega) ?_
  refine norm_i64_to ((k % 12 + 1 : Nat) : Int) (by omega) (by omega) ?_
  refine call (made_fn l A n c (k % 12 + 1) w2 (h.ext hE02) h8 (by omega) (by omega)) ?_
  rintro _ w3 ⟨F, m, cF, f, rfl, hE3, hF, hfv, hvo, hfl⟩
  have hM := madeF hfv hvo hfl
  obtain ⟨p1, p2, p3⟩ := lett_print hM (k := 12) (by decide) (by omega)
  have q1 := lett_parse hM (k := 12) (by decide) (by omega)
  have r1 := lett_post hM (k := 12) (by decide) (by omega)
  refine call (print_fn (letters12.take 12) LA F 12 lc m cF f w3 (hL.ext hE3) lb hF (fun _ _ => by omega)) ?_
  rw [p1]
  rintro _ w4 ⟨rfl, hE4⟩
  have hE24 := hE3.trans hE4
  refine call (parse_fn (letters12.take 12) LA 12 lc (prF (letters12.take 12) 0 (treeOf f)) w4 (hL.ext hE24) lb p3 (by omega)) ?_
  rw [q1]
  rintro _ w5 ⟨G, mg, cG, rfl, hE5, hG⟩
  have hE25 := hE24.trans hE5
  refine call (print_fn (letters12.take 12) LA G 12 lc mg cG (postF (treeOf f) 0) w5 (hL.ext hE25) lb hG (fun _ _ => by rw [treeOf_post]; omega)) ?_
  rw [r1]
  rintro _ w6 ⟨rfl, hE6⟩
  refine wif_t rfl ?_
  refine wif_eqt rfl ?_
  refine wif_eqt rfl ?_
  refine wif_eqt rfl ?_
  have hE36 := hE4.trans (hE5.trans hE6)
  refine call (postorder_fn F m cF f w6 (hF.ext hE36) hfv) ?_
  rintro _ w7 ⟨PA, pc, rfl, hE7, hP⟩
  refine call (rsamef_fn G PA mg cG _ pc _ _ w7 ((hG.ext hE6).ext hE7) hP) ?_
  rintro _ w8 ⟨rfl, hE8⟩
  refine wif_dt rfl ?_
  exact ⟨by rw [decide_eq_true rfl], hE02.trans (hE3.trans (hE36.trans (hE7.trans hE8)))⟩
end Go.Proofs.YtdbhjlpkopnebaaDoor
