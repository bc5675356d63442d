/-
  formula: formulas as trees; what is printed; strength, a deferred WriteByte. (Printed by fe1gen.py.)
  formula: write. (Printed by fe2gen.py.)
  formula: Print.
  Conditions: none.
-/
import Derived.Test.YtdbhjlpkopnebaaGreatDoorBld
import Derived.Test.YtdbhjlpkopnebaaGreatDoorKc
namespace Go.Proofs.YtdbhjlpkopnebaaGreatDoor
section
open Go Go.RowKit

/-- A formula. -/
inductive Fm where
  | c (b : Bool)
  | v (n : Nat)
  | not (a : Fm)
  | and (a b : Fm)
  | or (a b : Fm)
deriving DecidableEq

/-- The nodes show this formula at i. -/
def RepF (f : List Fz) : Fm → Nat → Prop
  | .c b, i => f[i]? = some ⟨if b then 1 else 0, 0, 0, 0⟩
  | .v n, i => f[i]? = some ⟨2, (n : Nat), 0, 0⟩
  | .not a, i => ∃ j : Nat, j < i ∧ f[i]? = some ⟨3, 0, (j : Nat), 0⟩ ∧ RepF f a j
  | .and a b, i => ∃ j k : Nat, j < i ∧ k < i ∧ f[i]? = some ⟨4, 0, (j : Nat), (k : Nat)⟩ ∧ RepF f a j ∧ RepF f b k
  | .or a b, i => ∃ j k : Nat, j < i ∧ k < i ∧ f[i]? = some ⟨5, 0, (j : Nat), (k : Nat)⟩ ∧ RepF f a j ∧ RepF f b k

theorem fz_form {x : Fz} {i : Nat} (h : fzP x i) : (x = ⟨0, 0, 0, 0⟩) ∨ (x = ⟨1, 0, 0, 0⟩) ∨ (∃ n : Nat, n < 64 ∧ x = ⟨2, n, 0, 0⟩) ∨ (∃ j : Nat, j < i ∧ x = ⟨3, 0, j, 0⟩) ∨ (∃ j k : Nat, j < i ∧ k < i ∧ (x = ⟨4, 0, j, k⟩ ∨ x = ⟨5, 0, j, k⟩)) := by
  obtain ⟨o, v, a, b⟩ := x
  obtain ⟨h1, h2, h3, h4⟩ := h
  simp only at h1 h2 h3 h4
  rcases fAr_cases o with ⟨ho, e⟩ | ⟨ho, e⟩ | ⟨ho, e⟩ | ⟨e, _⟩
  · rw [if_neg (by omega)] at h3 h4
    subst h3; subst h4
    rcases ho with rfl | rfl | rfl
    · rw [if_neg (by omega)] at h2; subst h2; exact .inl rfl
    · rw [if_neg (by omega)] at h2; subst h2; exact .inr (.inl rfl)
    · rw [if_pos rfl] at h2
      refine .inr (.inr (.inl ⟨v.toNat, by omega, ?_⟩))
      rw [Int.toNat_of_nonneg h2.1]
  · rw [if_pos (by omega)] at h3
    rw [if_neg (by omega)] at h4 h2
    subst ho; subst h4; subst h2
    refine .inr (.inr (.inr (.inl ⟨a.toNat, by omega, ?_⟩)))
    rw [Int.toNat_of_nonneg h3.1]
  · rw [if_pos (by omega)] at h3 h4
    rw [if_neg (by omega)] at h2
    subst h2
    refine .inr (.inr (.inr (.inr ⟨a.toNat, b.toNat, by omega, by omega, ?_⟩)))
    rw [Int.toNat_of_nonneg h3.1, Int.toNat_of_nonneg h4.1]
    rcases ho with rfl | rfl
    · exact .inl rfl
    · exact .inr rfl
  · omega
theorem rep_of {f : List Fz} (h : ∀ i x, f[i]? = some x → fzP x i) : ∀ i, i < f.length → ∃ t, RepF f t i := by
  intro i
  induction i using Nat.strongRecOn with
  | _ i ih =>
    intro hi
    have hx := List.getElem?_eq_getElem hi
    rcases fz_form (h i _ hx) with e | e | ⟨n, _, e⟩ | ⟨j, hj, e⟩ | ⟨j, k, hj, hk, e⟩
    · exact ⟨.c false, by rw [e] at hx; exact hx⟩
    · exact ⟨.c true, by rw [e] at hx; exact hx⟩
    · exact ⟨.v n, by rw [e] at hx; exact hx⟩
    · obtain ⟨a, ha⟩ := ih j hj (by omega)
      exact ⟨.not a, j, hj, by rw [e] at hx; exact hx, ha⟩
    · obtain ⟨a, ha⟩ := ih j hj (by omega)
      obtain ⟨b, hb⟩ := ih k hk (by omega)
      rcases e with e | e
      · exact ⟨.and a b, j, k, hj, hk, by rw [e] at hx; exact hx, ha, hb⟩
      · exact ⟨.or a b, j, k, hj, hk, by rw [e] at hx; exact hx, ha, hb⟩
theorem RepF.lt {f : List Fz} : ∀ {t : Fm} {i : Nat}, RepF f t i → i < f.length
  | .c _, _, h => (List.getElem?_eq_some_iff.1 h).1
  | .v _, _, h => (List.getElem?_eq_some_iff.1 h).1
  | .not _, _, ⟨_, _, h, _⟩ => (List.getElem?_eq_some_iff.1 h).1
  | .and _ _, _, ⟨_, _, _, _, h, _⟩ => (List.getElem?_eq_some_iff.1 h).1
  | .or _ _, _, ⟨_, _, _, _, h, _⟩ => (List.getElem?_eq_some_iff.1 h).1

def lvlF : Fm → Nat
  | .or _ _ => 0
  | .and _ _ => 1
  | _ => 2
def parF (b : Bool) (s : List Nat) : List Nat := if b then 40 :: s ++ [41] else s
/-- What is printed, without the outer parentheses. -/
def prC (nm : List (List Nat)) : Fm → List Nat
  | .c b => if b then trueL else falseL
  | .v n => nm[n]?.getD []
  | .not a => 33 :: parF (decide (lvlF a < 2)) (prC nm a)
  | .and a b => parF (decide (lvlF a < 1)) (prC nm a) ++ [32, 38, 38, 32] ++ parF (decide (lvlF b < 2)) (prC nm b)
  | .or a b => parF (decide (lvlF a < 0)) (prC nm a) ++ [32, 124, 124, 32] ++ parF (decide (lvlF b < 1)) (prC nm b)
def prF (nm : List (List Nat)) (least : Nat) (t : Fm) : List Nat := parF (decide (lvlF t < least)) (prC nm t)
/-- Every condition has a name. -/
def VarsIn (n : Nat) : Fm → Prop
  | .c _ => True
  | .v k => k < n
  | .not a => VarsIn n a
  | .and a b => VarsIn n a ∧ VarsIn n b
  | .or a b => VarsIn n a ∧ VarsIn n b

theorem strength_fn (o : Int) (w : World) : Fn Tryz.prog 79 [.int .i64 o] w (fun v w' => v = .int .i64 (if o = 5 then 0 else if o = 4 then 1 else 2) ∧ w = w') := by
  refine fn_of_exec (c := c79) gx_ok Tryz.func79 rfl rfl rfl ?_
  refine wif_eq (fun h => ?_) (fun h => ?_)
  · exact ⟨by rw [if_pos h], rfl⟩
  refine wif_eq (fun h1 => ?_) (fun h1 => ?_)
  · exact ⟨by rw [if_neg h, if_pos h1], rfl⟩
  · exact ⟨by rw [if_neg h, if_neg h1], rfl⟩

theorem writeByteD (u : FrameMode) (base g t : Nat) (rest : List Value) (A : Option Addr) (c : Nat) (out : List Nat) (b : Nat) (w : World) (hl : LiesB t (rest.length + 2)) (hb : Bld w base g t rest A c out) (hs : out.length + 1 ≤ 140737488355328) :
    CallsD Tryz.prog 80 [.pointer (some ⟨g, 0, none⟩), .int .u8 b].toArray u w (fun e u' w' => u' = u ∧ ∃ v, e = .returned v ∧ (fun _ w' => ∃ A' c', Bld w' base g t rest A' c' (out ++ [b]) ∧ Mod (BldS g A) w w' ∧ Moved w A A') v w') := by
  refine callsD_of_exec (c := c80) gx_ok u Tryz.func80 rfl rfl rfl ?_
  obtain ⟨pa, hpa, hB⟩ := hb.blk
  refine call (copyCheck_fn g t pa _ rest w hl hpa hB) ?_
  rintro v w1 ⟨hm1, hB1⟩
  have hrows := hb.own.rows
  have hg1 := hb.g1
  have htop := hb.top
  have hn : ¬ rowS A g := fun h => by have := (hrows g h).1; omega
  have hown1 := hb.own.mod hm1 (fun k hk e => hn (e ▸ hk))
  refine load_blk hB1 rfl ?_
  refine at_build1 gx_ok rfl rfl rfl rfl rfl rfl rfl rfl ?_
  intro w7 hE7 hsz7 hB7
  have hs7 : Sl w7 1 (some ⟨w1.heap.size, 0, none⟩) 1 1 [.int .u8 (b : Int)] := Sl.own' hB7 rfl (by simp [maxLen])
  have hsz1 := hm1.size
  have hsz7' := hE7.size
  refine at_app gx_ok rfl rfl rfl rfl rfl (by decide) rfl rfl ⟨_, rfl⟩ rfl rfl (hown1.ext hE7) hs7 (by simp [scalar]) (by unfold maxLen; omega) (by show _ * 1 ≤ _; omega) (by omega) ?_
  intro A' c' w2 hm2 hown2 hmv2
  refine store_mod ((hB1.ext hE7).mod hm2 hn) (by simp) (fun w3 hm3 hB3 => ?_)
  have hrows2 := hown2.rows
  refine ⟨A', c', ⟨hg1, by have := hm2.size; have := hm3.size; omega, ⟨_, .inr rfl, by rw [List.length_append]; exact hB3⟩, ?_⟩, ?_, hmv2.back (by omega)⟩
  · rw [List.length_append, bytesV_append]
    exact hown2.mod hm3 (fun k hk e => by have := (hrows2 k hk).1; omega)
  · exact (((hm1.mono (S' := BldS g A) (fun i hi => .inl (.inl hi))).trans (Mod.of_ext (fun _ => False) hE7) (fun i hi => hi.elim)).trans hm2 (fun i hi => .inl (.inr hi))).trans hm3 (fun i hi => .inl (.inl hi))
end

section
open Go Go.RowKit

theorem arr_fix (a b : Value) : (#[] ++ [a, b].toArray) ++ #[] = [a, b].toArray := by simp
theorem liesB0 : LiesB 84 2 := by unfold LiesB; kernel_rfl

/-- Something was written. -/
def Wr (base g : Nat) (W : World) (A1 : Option Addr) (out xs : List Nat) (w' : World) : Prop := ∃ A' c', Bld w' base g 84 [] A' c' (out ++ xs) ∧ Mod (BldS g A1) W w' ∧ Moved W A1 A'
theorem Wr.refl {base g : Nat} {W : World} {A1 : Option Addr} {c : Nat} {out : List Nat} (h : Bld W base g 84 [] A1 c out) : Wr base g W A1 out [] W := ⟨A1, c, by simpa using h, Mod.refl _ _, Moved.refl _ _⟩
theorem Wr.trans {base g : Nat} {W w1 w2 : World} {A1 A' : Option Addr} {out xs ys : List Nat} (hm : Mod (BldS g A1) W w1) (hv : Moved W A1 A') (k : Wr base g w1 A' (out ++ xs) ys w2) : Wr base g W A1 out (xs ++ ys) w2 := by
  obtain ⟨A2, c2, hb2, hm2, hv2⟩ := k
  exact ⟨A2, c2, by rw [← List.append_assoc]; exact hb2, hm.trans hm2 (BldS.moved hv), hv.trans hv2 hm.size⟩
theorem Wr.pre {base g : Nat} {w w2 w' : World} {A : Option Addr} {out xs : List Nat} (h : Wr base g w2 A out xs w') (hE : Ext w w2) : Wr base g w A out xs w' := by
  obtain ⟨A2, c2, hb2, hm2, hv2⟩ := h
  exact ⟨A2, c2, hb2, (Mod.of_ext _ hE).trans hm2 (fun i hi => .inl hi), hv2.back hE.size⟩
theorem BldS.kept {base g : Nat} {w0 W : World} {A : Option Addr} {c : Nat} {out : List Nat} (h : Bld W base g 84 [] A c out) (hg : w0.heap.size ≤ g) : ∀ i, BldS g A i → w0.heap.size ≤ i := fun i hi => by
  have := h.g1
  rcases hi with rfl | hi
  · exact hg
  · have := (h.own.rows i hi).1
    omega

def szF : Fm → Nat
  | .c _ => 1
  | .v _ => 1
  | .not a => szF a + 1
  | .and a b => szF a + szF b + 1
  | .or a b => szF a + szF b + 1

def opF : Fm → Int
  | .c b => if b then 1 else 0
  | .v _ => 2
  | .not _ => 3
  | .and _ _ => 4
  | .or _ _ => 5
theorem opF_lvl (t : Fm) : (if opF t = 5 then (0 : Int) else if opF t = 4 then 1 else 2) = (lvlF t : Nat) := by
  cases t with
  | c b => cases b <;> rfl
  | _ => rfl
theorem RepF.node {f : List Fz} {t : Fm} {i : Nat} (h : RepF f t i) : ∃ x, f[i]? = some x ∧ x.o = opF t := by
  cases t with
  | c b => exact ⟨_, h, rfl⟩
  | v n => exact ⟨_, h, rfl⟩
  | not a => obtain ⟨j, _, h, _⟩ := h; exact ⟨_, h, rfl⟩
  | and a b => obtain ⟨j, k, _, _, h, _⟩ := h; exact ⟨_, h, rfl⟩
  | or a b => obtain ⟨j, k, _, _, h, _⟩ := h; exact ⟨_, h, rfl⟩

def WriteC (base g : Nat) (w0 : World) (NA : Option Addr) (nn nc : Nat) (nm : List (List Nat)) (FA : Option Addr) (nf cf : Nat) (f : List Fz) (t : Fm) : Prop :=
  ∀ (i least : Nat) (A : Option Addr) (c : Nat) (out : List Nat) (w : World), Ext w0 w → Bld w base g 84 [] A c out → RepF f t i → VarsIn nn t → out.length + (prF nm least t).length ≤ 140737488355328 → least ≤ 2 →
    Fn Tryz.prog 47 [.pointer (some ⟨g, 0, none⟩), .slice NA nn nc, .slice FA nf cf, .int .i64 i, .int .i64 least] w (fun _ w' => Wr base g w A out (prF nm least t) w')

theorem write_step (base g : Nat) (w0 : World) (NA : Option Addr) (nn nc : Nat) (nm : List (List Nat)) (FA : Option Addr) (nf cf : Nat) (f : List Fz) (hN : Sl w0 1 NA nn nc (strsV nm)) (hnb : NamesOk nm) (hF : SF w0 FA nf cf f) (hg0 : w0.heap.size ≤ g) (t : Fm) (ih : ∀ u : Fm, szF u < szF t → WriteC base g w0 NA nn nc nm FA nf cf f u) : WriteC base g w0 NA nn nc nm FA nf cf f t := by
  intro i least A c out w hE hb hr hv hl hle
  have hfl := hF.2
  have hnl : nm.length = nn := by have := hN.len; rw [strsV_length] at this; omega
  have hi := hr.lt
  obtain ⟨x, hx, hxo⟩ := hr.node
  refine fn_of_G (c := { c47 with cuts := [] }) gx_ok Tryz.func47 rfl rfl rfl ?_
  refine atG_seq (atG_exec gx_ok ?_)
  refine index_sls fz_len (hF.ext hE) rfl (by omega) (fun p y hy hc => ?_)
  have hyx : y = x := Option.some.inj (hy.symm.trans hx)
  subst hyx
  refine loadN_at (vs := y.cells) rfl hc ?_
  refine new (fun w1 hE1 hz1 hB1 => ?_)
  refine storeN_blk0 hB1 rfl (sc rfl) (fun w2 hg2 hz2 hX2 => ?_)
  have hE12 : Ext w w2 := newBox hE1 hB1 hg2
  have hE02 := hE.trans hE12
  have hb2 := hb.grow hE12
  have htop := hb.top
  have hg1 := hb.g1
  have hbn : ¬ BldS g A w.heap.size := fun e => by
    rcases e with e | e
    · omega
    · have := (hb.own.rows _ e).2; omega
  refine atG_seq (atG_exec gx_ok ?_)
  refine load_blk0 hX2 rfl ?_
  refine call (strength_fn y.o w2) ?_
  rintro v _ ⟨rfl, rfl⟩
  rw [hxo, opF_lvl]
  have hpl : (prF nm least t).length = (prC nm t).length + (if lvlF t < least then 2 else 0) := by
    unfold prF parF
    split
    · rename_i h; rw [if_pos (by simpa using h)]; simp
    · rename_i h; rw [if_neg (by simpa using h)]; rfl
  have hw0 : ∀ A' c' out' W w', Bld W base g 84 [] A' c' out' → Mod (BldS g A') W w' → Ext w0 W → Ext w0 w' := fun A' c' out' W w' hb hm hE => hm.ext hE (BldS.kept hb hg0)
  refine atG_seq ?_
  refine atG_seq (atG_exec gx_ok ?_)
  by_cases hd : lvlF t < least
  · rw [if_pos hd] at hpl
    have hpf : prF nm least t = [40] ++ (prC nm t ++ [41]) := by unfold prF parF; rw [if_pos (by simpa using hd)]; simp
    refine atG_t rfl (decide_eq_true (by omega)) (atG_seq (atG_exec gx_ok ?_))
    refine call (writeByte_fn base g _ [] _ _ _ 40 w2 liesB0 hb2 (by omega)) ?_
    rintro v w3 ⟨A3, c3, hb3, hm3, hv3⟩
    generalize ho1 : out ++ [40] = oo at hb3
    have hX3 := hX2.mod hm3 hbn
    have hE03 := hw0 _ _ _ _ _ hb2 hm3 hE02
    have hbn3 : ¬ BldS g A3 w.heap.size := fun e => (BldS.moved hv3 _ e).elim hbn (fun h => by omega)
    refine atG_defer gx_ok rfl rfl rfl rfl ⟨_, _, _, _, rfl, rfl, ?_⟩
    have hl1 : oo.length + (prC nm t).length ≤ 140737488355327 := by rw [← ho1, List.length_append]; simp only [List.length_cons, List.length_nil]; omega
    have hl2 := hl1
    replace hl1 : oo.length + (prC nm t).length ≤ 140737488355328 := by omega

    have hkeep : ∀ w', Mod (BldS g A3) w3 w' → Blk w' w.heap.size 51 y.cells ∧ Ext w0 w' := fun w' hm => ⟨hX3.mod hm hbn3, hw0 _ _ _ _ _ hb3 hm hE03⟩
    refine atG_seq (atG_exec gx_ok ?_)
    refine load_blk0 hX3 rfl ?_
    refine atG_exec gx_ok ?_
    rw [hxo] at *
    cases t with
    | c b =>
      cases b with
      | false =>
        refine wif_eqt rfl ?_
        refine call (writeString_fn base g _ [] _ _ _ _ w3 liesB0 hb3 (by have : (prC nm (.c false)).length = 5 := rfl; rw [this] at hl1; exact hl1)) ?_
        rintro v w9 h9
        replace h9 : Wr base g w3 A3 _ (prC nm (.c false)) w9 := h9
        obtain ⟨A9, c9, hb9, hm9, hv9⟩ := h9
        refine atG_nil (out1 gx_ok rfl rfl (.inr rfl) (arr_fix _ _) ((writeByteD .returning base g _ [] A9 c9 _ 41 w9 liesB0 hb9 (by rw [List.length_append]; omega)).mono ?_))
        rintro e u' w10 ⟨rfl, v, rfl, h10⟩
        refine ⟨v, rfl, rfl, ?_⟩
        show Wr base g w A out (prF nm least _) w10
        rw [hpf]
        exact Wr.pre (Wr.trans hm3 hv3 (by rw [ho1]; exact Wr.trans hm9 hv9 h10)) hE12
      | true =>
        refine wif_eqf (by decide) ?_
        refine wif_eqt rfl ?_
        refine call (writeString_fn base g _ [] _ _ _ _ w3 liesB0 hb3 (by have : (prC nm (.c true)).length = 4 := rfl; rw [this] at hl1; exact hl1)) ?_
        rintro v w9 h9
        replace h9 : Wr base g w3 A3 _ (prC nm (.c true)) w9 := h9
        obtain ⟨A9, c9, hb9, hm9, hv9⟩ := h9
        refine atG_nil (out1 gx_ok rfl rfl (.inr rfl) (arr_fix _ _) ((writeByteD .returning base g _ [] A9 c9 _ 41 w9 liesB0 hb9 (by rw [List.length_append]; omega)).mono ?_))
        rintro e u' w10 ⟨rfl, v, rfl, h10⟩
        refine ⟨v, rfl, rfl, ?_⟩
        show Wr base g w A out (prF nm least _) w10
        rw [hpf]
        exact Wr.pre (Wr.trans hm3 hv3 (by rw [ho1]; exact Wr.trans hm9 hv9 h10)) hE12
    | v n =>
      have hy : y = ⟨2, (n : Nat), 0, 0⟩ := Option.some.inj (hx.symm.trans hr)
      subst hy
      refine wif_eqf (by show (2 : Int) ≠ _; decide) ?_
      refine wif_eqf (by show (2 : Int) ≠ _; decide) ?_
      refine wif_eqt rfl ?_
      refine load_blk hX3 rfl ?_
      have hn : n < nn := hv
      have hgn : nm[n]? = some nm[n] := List.getElem?_eq_getElem (by omega)
      have hpn : prC nm (.v n) = nm[n] := by show nm[n]?.getD [] = _; rw [hgn]; rfl
      rw [hpn] at hl1
      generalize nm[n] = s at *
      refine index_sl (hN.ext hE03) (by omega) (fun ad u hA hu hcell => ?_)
      rw [strsV_get hgn] at hu
      cases hu
      refine load hcell ?_
      refine call (writeString_fn base g _ [] _ _ _ _ w3 liesB0 hb3 (by rw [strOf_size]; exact hl1)) ?_
      rintro v w9 h9
      rw [bytesOf_strOf (hnb s (List.mem_of_getElem? hgn)).1] at h9
      rw [← hpn] at h9
      obtain ⟨A9, c9, hb9, hm9, hv9⟩ := h9
      refine atG_nil (out1 gx_ok rfl rfl (.inr rfl) (arr_fix _ _) ((writeByteD .returning base g _ [] A9 c9 _ 41 w9 liesB0 hb9 (by rw [List.length_append]; omega)).mono ?_))
      rintro e u' w10 ⟨rfl, v, rfl, h10⟩
      refine ⟨v, rfl, rfl, ?_⟩
      show Wr base g w A out (prF nm least _) w10
      rw [hpf]
      exact Wr.pre (Wr.trans hm3 hv3 (by rw [ho1]; exact Wr.trans hm9 hv9 h10)) hE12
    | not a =>
      obtain ⟨j, hj, hy, hra⟩ := hr
      have hy := Option.some.inj (hx.symm.trans hy)
      subst hy
      refine wif_eqf (by show (3 : Int) ≠ _; decide) ?_
      refine wif_eqf (by show (3 : Int) ≠ _; decide) ?_
      refine wif_eqf (by show (3 : Int) ≠ _; decide) ?_
      refine wif_eqt rfl ?_
      have hpa : prC nm (.not a) = [33] ++ prF nm 2 a := rfl
      rw [hpa, List.length_append] at hl1
      simp only [List.length_cons, List.length_nil] at hl1
      refine call (writeByte_fn base g _ [] _ _ _ 33 w3 liesB0 hb3 (by omega)) ?_
      rintro v w7 ⟨A7, c7, hb7, hm7, hv7⟩
      obtain ⟨hX7, hE7⟩ := hkeep w7 hm7
      refine load_blk hX7 rfl ?_
      refine call (ih a (by simp only [szF]; omega) j 2 A7 c7 _ w7 hE7 hb7 hra hv (by rw [List.length_append]; simp only [List.length_cons, List.length_nil]; omega) (Nat.le_refl _)) ?_
      rintro v w9 h9
      replace h9 := Wr.trans hm7 hv7 h9
      rw [← hpa] at h9
      obtain ⟨A9, c9, hb9, hm9, hv9⟩ := h9
      refine atG_nil (out1 gx_ok rfl rfl (.inr rfl) (arr_fix _ _) ((writeByteD .returning base g _ [] A9 c9 _ 41 w9 liesB0 hb9 (by rw [List.length_append]; omega)).mono ?_))
      rintro e u' w10 ⟨rfl, v, rfl, h10⟩
      refine ⟨v, rfl, rfl, ?_⟩
      show Wr base g w A out (prF nm least _) w10
      rw [hpf]
      exact Wr.pre (Wr.trans hm3 hv3 (by rw [ho1]; exact Wr.trans hm9 hv9 h10)) hE12
    | and a b =>
      obtain ⟨j, k, hj, hk, hy, hra, hrb⟩ := hr
      have hy := Option.some.inj (hx.symm.trans hy)
      subst hy
      refine wif_eqf (by show (4 : Int) ≠ _; decide) ?_
      refine wif_eqf (by show (4 : Int) ≠ _; decide) ?_
      refine wif_eqf (by show (4 : Int) ≠ _; decide) ?_
      refine wif_eqf (by show (4 : Int) ≠ _; decide) ?_
      have hpa : prC nm (.and a b) = (prF nm 1 a ++ [32, 38, 38, 32]) ++ prF nm 2 b := rfl
      rw [hpa, List.length_append, List.length_append] at hl1
      simp only [List.length_cons, List.length_nil] at hl1
      refine load_blk hX3 rfl ?_
      refine call (ih a (by simp only [szF]; omega) j 1 _ _ _ w3 hE03 hb3 hra hv.1 (by omega) (by omega)) ?_
      rintro v w7 ⟨A7, c7, hb7, hm7, hv7⟩
      refine at_build2 gx_ok rfl rfl rfl rfl rfl rfl rfl rfl rfl rfl (fun w8 hE8 hz8 hB8 => ?_)
      refine index (j := 1) (by decide) ?_
      refine load_blk hB8 rfl ?_
      have hm8 := hm7.trans (Mod.of_ext (BldS g A7) hE8) (BldS.moved hv7)
      refine call (writeString_fn base g _ [] _ _ _ _ w8 liesB0 (hb7.grow hE8) (by rw [List.length_append, show (⟨#[32, 38, 38, 32]⟩ : ByteArray).size = 4 from rfl]; omega)) ?_
      rintro v w5 h5
      replace h5 := Wr.trans hm8 hv7 (show Wr base g w8 A7 _ [32, 38, 38, 32] w5 from (by obtain ⟨A5, c5, hb5, hm5, hv5⟩ := h5; exact ⟨A5, c5, hb5, hm5, hv5⟩))
      obtain ⟨A5, c5, hb5, hm5, hv5⟩ := h5
      obtain ⟨hX5, hE5⟩ := hkeep w5 hm5
      refine load_blk hX5 rfl ?_
      refine norm_i64_to 2 (by show (1 : Int) + 1 = 2; decide) (by decide) ?_
      refine call (ih b (by simp only [szF]; omega) k 2 A5 c5 _ w5 hE5 hb5 hrb hv.2 (by rw [List.length_append, List.length_append]; simp only [List.length_cons, List.length_nil]; omega) (by omega)) ?_
      rintro v w9 h9
      replace h9 := Wr.trans hm5 hv5 h9
      rw [← hpa] at h9
      obtain ⟨A9, c9, hb9, hm9, hv9⟩ := h9
      refine atG_nil (out1 gx_ok rfl rfl (.inr rfl) (arr_fix _ _) ((writeByteD .returning base g _ [] A9 c9 _ 41 w9 liesB0 hb9 (by rw [List.length_append]; omega)).mono ?_))
      rintro e u' w10 ⟨rfl, v, rfl, h10⟩
      refine ⟨v, rfl, rfl, ?_⟩
      show Wr base g w A out (prF nm least _) w10
      rw [hpf]
      exact Wr.pre (Wr.trans hm3 hv3 (by rw [ho1]; exact Wr.trans hm9 hv9 h10)) hE12
    | or a b =>
      obtain ⟨j, k, hj, hk, hy, hra, hrb⟩ := hr
      have hy := Option.some.inj (hx.symm.trans hy)
      subst hy
      refine wif_eqf (by show (5 : Int) ≠ _; decide) ?_
      refine wif_eqf (by show (5 : Int) ≠ _; decide) ?_
      refine wif_eqf (by show (5 : Int) ≠ _; decide) ?_
      refine wif_eqf (by show (5 : Int) ≠ _; decide) ?_
      have hpa : prC nm (.or a b) = (prF nm 0 a ++ [32, 124, 124, 32]) ++ prF nm 1 b := rfl
      rw [hpa, List.length_append, List.length_append] at hl1
      simp only [List.length_cons, List.length_nil] at hl1
      refine load_blk hX3 rfl ?_
      refine call (ih a (by simp only [szF]; omega) j 0 _ _ _ w3 hE03 hb3 hra hv.1 (by omega) (by omega)) ?_
      rintro v w7 ⟨A7, c7, hb7, hm7, hv7⟩
      refine at_build2 gx_ok rfl rfl rfl rfl rfl rfl rfl rfl rfl rfl (fun w8 hE8 hz8 hB8 => ?_)
      refine index (j := 0) (by decide) ?_
      refine load_blk hB8 rfl ?_
      have hm8 := hm7.trans (Mod.of_ext (BldS g A7) hE8) (BldS.moved hv7)
      refine call (writeString_fn base g _ [] _ _ _ _ w8 liesB0 (hb7.grow hE8) (by rw [List.length_append, show (⟨#[32, 124, 124, 32]⟩ : ByteArray).size = 4 from rfl]; omega)) ?_
      rintro v w5 h5
      replace h5 := Wr.trans hm8 hv7 (show Wr base g w8 A7 _ [32, 124, 124, 32] w5 from (by obtain ⟨A5, c5, hb5, hm5, hv5⟩ := h5; exact ⟨A5, c5, hb5, hm5, hv5⟩))
      obtain ⟨A5, c5, hb5, hm5, hv5⟩ := h5
      obtain ⟨hX5, hE5⟩ := hkeep w5 hm5
      refine load_blk hX5 rfl ?_
      refine norm_i64_to 1 (by show (0 : Int) + 1 = 1; decide) (by decide) ?_
      refine call (ih b (by simp only [szF]; omega) k 1 A5 c5 _ w5 hE5 hb5 hrb hv.2 (by rw [List.length_append, List.length_append]; simp only [List.length_cons, List.length_nil]; omega) (by omega)) ?_
      rintro v w9 h9
      replace h9 := Wr.trans hm5 hv5 h9
      rw [← hpa] at h9
      obtain ⟨A9, c9, hb9, hm9, hv9⟩ := h9
      refine atG_nil (out1 gx_ok rfl rfl (.inr rfl) (arr_fix _ _) ((writeByteD .returning base g _ [] A9 c9 _ 41 w9 liesB0 hb9 (by rw [List.length_append]; omega)).mono ?_))
      rintro e u' w10 ⟨rfl, v, rfl, h10⟩
      refine ⟨v, rfl, rfl, ?_⟩
      show Wr base g w A out (prF nm least _) w10
      rw [hpf]
      exact Wr.pre (Wr.trans hm3 hv3 (by rw [ho1]; exact Wr.trans hm9 hv9 h10)) hE12
  · rw [if_neg hd] at hpl
    have hpf : prF nm least t = prC nm t := by unfold prF parF; rw [if_neg (by simpa using hd)]
    refine atG_f rfl (decide_eq_false (by omega)) (atG_exec gx_ok ?_)
    have hl1 : out.length + (prC nm t).length ≤ 140737488355328 := by omega

    have hkeep : ∀ w', Mod (BldS g A) w2 w' → Blk w' w.heap.size 51 y.cells ∧ Ext w0 w' := fun w' hm => ⟨hX2.mod hm hbn, hw0 _ _ _ _ _ hb2 hm hE02⟩
    refine atG_seq (atG_exec gx_ok ?_)
    refine load_blk0 hX2 rfl ?_
    refine atG_exec gx_ok ?_
    rw [hxo] at *
    cases t with
    | c b =>
      cases b with
      | false =>
        refine wif_eqt rfl ?_
        refine call (writeString_fn base g _ [] _ _ _ _ w2 liesB0 hb2 (by have : (prC nm (.c false)).length = 5 := rfl; rw [this] at hl1; exact hl1)) ?_
        rintro v w9 h9
        replace h9 : Wr base g w2 A _ (prC nm (.c false)) w9 := h9
        refine atG_nil (out0 gx_ok rfl (.inr rfl) ?_)
        show Wr base g w A out (prF nm least _) w9
        rw [hpf]
        exact Wr.pre h9 hE12
      | true =>
        refine wif_eqf (by decide) ?_
        refine wif_eqt rfl ?_
        refine call (writeString_fn base g _ [] _ _ _ _ w2 liesB0 hb2 (by have : (prC nm (.c true)).length = 4 := rfl; rw [this] at hl1; exact hl1)) ?_
        rintro v w9 h9
        replace h9 : Wr base g w2 A _ (prC nm (.c true)) w9 := h9
        refine atG_nil (out0 gx_ok rfl (.inr rfl) ?_)
        show Wr base g w A out (prF nm least _) w9
        rw [hpf]
        exact Wr.pre h9 hE12
    | v n =>
      have hy : y = ⟨2, (n : Nat), 0, 0⟩ := Option.some.inj (hx.symm.trans hr)
      subst hy
      refine wif_eqf (by show (2 : Int) ≠ _; decide) ?_
      refine wif_eqf (by show (2 : Int) ≠ _; decide) ?_
      refine wif_eqt rfl ?_
      refine load_blk hX2 rfl ?_
      have hn : n < nn := hv
      have hgn : nm[n]? = some nm[n] := List.getElem?_eq_getElem (by omega)
      have hpn : prC nm (.v n) = nm[n] := by show nm[n]?.getD [] = _; rw [hgn]; rfl
      rw [hpn] at hl1
      generalize nm[n] = s at *
      refine index_sl (hN.ext hE02) (by omega) (fun ad u hA hu hcell => ?_)
      rw [strsV_get hgn] at hu
      cases hu
      refine load hcell ?_
      refine call (writeString_fn base g _ [] _ _ _ _ w2 liesB0 hb2 (by rw [strOf_size]; exact hl1)) ?_
      rintro v w9 h9
      rw [bytesOf_strOf (hnb s (List.mem_of_getElem? hgn)).1] at h9
      rw [← hpn] at h9
      refine atG_nil (out0 gx_ok rfl (.inr rfl) ?_)
      show Wr base g w A out (prF nm least _) w9
      rw [hpf]
      exact Wr.pre h9 hE12
    | not a =>
      obtain ⟨j, hj, hy, hra⟩ := hr
      have hy := Option.some.inj (hx.symm.trans hy)
      subst hy
      refine wif_eqf (by show (3 : Int) ≠ _; decide) ?_
      refine wif_eqf (by show (3 : Int) ≠ _; decide) ?_
      refine wif_eqf (by show (3 : Int) ≠ _; decide) ?_
      refine wif_eqt rfl ?_
      have hpa : prC nm (.not a) = [33] ++ prF nm 2 a := rfl
      rw [hpa, List.length_append] at hl1
      simp only [List.length_cons, List.length_nil] at hl1
      refine call (writeByte_fn base g _ [] _ _ _ 33 w2 liesB0 hb2 (by omega)) ?_
      rintro v w7 ⟨A7, c7, hb7, hm7, hv7⟩
      obtain ⟨hX7, hE7⟩ := hkeep w7 hm7
      refine load_blk hX7 rfl ?_
      refine call (ih a (by simp only [szF]; omega) j 2 A7 c7 _ w7 hE7 hb7 hra hv (by rw [List.length_append]; simp only [List.length_cons, List.length_nil]; omega) (Nat.le_refl _)) ?_
      rintro v w9 h9
      replace h9 := Wr.trans hm7 hv7 h9
      rw [← hpa] at h9
      refine atG_nil (out0 gx_ok rfl (.inr rfl) ?_)
      show Wr base g w A out (prF nm least _) w9
      rw [hpf]
      exact Wr.pre h9 hE12
    | and a b =>
      obtain ⟨j, k, hj, hk, hy, hra, hrb⟩ := hr
      have hy := Option.some.inj (hx.symm.trans hy)
      subst hy
      refine wif_eqf (by show (4 : Int) ≠ _; decide) ?_
      refine wif_eqf (by show (4 : Int) ≠ _; decide) ?_
      refine wif_eqf (by show (4 : Int) ≠ _; decide) ?_
      refine wif_eqf (by show (4 : Int) ≠ _; decide) ?_
      have hpa : prC nm (.and a b) = (prF nm 1 a ++ [32, 38, 38, 32]) ++ prF nm 2 b := rfl
      rw [hpa, List.length_append, List.length_append] at hl1
      simp only [List.length_cons, List.length_nil] at hl1
      refine load_blk hX2 rfl ?_
      refine call (ih a (by simp only [szF]; omega) j 1 _ _ _ w2 hE02 hb2 hra hv.1 (by omega) (by omega)) ?_
      rintro v w7 ⟨A7, c7, hb7, hm7, hv7⟩
      refine at_build2 gx_ok rfl rfl rfl rfl rfl rfl rfl rfl rfl rfl (fun w8 hE8 hz8 hB8 => ?_)
      refine index (j := 1) (by decide) ?_
      refine load_blk hB8 rfl ?_
      have hm8 := hm7.trans (Mod.of_ext (BldS g A7) hE8) (BldS.moved hv7)
      refine call (writeString_fn base g _ [] _ _ _ _ w8 liesB0 (hb7.grow hE8) (by rw [List.length_append, show (⟨#[32, 38, 38, 32]⟩ : ByteArray).size = 4 from rfl]; omega)) ?_
      rintro v w5 h5
      replace h5 := Wr.trans hm8 hv7 (show Wr base g w8 A7 _ [32, 38, 38, 32] w5 from (by obtain ⟨A5, c5, hb5, hm5, hv5⟩ := h5; exact ⟨A5, c5, hb5, hm5, hv5⟩))
      obtain ⟨A5, c5, hb5, hm5, hv5⟩ := h5
      obtain ⟨hX5, hE5⟩ := hkeep w5 hm5
      refine load_blk hX5 rfl ?_
      refine norm_i64_to 2 (by show (1 : Int) + 1 = 2; decide) (by decide) ?_
      refine call (ih b (by simp only [szF]; omega) k 2 A5 c5 _ w5 hE5 hb5 hrb hv.2 (by rw [List.length_append, List.length_append]; simp only [List.length_cons, List.length_nil]; omega) (by omega)) ?_
      rintro v w9 h9
      replace h9 := Wr.trans hm5 hv5 h9
      rw [← hpa] at h9
      refine atG_nil (out0 gx_ok rfl (.inr rfl) ?_)
      show Wr base g w A out (prF nm least _) w9
      rw [hpf]
      exact Wr.pre h9 hE12
    | or a b =>
      obtain ⟨j, k, hj, hk, hy, hra, hrb⟩ := hr
      have hy := Option.some.inj (hx.symm.trans hy)
      subst hy
      refine wif_eqf (by show (5 : Int) ≠ _; decide) ?_
      refine wif_eqf (by show (5 : Int) ≠ _; decide) ?_
      refine wif_eqf (by show (5 : Int) ≠ _; decide) ?_
      refine wif_eqf (by show (5 : Int) ≠ _; decide) ?_
      have hpa : prC nm (.or a b) = (prF nm 0 a ++ [32, 124, 124, 32]) ++ prF nm 1 b := rfl
      rw [hpa, List.length_append, List.length_append] at hl1
      simp only [List.length_cons, List.length_nil] at hl1
      refine load_blk hX2 rfl ?_
      refine call (ih a (by simp only [szF]; omega) j 0 _ _ _ w2 hE02 hb2 hra hv.1 (by omega) (by omega)) ?_
      rintro v w7 ⟨A7, c7, hb7, hm7, hv7⟩
      refine at_build2 gx_ok rfl rfl rfl rfl rfl rfl rfl rfl rfl rfl (fun w8 hE8 hz8 hB8 => ?_)
      refine index (j := 0) (by decide) ?_
      refine load_blk hB8 rfl ?_
      have hm8 := hm7.trans (Mod.of_ext (BldS g A7) hE8) (BldS.moved hv7)
      refine call (writeString_fn base g _ [] _ _ _ _ w8 liesB0 (hb7.grow hE8) (by rw [List.length_append, show (⟨#[32, 124, 124, 32]⟩ : ByteArray).size = 4 from rfl]; omega)) ?_
      rintro v w5 h5
      replace h5 := Wr.trans hm8 hv7 (show Wr base g w8 A7 _ [32, 124, 124, 32] w5 from (by obtain ⟨A5, c5, hb5, hm5, hv5⟩ := h5; exact ⟨A5, c5, hb5, hm5, hv5⟩))
      obtain ⟨A5, c5, hb5, hm5, hv5⟩ := h5
      obtain ⟨hX5, hE5⟩ := hkeep w5 hm5
      refine load_blk hX5 rfl ?_
      refine norm_i64_to 1 (by show (0 : Int) + 1 = 1; decide) (by decide) ?_
      refine call (ih b (by simp only [szF]; omega) k 1 A5 c5 _ w5 hE5 hb5 hrb hv.2 (by rw [List.length_append, List.length_append]; simp only [List.length_cons, List.length_nil]; omega) (by omega)) ?_
      rintro v w9 h9
      replace h9 := Wr.trans hm5 hv5 h9
      rw [← hpa] at h9
      refine atG_nil (out0 gx_ok rfl (.inr rfl) ?_)
      show Wr base g w A out (prF nm least _) w9
      rw [hpf]
      exact Wr.pre h9 hE12

theorem write_fn (base g : Nat) (w0 : World) (NA : Option Addr) (nn nc : Nat) (nm : List (List Nat)) (FA : Option Addr) (nf cf : Nat) (f : List Fz) (hN : Sl w0 1 NA nn nc (strsV nm)) (hnb : NamesOk nm) (hF : SF w0 FA nf cf f) (hg0 : w0.heap.size ≤ g) (t : Fm) : WriteC base g w0 NA nn nc nm FA nf cf f t := by
  have key : ∀ (n : Nat) (t : Fm), szF t < n → WriteC base g w0 NA nn nc nm FA nf cf f t := by
    intro n
    induction n with
    | zero => intro t h; omega
    | succ n ih => intro t _; exact write_step base g w0 NA nn nc nm FA nf cf f hN hnb hF hg0 t (fun u hu => ih u (by omega))
  exact key _ t (Nat.lt_succ_self _)
end

section
open Go Go.RowKit

theorem cast_inj3 {o v a b o' v' a' b' : Int} (h : (⟨o, v, a, b⟩ : Fz) = ⟨o', v', a', b'⟩) : o = o' ∧ v = v' ∧ a = a' ∧ b = b' := by cases h; exact ⟨rfl, rfl, rfl, rfl⟩
theorem RepF.det {f : List Fz} : ∀ {t t' : Fm} {i : Nat}, RepF f t i → RepF f t' i → t = t' := by
  intro t
  induction t with
  | c b =>
    intro t' i h h'
    obtain ⟨x, hx, ho⟩ := RepF.node h
    obtain ⟨x', hx', ho'⟩ := RepF.node h'
    have e := Option.some.inj (hx.symm.trans hx')
    rw [← e, ho] at ho'
    cases t' with
    | c b' => cases b <;> cases b' <;> first | rfl | (simp [opF] at ho')
    | v n => cases b <;> simp [opF] at ho'
    | not a => cases b <;> simp [opF] at ho'
    | and a c => cases b <;> simp [opF] at ho'
    | or a c => cases b <;> simp [opF] at ho'
  | v n =>
    intro t' i h h'
    obtain ⟨x', hx', ho'⟩ := RepF.node h'
    have e := Option.some.inj (hx'.symm.trans h)
    rw [e] at ho'
    cases t' with
    | c b' => cases b' <;> simp [opF] at ho'
    | v n' =>
      have := cast_inj3 (Option.some.inj (h.symm.trans h'))
      congr 1; omega
    | not a => simp [opF] at ho'
    | and a c => simp [opF] at ho'
    | or a c => simp [opF] at ho'
  | not a iha =>
    intro t' i h h'
    obtain ⟨j, hj, hx, ha⟩ := h
    obtain ⟨x', hx', ho'⟩ := RepF.node h'
    have e := Option.some.inj (hx'.symm.trans hx)
    rw [e] at ho'
    cases t' with
    | c b' => cases b' <;> simp [opF] at ho'
    | v n' => simp [opF] at ho'
    | not a' =>
      obtain ⟨j', hj', hx'', ha'⟩ := h'
      have := cast_inj3 (Option.some.inj (hx.symm.trans hx''))
      have ej : j = j' := by omega
      subst ej
      rw [iha ha ha']
    | and a c => simp [opF] at ho'
    | or a c => simp [opF] at ho'
  | and a b iha ihb =>
    intro t' i h h'
    obtain ⟨j, k, hj, hk, hx, ha, hb⟩ := h
    obtain ⟨x', hx', ho'⟩ := RepF.node h'
    have e := Option.some.inj (hx'.symm.trans hx)
    rw [e] at ho'
    cases t' with
    | c b' => cases b' <;> simp [opF] at ho'
    | v n' => simp [opF] at ho'
    | not a' => simp [opF] at ho'
    | and a' b' =>
      obtain ⟨j', k', hj', hk', hx'', ha', hb'⟩ := h'
      have := cast_inj3 (Option.some.inj (hx.symm.trans hx''))
      have ej : j = j' := by omega
      have ek : k = k' := by omega
      subst ej; subst ek
      rw [iha ha ha', ihb hb hb']
    | or a c => simp [opF] at ho'
  | or a b iha ihb =>
    intro t' i h h'
    obtain ⟨j, k, hj, hk, hx, ha, hb⟩ := h
    obtain ⟨x', hx', ho'⟩ := RepF.node h'
    have e := Option.some.inj (hx'.symm.trans hx)
    rw [e] at ho'
    cases t' with
    | c b' => cases b' <;> simp [opF] at ho'
    | v n' => simp [opF] at ho'
    | not a' => simp [opF] at ho'
    | and a c => simp [opF] at ho'
    | or a' b' =>
      obtain ⟨j', k', hj', hk', hx'', ha', hb'⟩ := h'
      have := cast_inj3 (Option.some.inj (hx.symm.trans hx''))
      have ej : j = j' := by omega
      have ek : k = k' := by omega
      subst ej; subst ek
      rw [iha ha ha', ihb hb hb']

open Classical in
/-- The formula that a list of nodes shows. -/
noncomputable def treeOf (f : List Fz) : Fm := if h : ∃ t, RepF f t (f.length - 1) then h.choose else .c false
theorem treeOf_eq {f : List Fz} {t : Fm} (h : RepF f t (f.length - 1)) : treeOf f = t := by
  have hex : ∃ t, RepF f t (f.length - 1) := ⟨t, h⟩
  unfold treeOf
  rw [dif_pos hex]
  exact RepF.det hex.choose_spec h
theorem treeOf_rep {f : List Fz} (h : FV f) : RepF f (treeOf f) (f.length - 1) := by
  obtain ⟨t, ht⟩ := rep_of h.2.2.1 (f.length - 1) (by have := h.2.1; omega)
  rw [treeOf_eq ht]; exact ht

def varsOk (n : Nat) (f : List Fz) : Prop := ∀ x ∈ f, x.o = 2 → x.v < n
theorem varsIn_of {n : Nat} {f : List Fz} (h : varsOk n f) : ∀ {t : Fm} {i : Nat}, RepF f t i → VarsIn n t
  | .c _, _, _ => trivial
  | .v k, _, hr => by have := h _ (List.mem_of_getElem? hr) rfl; simp only at this; show k < n; omega
  | .not a, _, ⟨_, _, _, ha⟩ => show VarsIn n a from varsIn_of h ha
  | .and a b, _, ⟨_, _, _, _, _, ha, hb⟩ => ⟨show VarsIn n a from varsIn_of h ha, show VarsIn n b from varsIn_of h hb⟩
  | .or a b, _, ⟨_, _, _, _, _, ha, hb⟩ => ⟨show VarsIn n a from varsIn_of h ha, show VarsIn n b from varsIn_of h hb⟩

open Classical in
/-- What Print answers. -/
noncomputable def printP (names : List (List Nat)) (f : List Fz) : List Nat × Int := if numsOk names then if FV f ∧ varsOk names.length f then (prF names 0 (treeOf f), 0) else ([], 30) else ([], 1)
theorem printP_no {names : List (List Nat)} {f : List Fz} (h : numsOk names = false) : printP names f = ([], 1) := by unfold printP; rw [h]; rfl
theorem printP_ok {names : List (List Nat)} {f : List Fz} (h : numsOk names = true) (hv : FV f) (ho : varsOk names.length f) : printP names f = (prF names 0 (treeOf f), 0) := by unfold printP; rw [if_pos h, if_pos ⟨hv, ho⟩]
theorem printP_bad {names : List (List Nat)} {f : List Fz} (h : numsOk names = true) (hv : ¬ (FV f ∧ varsOk names.length f)) : printP names f = ([], 30) := by unfold printP; rw [if_pos h, if_neg hv]
/-- A text and an error number. -/
def StrRes (w : World) (r : List Nat × Int) (v : Value) (w' : World) : Prop := v = .tuple #[.string (strOf r.1), .int .i64 r.2] ∧ Ext w w'

theorem prF_b8 {nm : List (List Nat)} (hn : NamesOk nm) : ∀ (t : Fm), ∀ x ∈ prC nm t, x < 256 := by
  have par : ∀ (b : Bool) (s : List Nat), (∀ x ∈ s, x < 256) → ∀ x ∈ parF b s, x < 256 := by
    intro b s h x hx
    unfold parF at hx
    split at hx
    · simp only [List.mem_append, List.mem_cons, List.not_mem_nil, or_false, List.cons_append] at hx
      rcases hx with rfl | hx | rfl
      · decide
      · exact h x hx
      · decide
    · exact h x hx
  intro t
  induction t with
  | c b =>
    cases b
    · show ∀ x ∈ falseL, x < 256; decide
    · show ∀ x ∈ trueL, x < 256; decide
  | v n =>
    intro x hx
    unfold prC at hx
    cases h : nm[n]? with
    | none => rw [h] at hx; cases hx
    | some s => rw [h] at hx; exact (hn s (List.mem_of_getElem? h)).1 x hx
  | not a ih =>
    intro x hx
    unfold prC at hx
    simp only [List.mem_cons] at hx
    rcases hx with rfl | hx
    · decide
    · exact par _ _ ih x hx
  | and a b iha ihb =>
    intro x hx
    unfold prC at hx
    simp only [List.mem_append, List.mem_cons, List.not_mem_nil, or_false] at hx
    rcases hx with (hx | hx) | hx
    · exact par _ _ iha x hx
    · omega
    · exact par _ _ ihb x hx
  | or a b iha ihb =>
    intro x hx
    unfold prC at hx
    simp only [List.mem_append, List.mem_cons, List.not_mem_nil, or_false] at hx
    rcases hx with (hx | hx) | hx
    · exact par _ _ iha x hx
    · omega
    · exact par _ _ ihb x hx

theorem print_fn (names : List (List Nat)) (A FA : Option Addr) (n c nf cf : Nat) (f : List Fz) (w : World) (h : Sl w 1 A n c (strsV names)) (hb : NamesOk names) (hF : SF w FA nf cf f) (hl : FV f → varsOk names.length f → (prF names 0 (treeOf f)).length ≤ 140737488355328) :
    Fn Tryz.prog 20 [.slice A n c, .slice FA nf cf] w (StrRes w (printP names f)) := by
  have hfl := hF.2
  have hnl : names.length = n := by have := h.len; rw [strsV_length] at this; omega
  refine fn_of_exec (c := { c20 with cuts := [6] }) gx_ok Tryz.func20 rfl rfl rfl ?_
  refine call (numbers_fn names A n c w h hb) ?_
  rintro v w1 ⟨v1, rfl, hE1, _⟩
  cases hok : numsOk names with
  | false =>
    refine wif_t rfl ?_
    exact ⟨by rw [printP_no hok]; rfl, hE1⟩
  | true =>
    refine wif_f rfl ?_
    refine call (check_fn FA nf cf f w1 (hF.ext hE1)) ?_
    rintro v w2 ⟨rfl, hE2⟩
    have hE02 := hE1.trans hE2
    refine wif_ne (fun h1 => ?_) (fun h1 => ?_)
    · exact ⟨by rw [printP_bad hok (fun hh => h1 (chkF_ok hh.1))]; rfl, hE02⟩
    have hv := chkF_zero.1 h1
    refine cutIn [] gx_ok [] (fun _ : Unit => []) (fun _ w' => Ext w w' ∧ varsOk names.length f) ?_ ?_
    · refine loop gx_ok [23] (fun s : Nat => [.int .i64 s]) (fun s w' => Ext w w' ∧ s ≤ nf ∧ ∀ j x, j < s → f[j]? = some x → x.o = 2 → x.v < n) (fun s _ => nf - s) 0 rfl ⟨hE02, Nat.zero_le _, fun j x hj => absurd hj (by omega)⟩ ?_
      rintro s w3 ⟨hE3, hs, hall⟩
      refine wif_d (fun h3 => ?_) (fun h3 => ?_)
      · refine index_sls fz_len (hF.ext hE3) rfl (by omega) (fun p x hx hc => ?_)
        refine loadN_at (vs := x.cells) rfl hc ?_
        refine new (fun w4 hE4 hz4 hB4 => ?_)
        refine storeN_blk0 hB4 rfl (sc rfl) (fun w5 hg5 hz5 hB5 => ?_)
        have hE35 : Ext w3 w5 := newBox hE4 hB4 hg5
        have hE5 := hE3.trans hE35
        have next : (x.o = 2 → x.v < n) → ∀ j y, j < s + 1 → f[j]? = some y → y.o = 2 → y.v < n := fun hq j y hj hy ho => by
          by_cases hjs : j < s
          · exact hall j y hjs hy ho
          · have : j = s := by omega
            subst this
            have e := Option.some.inj (hy.symm.trans hx)
            subst e; exact hq ho
        refine load_blk0 hB5 rfl ?_
        refine wif_eq (fun h4 => ?_) (fun h4 => ?_)
        · refine load_blk hB5 rfl ?_
          refine wif_d (fun h5 => ?_) (fun h5 => ?_)
          · refine ⟨?_, hE5⟩
            rw [printP_bad hok (fun hh => by have := hh.2 x (List.mem_of_getElem? hx) h4; omega)]; rfl
          · refine norm_i64_to ((s + 1 : Nat) : Int) (by omega) (by have := hv.1; omega) ?_
            exact ⟨s + 1, rfl, ⟨hE5, by omega, next (fun _ => by omega)⟩, by show nf - (s + 1) < nf - s; omega⟩
        · refine norm_i64_to ((s + 1 : Nat) : Int) (by omega) (by have := hv.1; omega) ?_
          exact ⟨s + 1, rfl, ⟨hE5, by omega, next (fun ho => absurd ho h4)⟩, by show nf - (s + 1) < nf - s; omega⟩
      · refine ⟨(), rfl, hE3, fun x hx ho => ?_⟩
        obtain ⟨j, hj, rfl⟩ := List.mem_iff_getElem.1 hx
        rw [hnl]
        exact hall j _ (by omega) (List.getElem?_eq_getElem hj) ho
    rintro ⟨⟩ w3 ⟨hE3, hvo⟩
    have ht := treeOf_rep hv
    have hpos := hv.2.1
    refine new (fun w4 hE4 hz4 hB4 => ?_)
    have hb4 : Bld w4 w4.heap.size w3.heap.size 84 [] none 0 [] := ⟨by omega, Nat.le_refl _, ⟨_, .inl rfl, hB4⟩, Own.nil _ _ _ _⟩
    refine norm_i64_to ((nf - 1 : Nat) : Int) (by omega) (by have := hv.1; omega) ?_
    have hll := hl hv hvo
    rw [hfl] at ht
    refine call (write_fn w4.heap.size w3.heap.size w3 A n c names FA nf cf f (h.ext hE3) hb (hF.ext hE3) (Nat.le_refl _) (treeOf f) (nf - 1) 0 none 0 [] w4 hE4 hb4 ht (by rw [← hnl]; exact varsIn_of hvo ht) (by rw [List.length_nil]; omega) (by omega)) ?_
    rintro v w5 ⟨A5, c5, hb5, hm5, hv5⟩
    rw [List.nil_append] at hb5
    have hE5 : Ext w w5 := hm5.ext (hE3.trans hE4) (fun i hi => by
      rcases hi with rfl | ⟨_, e, _⟩
      · exact hE3.size
      · cases e)
    have h8 : ∀ x ∈ prF names 0 (treeOf f), x < 256 := by
      unfold prF parF
      rw [if_neg (by simp)]
      exact prF_b8 hb _
    refine call (string_fn w4.heap.size w3.heap.size _ [] A5 c5 _ w5 hb5 h8 hll) ?_
    rintro v w6 ⟨rfl, hm6⟩
    refine ⟨by rw [printP_ok hok hv hvo], hm6.ext hE5 (fun i hi => ?_)⟩
    have := (hb5.own.rows i hi).1
    have := hE3.size
    omega
end
end Go.Proofs.YtdbhjlpkopnebaaGreatDoor
