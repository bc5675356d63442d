/-
  The laws Contents and Align: the walks.
  Conditions: none.
-/
import Derived.Test.YtgaggbmoimablaaLp
namespace Go.Proofs.Ytgaggbmoimablaa
open Go Go.RowKit

/-- A law's walk, as the row asks it. -/
theorem law_of {P : Program} {f : FuncId} {l : List Value} {w : World} (h : Fn P f l w (fun v w' => v = .bool true ∧ Ext w w')) :
    Calls P f l.toArray w fun e w' => e = .returned (.bool true) ∧ Below w.heap.size w w' := by
  unfold Fn at h
  exact h.mono fun e w' he => by
    cases e with
    | returned v => exact ⟨by rw [he.1], he.2.below⟩
    | panicked ch => exact he.elim
    | outgrown => exact he.elim

theorem made_dr {L : Option Addr} {n cl : Nat} {bs : List Nat} (most : Nat) {w : World} (hL : Sl w 1 L n cl (u8V bs)) (hb : ∀ b ∈ bs, b ≤ 255) (hm1 : 1 ≤ most) (hm : most ≤ 1000) :
    Fn Try.prog 13 [.slice L n cl, .int .i64 most] w (fun v w' => ∃ t, okT t ∧ DocR w t most v w') :=
  Fn.mono (made_fn L n cl bs most w hL hb hm1 hm) (fun v w' ⟨d, t, hr, ho, hl, hv⟩ => ⟨t, ho, hv.doc hr hl⟩)
theorem choice_dr {A B : Option Addr} {c m c2 k : Nat} {d : List Nd} {t : Dt} {fl : List Bool} {w : World} (h : Doc w A c d t k) (hf : Sl w 1 B m c2 (boolsV fl)) :
    Fn Try.prog 18 [.slice A d.length c, .slice B m c2] w (BoolRow w (choose fl t)) := choice_fn A B _ c m c2 d t fl w h.sd h.rep hf
theorem lrender_dr {A B : Option Addr} {c m c2 k : Nat} {d : List Nd} {t : Dt} {fl : List Bool} {w : World} (h : Doc w A c d t k) (hf : Sl w 1 B m c2 (boolsV fl)) :
    Fn Try.prog 27 [.slice A d.length c, .slice B m c2] w (fun v w' => v = .string (strOf (txt t fl)) ∧ Ext w w') := lrender_fn A B _ c m c2 d t fl w h.sd h.rep hf
theorem has_dr {A : Option Addr} {c k : Nat} {d : List Nd} {t : Dt} {w : World} (kind : Int) (h : Doc w A c d t k) (hk : k ≤ 65536) :
    Fn Try.prog 26 [.slice A d.length c, .int .i64 kind] w (fun v w' => ∃ b, v = .bool b ∧ (b = true ↔ ∃ x ∈ d, x.k = kind) ∧ w = w') := has_fn A _ c d kind w h.sd (by have := h.len; omega)

theorem contents_law (L F G : Option Addr) (n cl m cf k cg : Nat) (bs : List Nat) (fl gl : List Bool) (w : World) (hL : Sl w 1 L n cl (u8V bs)) (hb : ∀ b ∈ bs, b ≤ 255) (hF : Sl w 1 F m cf (boolsV fl)) (hG : Sl w 1 G k cg (boolsV gl)) :
    Fn Try.prog 6 [.slice L n cl, .slice F m cf, .slice G k cg] w (fun v w' => v = .bool true ∧ Ext w w') := by
  refine fn_of_exec (c := c6) gx_ok Try.func6 rfl rfl rfl ?_
  refine call (sanity_fn w) ?_
  rintro v w1 ⟨rfl, hE1⟩
  refine call (made_dr 60 (hL.ext hE1) hb (by decide) (by decide)) ?_
  rintro v w2 ⟨t, ho, A, c, d, rfl, hE2, hd⟩
  have hE02 := hE1.trans hE2
  refine call (choice_dr hd (hF.ext hE02)) ?_
  rintro v w3 ⟨B, cb, rfl, hE3, hs3⟩
  refine call (render_dr (choose fl t) (hd.ext hE3) hs3) ?_
  rintro v w4 ⟨rfl, hE4⟩
  rw [rndT_choose]
  have hE24 := hE3.trans hE4
  refine call (choice_dr (hd.ext hE24) (hG.ext (hE02.trans hE24))) ?_
  rintro v w5 ⟨B2, cb2, rfl, hE5, hs5⟩
  refine call (render_dr (choose gl t) (hd.ext (hE24.trans hE5)) hs5) ?_
  rintro v w6 ⟨rfl, hE6⟩
  rw [rndT_choose]
  have hE06 := hE02.trans (hE24.trans (hE5.trans hE6))
  have h1 := txt_lim hd.rep fl
  have h2 := txt_lim hd.rep gl
  refine wif_eqt rfl ?_
  refine wif_eqt rfl ?_
  show CallAt _ _ [.string (strOf (txt t fl))] _ _ _
  refine call (visible_fn _ w6 (by rw [strOf_size]; omega)) ?_
  rintro v w7 ⟨rfl, hE7⟩
  show CallAt _ _ [.string (strOf (txt t gl))] _ _ _
  refine call (visible_fn _ w7 (by rw [strOf_size]; omega)) ?_
  rintro v w8 ⟨rfl, hE8⟩
  rw [bytesOf_strOf h1.2, bytesOf_strOf h2.2, contents_plain ho fl gl]
  refine wif_t (by simp) ?_
  exact ⟨rfl, hE06.trans (hE7.trans hE8)⟩

theorem head_ok (s : ByteArray) (n : Nat) (hs : s.size = 20) (h10 : 10 ∉ bytesOf s) (hn : n ≤ 20) : 10 ∉ bytesOf (s.extract 0 n) ∧ (bytesOf (s.extract 0 n)).length = n := by
  rw [bytesOf_extract]
  refine ⟨fun hm => h10 (List.mem_of_mem_take (by simpa using hm)), ?_⟩
  simp [bytesOf_length, hs]; omega

theorem align_law (L F : Option Addr) (n cl m cf : Nat) (bs : List Nat) (fl : List Bool) (b : Nat) (w : World) (hL : Sl w 1 L n cl (u8V bs)) (hb : ∀ b ∈ bs, b ≤ 255) (hF : Sl w 1 F m cf (boolsV fl)) (hb2 : b ≤ 255) :
    Fn Try.prog 10 [.slice L n cl, .slice F m cf, .int .u8 b] w (fun v w' => v = .bool true ∧ Ext w w') := by
  refine fn_of_exec (c := c10) gx_ok Try.func10 rfl rfl rfl ?_
  refine call (sanity_fn w) ?_
  rintro v w1 ⟨rfl, hE1⟩
  refine call (made_dr 40 (hL.ext hE1) hb (by decide) (by decide)) ?_
  rintro v w2 ⟨t, ho, A, c, d, rfl, hE2, hd⟩
  have hE02 := hE1.trans hE2
  refine call (has_dr 5 hd (by decide)) ?_
  rintro v _ ⟨hasb, rfl, _, rfl⟩
  refine wif (fun h1 => ?_) (fun h1 => ?_)
  · exact ⟨rfl, hE02⟩
  refine norm_i64_to ((b : Nat) : Int) rfl (by omega) ?_
  refine rem_c 20 rfl (by decide) ?_
  have hk : b % 20 < 20 := Nat.mod_lt _ (by decide)
  generalize b % 20 = q at hk
  refine norm_i64_to ((1 + q : Nat) : Int) (by omega) (by omega) ?_
  have hhd := head_ok ⟨#[97, 98, 99, 100, 101, 102, 103, 104, 105, 106, 107, 108, 109, 110, 111, 112, 113, 114, 115, 116]⟩ (1 + q) rfl (by decide) (by omega)
  refine need ⟨by omega, by omega, ?_⟩ ?_
  · show ((1 + q : Nat) : Int) ≤ ((20 : Nat) : Int); omega
  show putK _ _ _ (.v (.string (ByteArray.extract _ 0 (1 + q)))) _
  generalize ByteArray.extract ⟨#[97, 98, 99, 100, 101, 102, 103, 104, 105, 106, 107, 108, 109, 110, 111, 112, 113, 114, 115, 116]⟩ 0 (1 + q) = s at hhd ⊢
  have hsz : s.size = 1 + q := by rw [← bytesOf_length]; exact hhd.2
  have hne : bytesOf s ≠ [] := fun e => by have := hhd.2; rw [e] at this; simp at this; omega
  refine call (text_dr s w2 hhd.1 (by omega)) ?_
  rintro v w3 ⟨A3, c3, d3, rfl, hE3, h3⟩
  refine call (align_dr (hd.ext hE3) (by decide)) ?_
  rintro v w4 ⟨A4, c4, d4, rfl, hE4, h4⟩
  refine call (seq_dr (h3.ext hE4) h4 (by decide)) ?_
  rintro v w5 ⟨A5, c5, d5, rfl, hE5, h5⟩
  have hE25 := hE3.trans (hE4.trans hE5)
  refine call (lrender_dr h5 (hF.ext (hE02.trans hE25))) ?_
  rintro v w6 ⟨rfl, hE6⟩
  have hE26 := hE25.trans hE6
  refine call (text_dr s w6 hhd.1 (by omega)) ?_
  rintro v w7 ⟨A7, c7, d7, rfl, hE7, h7⟩
  have hn8 := nest_dr (w := w7) (1 + q) (hd.ext (hE26.trans hE7)) (by omega) (by decide)
  rw [show (((1 + q : Nat)) : Int) = ((s.size : Nat) : Int) by rw [hsz]] at hn8
  refine call hn8 ?_
  rintro v w8 ⟨A8, c8, d8, rfl, hE8, h8⟩
  refine call (seq_dr (h7.ext hE8) h8 (by decide)) ?_
  rintro v w9 ⟨A9, c9, d9, rfl, hE9, h9⟩
  have hE29 := hE26.trans (hE7.trans (hE8.trans hE9))
  refine call (lrender_dr h9 (hF.ext (hE02.trans hE29))) ?_
  rintro v w10 ⟨rfl, hE10⟩
  have e := align_plain t hne fl
  rw [bytesOf_length, hsz] at e
  rw [e]
  refine wif_t (by simp) ?_
  exact ⟨rfl, hE02.trans (hE29.trans hE10)⟩
end Go.Proofs.Ytgaggbmoimablaa
