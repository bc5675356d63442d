/-
  The builders' contracts over trees; sanity.
  Conditions: none.
-/
import Derived.Test.YtgaggbmoimablaaMk6
namespace Go.Proofs.Ytgaggbmoimablaa
open Go Go.RowKit

/-- The slice holds a document of at most k nodes that stands for the tree. -/
structure Doc (w : World) (A : Option Addr) (c : Nat) (d : List Nd) (t : Dt) (k : Nat) : Prop where
  sd : SD w A d.length c d
  rep : Rep d t
  len : d.length ≤ k
theorem Doc.ext {w w' : World} {A : Option Addr} {c : Nat} {d : List Nd} {t : Dt} {k : Nat} (h : Doc w A c d t k) (e : Ext w w') : Doc w' A c d t k := ⟨h.sd.ext e, h.rep, h.len⟩
def DocR (w : World) (t : Dt) (k : Nat) (v : Value) (w' : World) : Prop := ∃ A c d, v = .slice A d.length c ∧ Ext w w' ∧ Doc w' A c d t k
theorem DocRow.doc {w w' : World} {d : List Nd} {v : Value} {t : Dt} {k : Nat} (h : DocRow w d v w') (hr : Rep d t) (hk : d.length ≤ k) : DocR w t k v w' := by
  obtain ⟨A, c, rfl, hE, hO⟩ := h
  exact ⟨A, c, d, rfl, hE, ⟨hO.sl, rfl⟩, hr, hk⟩

theorem text_dr (s : ByteArray) (w : World) (h : 10 ∉ bytesOf s) (hs : s.size ≤ 10000) : Fn Try.prog 29 [.string s] w (DocR w (.text (bytesOf s)) 1) := by
  refine Fn.mono (text_fn s w) (fun v w' hv => hv.doc (Rep.leaf (.inl rfl) h hs (.inr (.inl rfl)) rfl) (by simp [leafD]))
theorem seq_dr {A B : Option Addr} {c1 c2 : Nat} {a b : List Nd} {s t : Dt} {k m : Nat} {w : World} (ha : Doc w A c1 a s k) (hb : Doc w B c2 b t m) (hl : k + m + 1 ≤ 65536) :
    Fn Try.prog 28 [.slice A a.length c1, .slice B b.length c2] w (DocR w (.seq s t) (k + m + 1)) := by
  have h1 := ha.len
  have h2 := hb.len
  refine Fn.mono (seq_fn A B _ _ c1 c2 a b w ha.sd hb.sd hb.rep.valid.ok (by omega)) (fun v w' hv => hv.doc (ha.rep.seq hb.rep (by omega)) (by rw [seq_len]; omega))
theorem nest_dr {A : Option Addr} {c1 : Nat} {a : List Nd} {s : Dt} {k : Nat} {w : World} (n : Nat) (ha : Doc w A c1 a s k) (hn : n ≤ 1000) (hl : k + 1 ≤ 65536) :
    Fn Try.prog 25 [.int .i64 4, .int .i64 n, .slice A a.length c1] w (DocR w (.nest n s) (k + 1)) := by
  have h1 := ha.len
  refine Fn.mono (wrap_fn A _ c1 4 n a w ha.sd (by omega)) (fun v w' hv => hv.doc (ha.rep.wrap (by decide) ⟨.inr rfl, by omega, by omega⟩ (by omega) (by simp) rfl (by simp [hasAlign])) (by simp [wrapD]; omega))
theorem align_dr {A : Option Addr} {c1 : Nat} {a : List Nd} {s : Dt} {k : Nat} {w : World} (ha : Doc w A c1 a s k) (hl : k + 1 ≤ 65536) :
    Fn Try.prog 25 [.int .i64 5, .int .i64 0, .slice A a.length c1] w (DocR w (.align s) (k + 1)) := by
  have h1 := ha.len
  refine Fn.mono (wrap_fn A _ c1 5 0 a w ha.sd (by omega)) (fun v w' hv => hv.doc (ha.rep.wrap (by decide) ⟨.inl rfl, by omega, by omega⟩ (by omega) (by simp) rfl (by simp [hasAlign])) (by simp [wrapD]; omega))
theorem group_dr {A : Option Addr} {c1 : Nat} {a : List Nd} {s : Dt} {k : Nat} {w : World} (ha : Doc w A c1 a s k) (hl : k + 1 ≤ 65536) :
    Fn Try.prog 25 [.int .i64 6, .int .i64 0, .slice A a.length c1] w (DocR w (.group s) (k + 1)) := by
  have h1 := ha.len
  refine Fn.mono (wrap_fn A _ c1 6 0 a w ha.sd (by omega)) (fun v w' hv => hv.doc (ha.rep.wrap (by decide) ⟨.inl rfl, by omega, by omega⟩ (by omega) (by simp) rfl (by simp [hasAlign])) (by simp [wrapD]; omega))
theorem render_dr {A F : Option Addr} {c m cf : Nat} {d : List Nd} {t : Dt} {k : Nat} {w : World} (flat : List Bool) (h : Doc w A c d t k) (hF : Sl w 1 F m cf (boolsV flat)) :
    Fn Try.prog 16 [.slice A d.length c, .slice F m cf] w (StrRes w (rndT t flat)) := by
  have := render_fn A F _ c m cf d flat w h.sd hF h.rep.txt
  rwa [h.rep.rnd] at this
theorem rrender_dr {A F : Option Addr} {c m cf : Nat} {d : List Nd} {t : Dt} {k : Nat} {w : World} (flat : List Bool) (h : Doc w A c d t k) (hF : Sl w 1 F m cf (boolsV flat)) :
    Fn Try.prog 17 [.slice A d.length c, .slice F m cf] w (StrRes w (rndT t flat)) := by
  have := rrender_fn A F _ c m cf d flat w h.sd hF h.rep.txt
  rwa [h.rep.rnd] at this

theorem sanity_fn (w : World) : Fn Try.prog 12 [] w (fun v w' => v = .bool true ∧ Ext w w') := by
  refine fn_of_exec (c := c12) gx_ok Try.func12 rfl rfl rfl ?_
  refine at_buildN gx_ok [(⟨1, ⟨#[]⟩, 0, 0, 0⟩ : Nd).cells] rfl rfl rfl rfl rfl ⟨rfl, rfl, ⟨⟩⟩ rfl (fun cs h => by simp only [List.mem_singleton] at h; subst h; rfl) rfl (by decide) (by decide) ?_
  intro w1 hE1 hsz1 hB1
  have hline : Doc w1 (some ⟨w.heap.size, 0, none⟩) 1 (leafD 1 ⟨#[]⟩) (.line []) 1 := ⟨⟨Sl.ownN (n := 1) (sz := 5) hB1 rfl (by simp [maxLen]), rfl⟩, Rep.leaf (.inr (.inl rfl)) (by decide) (by decide) (.inl rfl) rfl, Nat.le_refl _⟩
  refine call (text_dr ⟨#[102, 40]⟩ w1 (by decide) (by decide)) ?_
  rintro v w2 ⟨Af, cf, df, rfl, hE2, hf⟩
  refine call (text_dr ⟨#[97]⟩ w2 (by decide) (by decide)) ?_
  rintro v w3 ⟨Aa, ca, da, rfl, hE3, ha⟩
  refine call (seq_dr (hline.ext (hE2.trans hE3)) ha (by decide)) ?_
  rintro v w4 ⟨A4, c4, d4, rfl, hE4, h4⟩
  refine call (nest_dr 2 h4 (by decide) (by decide)) ?_
  rintro v w5 ⟨A5, c5, d5, rfl, hE5, h5⟩
  refine call (text_dr ⟨#[41]⟩ w5 (by decide) (by decide)) ?_
  rintro v w6 ⟨A6, c6, d6, rfl, hE6, h6⟩
  refine call (seq_dr (hline.ext (hE2.trans (hE3.trans (hE4.trans (hE5.trans hE6))))) h6 (by decide)) ?_
  rintro v w7 ⟨A7, c7, d7, rfl, hE7, h7⟩
  refine call (seq_dr (h5.ext (hE6.trans hE7)) h7 (by decide)) ?_
  rintro v w8 ⟨A8, c8, d8, rfl, hE8, h8⟩
  refine call (seq_dr (hf.ext (hE3.trans (hE4.trans (hE5.trans (hE6.trans (hE7.trans hE8)))))) h8 (by decide)) ?_
  rintro v w9 ⟨A9, c9, d9, rfl, hE9, h9⟩
  refine call (group_dr h9 (by decide)) ?_
  rintro v w10 ⟨A10, c10, d10, rfl, hE10, h10⟩
  have hw10 : Ext w w10 := hE1.trans (hE2.trans (hE3.trans (hE4.trans (hE5.trans (hE6.trans (hE7.trans (hE8.trans (hE9.trans hE10))))))))
  refine at_build1 gx_ok rfl rfl rfl rfl rfl rfl rfl rfl ?_
  intro w11 hE11 hsz11 hB11
  refine call (render_dr [true] (h10.ext hE11) (Sl.own' hB11 rfl (by simp [maxLen]))) ?_
  rintro v w12 ⟨hv12, hE12⟩
  obtain rfl : v = .tuple #[.string ⟨#[102, 40, 97, 41]⟩, .int .i64 0] := hv12.trans (by rfl)
  refine at_build1 gx_ok rfl rfl rfl rfl rfl rfl rfl rfl ?_
  intro w13 hE13 hsz13 hB13
  refine call (render_dr [false] (h10.ext (hE11.trans (hE12.trans hE13))) (Sl.own' hB13 rfl (by simp [maxLen]))) ?_
  rintro v w14 ⟨hv14, hE14⟩
  obtain rfl : v = .tuple #[.string ⟨#[102, 40, 10, 32, 32, 97, 10, 41]⟩, .int .i64 0] := hv14.trans (by rfl)
  have hw14 : Ext w w14 := hw10.trans (hE11.trans (hE12.trans (hE13.trans hE14)))
  refine at_buildN gx_ok [(⟨2, ⟨#[]⟩, 0, 0, 0⟩ : Nd).cells] rfl rfl rfl rfl rfl ⟨rfl, rfl, ⟨⟩⟩ rfl (fun cs h => by simp only [List.mem_singleton] at h; subst h; rfl) rfl (by decide) (by decide) ?_
  intro w15 hE15 hsz15 hB15
  have hhard : Doc w15 (some ⟨w14.heap.size, 0, none⟩) 1 (leafD 2 ⟨#[]⟩) .hard 1 := ⟨⟨Sl.ownN (n := 1) (sz := 5) hB15 rfl (by simp [maxLen]), rfl⟩, Rep.leaf (.inr (.inr rfl)) (by decide) (by decide) (.inl rfl) rfl, Nat.le_refl _⟩
  refine call (text_dr ⟨#[97, 98]⟩ w15 (by decide) (by decide)) ?_
  rintro v w16 ⟨A16, c16, d16, rfl, hE16, h16⟩
  refine call (text_dr ⟨#[99]⟩ w16 (by decide) (by decide)) ?_
  rintro v w17 ⟨A17, c17, d17, rfl, hE17, h17⟩
  refine call (text_dr ⟨#[100]⟩ w17 (by decide) (by decide)) ?_
  rintro v w18 ⟨A18, c18, d18, rfl, hE18, h18⟩
  refine call (seq_dr (hhard.ext (hE16.trans (hE17.trans hE18))) h18 (by decide)) ?_
  rintro v w19 ⟨A19, c19, d19, rfl, hE19, h19⟩
  refine call (seq_dr (h17.ext (hE18.trans hE19)) h19 (by decide)) ?_
  rintro v w20 ⟨A20, c20, d20, rfl, hE20, h20⟩
  refine call (align_dr h20 (by decide)) ?_
  rintro v w21 ⟨A21, c21, d21, rfl, hE21, h21⟩
  refine call (seq_dr (h16.ext (hE17.trans (hE18.trans (hE19.trans (hE20.trans hE21))))) h21 (by decide)) ?_
  rintro v w22 ⟨A22, c22, d22, rfl, hE22, h22⟩
  refine call (render_dr [] h22 (Sl.nil _ 1)) ?_
  rintro v w23 ⟨hv23, hE23⟩
  obtain rfl : v = .tuple #[.string ⟨#[97, 98, 99, 10, 32, 32, 100]⟩, .int .i64 0] := hv23.trans (by rfl)
  have hw23 : Ext w15 w23 := hE16.trans (hE17.trans (hE18.trans (hE19.trans (hE20.trans (hE21.trans (hE22.trans hE23))))))
  refine call (seq_dr (hhard.ext hw23) (hhard.ext hw23) (by decide)) ?_
  rintro v w24 ⟨A24, c24, d24, rfl, hE24, h24⟩
  refine call (nest_dr 4 h24 (by decide) (by decide)) ?_
  rintro v w25 ⟨A25, c25, d25, rfl, hE25, h25⟩
  refine call (text_dr ⟨#[120]⟩ w25 (by decide) (by decide)) ?_
  rintro v w26 ⟨A26, c26, d26, rfl, hE26, h26⟩
  refine call (seq_dr (h25.ext hE26) h26 (by decide)) ?_
  rintro v w27 ⟨A27, c27, d27, rfl, hE27, h27⟩
  refine call (render_dr [] h27 (Sl.nil _ 1)) ?_
  rintro v w28 ⟨hv28, hE28⟩
  obtain rfl : v = .tuple #[.string ⟨#[10, 10, 32, 32, 32, 32, 120]⟩, .int .i64 0] := hv28.trans (by rfl)
  have hw28 : Ext w15 w28 := hw23.trans (hE24.trans (hE25.trans (hE26.trans (hE27.trans hE28))))
  refine call (group_dr (hhard.ext hw28) (by decide)) ?_
  rintro v w29 ⟨A29, c29, d29, rfl, hE29, h29⟩
  refine at_build1 gx_ok rfl rfl rfl rfl rfl rfl rfl rfl ?_
  intro w30 hE30 hsz30 hB30
  refine call (render_dr [true] (h29.ext hE30) (Sl.own' hB30 rfl (by simp [maxLen]))) ?_
  rintro v w31 ⟨hv31, hE31⟩
  obtain rfl : v = .tuple #[.string ⟨#[]⟩, .int .i64 1] := hv31.trans (by rfl)
  have hw31 : Ext w w31 := hw14.trans (hE15.trans (hw28.trans (hE29.trans (hE30.trans hE31))))
  refine wif_eqt rfl ?_
  refine wif_eqt rfl ?_
  refine wif_eqt rfl ?_
  refine wif_eqt rfl ?_
  refine wif_eqt rfl ?_
  refine wif_t rfl ?_
  refine wif_t rfl ?_
  refine call (cost_fn ⟨#[102, 40, 10, 32, 32, 97, 10, 41]⟩ 2 w31 (by decide) (by decide)) ?_
  rintro v w32 ⟨hv32, hE32⟩
  obtain rfl : v = .agg #[.int .i64 1, .int .i64 2] := hv32.trans (by rfl)
  refine wif_t rfl ?_
  refine wif_t rfl ?_
  exact ⟨rfl, hw31.trans hE32⟩
end Go.Proofs.Ytgaggbmoimablaa
