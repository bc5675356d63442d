/-
  The builders' contracts over trees.
  Conditions: none.
-/
import Derived.Test.YtbkadgdhmfolaaaMkP
namespace Go.Proofs.Ytbkadgdhmfolaaa
open Go Go.RowKit

/-- The slice holds a document of at most k nodes that stands for the tree. -/
structure Doc (w : World) (A : Option Addr) (c : Nat) (d : List Nd) (t : Dt) (k : Nat) : Prop where
  sd : SD w A d.length c d
  rep : Rep d t
  len : d.length ≤ k
theorem Doc.ext {w w' : World} {A : Option Addr} {c : Nat} {d : List Nd} {t : Dt} {k : Nat} (h : Doc w A c d t k) (e : Ext w w') : Doc w' A c d t k := ⟨h.sd.ext e, h.rep, h.len⟩
def DocR (w : World) (t : Dt) (k : Nat) (v : Value) (w' : World) : Prop := ∃ A c d, v = .slice A d.length c ∧ Ext w w' ∧ Doc w' A c d t k
theorem DocRow.doc {w w' : World} {d : List Nd} {v : Value} {t : Dt} {k : Nat} (h : DocRow w d v w') (hr : Rep d t) (hk : d.length ≤ k) : DocR w t k v w' := by
  obtain ⟨A, c, rfl, hE, hO⟩ := h
  exact ⟨A, c, d, rfl, hE, ⟨hO.sl, rfl⟩, hr, hk⟩

theorem text_dr (s : ByteArray) (w : World) (h : 10 ∉ bytesOf s) (hs : s.size ≤ 10000) : Fn Try.prog 27 [.string s] w (DocR w (.text (bytesOf s)) 1) := by
  refine Fn.mono (text_fn s w) (fun v w' hv => hv.doc (Rep.leaf (.inl rfl) h hs (.inr (.inl rfl)) rfl) (by simp [leafD]))
theorem seq_dr {A B : Option Addr} {c1 c2 : Nat} {a b : List Nd} {s t : Dt} {k m : Nat} {w : World} (ha : Doc w A c1 a s k) (hb : Doc w B c2 b t m) (hl : k + m + 1 ≤ 65536) :
    Fn Try.prog 26 [.slice A a.length c1, .slice B b.length c2] w (DocR w (.seq s t) (k + m + 1)) := by
  have h1 := ha.len
  have h2 := hb.len
  refine Fn.mono (seq_fn A B _ _ c1 c2 a b w ha.sd hb.sd hb.rep.valid.ok (by omega)) (fun v w' hv => hv.doc (ha.rep.seq hb.rep (by omega)) (by rw [seq_len]; omega))
theorem nest_dr {A : Option Addr} {c1 : Nat} {a : List Nd} {s : Dt} {k : Nat} {w : World} (n : Nat) (ha : Doc w A c1 a s k) (hn : n ≤ 1000) (hl : k + 1 ≤ 65536) :
    Fn Try.prog 28 [.int .i64 4, .int .i64 n, .slice A a.length c1] w (DocR w (.nest n s) (k + 1)) := by
  have h1 := ha.len
  refine Fn.mono (wrap_fn A _ c1 4 n a w ha.sd (by omega)) (fun v w' hv => hv.doc (ha.rep.wrap (by decide) ⟨.inr rfl, by omega, by omega⟩ (by omega) (by simp) rfl (by simp [hasAlign])) (by simp [wrapD]; omega))
theorem align_dr {A : Option Addr} {c1 : Nat} {a : List Nd} {s : Dt} {k : Nat} {w : World} (ha : Doc w A c1 a s k) (hl : k + 1 ≤ 65536) :
    Fn Try.prog 28 [.int .i64 5, .int .i64 0, .slice A a.length c1] w (DocR w (.align s) (k + 1)) := by
  have h1 := ha.len
  refine Fn.mono (wrap_fn A _ c1 5 0 a w ha.sd (by omega)) (fun v w' hv => hv.doc (ha.rep.wrap (by decide) ⟨.inl rfl, by omega, by omega⟩ (by omega) (by simp) rfl (by simp [hasAlign])) (by simp [wrapD]; omega))
theorem group_dr {A : Option Addr} {c1 : Nat} {a : List Nd} {s : Dt} {k : Nat} {w : World} (ha : Doc w A c1 a s k) (hl : k + 1 ≤ 65536) :
    Fn Try.prog 28 [.int .i64 6, .int .i64 0, .slice A a.length c1] w (DocR w (.group s) (k + 1)) := by
  have h1 := ha.len
  refine Fn.mono (wrap_fn A _ c1 6 0 a w ha.sd (by omega)) (fun v w' hv => hv.doc (ha.rep.wrap (by decide) ⟨.inl rfl, by omega, by omega⟩ (by omega) (by simp) rfl (by simp [hasAlign])) (by simp [wrapD]; omega))
theorem render_dr {A F : Option Addr} {c m cf : Nat} {d : List Nd} {t : Dt} {k : Nat} {w : World} (flat : List Bool) (h : Doc w A c d t k) (hF : Sl w 1 F m cf (boolsV flat)) :
    Fn Try.prog 21 [.slice A d.length c, .slice F m cf] w (StrRes w (rndT t flat)) := by
  have := render_fn A F _ c m cf d flat w h.sd hF h.rep.txt
  rwa [h.rep.rnd] at this
theorem rrender_dr {A F : Option Addr} {c m cf : Nat} {d : List Nd} {t : Dt} {k : Nat} {w : World} (flat : List Bool) (h : Doc w A c d t k) (hF : Sl w 1 F m cf (boolsV flat)) :
    Fn Try.prog 36 [.slice A d.length c, .slice F m cf] w (StrRes w (rndT t flat)) := by
  have := rrender_fn A F _ c m cf d flat w h.sd hF h.rep.txt
  rwa [h.rep.rnd] at this

end Go.Proofs.Ytbkadgdhmfolaaa
