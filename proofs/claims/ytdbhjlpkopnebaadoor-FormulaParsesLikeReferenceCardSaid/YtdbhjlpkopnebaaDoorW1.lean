/-
  FormulaParsesLikeReference: the walk.
  Conditions: none.
-/
import Derived.Test.YtdbhjlpkopnebaaDoorKk
namespace Go.Proofs.YtdbhjlpkopnebaaDoor
open Go Go.RowKit

theorem parses_law (A : Option Addr) (n c : Nat) (s : ByteArray) (names : List (List Nat)) (w : World) (h : Sl w 1 A n c (strsV names)) (hb : NamesOk names) :
    Fn Tryd.prog 3 [.slice A n c, .string s] w (fun v w' => v = .bool true ∧ Ext w w') := by
  rw [show s = strOf (bytesOf s) from (strOf_bytesOf s).symm]
  refine fn_of_exec (c := { c3 with cuts := [] }) gx_ok Tryd.func3 rfl rfl rfl ?_
  refine call (sanity_fn w) ?_
  rintro _ w1 ⟨rfl, hE1⟩
  refine wif_d (fun c1 => ?_) (fun c1 => ?_)
  · exact ⟨rfl, hE1⟩
  refine wif_d (fun c2 => ?_) (fun c2 => ?_)
  · exact ⟨rfl, hE1⟩
  have hl := bytesOf_length s
  have h8 := bytesOf_lt s
  have hs : s.size ≤ 3000 := by have : (strOf (bytesOf s)).size = s.size := by rw [strOf_bytesOf]
                                omega
  refine call (parse_fn names A n c (bytesOf s) w1 (h.ext hE1) hb h8 (by omega)) ?_
  rintro _ w2 ⟨F2, m2, c2, rfl, hE2, hF2⟩
  have hE12 := hE1.trans hE2
  refine call (rparse_fn names A n c (bytesOf s) w2 (h.ext hE12) hb h8 (by omega)) ?_
  rintro _ w3 ⟨F3, m3, c3, rfl, hE3, hF3⟩
  have hE13 := hE12.trans hE3
  refine wif_t rfl ?_
  refine wif_eqt rfl ?_
  refine call (rsamef_fn F2 F3 m2 c2 m3 c3 _ _ w3 (hF2.ext hE3) hF3) ?_
  rintro _ w4 ⟨rfl, hE4⟩
  exact ⟨by rw [decide_eq_true rfl], hE13.trans hE4⟩
end Go.Proofs.YtdbhjlpkopnebaaDoor
