/-
  The reference's Print; FormulaMatchesReference.
  Conditions: none.
-/
import Derived.Test.YtdbhjlpkopnebaaGreatDoorRc4
import Derived.Test.YtdbhjlpkopnebaaGreatDoorKk
import Derived.Test.YtdbhjlpkopnebaaGreatDoorW2
namespace Go.Proofs.YtdbhjlpkopnebaaGreatDoor
open Go Go.RowKit

theorem rprint_fn (names : List (List Nat)) (A FA : Option Addr) (n c nf cf : Nat) (f : List Fz) (w : World) (h : Sl w 1 A n c (strsV names)) (hb : NamesOk names) (hF : SF w FA nf cf f) (hl : FV f → varsOk names.length f → (prF names 0 (treeOf f)).length ≤ 140737488355328) :
    Fn Tryz.prog 42 [.slice A n c, .slice FA nf cf] w (StrRes w (printP names f)) := by
  have hfl := hF.2
  have hnl : names.length = n := by have := h.len; rw [strsV_length] at this; omega
  refine fn_of_exec (c := { c42 with cuts := [5] }) gx_ok Tryz.func42 rfl rfl rfl ?_
  refine call (rnames_fn names A n c w h hb) ?_
  rintro _ w1 ⟨rfl, hE1⟩
  cases hok : numsOk names with
  | false =>
    refine wif_not (wif_f rfl ?_)
    exact ⟨by rw [printP_no hok]; rfl, hE1⟩
  | true =>
    refine wif_not (wif_t rfl ?_)
    refine call (rcheck_fn FA nf cf f w1 (hF.ext hE1)) ?_
    rintro _ w2 ⟨rfl, hE2⟩
    have hE02 := hE1.trans hE2
    refine wif_ne (fun h1 => ?_) (fun h1 => ?_)
    · exact ⟨by rw [printP_bad hok (fun hh => h1 (chkF_ok hh.1))]; rfl, hE02⟩
    have hv := chkF_zero.1 h1
    have hv5 := hv.1
    have hv0 := hv.2.1
    refine cutIn [] gx_ok [] (fun _ : Unit => []) (fun _ w' => w2 = w' ∧ varsOk names.length f) ?_ ?_
    · refine loop gx_ok [6] (fun s : Nat => [.int .i64 s]) (fun s w' => w2 = w' ∧ s ≤ nf ∧ ∀ j x, j < s → f[j]? = some x → x.o = 2 → x.v < n) (fun s _ => nf - s) 0 rfl ⟨rfl, Nat.zero_le _, fun j x hj => absurd hj (by omega)⟩ ?_
      rintro s _ ⟨rfl, hs, hall⟩
      refine wif_d (fun h3 => ?_) (fun h3 => ?_)
      · refine index_sls fz_len (hF.ext hE02) rfl (by omega) (fun p x hx hc => ?_)
        refine load (hc 0 _ rfl) ?_
        have next : (x.o = 2 → x.v < n) → ∀ j y, j < s + 1 → f[j]? = some y → y.o = 2 → y.v < n := fun hh j y hj hy => by
          by_cases hjs : j < s
          · exact hall j y hjs hy
          · have : j = s := by omega
            subst this
            rw [Option.some.inj (hy.symm.trans hx)]; exact hh
        refine wif_eq (fun h4 => ?_) (fun h4 => ?_)
        · refine index_sls fz_len (hF.ext hE02) rfl (by omega) (fun p' x' hx' hc' => ?_)
          have hxx : x' = x := Option.some.inj (hx'.symm.trans hx)
          subst hxx
          refine load (hc' 1 _ rfl) ?_
          refine wif_d (fun h5 => ?_) (fun h5 => ?_)
          · refine ⟨?_, hE02⟩
            rw [printP_bad hok (fun hh => by have := hh.2 x' (List.mem_of_getElem? hx) h4; omega)]; rfl
          · refine norm_i64_to ((s + 1 : Nat) : Int) (by omega) (by omega) ?_
            exact ⟨s + 1, rfl, ⟨rfl, by omega, next (fun _ => by omega)⟩, by show nf - (s + 1) < nf - s; omega⟩
        · refine norm_i64_to ((s + 1 : Nat) : Int) (by omega) (by omega) ?_
          exact ⟨s + 1, rfl, ⟨rfl, by omega, next (fun ho => absurd ho h4)⟩, by show nf - (s + 1) < nf - s; omega⟩
      · refine ⟨(), rfl, rfl, fun x hx ho => ?_⟩
        obtain ⟨j, hj, rfl⟩ := List.mem_iff_getElem.1 hx
        have := hall j _ (by omega) (List.getElem?_eq_getElem hj) ho
        omega
    rintro ⟨⟩ _ ⟨rfl, hvo⟩
    have hlen := hl hv hvo
    have hp : prF names 0 (treeOf f) = prC names (treeOf f) := by
      unfold prF; rw [decide_eq_false (by omega)]; rfl
    rw [hp] at hlen
    refine norm_i64_to ((nf - 1 : Nat) : Int) (by omega) (by omega) ?_
    refine call (show_fn w2 names A n c FA nf cf f (h.ext hE02) (hF.ext hE02) (treeOf f) (nf - 1) w2 (Ext.refl _) (by rw [← hfl]; exact treeOf_rep hv) (varsIn_of hvo (treeOf_rep hv)) hlen) ?_
    rintro _ w3 ⟨rfl, hE3⟩
    refine ⟨?_, hE02.trans hE3⟩
    rw [printP_ok hok hv hvo, hp]

end Go.Proofs.YtdbhjlpkopnebaaGreatDoor
