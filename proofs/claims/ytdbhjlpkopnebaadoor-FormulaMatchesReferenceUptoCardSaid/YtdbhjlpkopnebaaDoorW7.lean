/-
  The reference's Print; FormulaMatchesReference.
  Conditions: none.
-/
import Derived.Test.YtdbhjlpkopnebaaDoorRc4
import Derived.Test.YtdbhjlpkopnebaaDoorKk
import Derived.Test.YtdbhjlpkopnebaaDoorW2
namespace Go.Proofs.YtdbhjlpkopnebaaDoor
open Go Go.RowKit

theorem rprint_fn (names : List (List Nat)) (A FA : Option Addr) (n c nf cf : Nat) (f : List Fz) (w : World) (h : Sl w 1 A n c (strsV names)) (hb : NamesOk names) (hF : SF w FA nf cf f) (hl : FV f → varsOk names.length f → (prF names 0 (treeOf f)).length ≤ 140737488355328) :
    Fn Tryd.prog 24 [.slice A n c, .slice FA nf cf] w (StrRes w (printP names f)) := by
  have hfl := hF.2
  have hnl : names.length = n := by have := h.len; rw [strsV_length] at this; omega
  refine fn_of_exec (c := { c24 with cuts := [5] }) gx_ok Tryd.func24 rfl rfl rfl ?_
  refine call (rnames_fn names A n c w h hb) ?_
  rintro _ w1 ⟨rfl, hE1⟩
  cases hok : numsOk names with
  | false =>
    refine wif_not (wif_f rfl ?_)
    exact ⟨by rw [printP_no hok]; rfl, hE1⟩
  | true =>
    refine wif_not (wif_t rfl ?_)
    refine call (rcheck_fn FA nf cf f w1 (hF.ext hE1)) ?_
    rintro _ w2 ⟨rfl, hE2⟩
    have hE02 := hE1.trans hE2
    refine wif_ne (fun h1 => ?_) (fun h1 => ?_)
    · exact ⟨by rw [printP_bad hok (fun hh => h1 (chkF_ok hh.1))]; rfl, hE02⟩
    have hv := chkF_zero.1 h1
    have hv5 := hv.1
    have hv0 := hv.2.1
    refine cutIn [] gx_ok [] (fun _ : Unit => []) (fun _ w' => w2 = w' ∧ varsOk names.length f) ?_ ?_
    · refine loop gx_ok [6] (fun s : Nat => [.int .i64 s]) (fun s w' => w2 = w' ∧ s ≤ nf ∧ ∀ j x, j < s → f[j]? = some x → x.o = 2 → x.v < n) (fun s _ => nf - s) 0 rfl ⟨rfl, Nat.zero_le _, fun j x hj => absurd hj (by omega)⟩ ?_
      rintro s _ ⟨rfl, hs, hall⟩
      refine wif_d (fun h3 => ?_) (fun h3 => ?_)
      · refine index_sls fz_len (hF.ext hE02) rfl (by omega) (fun p x hx hc => ?_)
        refine load (hc 0 _ rfl) ?_
        have next : (x.o = 2 → x.v < n) → ∀ j y, j < s + 1 → f[j]? = some y → y.o = 2 → y.v < n := fun hh j y hj hy => by
          by_cases hjs : j < s
          · exact hall j y hjs hy
          · have : j = s := by omega
            subst this
            rw [Option.some.inj (hy.symm.trans hx)]; exact hh
        refine wif_eq (fun h4 => ?_) (fun h4 => ?_)
        · refine index_sls fz_len (hF.ext hE02) rfl (by omega) (fun p' x' hx' hc' => ?_)
          have hxx : x' = x := Option.some.inj (hx'.symm.trans hx)
          subst hxx
          refine load (hc' 1 _ rfl) ?_
          refine wif_d (fun h5 => ?_) (fun h5 => ?_)
          · refine ⟨?_, hE02⟩
            rw [printP_bad hok (fun hh => by have := hh.2 x' (List.mem_of_getElem? hx) h4; omega)]; rfl
          · refine norm_i64_to ((s + 1 : Nat) : Int) (by omega) (by omega) ?_
            exact ⟨s + 1, rfl, ⟨rfl, by omega, next (fun _ => by omega)⟩, by show nf - (s + 1) < nf - s; omega⟩
        · refine norm_i64_to ((s + 1 : Nat) : Int) (by omega) (by omega) ?_
          exact ⟨s + 1, rfl, ⟨rfl, by omega, next (fun ho => absurd ho h4)⟩, by show nf - (s + 1) < nf - s; omega⟩
      · refine ⟨(), rfl, rfl, fun x hx ho => ?_⟩
        obtain ⟨j, hj, rfl⟩ := List.mem_iff_getElem.1 hx
        have := hall j _ (by omega) (List.getElem?_eq_getElem hj) ho
        omega
    rintro ⟨⟩ _ ⟨rfl, hvo⟩
    have hlen := hl hv hvo
    have hp : prF names 0 (treeOf f) = prC names (treeOf f) := by
      unfold prF; rw [decide_eq_false (by omega)]; rfl
    rw [hp] at hlen
    refine norm_i64_to ((nf - 1 : Nat) : Int) (by omega) (by omega) ?_
    refine call (show_fn w2 names A n c FA nf cf f (h.ext hE02) (hF.ext hE02) (treeOf f) (nf - 1) w2 (Ext.refl _) (by rw [← hfl]; exact treeOf_rep hv) (varsIn_of hvo (treeOf_rep hv)) hlen) ?_
    rintro _ w3 ⟨rfl, hE3⟩
    refine ⟨?_, hE02.trans hE3⟩
    rw [printP_ok hok hv hvo, hp]

theorem matches_law (F : Option Addr) (nf cf : Nat) (f : List Fz) (A : Option Addr) (n c : Nat) (names : List (List Nat)) (cfg : Nat) (hcf : cfg ≤ 18446744073709551615) (w : World) (hF : SF w F nf cf f) (h : Sl w 1 A n c (strsV names)) (hb : NamesOk names) (hM : ∀ s ∈ names, s.length ≤ 1048576) :
    Fn Tryd.prog 8 [.slice F nf cf, .slice A n c, .int .u64 cfg] w (fun v w' => v = .bool true ∧ Ext w w') := by
  have hfl := hF.2
  refine fn_of_exec (c := { c8 with cuts := [2] }) gx_ok Tryd.func8 rfl rfl rfl ?_
  refine call (sanity_fn w) ?_
  rintro _ w1 ⟨rfl, hE1⟩
  have out : (Value.bool true = .bool true) ∧ Ext w w1 := ⟨rfl, hE1⟩
  refine cutIn [] gx_ok [] (fun _ : Unit => []) (fun _ w' => w1 = w') ?_ ?_
  · refine wif_d (fun c1 => ?_) (fun c1 => ?_)
    · refine wif_d (fun c2 => ?_) (fun c2 => ?_)
      · exact out
      refine wif_d (fun c3 => ?_) (fun c3 => ?_)
      · exact out
      refine wif_d (fun c4 => ?_) (fun c4 => ?_)
      · exact out
      exact ⟨(), rfl, rfl⟩
    · refine wif_d (fun c3 => ?_) (fun c3 => ?_)
      · exact out
      refine wif_d (fun c4 => ?_) (fun c4 => ?_)
      · exact out
      exact ⟨(), rfl, rfl⟩
  rintro ⟨⟩ _ rfl
  have hlen : FV f → varsOk names.length f → (prF names 0 (treeOf f)).length ≤ 140737488355328 := fun hv _ => by
    have h1 := prF_len hM (treeOf f)
    have h2 := szF_total hv
    have h3 := hv.1
    have : szF (treeOf f) * (1048576 + 10) ≤ 512 * (1048576 + 10) := Nat.mul_le_mul_right _ (by omega)
    omega
  refine call (print_fn names A F n c nf cf f w1 (h.ext hE1) hb (hF.ext hE1) hlen) ?_
  rintro _ w2 ⟨rfl, hE2⟩
  have hE02 := hE1.trans hE2
  refine call (rprint_fn names A F n c nf cf f w2 (h.ext hE02) hb (hF.ext hE02) hlen) ?_
  rintro _ w3 ⟨rfl, hE3⟩
  have hE03 := hE02.trans hE3
  refine call (check_fn F nf cf f w3 (hF.ext hE03)) ?_
  rintro _ w4 ⟨rfl, hE4⟩
  have hE04 := hE03.trans hE4
  refine call (rcheck_fn F nf cf f w4 (hF.ext hE04)) ?_
  rintro _ w5 ⟨rfl, hE5⟩
  have hE05 := hE04.trans hE5
  refine wif_nef rfl ?_
  refine wif_f (by simp) ?_
  refine wif_nef rfl ?_
  refine wif_t rfl ?_
  refine call (fholds_fn F nf cf f cfg hcf w5 (hF.ext hE05)) ?_
  rintro _ w6 ⟨rfl, hE6⟩
  have hE06 := hE05.trans hE6
  refine call (rholds_fn F nf cf f cfg hcf w6 (hF.ext hE06)) ?_
  rintro _ w7 ⟨rfl, hE7⟩
  exact ⟨by rw [show (holdsP f cfg == holdsP f cfg) = true by cases holdsP f cfg <;> rfl], hE06.trans hE7⟩
end Go.Proofs.YtdbhjlpkopnebaaDoor
