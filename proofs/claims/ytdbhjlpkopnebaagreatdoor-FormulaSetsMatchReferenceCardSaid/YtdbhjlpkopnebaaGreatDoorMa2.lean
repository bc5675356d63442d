/-
  Formulas that numbers make: the walk; letters.
  Conditions: none.
-/
import Derived.Test.YtdbhjlpkopnebaaGreatDoorMa1
namespace Go.Proofs.YtdbhjlpkopnebaaGreatDoor
open Go Go.RowKit

theorem Own.cut {w : World} {base e n c m : Nat} {A : Option Addr} {cs : List Value} (h : Own w base e 1 A n c cs) (hm : m ≤ n) : Own w base e 1 A m c (cs.take m) := by
  have hr := h.row
  have hl := h.sl.len
  refine ⟨⟨by rw [List.length_take]; omega, ?_⟩⟩
  rcases hr.2 with ⟨hv, hx⟩ | ⟨g, cap, cur, hv, hb, hg, hn, hc, hs, ht⟩
  · cases hv
    have : m = 0 := by omega
    subst this
    exact .inl ⟨rfl, by simp⟩
  · refine .inr ⟨g, cap, cur, ?_, hb, hg, by omega, hc, hs, ?_⟩
    · cases hv; rfl
    · rw [← ht, List.take_take]
      congr 1; omega
theorem natsV_snoc (l : List Nat) (x : Nat) : natsV (l ++ [x]) = natsV l ++ [.int .i64 (x : Int)] := by simp [natsV]
theorem natsV_take (l : List Nat) (n : Nat) : natsV (l.take n) = (natsV l).take n := by simp [natsV]
theorem natsV_scalar (l : List Nat) : ∀ u ∈ natsV l, scalar u = true := fun u hu => by
  simp only [natsV, List.mem_map] at hu; obtain ⟨x, _, rfl⟩ := hu; rfl

/-- The state of the making: nodes and roots. -/
structure MaS where
  f : List Fz
  A : Option Addr
  c : Nat
  rs : List Nat
  B : Option Addr
  d : Nat
structure Ma (w0 w : World) (s : MaS) : Prop where
  e : Ext w0 w
  fo : Own w w0.heap.size 51 4 s.A s.f.length s.c (fzV s.f)
  ro : Own w w0.heap.size 3 1 s.B s.rs.length s.d (natsV s.rs)
  ap : ∀ i, rowS s.A i → ¬ rowS s.B i
def MaV (s : MaS) : List Value := [.slice s.A s.f.length s.c, .slice s.B s.rs.length s.d]
theorem Ma.ext {w0 w w' : World} {s : MaS} (h : Ma w0 w s) (k : Ext w w') : Ma w0 w' s := ⟨h.e.trans k, h.fo.ext k, h.ro.ext k, h.ap⟩
theorem Ma.node {w0 w2 w3 : World} {s : MaS} {x : Fz} {A3 : Option Addr} {c3 : Nat} (h : Ma w0 w2 s) (hm : Mod (rowS s.A) w2 w3) (ho : Own w3 w0.heap.size 51 4 A3 (s.f.length + 1) c3 (fzV s.f ++ x.cells)) (hv : Moved w2 s.A A3) : Ma w0 w3 { s with f := s.f ++ [x], A := A3, c := c3 } := by
  have el : (s.f ++ [x]).length = s.f.length + 1 := by simp
  refine ⟨hm.ext h.e (fun i hi => (h.fo.rows i hi).1), by simp only; rw [el, fzV_snoc]; exact ho, h.ro.mod hm (fun i hi e => h.ap i e hi), fun i hi hb => ?_⟩
  rcases hv.rows i hi with hh | hh
  · exact h.ap i hh hb
  · have := (h.ro.rows i hb).2; omega
theorem Ma.root {w0 w2 w3 : World} {s : MaS} {rs : List Nat} {r : Nat} {B3 : Option Addr} {d3 : Nat} (h : Ma w0 w2 s) (hm : Mod (rowS s.B) w2 w3) (ho : Own w3 w0.heap.size 3 1 B3 (rs.length + 1) d3 (natsV rs ++ [.int .i64 (r : Int)])) (hv : Moved w2 s.B B3) : Ma w0 w3 { s with rs := rs ++ [r], B := B3, d := d3 } := by
  have el : (rs ++ [r]).length = rs.length + 1 := by simp
  refine ⟨hm.ext h.e (fun i hi => (h.ro.rows i hi).1), h.fo.mod hm (fun i hi e => h.ap i hi e), by simp only; rw [el, natsV_snoc]; exact ho, fun i hi hb => ?_⟩
  rcases hv.rows i hb with hh | hh
  · exact h.ap i hi hh
  · have := (h.fo.rows i hi).2; omega
theorem set_last {l : List Nat} (h : 0 < l.length) (v : Nat) : l.set (l.length - 1) v = l.take (l.length - 1) ++ [v] := by
  rw [List.set_eq_take_append_cons_drop, if_pos (by omega), List.drop_of_length_le (by omega)]
theorem roots_le {nv : Nat} {f : List Fz} {rs : List Nat} (h : FG nv f rs) : rs.length ≤ f.length := by
  refine nodup_lt f.length rs ?_ (fun x hx => h.lt hx)
  rw [List.nodup_iff_count]
  intro a
  have := h.cnt a
  split at this <;> omega
theorem fzP_var {k i : Nat} (h : k < 64) : fzP ⟨2, (k : Nat), 0, 0⟩ i := by
  refine ⟨show 0 ≤ fAr 2 by decide, ?_, rfl, rfl⟩
  rw [if_pos rfl]; simp only; omega
theorem fzP_const {k i : Nat} (h : k < 2) : fzP ⟨(k : Nat), 0, 0, 0⟩ i := by
  rcases (by omega : k = 0 ∨ k = 1) with rfl | rfl <;> exact ⟨by decide, rfl, rfl, rfl⟩
theorem kids_var (k : Nat) : fkids [⟨2, (k : Nat), 0, 0⟩] = [] := rfl
theorem kids_const {k : Nat} (h : k < 2) : fkids [⟨(k : Nat), 0, 0, 0⟩] = [] := by
  rcases (by omega : k = 0 ∨ k = 1) with rfl | rfl <;> rfl

theorem last_one {l : List Nat} (h : 0 < l.length) : ∃ r, l = l.take (l.length - 1) ++ [r] ∧ l[l.length - 1]? = some r := by
  have hi : l.length - 1 < l.length := by omega
  refine ⟨l[l.length - 1], ?_, List.getElem?_eq_getElem hi⟩
  have e := List.take_add_one (l := l) (i := l.length - 1)
  rw [List.getElem?_eq_getElem hi, show l.length - 1 + 1 = l.length by omega, List.take_length] at e
  exact e
theorem last_two {l : List Nat} (h : 1 < l.length) : ∃ a b, l = l.take (l.length - 2) ++ [a, b] ∧ l[l.length - 2]? = some a ∧ l[l.length - 1]? = some b := by
  have hi : l.length - 2 < l.length := by omega
  have hj : l.length - 1 < l.length := by omega
  refine ⟨l[l.length - 2], l[l.length - 1], ?_, List.getElem?_eq_getElem hi, List.getElem?_eq_getElem hj⟩
  have e := List.take_add_one (l := l) (i := l.length - 2)
  have e2 := List.take_add_one (l := l) (i := l.length - 1)
  rw [List.getElem?_eq_getElem hi, show l.length - 2 + 1 = l.length - 1 by omega] at e
  simp only [Option.toList_some] at e e2
  rw [List.getElem?_eq_getElem hj, show l.length - 1 + 1 = l.length by omega, List.take_length, e] at e2
  rw [List.append_assoc] at e2
  exact e2

theorem made_fn (l : List Nat) (A : Option Addr) (n c : Nat) (nv : Nat) (w : World) (h : Sl w 1 A n c (bytesV l)) (h8 : ∀ x ∈ l, x ≤ 255) (hv : 1 ≤ nv) (hv64 : nv ≤ 64) :
    Fn Tryz.prog 6 [.slice A n c, .int .i64 nv] w (fun v w' => ∃ F m cF f, v = .slice F m cF ∧ Ext w w' ∧ SF w' F m cF f ∧ FV f ∧ varsOk nv f ∧ f.length ≤ 80) := by
  have hn : l.length = n := by have := h.len; rw [bytesV_length] at this; omega
  have hn9 : n ≤ 9223372036854775807 := by have := h.le; have := h.cap; simp only [maxLen] at this; omega
  refine fn_of_exec (c := { c6 with cuts := [3] }) gx_ok Tryz.func6 rfl rfl rfl ?_
  refine cutIn [6] gx_ok [5, 6] MaV (fun s w' => Ma w w' s ∧ FG nv s.f s.rs ∧ s.f.length ≤ 40) ?_ ?_
  · refine loop gx_ok [7, 5, 6] (fun t : Nat × MaS => .int .i64 t.1 :: MaV t.2) (fun t w' => Ma w w' t.2 ∧ FG nv t.2.f t.2.rs ∧ t.1 ≤ n ∧ t.2.f.length ≤ t.1 ∧ t.1 ≤ 40) (fun t _ => n - t.1) (0, ⟨[], none, 0, [], none, 0⟩) rfl
      ⟨⟨Ext.refl w, Own.nil _ _ _ _, Own.nil _ _ _ _, (fun i hi => by obtain ⟨_, e, _⟩ := hi; cases e)⟩, FG.empty nv, Nat.zero_le _, Nat.le_refl _, Nat.zero_le _⟩ ?_
    rintro ⟨i, s⟩ w1 ⟨hM, hG, hi, hfl, hi40⟩
    simp only at hM hG hi hfl hi40
    have hrl := roots_le hG
    refine wif_d (fun h1 => ?_) (fun h1 => ?_)
    · refine wif_d (fun h2 => ?_) (fun h2 => ?_)
      · have hgi : l[i]? = some l[i] := List.getElem?_eq_getElem (by omega)
        generalize l[i] = x at hgi
        have hx8 := h8 x (List.mem_of_getElem? hgi)
        refine cutIn [13] gx_ok [5, 6] MaV (fun s' w' => Ma w w' s' ∧ FG nv s'.f s'.rs ∧ s'.f.length ≤ i + 1) ?_ ?_
        · refine index_sl (h.ext hM.e) (by omega) (fun ad u hA hu hcell => ?_)
          rw [bytesV_get' hgi] at hu
          cases hu
          refine load hcell ?_
          refine norm_i64_to ((x : Nat) : Int) rfl (by omega) ?_
          have m8 : x % 8 < 8 := Nat.mod_lt _ (by decide)
          refine norm_rem (d := 8) (by decide) ?_
          have notA : ¬ (x % 8 < 3 ∧ 1 < s.rs.length) → True := fun _ => trivial
          by_cases cA : x % 8 < 3 ∧ 1 < s.rs.length
          · refine wif_dt (by omega) ?_
            refine wif_dt (by show ((s.rs.length : Nat) : Int) > 1; omega) ?_
            obtain ⟨a, b, hab, ha, hb⟩ := last_two cA.2
            refine norm_i64_to ((s.rs.length - 2 : Nat) : Int) (by show ((s.rs.length : Nat) : Int) - 2 = _; omega) (by omega) ?_
            refine index_sl hM.ro.sl (by show _ < s.rs.length; omega) (fun ad u hA hu hcell => ?_)
            rw [natsV_get ha] at hu
            cases hu
            refine load hcell ?_
            refine norm_i64_to ((s.rs.length - 1 : Nat) : Int) (by show ((s.rs.length : Nat) : Int) - 1 = _; omega) (by omega) ?_
            refine index_sl hM.ro.sl (by show _ < s.rs.length; omega) (fun ad u hA hu hcell => ?_)
            rw [natsV_get hb] at hu
            cases hu
            refine load hcell ?_
            refine cutIn [] gx_ok [10, 11] (fun sw : Bool => [.int .i64 ((if sw then b else a : Nat) : Int), .int .i64 ((if sw then a else b : Nat) : Int)]) (fun _ w' => w1 = w') ?_ ?_
            · refine norm_rem (d := 16) (by decide) ?_
              refine wif_d (fun h5 => ?_) (fun h5 => ?_)
              · exact ⟨true, rfl, rfl⟩
              · exact ⟨false, rfl, rfl⟩
            · rintro sw _ rfl
              have hop : ((4 + x % 8 % 2 : Nat) : Int) = 4 ∨ ((4 + x % 8 % 2 : Nat) : Int) = 5 := by omega
              refine norm_rem (d := 8) (by decide) ?_
              refine norm_rem (d := 2) (by decide) ?_
              refine norm_i64_to ((4 + x % 8 % 2 : Nat) : Int) (by omega) (by omega) ?_
              refine at_buildN gx_ok [(⟨((4 + x % 8 % 2 : Nat) : Int), 0, ((if sw then b else a : Nat) : Int), ((if sw then a else b : Nat) : Int)⟩ : Fz).cells] rfl rfl rfl rfl rfl ⟨rfl, rfl, ⟨⟩⟩ rfl (fun cs h => by simp only [List.mem_singleton] at h; subst h; rfl) rfl (by decide) (by decide) ?_
              intro w3a hE3a hz3a hB3a
              have hs3a : Sl w3a 4 (some ⟨w1.heap.size, 0, none⟩) 1 1 (⟨((4 + x % 8 % 2 : Nat) : Int), 0, ((if sw then b else a : Nat) : Int), ((if sw then a else b : Nat) : Int)⟩ : Fz).cells := Sl.own (sz := 4) (n := 1) hB3a (Nat.le_refl _) (by decide) (by simp [Fz.cells])
              refine at_app (n := (s).f.length) gx_ok rfl rfl rfl rfl rfl (by decide) rfl rfl ⟨_, rfl⟩ rfl rfl (hM.ext hE3a).fo hs3a (by intro u hu; simp [Fz.cells] at hu; rcases hu with rfl | rfl | rfl | rfl <;> rfl) (by unfold maxLen; omega) (by show _ * 32 ≤ _; omega) (by have := (hM.ext hE3a).e.size; omega) ?_
              intro A3 c3 w3 hm3 ho3 hv3
              have hM3 := (hM.ext hE3a).node hm3 ho3 hv3
              refine norm_i64_to ((s.rs.length - 2 : Nat) : Int) (by show ((s.rs.length : Nat) : Int) - 2 = _; omega) (by omega) ?_
              refine at_slice_h gx_ok rfl rfl rfl rfl rfl rfl (show s.rs.length - 2 ≤ s.d by have := hM.ro.sl.le; omega) ?_
              refine norm_i64_to ((s.f.length : Nat) : Int) (by omega) (by omega) ?_
              have lt2 : (s.rs.take (s.rs.length - 2)).length = s.rs.length - 2 := by rw [List.length_take]; omega
              have hcut : Own w3 w.heap.size 3 1 s.B (s.rs.take (s.rs.length - 2)).length s.d (natsV (s.rs.take (s.rs.length - 2))) := by
                rw [lt2, natsV_take]; exact hM3.ro.cut (show s.rs.length - 2 ≤ s.rs.length by omega)
              rw [← lt2]
              refine at_build1 gx_ok rfl rfl rfl rfl rfl rfl rfl rfl (fun w5a hE5a hz5a hB5a => ?_)
              have hs5a : Sl w5a 1 (some ⟨w3.heap.size, 0, none⟩) 1 1 [.int .i64 ((s.f.length : Nat) : Int)] := Sl.own' (n := 1) hB5a rfl (by decide)
              refine at_app (sz := 1) (n := (s.rs.take (s.rs.length - 2)).length) gx_ok rfl rfl rfl rfl rfl (by decide) rfl rfl ⟨_, rfl⟩ rfl rfl (hcut.ext hE5a) hs5a (by intro u hu; simp at hu; rcases hu with rfl; rfl) (by unfold maxLen; omega) (by show _ * 8 ≤ _; omega) (by have := (hM3.ext hE5a).e.size; omega) ?_
              intro B5 d5 w5 hm5 ho5 hv5
              have hM5 := (hM3.ext hE5a).root (rs := s.rs.take (s.rs.length - 2)) (r := s.f.length) hm5 ho5 hv5
              have hG2 : FG nv s.f (s.rs.take (s.rs.length - 2) ++ [a, b]) := by rw [← hab]; exact hG
              exact ⟨_, by simp only [MaV, List.length_append, List.length_cons, List.length_nil]; rfl, hM5, hG2.join _ hop sw, by simp only [List.length_append, List.length_cons, List.length_nil]; omega⟩
          · refine wif_d (fun h5 => ?_) (fun h5 => ?_)
            · refine wif_df (by show ¬ ((s.rs.length : Nat) : Int) > 1; omega) ?_
              refine norm_rem (d := 8) (by decide) ?_
              refine wif_eqf (by omega) ?_
              refine norm_rem (d := 8) (by decide) ?_
              refine wif_eqf (by omega) ?_
              refine normIf (m := ((x / 8 : Nat) : Int)) (by decide) (by rw [show (8 : Int) = ((8 : Nat) : Int) from rfl, tdiv_nat]; exact IntWalk.i64_in _ (by omega)) ?_
              refine norm_rem (d := nv) (by omega) ?_
              refine at_buildN gx_ok [(⟨2, ((x / 8 % nv : Nat) : Int), 0, 0⟩ : Fz).cells] rfl rfl rfl rfl rfl ⟨rfl, rfl, ⟨⟩⟩ rfl (fun cs h => by simp only [List.mem_singleton] at h; subst h; rfl) rfl (by decide) (by decide) ?_
              intro w3a hE3a hz3a hB3a
              have hs3a : Sl w3a 4 (some ⟨w1.heap.size, 0, none⟩) 1 1 (⟨2, ((x / 8 % nv : Nat) : Int), 0, 0⟩ : Fz).cells := Sl.own (sz := 4) (n := 1) hB3a (Nat.le_refl _) (by decide) (by simp [Fz.cells])
              refine at_app (n := (s).f.length) gx_ok rfl rfl rfl rfl rfl (by decide) rfl rfl ⟨_, rfl⟩ rfl rfl (hM.ext hE3a).fo hs3a (by intro u hu; simp [Fz.cells] at hu; rcases hu with rfl | rfl | rfl | rfl <;> rfl) (by unfold maxLen; omega) (by show _ * 32 ≤ _; omega) (by have := (hM.ext hE3a).e.size; omega) ?_
              intro A3 c3 w3 hm3 ho3 hv3
              have hM3 := (hM.ext hE3a).node hm3 ho3 hv3
              refine norm_i64_to ((s.f.length : Nat) : Int) (by omega) (by omega) ?_
              refine at_build1 gx_ok rfl rfl rfl rfl rfl rfl rfl rfl (fun w5a hE5a hz5a hB5a => ?_)
              have hs5a : Sl w5a 1 (some ⟨w3.heap.size, 0, none⟩) 1 1 [.int .i64 ((s.f.length : Nat) : Int)] := Sl.own' (n := 1) hB5a rfl (by decide)
              refine at_app (sz := 1) (n := (s.rs).length) gx_ok rfl rfl rfl rfl rfl (by decide) rfl rfl ⟨_, rfl⟩ rfl rfl (hM3.ext hE5a).ro hs5a (by intro u hu; simp at hu; rcases hu with rfl; rfl) (by unfold maxLen; omega) (by show _ * 8 ≤ _; omega) (by have := (hM3.ext hE5a).e.size; omega) ?_
              intro B5 d5 w5 hm5 ho5 hv5
              have hM5 := (hM3.ext hE5a).root (rs := s.rs) (r := s.f.length) hm5 ho5 hv5
              exact ⟨_, by simp only [MaV, List.length_append, List.length_cons, List.length_nil]; rfl, hM5, hG.leaf (fzP_var (by have := Nat.mod_lt (x / 8) hv; omega)) (kids_var _) (fun _ => by have := Nat.mod_lt (x / 8) hv; simp only; omega), by simp only [List.length_append, List.length_cons, List.length_nil]; omega⟩
            · refine norm_rem (d := 8) (by decide) ?_
              refine wif_eq (fun h6 => ?_) (fun h6 => ?_)
              · refine wif_d (fun h7 => ?_) (fun h7 => ?_)
                · have h7' : 0 < s.rs.length := by have : ((s.rs.length : Nat) : Int) > 0 := h7; omega
                  obtain ⟨r, hr, hr1⟩ := last_one h7'
                  refine norm_i64_to ((s.rs.length - 1 : Nat) : Int) (by show ((s.rs.length : Nat) : Int) - 1 = _; omega) (by omega) ?_
                  refine index_sl hM.ro.sl (by show _ < s.rs.length; omega) (fun ad u hA hu hcell => ?_)
                  rw [natsV_get hr1] at hu
                  cases hu
                  refine load hcell ?_
                  refine at_buildN gx_ok [(⟨3, 0, ((r : Nat) : Int), 0⟩ : Fz).cells] rfl rfl rfl rfl rfl ⟨rfl, rfl, ⟨⟩⟩ rfl (fun cs h => by simp only [List.mem_singleton] at h; subst h; rfl) rfl (by decide) (by decide) ?_
                  intro w3a hE3a hz3a hB3a
                  have hs3a : Sl w3a 4 (some ⟨w1.heap.size, 0, none⟩) 1 1 (⟨3, 0, ((r : Nat) : Int), 0⟩ : Fz).cells := Sl.own (sz := 4) (n := 1) hB3a (Nat.le_refl _) (by decide) (by simp [Fz.cells])
                  refine at_app (n := (s).f.length) gx_ok rfl rfl rfl rfl rfl (by decide) rfl rfl ⟨_, rfl⟩ rfl rfl (hM.ext hE3a).fo hs3a (by intro u hu; simp [Fz.cells] at hu; rcases hu with rfl | rfl | rfl | rfl <;> rfl) (by unfold maxLen; omega) (by show _ * 32 ≤ _; omega) (by have := (hM.ext hE3a).e.size; omega) ?_
                  intro A3 c3 w3 hm3 ho3 hv3
                  have hM3 := (hM.ext hE3a).node hm3 ho3 hv3
                  refine norm_i64_to ((s.rs.length - 1 : Nat) : Int) (by show ((s.rs.length : Nat) : Int) - 1 = _; omega) (by omega) ?_
                  refine norm_i64_to ((s.f.length : Nat) : Int) (by omega) (by omega) ?_
                  refine index_sl hM3.ro.sl (by show _ < s.rs.length; omega) (fun ad u hA hu hcell => ?_)
                  have hro := hM3.ro
                  simp only at hA hro
                  rw [hA] at hro
                  refine store_own hro (show s.rs.length - 1 < s.rs.length by omega) (fun w5 hg5 ho5 => ?_)
                  have es := set_last h7' s.f.length
                  have hm5 : Mod (rowS s.B) w3 w5 := by rw [hA]; exact Mod.of_row hg5
                  have hG2 : FG nv s.f (s.rs.take (s.rs.length - 1) ++ [r]) := by rw [← hr]; exact hG
                  have hM5 : Ma w w5 ⟨s.f ++ [⟨3, 0, ((r : Nat) : Int), 0⟩], A3, c3, s.rs.take (s.rs.length - 1) ++ [s.f.length], s.B, s.d⟩ := by
                    refine ⟨hm5.ext hM3.e (fun i hi => (hM3.ro.rows i hi).1), hM3.fo.mod hm5 (fun i hi e => hM3.ap i hi e), ?_, hM3.ap⟩
                    simp only
                    rw [← es, natsV_set, hA]
                    rw [List.length_set]; exact ho5
                  refine ⟨_, ?_, hM5, hG2.neg, by simp only [List.length_append, List.length_cons, List.length_nil]; omega⟩
                  have e1 : (s.rs.take (s.rs.length - 1) ++ [s.f.length]).length = s.rs.length := by rw [List.length_append, List.length_take]; simp; omega
                  simp only [MaV, List.length_append, List.length_cons, List.length_nil] at e1 ⊢
                  rw [e1]; rfl
                · refine norm_rem (d := 8) (by decide) ?_
                  refine wif_eqf (by omega) ?_
                  refine normIf (m := ((x / 8 : Nat) : Int)) (by decide) (by rw [show (8 : Int) = ((8 : Nat) : Int) from rfl, tdiv_nat]; exact IntWalk.i64_in _ (by omega)) ?_
                  refine norm_rem (d := nv) (by omega) ?_
                  refine at_buildN gx_ok [(⟨2, ((x / 8 % nv : Nat) : Int), 0, 0⟩ : Fz).cells] rfl rfl rfl rfl rfl ⟨rfl, rfl, ⟨⟩⟩ rfl (fun cs h => by simp only [List.mem_singleton] at h; subst h; rfl) rfl (by decide) (by decide) ?_
                  intro w3a hE3a hz3a hB3a
                  have hs3a : Sl w3a 4 (some ⟨w1.heap.size, 0, none⟩) 1 1 (⟨2, ((x / 8 % nv : Nat) : Int), 0, 0⟩ : Fz).cells := Sl.own (sz := 4) (n := 1) hB3a (Nat.le_refl _) (by decide) (by simp [Fz.cells])
                  refine at_app (n := (s).f.length) gx_ok rfl rfl rfl rfl rfl (by decide) rfl rfl ⟨_, rfl⟩ rfl rfl (hM.ext hE3a).fo hs3a (by intro u hu; simp [Fz.cells] at hu; rcases hu with rfl | rfl | rfl | rfl <;> rfl) (by unfold maxLen; omega) (by show _ * 32 ≤ _; omega) (by have := (hM.ext hE3a).e.size; omega) ?_
                  intro A3 c3 w3 hm3 ho3 hv3
                  have hM3 := (hM.ext hE3a).node hm3 ho3 hv3
                  refine norm_i64_to ((s.f.length : Nat) : Int) (by omega) (by omega) ?_
                  refine at_build1 gx_ok rfl rfl rfl rfl rfl rfl rfl rfl (fun w5a hE5a hz5a hB5a => ?_)
                  have hs5a : Sl w5a 1 (some ⟨w3.heap.size, 0, none⟩) 1 1 [.int .i64 ((s.f.length : Nat) : Int)] := Sl.own' (n := 1) hB5a rfl (by decide)
                  refine at_app (sz := 1) (n := (s.rs).length) gx_ok rfl rfl rfl rfl rfl (by decide) rfl rfl ⟨_, rfl⟩ rfl rfl (hM3.ext hE5a).ro hs5a (by intro u hu; simp at hu; rcases hu with rfl; rfl) (by unfold maxLen; omega) (by show _ * 8 ≤ _; omega) (by have := (hM3.ext hE5a).e.size; omega) ?_
                  intro B5 d5 w5 hm5 ho5 hv5
                  have hM5 := (hM3.ext hE5a).root (rs := s.rs) (r := s.f.length) hm5 ho5 hv5
                  exact ⟨_, by simp only [MaV, List.length_append, List.length_cons, List.length_nil]; rfl, hM5, hG.leaf (fzP_var (by have := Nat.mod_lt (x / 8) hv; omega)) (kids_var _) (fun _ => by have := Nat.mod_lt (x / 8) hv; simp only; omega), by simp only [List.length_append, List.length_cons, List.length_nil]; omega⟩
              · refine norm_rem (d := 8) (by decide) ?_
                refine wif_eq (fun h7 => ?_) (fun h7 => ?_)
                · refine wif_d (fun h8 => ?_) (fun h8 => ?_)
                  · refine norm_rem (d := 2) (by decide) ?_
                    refine at_buildN gx_ok [(⟨((x % 2 : Nat) : Int), 0, 0, 0⟩ : Fz).cells] rfl rfl rfl rfl rfl ⟨rfl, rfl, ⟨⟩⟩ rfl (fun cs h => by simp only [List.mem_singleton] at h; subst h; rfl) rfl (by decide) (by decide) ?_
                    intro w3a hE3a hz3a hB3a
                    have hs3a : Sl w3a 4 (some ⟨w1.heap.size, 0, none⟩) 1 1 (⟨((x % 2 : Nat) : Int), 0, 0, 0⟩ : Fz).cells := Sl.own (sz := 4) (n := 1) hB3a (Nat.le_refl _) (by decide) (by simp [Fz.cells])
                    refine at_app (n := (s).f.length) gx_ok rfl rfl rfl rfl rfl (by decide) rfl rfl ⟨_, rfl⟩ rfl rfl (hM.ext hE3a).fo hs3a (by intro u hu; simp [Fz.cells] at hu; rcases hu with rfl | rfl | rfl | rfl <;> rfl) (by unfold maxLen; omega) (by show _ * 32 ≤ _; omega) (by have := (hM.ext hE3a).e.size; omega) ?_
                    intro A3 c3 w3 hm3 ho3 hv3
                    have hM3 := (hM.ext hE3a).node hm3 ho3 hv3
                    refine norm_i64_to ((s.f.length : Nat) : Int) (by omega) (by omega) ?_
                    refine at_build1 gx_ok rfl rfl rfl rfl rfl rfl rfl rfl (fun w5a hE5a hz5a hB5a => ?_)
                    have hs5a : Sl w5a 1 (some ⟨w3.heap.size, 0, none⟩) 1 1 [.int .i64 ((s.f.length : Nat) : Int)] := Sl.own' (n := 1) hB5a rfl (by decide)
                    refine at_app (sz := 1) (n := (s.rs).length) gx_ok rfl rfl rfl rfl rfl (by decide) rfl rfl ⟨_, rfl⟩ rfl rfl (hM3.ext hE5a).ro hs5a (by intro u hu; simp at hu; rcases hu with rfl; rfl) (by unfold maxLen; omega) (by show _ * 8 ≤ _; omega) (by have := (hM3.ext hE5a).e.size; omega) ?_
                    intro B5 d5 w5 hm5 ho5 hv5
                    have hM5 := (hM3.ext hE5a).root (rs := s.rs) (r := s.f.length) hm5 ho5 hv5
                    exact ⟨_, by simp only [MaV, List.length_append, List.length_cons, List.length_nil]; rfl, hM5, hG.leaf (fzP_const (Nat.mod_lt _ (by decide))) (kids_const (Nat.mod_lt _ (by decide))) (fun e => by simp only at e; omega), by simp only [List.length_append, List.length_cons, List.length_nil]; omega⟩
                  · skip
                    refine normIf (m := ((x / 8 : Nat) : Int)) (by decide) (by rw [show (8 : Int) = ((8 : Nat) : Int) from rfl, tdiv_nat]; exact IntWalk.i64_in _ (by omega)) ?_
                    refine norm_rem (d := nv) (by omega) ?_
                    refine at_buildN gx_ok [(⟨2, ((x / 8 % nv : Nat) : Int), 0, 0⟩ : Fz).cells] rfl rfl rfl rfl rfl ⟨rfl, rfl, ⟨⟩⟩ rfl (fun cs h => by simp only [List.mem_singleton] at h; subst h; rfl) rfl (by decide) (by decide) ?_
                    intro w3a hE3a hz3a hB3a
                    have hs3a : Sl w3a 4 (some ⟨w1.heap.size, 0, none⟩) 1 1 (⟨2, ((x / 8 % nv : Nat) : Int), 0, 0⟩ : Fz).cells := Sl.own (sz := 4) (n := 1) hB3a (Nat.le_refl _) (by decide) (by simp [Fz.cells])
                    refine at_app (n := (s).f.length) gx_ok rfl rfl rfl rfl rfl (by decide) rfl rfl ⟨_, rfl⟩ rfl rfl (hM.ext hE3a).fo hs3a (by intro u hu; simp [Fz.cells] at hu; rcases hu with rfl | rfl | rfl | rfl <;> rfl) (by unfold maxLen; omega) (by show _ * 32 ≤ _; omega) (by have := (hM.ext hE3a).e.size; omega) ?_
                    intro A3 c3 w3 hm3 ho3 hv3
                    have hM3 := (hM.ext hE3a).node hm3 ho3 hv3
                    refine norm_i64_to ((s.f.length : Nat) : Int) (by omega) (by omega) ?_
                    refine at_build1 gx_ok rfl rfl rfl rfl rfl rfl rfl rfl (fun w5a hE5a hz5a hB5a => ?_)
                    have hs5a : Sl w5a 1 (some ⟨w3.heap.size, 0, none⟩) 1 1 [.int .i64 ((s.f.length : Nat) : Int)] := Sl.own' (n := 1) hB5a rfl (by decide)
                    refine at_app (sz := 1) (n := (s.rs).length) gx_ok rfl rfl rfl rfl rfl (by decide) rfl rfl ⟨_, rfl⟩ rfl rfl (hM3.ext hE5a).ro hs5a (by intro u hu; simp at hu; rcases hu with rfl; rfl) (by unfold maxLen; omega) (by show _ * 8 ≤ _; omega) (by have := (hM3.ext hE5a).e.size; omega) ?_
                    intro B5 d5 w5 hm5 ho5 hv5
                    have hM5 := (hM3.ext hE5a).root (rs := s.rs) (r := s.f.length) hm5 ho5 hv5
                    exact ⟨_, by simp only [MaV, List.length_append, List.length_cons, List.length_nil]; rfl, hM5, hG.leaf (fzP_var (by have := Nat.mod_lt (x / 8) hv; omega)) (kids_var _) (fun _ => by have := Nat.mod_lt (x / 8) hv; simp only; omega), by simp only [List.length_append, List.length_cons, List.length_nil]; omega⟩
                · skip
                  refine normIf (m := ((x / 8 : Nat) : Int)) (by decide) (by rw [show (8 : Int) = ((8 : Nat) : Int) from rfl, tdiv_nat]; exact IntWalk.i64_in _ (by omega)) ?_
                  refine norm_rem (d := nv) (by omega) ?_
                  refine at_buildN gx_ok [(⟨2, ((x / 8 % nv : Nat) : Int), 0, 0⟩ : Fz).cells] rfl rfl rfl rfl rfl ⟨rfl, rfl, ⟨⟩⟩ rfl (fun cs h => by simp only [List.mem_singleton] at h; subst h; rfl) rfl (by decide) (by decide) ?_
                  intro w3a hE3a hz3a hB3a
                  have hs3a : Sl w3a 4 (some ⟨w1.heap.size, 0, none⟩) 1 1 (⟨2, ((x / 8 % nv : Nat) : Int), 0, 0⟩ : Fz).cells := Sl.own (sz := 4) (n := 1) hB3a (Nat.le_refl _) (by decide) (by simp [Fz.cells])
                  refine at_app (n := (s).f.length) gx_ok rfl rfl rfl rfl rfl (by decide) rfl rfl ⟨_, rfl⟩ rfl rfl (hM.ext hE3a).fo hs3a (by intro u hu; simp [Fz.cells] at hu; rcases hu with rfl | rfl | rfl | rfl <;> rfl) (by unfold maxLen; omega) (by show _ * 32 ≤ _; omega) (by have := (hM.ext hE3a).e.size; omega) ?_
                  intro A3 c3 w3 hm3 ho3 hv3
                  have hM3 := (hM.ext hE3a).node hm3 ho3 hv3
                  refine norm_i64_to ((s.f.length : Nat) : Int) (by omega) (by omega) ?_
                  refine at_build1 gx_ok rfl rfl rfl rfl rfl rfl rfl rfl (fun w5a hE5a hz5a hB5a => ?_)
                  have hs5a : Sl w5a 1 (some ⟨w3.heap.size, 0, none⟩) 1 1 [.int .i64 ((s.f.length : Nat) : Int)] := Sl.own' (n := 1) hB5a rfl (by decide)
                  refine at_app (sz := 1) (n := (s.rs).length) gx_ok rfl rfl rfl rfl rfl (by decide) rfl rfl ⟨_, rfl⟩ rfl rfl (hM3.ext hE5a).ro hs5a (by intro u hu; simp at hu; rcases hu with rfl; rfl) (by unfold maxLen; omega) (by show _ * 8 ≤ _; omega) (by have := (hM3.ext hE5a).e.size; omega) ?_
                  intro B5 d5 w5 hm5 ho5 hv5
                  have hM5 := (hM3.ext hE5a).root (rs := s.rs) (r := s.f.length) hm5 ho5 hv5
                  exact ⟨_, by simp only [MaV, List.length_append, List.length_cons, List.length_nil]; rfl, hM5, hG.leaf (fzP_var (by have := Nat.mod_lt (x / 8) hv; omega)) (kids_var _) (fun _ => by have := Nat.mod_lt (x / 8) hv; simp only; omega), by simp only [List.length_append, List.length_cons, List.length_nil]; omega⟩
        · rintro s' w' ⟨hM', hG', hfl'⟩
          refine norm_i64_to ((i + 1 : Nat) : Int) (by omega) (by omega) ?_
          exact ⟨(i + 1, s'), rfl, ⟨hM', hG', by simp only; omega, by simp only; omega, by simp only; omega⟩, by show n - (i + 1) < n - i; omega⟩
      · exact ⟨s, rfl, hM, hG, by omega⟩
    · exact ⟨s, rfl, hM, hG, by omega⟩
  · rintro s w1 ⟨hM, hG, hfl⟩
    have hrl := roots_le hG
    refine wif_eq (fun h1 => ?_) (fun h1 => ?_)
    · refine at_buildN gx_ok [(⟨1, 0, 0, 0⟩ : Fz).cells] rfl rfl rfl rfl rfl ⟨rfl, rfl, ⟨⟩⟩ rfl (fun cs h => by simp only [List.mem_singleton] at h; subst h; rfl) rfl (by decide) (by decide) ?_
      intro w2 hE2 hz2 hB2
      refine ⟨_, 1, 1, postF (.c true) 0, rfl, hM.e.trans hE2, ⟨Sl.own (sz := 4) (n := 1) hB2 (Nat.le_refl _) (by decide) (by simp [Fz.cells]), rfl⟩, post_FV (by decide) (by decide), post_vars _ nv 0 trivial, by decide⟩
    have h1' : 0 < s.rs.length := by have : ((s.rs.length : Nat) : Int) ≠ 0 := h1; omega
    refine loop gx_ok [5, 6] MaV (fun s w' => Ma w w' s ∧ FG nv s.f s.rs ∧ 0 < s.rs.length ∧ s.f.length + s.rs.length ≤ 80) (fun s _ => s.rs.length) s rfl ⟨hM, hG, h1', by omega⟩ ?_
    rintro s w1 ⟨hM, hG, h1', hfl⟩
    refine wif_d (fun h2 => ?_) (fun h2 => ?_)
    · have h2' : 1 < s.rs.length := by have : ((s.rs.length : Nat) : Int) > 1 := h2; omega
      obtain ⟨a, b, hab, ha, hb⟩ := last_two h2'
      refine draw_plan gx_ok (Mod (rowS s.A) w1) 15 [(true, 0), (true, 1), (true, 2), (true, 3), (true, 4), (true, 5), (true, 6), (true, 7), (true, 8), (true, 9), (true, 10), (true, 11), (false, 12), (false, 13), (true, 14)] (by kernel_rfl) (Mod.of_ext _ (Ext.drew w1)) ?_
      have keep : ∀ {ad : Addr} {j : Nat} {u : Value}, s.B = some ad → w1.cell? (ad.add j) = some u → ∀ w', Mod (rowS s.A) w1 w' → w'.cell? (ad.add j) = some u := fun {ad} {j} {u} hA hcell w' hw' => hw'.cell hcell (fun hr => hM.ap _ hr ⟨ad, hA, (block_add ad j).symm⟩)
      refine norm_i64_to ((s.rs.length - 2 : Nat) : Int) (by show ((s.rs.length : Nat) : Int) - 2 = _; omega) (by omega) ?_
      refine index_sl hM.ro.sl (by show _ < s.rs.length; omega) (fun ad u hA hu hcell => ?_)
      rw [natsV_get ha] at hu
      cases hu
      refine qload (keep hA hcell) ?_
      refine norm_i64_to ((s.rs.length - 1 : Nat) : Int) (by show ((s.rs.length : Nat) : Int) - 1 = _; omega) (by omega) ?_
      refine index_sl hM.ro.sl (by show _ < s.rs.length; omega) (fun ad u hA hu hcell => ?_)
      rw [natsV_get hb] at hu
      cases hu
      refine qload (keep hA hcell) ?_
      have hMd := hM.ext (Ext.drew w1)
      refine at_buildN gx_ok [(⟨5, 0, ((a : Nat) : Int), ((b : Nat) : Int)⟩ : Fz).cells] rfl rfl rfl rfl rfl ⟨rfl, rfl, ⟨⟩⟩ rfl (fun cs h => by simp only [List.mem_singleton] at h; subst h; rfl) rfl (by decide) (by decide) ?_
      intro w3a hE3a hz3a hB3a
      refine ⟨Mod.of_ext _ ((Ext.drew w1).trans hE3a), ?_⟩
      have hs3a : Sl w3a 4 (some ⟨w1.drew.heap.size, 0, none⟩) 1 1 (⟨5, 0, ((a : Nat) : Int), ((b : Nat) : Int)⟩ : Fz).cells := Sl.own (sz := 4) (n := 1) hB3a (Nat.le_refl _) (by decide) (by simp [Fz.cells])
      refine at_app (n := (s).f.length) gx_ok rfl rfl rfl rfl rfl (by decide) rfl rfl ⟨_, rfl⟩ rfl rfl (hMd.ext hE3a).fo hs3a (by intro u hu; simp [Fz.cells] at hu; rcases hu with rfl | rfl | rfl | rfl <;> rfl) (by unfold maxLen; omega) (by show _ * 32 ≤ _; omega) (by have := (hMd.ext hE3a).e.size; omega) ?_
      intro A3 c3 w3 hm3 ho3 hv3
      have hM3 := (hMd.ext hE3a).node hm3 ho3 hv3
      refine ⟨(Mod.of_ext (rowS s.A) ((Ext.drew w1).trans hE3a)).trans hm3 (fun i hi => .inl hi), ?_⟩
      refine norm_i64_to ((s.rs.length - 2 : Nat) : Int) (by show ((s.rs.length : Nat) : Int) - 2 = _; omega) (by omega) ?_
      refine at_slice_h gx_ok rfl rfl rfl rfl rfl rfl (show s.rs.length - 2 ≤ s.d by have := hM.ro.sl.le; omega) ?_
      refine norm_i64_to ((s.f.length : Nat) : Int) (by omega) (by omega) ?_
      have lt2 : (s.rs.take (s.rs.length - 2)).length = s.rs.length - 2 := by rw [List.length_take]; omega
      have hcut : Own w3 w.heap.size 3 1 s.B (s.rs.take (s.rs.length - 2)).length s.d (natsV (s.rs.take (s.rs.length - 2))) := by
        rw [lt2, natsV_take]; exact hM3.ro.cut (show s.rs.length - 2 ≤ s.rs.length by omega)
      rw [← lt2]
      refine at_build1 gx_ok rfl rfl rfl rfl rfl rfl rfl rfl (fun w5a hE5a hz5a hB5a => ?_)
      have hs5a : Sl w5a 1 (some ⟨w3.heap.size, 0, none⟩) 1 1 [.int .i64 ((s.f.length : Nat) : Int)] := Sl.own' (n := 1) hB5a rfl (by decide)
      refine at_app (sz := 1) (n := (s.rs.take (s.rs.length - 2)).length) gx_ok rfl rfl rfl rfl rfl (by decide) rfl rfl ⟨_, rfl⟩ rfl rfl (hcut.ext hE5a) hs5a (by intro u hu; simp at hu; rcases hu with rfl; rfl) (by unfold maxLen; omega) (by show _ * 8 ≤ _; omega) (by have := (hM3.ext hE5a).e.size; omega) ?_
      intro B5 d5 w5 hm5 ho5 hv5
      have hM5 := (hM3.ext hE5a).root (rs := s.rs.take (s.rs.length - 2)) (r := s.f.length) hm5 ho5 hv5
      have hG2 : FG nv s.f (s.rs.take (s.rs.length - 2) ++ [a, b]) := by rw [← hab]; exact hG
      refine ⟨_, by simp only [MaV, List.length_append, List.length_cons, List.length_nil]; rfl, ⟨hM5, hG2.join 5 (.inr rfl) false, by simp, by simp only [List.length_append, List.length_cons, List.length_nil]; omega⟩, by simp only [List.length_append, List.length_cons, List.length_nil]; omega⟩
    · have h2' : s.rs.length = 1 := by have : ¬ ((s.rs.length : Nat) : Int) > 1 := h2; omega
      obtain ⟨r, hr, _⟩ := last_one h1'
      rw [h2'] at hr
      have hG2 : FG nv s.f [r] := by have := hG; rw [hr] at this; simpa using this
      obtain ⟨d1, d2⟩ := hG2.done (by omega)
      exact ⟨s.A, s.f.length, s.c, s.f, rfl, hM.e, ⟨hM.fo.sl, rfl⟩, d1, d2, by omega⟩
end Go.Proofs.YtdbhjlpkopnebaaGreatDoor
