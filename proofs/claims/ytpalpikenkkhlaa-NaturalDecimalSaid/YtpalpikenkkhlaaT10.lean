/-
  Parse of both: the contracts.
  Conditions: none.
-/
import Derived.Test.YtpalpikenkkhlaaT9
namespace Go.Proofs.Ytpalpikenkkhlaa
open Go Go.RowKit

theorem parL_no {l : List Nat} (h : ¬ ParseOk l) : parL l = [] := if_neg h
theorem parE_no {l : List Nat} (h : ¬ ParseOk l) : parE l = 12 := if_neg h
theorem parL_yes {l : List Nat} (h : ParseOk l) : parL l = resL (pv l) := if_pos h
theorem parE_yes {l : List Nat} (h : ParseOk l) : parE l = resE (pv l) := if_pos h
theorem res_large {n m : Nat} (h : n ≤ m) (hn : 1024 < (toL n).length) : resL m = [] ∧ resE m = 2 := by
  have := toL_mono h
  exact ⟨if_neg (by omega), if_neg (by omega)⟩

theorem resE_big {n : Nat} (h : 1024 < (toL n).length) : resE n = 2 := if_neg (by omega)

theorem str_empty {s : ByteArray} : s = { data := #[] } ↔ bytesOf s = [] := by
  constructor
  · rintro rfl; rfl
  · intro h; exact bytesOf_inj (h.trans rfl)

theorem sub48 {x : Nat} (h1 : 48 ≤ x) (h2 : x ≤ 57) : IntKind.u8.wrap ((x : Int) - 48) = ((x - 48 : Nat) : Int) := by
  rw [show (x : Int) - 48 = ((x - 48 : Nat) : Int) by omega]; exact IntWalk.u8_in _ (by omega)

theorem parse_fn (s : ByteArray) (w : World) (hlen : s.size ≤ maxLen) :
    Fn Try.prog 15 [.string s] w (NatRes w (parL (bytesOf s)) (parE (bytesOf s))) := by
  have hL := bytesOf_length s
  have hlt := bytesOf_lt s
  unfold maxLen at hlen
  generalize hl : bytesOf s = l at *
  have hmx : (s.size : Int) ≤ 9223372036854775807 := by omega
  refine fn_of_exec (c := { c15 with cuts := [1, 3, 21] }) gx_ok Try.func15 rfl rfl rfl ?_
  refine cut gx_ok [] (fun _ : Unit => []) (fun _ w' => w' = w ∧ l ≠ [] ∧ (l.length ≤ 1 ∨ l[0]? ≠ some 48)) ?_ ?_
  · refine wif_d (fun h1 => ?_) (fun h1 => ?_)
    · have : l = [] := by rw [← hl]; exact str_empty.1 h1
      have hno : ¬ ParseOk l := fun h => h.1 this
      rw [parL_no hno, parE_no hno]; exact natRes_nil _ _ _ (Ext.refl _)
    · have hne : l ≠ [] := fun h => h1 (str_empty.2 (by rw [hl]; exact h))
      refine wif_d (fun h2 => ?_) (fun h2 => ?_)
      · refine sindex' (j := 0) (by omega) (fun x hx hx2 => ?_)
        rw [hl] at hx
        refine wif_eq (fun h3 => ?_) (fun h3 => ?_)
        · have hno : ¬ ParseOk l := fun h => by
            rcases h.2.1 with h | h
            · omega
            · rw [hx] at h; exact h (by congr 1; omega)
          rw [parL_no hno, parE_no hno]; exact natRes_nil _ _ _ (Ext.refl _)
        · exact ⟨(), rfl, rfl, hne, .inr (by rw [hx]; simp; omega)⟩
      · exact ⟨(), rfl, rfl, hne, .inl (by omega)⟩
  rintro _ w' ⟨rfl, hne, h0⟩
  refine cut gx_ok [] (fun _ : Unit => []) (fun _ w2 => w2 = w' ∧ ∀ x ∈ l, 48 ≤ x ∧ x ≤ 57) ?_ ?_
  · refine loop gx_ok [23] (fun i : Nat => [.int .i64 i]) (fun i w2 => w2 = w' ∧ i ≤ l.length ∧ ∀ x ∈ l.take i, 48 ≤ x ∧ x ≤ 57) (fun i _ => l.length - i) 0 rfl ⟨rfl, Nat.zero_le _, by simp⟩ ?_
    rintro i w2 ⟨rfl, hi, hd⟩
    refine wif_d (fun h2 => ?_) (fun h2 => ?_)
    · have hxi : l[i]? = some l[i] := List.getElem?_eq_getElem (by omega)
      have bad : ∀ x, l[i]? = some x → ¬ (48 ≤ x ∧ x ≤ 57) → ¬ ParseOk l := fun x hx hb h => hb (h.2.2 x (List.mem_of_getElem? hx))
      refine sindex' (j := i) (by omega) (fun x hx hx2 => ?_)
      rw [hl] at hx
      refine wif_d (fun h3 => ?_) (fun h3 => ?_)
      · have hno := bad x hx (by omega)
        rw [parL_no hno, parE_no hno]; exact natRes_nil _ _ _ (Ext.refl _)
      · refine sindex' (j := i) (by omega) (fun y hy hy2 => ?_)
        rw [hl, hx] at hy; cases hy
        refine wif_d (fun h4 => ?_) (fun h4 => ?_)
        · have hno := bad x hx (by omega)
          rw [parL_no hno, parE_no hno]; exact natRes_nil _ _ _ (Ext.refl _)
        · refine norm_i64_to ((i + 1 : Nat) : Int) (by omega) (by omega) ?_
          refine ⟨i + 1, rfl, ⟨rfl, by omega, ?_⟩, by show l.length - (i + 1) < l.length - i; omega⟩
          rw [List.take_add_one, hx]
          intro z hz
          rcases List.mem_append.1 hz with h | h
          · exact hd z h
          · simp at h; subst h; omega
    · rw [List.take_of_length_le (by omega)] at hd
      exact ⟨(), rfl, rfl, hd⟩
  rintro _ w2 ⟨rfl, hd⟩
  have hok : ParseOk l := ⟨hne, h0, hd⟩
  rw [parL_yes hok, parE_yes hok]
  refine at_build0 gx_ok rfl rfl rfl rfl rfl rfl ?_
  intro w1 hE1 hsz hB
  have hown : Own w1 w2.heap.size 35 1 (some ⟨w2.heap.size, 0, none⟩) 0 0 [] := Own.empty hB (Nat.le_refl _)
  refine loop gx_ok [40, 5] (fun s : Nat × (Option Addr × Nat × Nat) => [.int .i64 s.1, .slice s.2.1 s.2.2.1 s.2.2.2]) (fun s w3 => Ext w2 w3 ∧ s.1 ≤ l.length ∧ s.2.2.1 ≤ 1024 ∧ (toL (pv (l.take s.1))).length = s.2.2.1 ∧ Own w3 w2.heap.size 35 1 s.2.1 s.2.2.1 s.2.2.2 (cells (toL (pv (l.take s.1)))))
    (fun s _ => l.length - s.1) (0, some ⟨w2.heap.size, 0, none⟩, 0, 0) rfl ⟨hE1, Nat.zero_le _, Nat.zero_le _, rfl, hown⟩ ?_
  rintro ⟨i, A, n, c⟩ w3 ⟨hE3, hi, hn, hln, ho⟩
  dsimp only at hi hn hln ho ⊢
  refine wif_d (fun h2 => ?_) (fun h2 => ?_)
  · have hxi : l[i]? = some l[i] := List.getElem?_eq_getElem (by omega)
    refine sindex' (j := i) (by omega) (fun x hx hx2 => ?_)
    rw [hl] at hx
    obtain ⟨hd1, hd2⟩ := hd x (List.mem_of_getElem? hx)
    have hpv := pv_take_succ hx
    have hple := pv_take_le l (i + 1)
    generalize hX : toL (pv (l.take i)) = X at *
    have hXv : val X = pv (l.take i) := by rw [← hX, val_toL]
    have hXL : Limbs X := by rw [← hX]; exact limbs_toL _
    have hXX : toL (val X) = X := by rw [hXv, hX]
    rw [← hXv] at hpv
    refine norm (sub48 hd1 hd2) ?_
    refine norm_u64 (by omega) ?_
    generalize hdd : x - 48 = dd at *
    refine loop gx_ok [50, 7] (fun s : Nat × Nat => [.int .i64 s.1, .int .u64 s.2]) (fun s w4 => Ext w2 w4 ∧ s.1 ≤ n ∧ s.2 < 11 ∧ ∃ p, p.length = s.1 ∧ Limbs p ∧ Own w4 w2.heap.size 35 1 A n c (cells (p ++ X.drop s.1)) ∧ val p + s.2 * 4294967296 ^ s.1 = 10 * val (X.take s.1) + dd)
      (fun s _ => n - s.1) (0, dd) rfl ⟨hE3, Nat.zero_le _, by show dd < 11; omega, [], rfl, limbs_nil, by simpa using ho, by simp [val]⟩ ?_
    rintro ⟨k, cy⟩ w4 ⟨hE4, hk, hcy, p, hp, hLp, ho4, hv⟩
    dsimp only at hk hcy hp ho4 hv ⊢
    refine wif_d (fun h3 => ?_) (fun h3 => ?_)
    · have hyk : X[k]? = some X[k] := List.getElem?_eq_getElem (by omega)
      have hyl := hXL.get hyk
      have hcX : X.drop k = X[k] :: X.drop (k + 1) := List.drop_eq_getElem_cons (by omega)
      rw [hcX] at ho4
      refine index_sl ho4.sl (by omega) (fun ad u hA hu hcell => ?_)
      rw [cells_get' (get_mid p _ _ hp)] at hu
      cases hu
      refine load hcell ?_
      refine norm_u64 (by omega) ?_
      generalize hy : X[k] = y at *
      refine norm_u64_to ((10 * y : Nat) : Int) (by omega) (by omega) ?_
      refine norm_u64_to ((cy + 10 * y : Nat) : Int) (by omega) (by omega) ?_
      refine norm_u32 ?_
      subst hA
      refine index (by omega) ?_
      refine store_own ho4 (by omega) ?_
      intro w5 hgr5 ho5
      refine norm_shr 32 4294967296 (by decide) rfl rfl ?_
      refine norm_i64_to ((k + 1 : Nat) : Int) (by omega) (by omega) ?_
      rw [← cells_set, set_mid' _ _ _ _ hp] at ho5
      exact ⟨(k + 1, (cy + 10 * y) / 4294967296), rfl, ⟨hE4.row (Nat.le_refl _) ho4 hgr5, by show k + 1 ≤ n; omega, by show (cy + 10 * y) / 4294967296 < 11; omega, p ++ [(cy + 10 * y) % 4294967296], by simp [hp], limbs_snoc hLp _, ho5, ten_step hp hv hyk⟩, by show n - (k + 1) < n - k; omega⟩
    · have hkn : k = X.length := by omega
      have hten := ten_end (x := X) (by omega) hLp (by omega : cy < 4294967296) hXX (by rw [← hkn]; exact hv)
      rw [← hpv] at hten
      rw [List.drop_of_length_le (by omega), List.append_nil] at ho4
      refine cut gx_ok [5] (fun s : Option Addr × Nat × Nat => [.slice s.1 s.2.1 s.2.2]) (fun s w5 => Ext w2 w5 ∧ (toL (pv (l.take (i + 1)))).length = s.2.1 ∧ Own w5 w2.heap.size 35 1 s.1 s.2.1 s.2.2 (cells (toL (pv (l.take (i + 1)))))) ?_ ?_
      · refine wif_d (fun h4 => ?_) (fun h4 => ?_)
        · rw [if_neg (by omega)] at hten
          refine norm_u32 ?_
          refine at_build1 gx_ok rfl rfl rfl rfl rfl rfl rfl rfl ?_
          intro w5 hE5 hsz5 hB5
          have hs5 : Sl w5 1 (some ⟨w4.heap.size, 0, none⟩) 1 1 (cells [cy % 4294967296]) := Sl.own' hB5 rfl (by simp [maxLen])
          rw [Nat.mod_eq_of_lt (by omega)] at hs5
          refine at_append gx_ok rfl rfl rfl rfl rfl rfl rfl ⟨_, rfl⟩ rfl rfl (ho4.ext hE5) hs5 (cells_scalar _) (by unfold maxLen; omega) (by show _ * 4 ≤ _; omega) (by have := hE4.size; have := hE5.size; omega) ?_
          intro A' c' w6 hgr6 ho6
          refine ⟨(A', n + 1, c'), rfl, (hE4.trans hE5).row (Nat.le_refl _) (ho4.ext hE5) hgr6, by rw [hten]; simp; omega, ?_⟩
          rw [hten, cells_append]; exact ho6
        · rw [if_pos (by omega)] at hten
          exact ⟨(A, n, c), rfl, hE4, by rw [hten]; show p.length = n; omega, by rw [hten]; exact ho4⟩
      rintro ⟨A5, n5, c5⟩ w5 ⟨hE5, hn5, ho5⟩
      dsimp only at hn5 ho5 ⊢
      refine wif_d (fun h4 => ?_) (fun h4 => ?_)
      · obtain ⟨e1, e2⟩ := res_large hple (by omega)
        rw [e1, e2]
        exact natRes_nil _ _ _ hE5
      · refine norm_i64_to ((i + 1 : Nat) : Int) (by omega) (by omega) ?_
        exact ⟨(i + 1, A5, n5, c5), rfl, ⟨hE5, by show i + 1 ≤ l.length; omega, by show n5 ≤ 1024; omega, hn5, ho5⟩, by show l.length - (i + 1) < l.length - i; omega⟩
  · rw [List.take_of_length_le (by omega)] at hln ho
    rw [resL_of (by omega), resE_of (by omega)]
    have hs : SN w3 A (toL (pv l)).length c (toL (pv l)) := by rw [hln]; exact ho.sl
    refine ⟨A, c, ?_, hs, hE3⟩
    rw [hln]

theorem vd_ten : Vd [10] := by decide

theorem rparse_fn (s : ByteArray) (w : World) (hlen : s.size ≤ maxLen) :
    Fn Try.prog 16 [.string s] w (NatRes w (parL (bytesOf s)) (parE (bytesOf s))) := by
  have hL := bytesOf_length s
  have hlt := bytesOf_lt s
  unfold maxLen at hlen
  generalize hl : bytesOf s = l at *
  have hmx : (s.size : Int) ≤ 9223372036854775807 := by omega
  refine fn_of_exec (c := { c16 with cuts := [1, 3] }) gx_ok Try.func16 rfl rfl rfl ?_
  refine cut gx_ok [] (fun _ : Unit => []) (fun _ w' => w' = w ∧ l ≠ [] ∧ (l.length ≤ 1 ∨ l[0]? ≠ some 48)) ?_ ?_
  · refine wif_d (fun h1 => ?_) (fun h1 => ?_)
    · have : l = [] := by rw [← hl]; exact str_empty.1 h1
      have hno : ¬ ParseOk l := fun h => h.1 this
      rw [parL_no hno, parE_no hno]; exact natRes_nil _ _ _ (Ext.refl _)
    · have hne : l ≠ [] := fun h => h1 (str_empty.2 (by rw [hl]; exact h))
      refine wif_d (fun h2 => ?_) (fun h2 => ?_)
      · refine sindex' (j := 0) (by omega) (fun x hx hx2 => ?_)
        rw [hl] at hx
        refine wif_eq (fun h3 => ?_) (fun h3 => ?_)
        · have hno : ¬ ParseOk l := fun h => by
            rcases h.2.1 with h | h
            · omega
            · rw [hx] at h; exact h (by congr 1; omega)
          rw [parL_no hno, parE_no hno]; exact natRes_nil _ _ _ (Ext.refl _)
        · exact ⟨(), rfl, rfl, hne, .inr (by rw [hx]; simp; omega)⟩
      · exact ⟨(), rfl, rfl, hne, .inl (by omega)⟩
  rintro _ w' ⟨rfl, hne, h0⟩
  refine cut gx_ok [] (fun _ : Unit => []) (fun _ w2 => w2 = w' ∧ ∀ x ∈ l, 48 ≤ x ∧ x ≤ 57) ?_ ?_
  · refine loop gx_ok [4] (fun i : Nat => [.int .i64 i]) (fun i w2 => w2 = w' ∧ i ≤ l.length ∧ ∀ x ∈ l.take i, 48 ≤ x ∧ x ≤ 57) (fun i _ => l.length - i) 0 rfl ⟨rfl, Nat.zero_le _, by simp⟩ ?_
    rintro i w2 ⟨rfl, hi, hd⟩
    refine wif_d (fun h2 => ?_) (fun h2 => ?_)
    · have hxi : l[i]? = some l[i] := List.getElem?_eq_getElem (by omega)
      have bad : ∀ x, l[i]? = some x → ¬ (48 ≤ x ∧ x ≤ 57) → ¬ ParseOk l := fun x hx hb h => hb (h.2.2 x (List.mem_of_getElem? hx))
      refine sindex' (j := i) (by omega) (fun x hx hx2 => ?_)
      rw [hl] at hx
      refine wif_d (fun h3 => ?_) (fun h3 => ?_)
      · have hno := bad x hx (by omega)
        rw [parL_no hno, parE_no hno]; exact natRes_nil _ _ _ (Ext.refl _)
      · refine sindex' (j := i) (by omega) (fun y hy hy2 => ?_)
        rw [hl, hx] at hy; cases hy
        refine wif_d (fun h4 => ?_) (fun h4 => ?_)
        · have hno := bad x hx (by omega)
          rw [parL_no hno, parE_no hno]; exact natRes_nil _ _ _ (Ext.refl _)
        · refine norm_i64_to ((i + 1 : Nat) : Int) (by omega) (by omega) ?_
          refine ⟨i + 1, rfl, ⟨rfl, by omega, ?_⟩, by show l.length - (i + 1) < l.length - i; omega⟩
          rw [List.take_add_one, hx]
          intro z hz
          rcases List.mem_append.1 hz with h | h
          · exact hd z h
          · simp at h; subst h; omega
    · rw [List.take_of_length_le (by omega)] at hd
      exact ⟨(), rfl, rfl, hd⟩
  rintro _ w2 ⟨rfl, hd⟩
  have hok : ParseOk l := ⟨hne, h0, hd⟩
  rw [parL_yes hok, parE_yes hok]
  refine at_build0 gx_ok rfl rfl rfl rfl rfl rfl ?_
  intro w1 hE1 hsz hB
  have hs1 : SN w1 (some ⟨w2.heap.size, 0, none⟩) 0 0 [] := Sl.own' hB rfl (by simp [maxLen])
  refine loop gx_ok [6, 5] (fun s : Nat × (Option Addr × Nat × Nat) => [.int .i64 s.1, .slice s.2.1 s.2.2.1 s.2.2.2]) (fun s w3 => Ext w2 w3 ∧ s.1 ≤ l.length ∧ s.2.2.1 ≤ 1024 ∧ (toL (pv (l.take s.1))).length = s.2.2.1 ∧ SN w3 s.2.1 s.2.2.1 s.2.2.2 (toL (pv (l.take s.1))))
    (fun s _ => l.length - s.1) (0, some ⟨w2.heap.size, 0, none⟩, 0, 0) rfl ⟨hE1, Nat.zero_le _, Nat.zero_le _, rfl, hs1⟩ ?_
  rintro ⟨i, A, n, c⟩ w3 ⟨hE3, hi, hn, hln, hs3⟩
  dsimp only at hi hn hln hs3 ⊢
  refine wif_d (fun h2 => ?_) (fun h2 => ?_)
  · have hxi : l[i]? = some l[i] := List.getElem?_eq_getElem (by omega)
    generalize hx : l[i] = x at *
    obtain ⟨hd1, hd2⟩ := hd x (List.mem_of_getElem? hxi)
    have hpv := pv_take_succ hxi
    have hple := pv_take_le l (i + 1)
    have hXL := limbs_toL (pv (l.take i))
    have hXv : Vd (toL (pv (l.take i))) := ⟨by omega, toL_last _⟩
    refine at_build1 gx_ok rfl rfl rfl rfl rfl rfl rfl rfl ?_
    intro w4 hE4 hsz4 hB4
    have hs4 : SN w4 (some ⟨w3.heap.size, 0, none⟩) 1 1 [10] := Sl.own' hB4 rfl (by simp [maxLen])
    have hL10 : Limbs [10] := limbs_cons.2 ⟨by omega, limbs_nil⟩
    refine call (rmul_fn _ _ _ _ _ _ _ _ _ (hs3.ext hE4) hs4 hXL hL10) ?_
    rintro v w5 ⟨A5, c5, rfl, hs5, hE5⟩
    rw [binL_yes hXv vd_ten, val_toL, show val [10] = 10 by simp [val]] at hs5 ⊢
    rw [binE_yes hXv vd_ten]
    refine wif_ne (fun h3 => ?_) (fun h3 => ?_)
    · have hbig : 1024 < (toL (pv (l.take i) * 10)).length := by
        rcases Nat.lt_or_ge 1024 (toL (pv (l.take i) * 10)).length with h | h
        · exact h
        · exact absurd (resE_of h) h3
      obtain ⟨e1, e2⟩ := res_large (show pv (l.take i) * 10 ≤ pv l by omega) hbig
      have e3 : resE (pv (l.take i) * 10) = 2 := if_neg (by omega)
      rw [e1, e2, e3]
      exact natRes_nil _ _ _ (hE3.trans (hE4.trans hE5))
    · have hsm : (toL (pv (l.take i) * 10)).length ≤ 1024 := by
        rcases Nat.lt_or_ge 1024 (toL (pv (l.take i) * 10)).length with h | h
        · have e := resE_big h
          rw [h3] at e; cases e
        · exact h
      rw [resL_of hsm] at hs5 ⊢
      refine sindex' (j := i) (by omega) (fun y hy hy2 => ?_)
      rw [hl, hxi] at hy; cases hy
      refine norm (sub48 hd1 hd2) ?_
      refine norm_u64 (by omega) ?_
      refine call (rof_fn (x - 48) _ (by omega)) ?_
      rintro v w6 ⟨A6, c6, rfl, hs6, hE6⟩
      refine call (radd_fn _ _ _ _ _ _ _ _ _ (hs5.ext hE6) hs6 (limbs_toL _) (limbs_toL _)) ?_
      rintro v w7 ⟨A7, c7, rfl, hs7, hE7⟩
      have hv1 : Vd (toL (pv (l.take i) * 10)) := ⟨hsm, toL_last _⟩
      have hv2 : Vd (toL (x - 48)) := ⟨by have := (toL_len (x - 48) 1).2 (by omega); omega, toL_last _⟩
      rw [binL_yes hv1 hv2, val_toL, val_toL, show pv (l.take i) * 10 + (x - 48) = pv (l.take (i + 1)) by omega] at hs7 ⊢
      rw [binE_yes hv1 hv2]
      have hE : Ext w2 w7 := hE3.trans (hE4.trans (hE5.trans (hE6.trans hE7)))
      refine wif_ne (fun h4 => ?_) (fun h4 => ?_)
      · have hbig : 1024 < (toL (pv (l.take (i + 1)))).length := by
          rcases Nat.lt_or_ge 1024 (toL (pv (l.take (i + 1)))).length with h | h
          · exact h
          · exact absurd (resE_of h) h4
        obtain ⟨e1, e2⟩ := res_large hple hbig
        have e3 : resE (pv (l.take (i + 1))) = 2 := if_neg (by omega)
        rw [e1, e2, e3]
        exact natRes_nil _ _ _ hE
      · have hsm2 : (toL (pv (l.take (i + 1)))).length ≤ 1024 := by
          rcases Nat.lt_or_ge 1024 (toL (pv (l.take (i + 1)))).length with h | h
          · have e := resE_big h
            rw [h4] at e; cases e
          · exact h
        rw [resL_of hsm2] at hs7 ⊢
        refine norm_i64_to ((i + 1 : Nat) : Int) (by omega) (by omega) ?_
        exact ⟨(i + 1, A7, (toL (pv (l.take (i + 1)))).length, c7), rfl, ⟨hE, by show i + 1 ≤ l.length; omega, hsm2, rfl, hs7⟩, by show l.length - (i + 1) < l.length - i; omega⟩
  · rw [List.take_of_length_le (by omega)] at hln hs3
    rw [resL_of (by omega), resE_of (by omega)]
    have hs : SN w3 A (toL (pv l)).length c (toL (pv l)) := by rw [hln]; exact hs3
    refine ⟨A, c, ?_, hs, hE3⟩
    rw [hln]
end Go.Proofs.Ytpalpikenkkhlaa
