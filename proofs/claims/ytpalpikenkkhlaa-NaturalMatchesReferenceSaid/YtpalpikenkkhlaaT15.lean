/-
  The reference's long division, bit by bit: Bits, binary, Div.
  Conditions: none.
-/
import Derived.Test.YtpalpikenkkhlaaT14
namespace Go.Proofs.Ytpalpikenkkhlaa
open Go Go.RowKit

def cellsI (l : List Nat) : List Value := l.map fun (x : Nat) => .int .i64 x
theorem cellsI_get {l : List Nat} {j : Nat} {u : Value} (h : (cellsI l)[j]? = some u) : ∃ x, l[j]? = some x ∧ u = .int .i64 (x : Int) := by
  simp only [cellsI, List.getElem?_map, Option.map_eq_some_iff] at h
  obtain ⟨x, hx, rfl⟩ := h; exact ⟨x, hx, rfl⟩
theorem cellsI_append (l m : List Nat) : cellsI (l ++ m) = cellsI l ++ cellsI m := by simp [cellsI]
theorem cellsI_length (l : List Nat) : (cellsI l).length = l.length := by simp [cellsI]
theorem cellsI_set (l : List Nat) (i x : Nat) : cellsI (l.set i x) = (cellsI l).set i (.int .i64 (x : Int)) := by simp [cellsI, List.map_set]
theorem cellsI_scalar (l : List Nat) : ∀ u ∈ cellsI l, scalar u = true := by
  intro u hu; simp only [cellsI, List.mem_map] at hu; obtain ⟨x, _, rfl⟩ := hu; rfl
theorem cellsI_replicate (n : Nat) : cellsI (List.replicate n 0) = List.replicate n (Value.int .i64 0) := by simp [cellsI]
abbrev SB (w : World) (A : Option Addr) (n c : Nat) (l : List Nat) : Prop := Sl w 1 A n c (cellsI l)
theorem SB.length {w : World} {A : Option Addr} {n c : Nat} {l : List Nat} (h : SB w A n c l) : l.length = n := by have := h.len; simpa [cellsI] using this

theorem Own.keep {w w1 : World} {base e n c g : Nat} {A : Option Addr} {cs : List Value} (h : Own w base e 1 A n c cs) (k : w.grownBy w1 (some g)) (hg : g < base) : Sl w1 1 A n c cs := by
  rcases Nat.eq_zero_or_pos n with hn | hn
  · subst hn
    have hl : cs = [] := List.eq_nil_of_length_eq_zero (by have := h.sl.len; omega)
    subst hl
    exact Sl.empty w1 1 A c h.sl.cap
  · obtain ⟨g', sp, rfl, hb, hB, hl⟩ := h.blk hn
    exact h.sl.apart k (fun g2 ad e1 e2 => by cases e1; cases e2; show g' ≠ g; omega)

theorem bits_step {p : List Nat} {P x m V : Nat} (hp : p.length = P) (h : bval p + 2 ^ P * m = V) (hm : x = m % 2) : bval (p ++ [x]) + 2 ^ (P + 1) * (m / 2) = V := by
  rw [bval_snoc, hp, Nat.pow_succ, hm]
  have := Nat.div_add_mod m 2
  generalize 2 ^ P = Q at *
  generalize m / 2 = d at *
  generalize m % 2 = r at *
  grind

theorem bits_fn (A : Option Addr) (n c : Nat) (a : List Nat) (w : World) (ha : SN w A n c a) (hLa : Limbs a) (hn : n ≤ 100000) :
    Fn Try.prog 49 [.slice A n c] w (fun v w' => ∃ A' c' b, v = .slice A' (32 * n) c' ∧ BitL b ∧ bval b = val a ∧ Own w' w.heap.size 3 1 A' (32 * n) c' (cellsI b) ∧ Ext w w') := by
  have hla := ha.length
  refine fn_of_exec (c := c49) gx_ok Try.func49 rfl rfl rfl ?_
  refine at_build0 gx_ok rfl rfl rfl rfl rfl rfl ?_
  intro w1 hE hsz hB
  have hown : Own w1 w.heap.size 3 1 (some ⟨w.heap.size, 0, none⟩) 0 0 (cellsI []) := Own.empty hB (Nat.le_refl _)
  refine loop gx_ok [4, 3] (fun s : Nat × Option Addr × Nat => [.int .i64 s.1, .slice s.2.1 (32 * s.1) s.2.2]) (fun s w2 => Ext w w2 ∧ s.1 ≤ n ∧ ∃ b, BitL b ∧ bval b = val (a.take s.1) ∧ Own w2 w.heap.size 3 1 s.2.1 (32 * s.1) s.2.2 (cellsI b)) (fun s _ => n - s.1) (0, some ⟨w.heap.size, 0, none⟩, 0) rfl ⟨hE, Nat.zero_le _, [], bitL_nil, by simp [bval, val], hown⟩ ?_
  rintro ⟨i, A1, c1⟩ w2 ⟨hE2, hi, b, hb, hv, ho⟩
  dsimp only at hi hv ho ⊢
  have hbl : b.length = 32 * i := by have := ho.sl.len; simpa [cellsI] using this
  refine wif_d (fun h1 => ?_) (fun h1 => ?_)
  · refine index_sl (ha.ext hE2) (by omega) (fun ad u hA hu hcell => ?_)
    obtain ⟨x, hx, rfl⟩ := cells_get hu
    have hxl := hLa.get hx
    have hsucc := val_take_succ hx
    refine load hcell ?_
    refine loop gx_ok [6, 5, 3] (fun s : Nat × Option Addr × Nat × Nat => [.int .i64 s.1, .int .u32 s.2.2.2, .slice s.2.1 (32 * i + s.1) s.2.2.1]) (fun s w3 => Ext w w3 ∧ s.1 ≤ 32 ∧ s.2.2.2 < 2 ^ (32 - s.1) ∧ ∃ b2, BitL b2 ∧ bval b2 + 2 ^ (32 * i + s.1) * s.2.2.2 = val (a.take (i + 1)) ∧ Own w3 w.heap.size 3 1 s.2.1 (32 * i + s.1) s.2.2.1 (cellsI b2)) (fun s _ => 32 - s.1) (0, A1, c1, x) rfl ⟨hE2, Nat.zero_le _, hxl, b, hb, by show bval b + 2 ^ (32 * i) * x = _; rw [hv, hsucc, pow32], ho⟩ ?_
    rintro ⟨k, A2, c2, m⟩ w3 ⟨hE3, hk, hm, b2, hb2, hv2, ho2⟩
    dsimp only at hk hm hv2 ho2 ⊢
    have hbl2 : b2.length = 32 * i + k := by have := ho2.sl.len; simpa [cellsI] using this
    refine wif_d (fun h2 => ?_) (fun h2 => ?_)
    · have hm32 : m < 4294967296 := Nat.lt_of_lt_of_le hm (Nat.pow_le_pow_right (by omega) (by omega : 32 - k ≤ 32))
      have hr : m % 2 < 2 := Nat.mod_lt _ (by omega)
      refine norm_rem (d := 2) (by omega) ?_
      refine norm_i64 (by omega) ?_
      refine at_build1 gx_ok rfl rfl rfl rfl rfl rfl rfl rfl ?_
      intro w4 hE4 hsz4 hB4
      have hs4 : SB w4 (some ⟨w3.heap.size, 0, none⟩) 1 1 [m % 2] := Sl.own' hB4 rfl (by simp [maxLen])
      refine at_append gx_ok rfl rfl rfl rfl rfl rfl rfl ⟨_, rfl⟩ rfl rfl (ho2.ext hE4) hs4 (cellsI_scalar _) (by unfold maxLen; omega) (by show _ * 8 ≤ _; omega) (by have := hE3.size; have := hE4.size; omega) ?_
      intro A' c' w5 hgr ho5
      refine normIf (by decide) (m := ((m / 2 : Nat) : Int)) (by
        have := tdiv_nat m 2
        rw [show ((2 : Nat) : Int) = 2 from rfl] at this
        rw [this]; exact IntWalk.u32_in _ (by omega)) ?_
      refine norm_i64_to ((k + 1 : Nat) : Int) (by omega) (by omega) ?_
      refine ⟨(k + 1, A', c', m / 2), rfl, ⟨(hE3.trans hE4).row (Nat.le_refl _) (ho2.ext hE4) hgr, by show k + 1 ≤ 32; omega, ?_, b2 ++ [m % 2], bitL_append.2 ⟨hb2, bitL_cons.2 ⟨hr, bitL_nil⟩⟩, bits_step hbl2 hv2 rfl, by rw [cellsI_append]; exact ho5⟩, by show 32 - (k + 1) < 32 - k; omega⟩
      show m / 2 < 2 ^ (32 - (k + 1))
      rw [show 32 - k = 32 - (k + 1) + 1 by omega, Nat.pow_succ] at hm
      omega
    · have hk32 : k = 32 := by omega
      subst hk32
      have hm0 : m = 0 := by simpa using hm
      subst hm0
      rw [Nat.mul_zero, Nat.add_zero] at hv2
      refine norm_i64_to ((i + 1 : Nat) : Int) (by omega) (by omega) ?_
      exact ⟨(i + 1, A2, c2), rfl, ⟨hE3, by show i + 1 ≤ n; omega, b2, hb2, hv2, by show Own _ _ _ _ _ (32 * (i + 1)) _ _; rw [show 32 * (i + 1) = 32 * i + 32 by omega]; exact ho2⟩, by show n - (i + 1) < n - i; omega⟩
  · have hin : i = n := by omega
    subst hin
    rw [List.take_of_length_le (by omega)] at hv
    exact ⟨A1, c1, b, rfl, hb, hv, ho, hE2⟩

theorem binary_fn (A : Option Addr) (n c : Nat) (b : List Nat) (w : World) (hs : SB w A n c b) (hb : BitL b) (hn : n ≤ 1000000) :
    Fn Try.prog 50 [.slice A n c] w (fun v w' => ∃ A' c', v = .slice A' (toL (bval b)).length c' ∧ SN w' A' (toL (bval b)).length c' (toL (bval b)) ∧ Ext w w') := by
  have hbl := hs.length
  refine fn_of_exec (c := c50) gx_ok Try.func50 rfl rfl rfl ?_
  refine at_build0 gx_ok rfl rfl rfl rfl rfl rfl ?_
  intro w1 hE hsz hB
  have hown : Own w1 w.heap.size 35 1 (some ⟨w.heap.size, 0, none⟩) 0 0 (cells []) := Own.empty hB (Nat.le_refl _)
  refine loop gx_ok [4, 3] (fun s : Nat × Option Addr × Nat => [.int .i64 (32 * s.1 : Nat), .slice s.2.1 s.1 s.2.2]) (fun s w2 => Ext w w2 ∧ 32 * s.1 ≤ n + 31 ∧ ∃ p, Limbs p ∧ val p = bval (b.take (32 * s.1)) ∧ Own w2 w.heap.size 35 1 s.2.1 s.1 s.2.2 (cells p)) (fun s _ => n + 32 - 32 * s.1) (0, some ⟨w.heap.size, 0, none⟩, 0) rfl ⟨hE, by show 32 * 0 ≤ n + 31; omega, [], limbs_nil, by simp [bval, val], hown⟩ ?_
  rintro ⟨j, A1, c1⟩ w2 ⟨hE2, hj, p, hLp, hv, ho⟩
  dsimp only at hj hv ho ⊢
  have hpl : p.length = j := by have := ho.sl.len; simpa [cells] using this
  refine wif_d (fun h1 => ?_) (fun h1 => ?_)
  · refine norm_i64_to ((32 * j + 32 : Nat) : Int) (by omega) (by omega) ?_
    refine norm (m := ((min n (32 * j + 32) : Nat) : Int)) (by split <;> omega) ?_
    have he1 : 32 * j < min n (32 * j + 32) := by omega
    have he2 : min n (32 * j + 32) ≤ 32 * j + 32 := Nat.min_le_right _ _
    have he3 : min n (32 * j + 32) ≤ n := Nat.min_le_left _ _
    have hte : b.take (min n (32 * j + 32)) = b.take (32 * (j + 1)) := by rw [List.take_eq_take_iff]; omega
    generalize min n (32 * j + 32) = e at *
    have hbe : BitL (b.take e) := hb.take e
    refine norm_i64_to ((e : Int) - 1) rfl (by omega) ?_
    refine loop gx_ok [6, 5] (fun s : Nat × Nat => [.int .i64 ((s.1 : Int) - 1), .int .u32 s.2]) (fun s w3 => w3 = w2 ∧ 32 * j ≤ s.1 ∧ s.1 ≤ e ∧ s.2 = bval ((b.take e).drop s.1)) (fun s _ => s.1) (e, 0) rfl ⟨rfl, by show 32 * j ≤ e; omega, Nat.le_refl _, by show 0 = bval ((b.take e).drop e); rw [List.drop_of_length_le (by rw [List.length_take]; omega)]; rfl⟩ ?_
    rintro ⟨t, m⟩ w3 ⟨rfl, ht1, ht2, hm⟩
    dsimp only at ht1 ht2 hm ⊢
    refine wif_d (fun h2 => ?_) (fun h2 => ?_)
    · obtain ⟨t, rfl⟩ : ∃ t', t = t' + 1 := ⟨t - 1, by omega⟩
      have et : ((t + 1 : Nat) : Int) - 1 = (t : Int) := by omega
      rw [et]
      have hxt : b[t]? = some b[t] := List.getElem?_eq_getElem (by omega)
      generalize b[t] = x at hxt
      have hx2 := hb.get hxt
      have hstep := bval_drop (b.take e) t
      rw [List.getElem?_take, if_pos (by omega), hxt, Option.getD_some, ← hm] at hstep
      have hlt := bval_lt (hbe.drop t)
      have hlt2 : 2 ^ ((b.take e).drop t).length ≤ 2 ^ 32 := Nat.pow_le_pow_right (by omega) (by rw [List.length_drop, List.length_take]; omega)
      refine norm_u32_to ((2 * m : Nat) : Int) (by omega) (by omega) ?_
      refine index_sl (hs.ext hE2) (by omega) (fun ad u hA hu hcell => ?_)
      obtain ⟨y, hy, rfl⟩ := cellsI_get hu
      rw [hxt] at hy; cases hy
      refine load hcell ?_
      refine norm_u32_to ((x : Nat) : Int) rfl (by omega) ?_
      refine norm_u32_to ((2 * m + x : Nat) : Int) (by omega) (by omega) ?_
      refine norm_i64_to ((t : Int) - 1) rfl (by omega) ?_
      exact ⟨(t, 2 * m + x), rfl, ⟨rfl, by show 32 * j ≤ t; omega, by show t ≤ e; omega, by show 2 * m + x = bval ((b.take e).drop t); omega⟩, by show t < t + 1; omega⟩
    · have : t = 32 * j := by omega
      subst this
      have hlt := bval_lt (hbe.drop (32 * j))
      have hlt2 : 2 ^ ((b.take e).drop (32 * j)).length ≤ 2 ^ 32 := Nat.pow_le_pow_right (by omega) (by rw [List.length_drop, List.length_take]; omega)
      have hm32 : m < 4294967296 := by omega
      have hsp := bval_split (b.take e) (32 * j)
      rw [List.take_take, Nat.min_eq_left (by omega), ← hm, hte, ← pow32] at hsp
      refine at_build1 gx_ok rfl rfl rfl rfl rfl rfl rfl rfl ?_
      intro w4 hE4 hsz4 hB4
      have hs4 : SN w4 (some ⟨w3.heap.size, 0, none⟩) 1 1 [m] := Sl.own' hB4 rfl (by simp [maxLen])
      refine at_append gx_ok rfl rfl rfl rfl rfl rfl rfl ⟨_, rfl⟩ rfl rfl (ho.ext hE4) hs4 (cells_scalar _) (by unfold maxLen; omega) (by show _ * 4 ≤ _; omega) (by have := hE2.size; have := hE4.size; omega) ?_
      intro A' c' w5 hgr ho5
      refine norm_i64_to ((32 * (j + 1) : Nat) : Int) (by omega) (by omega) ?_
      refine ⟨(j + 1, A', c'), rfl, ⟨(hE2.trans hE4).row (Nat.le_refl _) (ho.ext hE4) hgr, by show 32 * (j + 1) ≤ n + 31; omega, p ++ [m], limbs_append.2 ⟨hLp, limbs_cons.2 ⟨hm32, limbs_nil⟩⟩, ?_, by rw [cells_append]; exact ho5⟩, by show n + 32 - 32 * (j + 1) < n + 32 - 32 * j; omega⟩
      show val (p ++ [m]) = bval (b.take (32 * (j + 1)))
      rw [val_snoc, hpl, hsp, hv]
  · rw [List.take_of_length_le (by omega)] at hv
    refine call (rtrim_fn _ _ _ _ _ ho.sl hLp) ?_
    rintro v w' ⟨A', c', rfl, hs', rfl⟩
    rw [hv] at hs' ⊢
    exact ⟨A', c', rfl, hs', hE2⟩

theorem bit_bits {l : List Nat} (h : BitL l) {t x : Nat} (hx : l[t]? = some x) : bval l / 2 ^ t % 2 = x := by
  have h1 := bval_split l t
  have h2 := bval_drop l t
  rw [hx, Option.getD_some] at h2
  have h3 := bval_lt (h.take t)
  have h4 : 2 ^ (l.take t).length ≤ 2 ^ t := Nat.pow_le_pow_right (by omega) (by rw [List.length_take]; omega)
  have h5 := h.get hx
  have hp : 0 < 2 ^ t := Nat.two_pow_pos t
  rw [h1, Nat.add_mul_div_left _ _ hp, Nat.div_eq_of_lt (by omega)]
  omega

theorem rdiv_fn (A B : Option Addr) (n c m d : Nat) (a b : List Nat) (w : World) (ha : SN w A n c a) (hb : SN w B m d b) (hLa : Limbs a) (hLb : Limbs b) :
    Fn Try.prog 36 [.slice A n c, .slice B m d] w (DivRes w (quoL a b) (remL a b) (divE a b)) := by
  have hla := ha.length
  have hlb := hb.length
  refine fn_of_exec (c := c36) gx_ok Try.func36 rfl rfl rfl ?_
  refine call (rvalid_fn _ _ _ _ _ ha) ?_
  rintro v w' ⟨rfl, rfl⟩
  refine wif_not (wif_d (fun hva => ?_) (fun hva => ?_))
  case refine_2 => rw [quoL_no (fun h => hva h.1), remL_no (fun h => hva h.1), divE_no (fun h => hva h.1)]; exact divRes_nil _ _ _ (Ext.refl _)
  refine call (rvalid_fn _ _ _ _ _ hb) ?_
  rintro v w' ⟨rfl, rfl⟩
  refine wif_not (wif_d (fun hvb => ?_) (fun hvb => ?_))
  case refine_2 => rw [quoL_no (fun h => hvb h.2), remL_no (fun h => hvb h.2), divE_no (fun h => hvb h.2)]; exact divRes_nil _ _ _ (Ext.refl _)
  have hn1024 : n ≤ 1024 := by have := hva.1; omega
  have hm1024 : m ≤ 1024 := by have := hvb.1; omega
  refine wif_eq (fun h0 => ?_) (fun h0 => ?_)
  · have hnil : b = [] := List.eq_nil_of_length_eq_zero (by omega)
    rw [quoL_zero hnil, remL_zero hnil, divE_zero hva hvb hnil]; exact divRes_nil _ _ _ (Ext.refl _)
  have hne : b ≠ [] := fun e => by subst e; simp at hlb; omega
  have hvp := val_pos hvb hne
  rw [quoL_yes hva hvb hne, remL_yes hva hvb hne, divE_yes hva hvb hne]
  refine call (bits_fn _ _ _ _ _ ha hLa (by omega)) ?_
  rintro v w1 ⟨A1, c1, bs, rfl, hbs, hbv, hob, hE1⟩
  have hbsl : bs.length = 32 * n := SB.length hob.sl
  refine at_make gx_ok rfl rfl rfl rfl rfl rfl rfl rfl (by show 8 * _ ≤ _; omega) (by unfold maxLen; omega) ?_
  intro w2 hE2 hsz2 hB2
  rw [← cellsI_replicate] at hB2
  generalize hgq : w1.heap.size = gq at *
  refine at_build0 gx_ok rfl rfl rfl rfl rfl rfl ?_
  intro w3 hE3 hsz3 hB3
  have hs3 : SB w3 (some ⟨w2.heap.size, 0, none⟩) 0 0 [] := Sl.own' hB3 rfl (by simp [maxLen])
  refine norm_i64_to (((32 * n : Nat) : Int) - 1) rfl (by omega) ?_
  refine loop gx_ok [10, 9] (fun s : Nat × Option Addr × Nat × Nat => [.int .i64 ((s.1 : Int) - 1), .slice s.2.1 s.2.2.1 s.2.2.2]) (fun s w4 => Ext w1 w4 ∧ s.1 ≤ 32 * n ∧ s.2.2.1 + s.1 ≤ 32768 + 32 * n ∧ ∃ q r Q, Blk w4 gq 3 (cellsI q) ∧ q.length = 32 * n ∧ BitL q ∧ SB w4 s.2.1 s.2.2.1 s.2.2.2 r ∧ BitL r ∧ bval q = Q * 2 ^ s.1 ∧ val a / 2 ^ s.1 = Q * val b + bval r ∧ bval r < val b) (fun s _ => s.1) (32 * n, some ⟨w2.heap.size, 0, none⟩, 0, 0) rfl
    ⟨hE2.trans hE3, Nat.le_refl _, by show 0 + 32 * n ≤ _; omega, List.replicate (32 * n) 0, [], 0, hB2.ext hE3, by simp, fun x hx => by rw [List.eq_of_mem_replicate hx]; omega, hs3, bitL_nil, by rw [bval_replicate, Nat.zero_mul], ?_, hvp⟩ ?_
  · have := val_lt hLa
    rw [hla, pow32] at this
    show val a / 2 ^ (32 * n) = 0 * val b + bval []
    rw [Nat.div_eq_of_lt this]; simp [bval]
  rintro ⟨t, Ar, nr, cr⟩ w4 ⟨hE4, ht, hnr, q, r, Q, hBq, hql, hbq, hsr, hbr, hvq, hvd, hvr⟩
  dsimp only at ht hnr hsr hvq hvd ⊢
  have hrl := SB.length hsr
  have hgl := hBq.lt
  refine wif_d (fun h2 => ?_) (fun h2 => ?_)
  · obtain ⟨t, rfl⟩ : ∃ t', t = t' + 1 := ⟨t - 1, by omega⟩
    have et : ((t + 1 : Nat) : Int) - 1 = (t : Int) := by omega
    rw [et]
    refine index_sl (hob.sl.ext hE4) (by omega) (fun ad u hA hu hcell => ?_)
    obtain ⟨x, hx, rfl⟩ := cellsI_get hu
    have hx2 := hbs.get hx
    have hbit := bit_bits hbs hx
    rw [hbv] at hbit
    have hst := long_step hvd
    rw [hbit] at hst
    refine load hcell ?_
    refine at_build1 gx_ok rfl rfl rfl rfl rfl rfl rfl rfl ?_
    intro w5 hE5 hsz5 hB5
    have ho5 : Own w5 w4.heap.size 3 1 (some ⟨w4.heap.size, 0, none⟩) 1 1 (cellsI [x]) := Own.of_blk (sp := []) (by rw [List.append_nil]; exact hB5) (Nat.le_refl _) rfl rfl (by simp [maxLen])
    refine at_append gx_ok rfl rfl rfl rfl rfl rfl rfl ⟨_, rfl⟩ rfl rfl ho5 (hsr.ext hE5) (cellsI_scalar _) (by unfold maxLen; omega) (by show _ * 8 ≤ _; omega) (by omega) ?_
    intro A6 c6 w6 hgr6 ho6
    have hE46 : Ext w4 w6 := hE5.row (Nat.le_refl _) ho5 hgr6
    have hs6 : SB w6 A6 (1 + nr) c6 (x :: r) := ho6.sl
    have hb6 : BitL (x :: r) := bitL_cons.2 ⟨hx2, hbr⟩
    refine call (binary_fn _ _ _ _ _ hs6 hb6 (by omega)) ?_
    rintro v w7 ⟨A7, c7, rfl, hs7, hE7⟩
    have hE47 : Ext w4 w7 := hE46.trans hE7
    have hR : bval (x :: r) = x + 2 * bval r := rfl
    rw [show 2 * bval r + x = bval (x :: r) by omega] at hst
    have hR2 : bval (x :: r) < 2 * val b := by omega
    have hRa : bval (x :: r) ≤ val a := by
      have := Nat.div_le_self (val a) (2 ^ t)
      have h9 : bval (x :: r) ≤ val a / 2 ^ t := by rw [hst]; exact Nat.le_add_left _ _
      omega
    have hlen := resL_le hva hLa hRa
    have hvd7 : Vd (toL (bval (x :: r))) := ⟨hlen, toL_last _⟩
    generalize hRR : bval (x :: r) = R at *
    have hb7 := ((hb.ext hE1).ext hE4).ext hE47
    refine call (rcompare_fn _ _ _ _ _ _ _ _ _ hs7 hb7 (limbs_toL _) hLb) ?_
    rintro v w8 ⟨rfl, hE8⟩
    rw [cmpL_yes hvd7 hvb, val_toL]
    have hE48 := hE47.trans hE8
    have hb8 := hb7.ext hE8
    refine wif_d (fun h3 => ?_) (fun h3 => ?_)
    · have hge : ¬ R < val b := fun h => by have := cmpN_neg.2 h; omega
      refine call (rsub_fn _ _ _ _ _ _ _ _ _ (hs7.ext hE8) hb8 (limbs_toL _) hLb) ?_
      rintro v w9 ⟨A9, c9, rfl, hs9, hE9⟩
      rw [subL_ge hvd7 hvb (by rw [val_toL]; exact hge), val_toL] at hs9 ⊢
      have hl9 : (toL (R - val b)).length ≤ 1024 := by have := toL_mono (Nat.sub_le R (val b)); omega
      refine call (bits_fn _ _ _ _ _ hs9 (limbs_toL _) (by omega)) ?_
      rintro v w10 ⟨A10, c10, r2, rfl, hb10, hv10, ho10, hE10⟩
      rw [val_toL] at hv10
      have hE4A : Ext w4 w10 := hE48.trans (hE9.trans hE10)
      have hqt : q[t]? = some q[t] := List.getElem?_eq_getElem (by omega)
      have hq0 := bit_bits hbq hqt
      have hq1 : bval q / 2 ^ t % 2 = 0 := by
        rw [hvq, Nat.pow_succ, show Q * (2 ^ t * 2) = 2 * Q * 2 ^ t by grind, Nat.mul_div_cancel _ (Nat.two_pow_pos t)]
        omega
      have hqs := bval_set q t 1 (by omega)
      rw [hq1] at hq0
      rw [← hq0] at hqs
      refine index (by omega) ?_
      refine store_blk (hBq.ext hE4A) (by rw [cellsI_length]; omega) ?_
      intro w11 hgr11 hB11
      refine norm_i64_to ((t : Int) - 1) rfl (by omega) ?_
      have hs11 : SB w11 A10 (32 * (toL (R - val b)).length) c10 r2 := ho10.keep hgr11 (by have := hE48.size; have := hE9.size; omega)
      refine ⟨(t, A10, 32 * (toL (R - val b)).length, c10), rfl, ⟨(hE4.trans hE4A).own hgr11 (by omega), by show t ≤ 32 * n; omega, by show 32 * (toL (R - val b)).length + t ≤ 32768 + 32 * n; omega, q.set t 1, r2, 2 * Q + 1, by rw [cellsI_set]; exact hB11, by simp [hql], ?_, hs11, hb10, ?_, ?_, by rw [hv10]; omega⟩, by show t < t + 1; omega⟩
      · intro y hy
        rcases List.mem_or_eq_of_mem_set hy with h | h
        · exact hbq y h
        · omega
      · show bval (q.set t 1) = (2 * Q + 1) * 2 ^ t
        rw [Nat.pow_succ] at hvq
        grind
      · show val a / 2 ^ t = (2 * Q + 1) * val b + bval r2
        rw [hst, hv10]
        have : (2 * Q + 1) * val b = 2 * Q * val b + val b := by grind
        omega
    · have hlt : R < val b := by
        rcases Nat.lt_or_ge R (val b) with h | h
        · exact h
        · exact absurd (by have := (cmpN_neg (x := R) (y := val b)).1; omega) h3
      refine norm_i64_to ((t : Int) - 1) rfl (by omega) ?_
      refine ⟨(t, A6, 1 + nr, c6), rfl, ⟨hE4.trans hE48, by show t ≤ 32 * n; omega, by show 1 + nr + t ≤ 32768 + 32 * n; omega, q, x :: r, 2 * Q, hBq.ext hE48, hql, hbq, (hs6.ext hE7).ext hE8, hb6, ?_, ?_, by rw [hRR]; exact hlt⟩, by show t < t + 1; omega⟩
      · show bval q = 2 * Q * 2 ^ t
        rw [hvq, Nat.pow_succ]; grind
      · show val a / 2 ^ t = 2 * Q * val b + bval (x :: r)
        rw [hst, hRR]
  · have ht0 : t = 0 := by omega
    subst ht0
    rw [Nat.pow_zero, Nat.mul_one] at hvq
    rw [Nat.pow_zero, Nat.div_one] at hvd
    obtain ⟨e1, e2⟩ := div_unique hvd hvr
    have hsq : SB w4 (some ⟨gq, 0, none⟩) (32 * n) (32 * n) q := Sl.own' hBq (by rw [cellsI_length]; exact hql) (by unfold maxLen; omega)
    refine call (binary_fn _ _ _ _ _ hsq hbq (by omega)) ?_
    rintro v w5 ⟨A5, c5, rfl, hs5, hE5⟩
    refine call (binary_fn _ _ _ _ _ (hsr.ext hE5) hbr (by omega)) ?_
    rintro v w6 ⟨A6, c6, rfl, hs6, hE6⟩
    rw [hvq, e1] at hs5 ⊢
    rw [e2] at hs6 ⊢
    exact ⟨A5, c5, A6, c6, rfl, hs5.ext hE6, hs6, hE1.trans (hE4.trans (hE5.trans hE6))⟩
end Go.Proofs.Ytpalpikenkkhlaa
