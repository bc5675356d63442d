/-
  Division by a single limb, shifts and comparisons of limbs in place: the contracts.
  Conditions: none.
-/
import Derived.Test.YtpalpikenkkhlaaT6
namespace Go.Proofs.Ytpalpikenkkhlaa
open Go Go.RowKit

/-- One digit of a division by d, from the top. -/
theorem div_digit {x r d h : Nat} (hx : x < 4294967296) (hr : r < d) (hd : 0 < d) : (r * 4294967296 + x) / d < 4294967296 ∧ (h * d + r) * 4294967296 + x = (((r * 4294967296 + x) / d) + 4294967296 * h) * d + (r * 4294967296 + x) % d := by
  constructor
  · rw [Nat.div_lt_iff_lt_mul hd]
    have := Nat.mul_le_mul_left 4294967296 (show r + 1 ≤ d by omega)
    omega
  · have := Nat.div_add_mod (r * 4294967296 + x) d
    generalize (r * 4294967296 + x) / d = q at *
    generalize (r * 4294967296 + x) % d = e at *
    grind

theorem div_unique {a q d r : Nat} (h : a = q * d + r) (hr : r < d) : q = a / d ∧ r = a % d := by
  subst h
  constructor
  · rw [Nat.mul_comm, Nat.mul_add_div (by omega), Nat.div_eq_of_lt hr]; omega
  · rw [Nat.mul_comm, Nat.mul_add_mod, Nat.mod_eq_of_lt hr]

theorem set_low {α : Type} (z : α) (k : Nat) (p : List α) (y : α) : ((List.replicate (k + 1) z) ++ p).set k y = List.replicate k z ++ (y :: p) := by
  rw [List.replicate_succ', List.append_assoc, List.singleton_append]
  have := set_mid (List.replicate k z) z y p
  rwa [List.length_replicate] at this

theorem cells_replicate (n : Nat) : cells (List.replicate n 0) = List.replicate n (Value.int .u32 0) := by simp [cells]
theorem limbs_replicate (n : Nat) : Limbs (List.replicate n 0) := fun x hx => by rw [List.eq_of_mem_replicate hx]; omega
theorem val_zeros (k : Nat) (p : List Nat) : val (List.replicate k 0 ++ p) = 4294967296 ^ k * val p := by
  rw [val_append, List.length_replicate]
  have := val_drop_zero (l := List.replicate k 0) (n := 0) (fun x hx => by simp at hx; exact hx.2)
  simp [val] at this
  omega

theorem short_fn (A : Option Addr) (n c d : Nat) (a : List Nat) (w : World) (ha : SN w A n c a) (hLa : Limbs a) (hn : n ≤ 1024) (hd : 0 < d) (hd2 : d < 4294967296) :
    Fn Try.prog 40 [.slice A n c, .int .u32 d] w (fun v w' => ∃ A' c', v = .tuple #[.slice A' (toL (val a / d)).length c', .int .u32 (val a % d : Nat)] ∧ SN w' A' (toL (val a / d)).length c' (toL (val a / d)) ∧ Fresh w w' A' ∧ Ext w w') := by
  have hla := ha.length
  refine fn_of_exec (c := c40) gx_ok Try.func40 rfl rfl rfl ?_
  refine at_make gx_ok rfl rfl rfl rfl rfl rfl rfl rfl (by show 4 * _ ≤ _; omega) (by unfold maxLen; omega) ?_
  intro w1 hE1 hsz1 hB1
  refine loop gx_ok [15, 7] (fun s : Nat × Nat => [.int .i64 s.1, .int .u64 s.2]) (fun s w2 => Ext w w2 ∧ s.1 ≤ n ∧ s.2 < d ∧ ∃ p, p.length = s.1 ∧ Limbs p ∧ Blk w2 w.heap.size 35 (cells (List.replicate (n - s.1) 0 ++ p)) ∧ val (a.drop (n - s.1)) = val p * d + s.2)
    (fun s _ => n - s.1) (0, 0) rfl ⟨hE1, Nat.zero_le _, hd, [], rfl, limbs_nil, by simpa [cells_append, cells_replicate] using hB1, by rw [List.drop_of_length_le (by show a.length ≤ n - 0; omega)]; simp [val]⟩ ?_
  rintro ⟨i, r⟩ w2 ⟨hE2, hi, hr, p, hp, hLp, hB2, hv⟩
  dsimp only at hi hr hp hB2 hv ⊢
  refine wif_d (fun h2 => ?_) (fun h2 => ?_)
  · refine norm_i64_to ((n - 1 : Nat) : Int) (by omega) (by omega) ?_
    refine norm_i64_to ((n - 1 - i : Nat) : Int) (by omega) (by omega) ?_
    refine normIf (m := ((r * 4294967296 : Nat) : Int)) (by decide) ?_ ?_
    · rw [show ((r : Int) * 2 ^ (min (32 : Int).toNat IntKind.u64.bits)) = ((r * 4294967296 : Nat) : Int) by rw [show (2 : Int) ^ (min (32 : Int).toNat IntKind.u64.bits) = 4294967296 by rfl]; omega]
      exact IntWalk.u64_in _ (by omega)
    refine index_sl (ha.ext hE2) (by omega) (fun ad z hA hu hcell => ?_)
    obtain ⟨x, hx, rfl⟩ := cells_get hu
    have hxl := hLa.get hx
    refine load hcell ?_
    refine norm_u64 (by omega) ?_
    refine norm_or64 (s := r * 4294967296 + x) (or_add r x 32 (by omega)) (by omega) (by omega) ?_
    refine norm_u64 (by omega) ?_
    refine norm_quo64 hd (by omega) ?_
    refine norm_u32 ?_
    refine index (by omega) ?_
    rw [show n - i = (n - 1 - i) + 1 by omega] at hB2
    refine store_blk hB2 (by simp [cells]; omega) ?_
    intro w3 hgr3 hB3
    rw [← cells_set, set_low] at hB3
    have hdv := val_drop a (n - 1 - i)
    rw [hx, Option.getD_some, show n - 1 - i + 1 = n - i by omega, hv] at hdv
    obtain ⟨hq, he⟩ := div_digit (h := val p) hxl hr hd
    refine norm_u64 (by omega) ?_
    refine norm_rem hd ?_
    refine norm_i64_to ((i + 1 : Nat) : Int) (by omega) (by omega) ?_
    rw [Nat.mod_eq_of_lt hq] at hB3
    refine ⟨(i + 1, (r * 4294967296 + x) % d), rfl, ⟨hE2.own hgr3 (Nat.le_refl _), by show i + 1 ≤ n; omega, Nat.mod_lt _ hd, (r * 4294967296 + x) / d :: p, by simp [hp], limbs_cons.2 ⟨hq, hLp⟩, ?_, ?_⟩, by show n - (i + 1) < n - i; omega⟩
    · show Blk w3 w.heap.size _ (cells (List.replicate (n - (i + 1)) 0 ++ _))
      rw [show n - (i + 1) = n - 1 - i by omega]; exact hB3
    · show val (a.drop (n - (i + 1))) = val ((r * 4294967296 + x) / d :: p) * d + _
      rw [show n - (i + 1) = n - 1 - i by omega, hdv, val, ← he]; omega
  · have : i = n := by omega
    subst this
    rw [Nat.sub_self, List.replicate_zero, List.nil_append] at hB2
    rw [Nat.sub_self, List.drop_zero] at hv
    obtain ⟨e1, e2⟩ := div_unique hv hr
    have hs : SN w2 (some ⟨w.heap.size, 0, none⟩) i i p := Sl.own' hB2 (by simp [cells, hp]) (by unfold maxLen; omega)
    refine call (trim_fn' _ _ _ _ _ hs hLp) ?_
    rintro v w5 ⟨A', c', rfl, hs', hA', rfl⟩
    have hF : Fresh w w5 A' := by rcases hA' with rfl | rfl; exact Fresh.own (Nat.le_refl _) hB2; exact Fresh.none _ _
    have hle : (toL (val p)).length ≤ 1024 := by have := toL_len_le hLp; omega
    rw [resL_of hle, e1] at hs'
    rw [resL_of hle, e1]
    refine norm_u32 ?_
    refine ⟨A', c', ?_, hs', hF, hE2⟩
    rw [Nat.mod_eq_of_lt (by omega : r < 4294967296), e2]

theorem small_fn (A : Option Addr) (n c d : Nat) (a : List Nat) (w : World) (ha : SN w A n c a) (hLa : Limbs a) (hn : n ≤ 1024) (hd : 0 < d) (hd2 : d < 4294967296) :
    Fn Try.prog 41 [.slice A n c, .int .u64 d] w (fun v w' => ∃ A' c', v = .tuple #[.slice A' (toL (val a / d)).length c', .int .u64 (val a % d : Nat)] ∧ SN w' A' (toL (val a / d)).length c' (toL (val a / d)) ∧ Fresh w w' A' ∧ Ext w w') := by
  have hla := ha.length
  refine fn_of_exec (c := c41) gx_ok Try.func41 rfl rfl rfl ?_
  refine at_build0 gx_ok rfl rfl rfl rfl rfl rfl ?_
  intro w1 hE1 hsz1 hB1
  have hown : Own w1 w.heap.size 35 1 (some ⟨w.heap.size, 0, none⟩) 0 0 [] := Own.empty hB1 (Nat.le_refl _)
  refine at_append gx_ok rfl rfl rfl rfl rfl rfl rfl ⟨_, rfl⟩ rfl rfl hown (ha.ext hE1) (cells_scalar _) (by unfold maxLen; omega) (by show _ * 4 ≤ _; omega) (by omega) ?_
  intro A1 c1 w2 hgr hown2
  have hE2 : Ext w w2 := hE1.row (Nat.le_refl _) hown hgr
  rw [Nat.zero_add, List.nil_append] at hown2
  have hF1 : Fresh w w2 A1 := fun ad e => hown2.row.lt ad.block (by rw [e]; rfl)
  rw [Nat.zero_add]
  refine norm_i64_to ((n : Int) - 1) (by omega) (by omega) ?_
  have fin : ∀ (p : List Nat) (r : Nat) (w3 : World), Ext w w3 → r < d → p.length = n → Limbs p → SN w3 A1 n c1 p → val a = val p * d + r →
      Fn Try.prog 42 [.slice A1 n c1] w3 (fun v w' => ∃ A' c', v = .slice A' (toL (val a / d)).length c' ∧ SN w' A' (toL (val a / d)).length c' (toL (val a / d)) ∧ A' = A1 ∧ w' = w3 ∧ r = val a % d) := by
    intro p r w3 _ hr _ hLp hs hv
    obtain ⟨e1, e2⟩ := div_unique hv hr
    refine (rtrim_fn' _ _ _ _ _ hs hLp).mono ?_
    rintro v w' ⟨A', c', h1, h2, h4, h3⟩
    subst h3
    rw [e1] at h1 h2
    exact ⟨A', c', h1, h2, h4, rfl, e2⟩
  rcases Nat.eq_zero_or_pos n with h0 | hpos
  · subst h0
    have ha0 : a = [] := List.eq_nil_of_length_eq_zero hla
    refine loop gx_ok [8, 7] (fun _ : Unit => [.int .i64 (((0 : Nat) : Int) - 1), .int .u64 ((0 : Nat) : Int)]) (fun _ w3 => w3 = w2) (fun _ _ => 0) () rfl rfl ?_
    rintro _ w3 rfl
    refine wif_df (by omega) ?_
    refine call (fin [] 0 w3 hE2 hd rfl limbs_nil (by have := hown2.sl; rwa [ha0] at this) (by rw [ha0]; simp [val])) ?_
    rintro v w4 ⟨A', c', rfl, hs', rfl, rfl, e⟩
    exact ⟨_, c', by rw [← e], hs', hF1, hE2⟩
  obtain ⟨g, sp, rfl, hg, hB2, _⟩ := hown2.blk hpos
  refine loop gx_ok [8, 7] (fun s : Nat × Nat => [.int .i64 ((s.1 : Int) - 1), .int .u64 s.2]) (fun s w3 => Ext w w3 ∧ s.1 ≤ n ∧ s.2 < d ∧ ∃ p, p.length = n - s.1 ∧ Limbs p ∧ Blk w3 g 35 (cells (a.take s.1 ++ p) ++ sp) ∧ val (a.drop s.1) = val p * d + s.2)
    (fun s _ => s.1) (n, 0) rfl ⟨hE2, Nat.le_refl _, hd, [], by simp, limbs_nil, by show Blk w2 g _ (cells (a.take n ++ []) ++ sp); rw [List.take_of_length_le (by omega), List.append_nil]; exact hB2, by rw [List.drop_of_length_le (by show a.length ≤ n; omega)]; simp [val]⟩ ?_
  rintro ⟨i, r⟩ w3 ⟨hE3, hi, hr, p, hp, hLp, hB3, hv⟩
  dsimp only at hi hr hp hB3 hv ⊢
  refine wif_d (fun h2 => ?_) (fun h2 => ?_)
  · rw [show (i : Int) - 1 = ((i - 1 : Nat) : Int) by omega]
    have hx : a[i - 1]? = some a[i - 1] := List.getElem?_eq_getElem (by omega)
    have hxl := hLa.get hx
    refine norm_u64_to ((r * 4294967296 : Nat) : Int) (by omega) (by omega) ?_
    refine call (rlimb_fn _ _ _ _ _ _ (ha.ext hE3) hLa) ?_
    rintro v w4 ⟨rfl, rfl⟩
    rw [hx, Option.getD_some]
    refine norm_u64_to ((r * 4294967296 + a[i - 1] : Nat) : Int) (by omega) (by omega) ?_
    obtain ⟨hq, he⟩ := div_digit (h := val p) hxl hr hd
    have hdv := val_drop a (i - 1)
    rw [hx, Option.getD_some, show i - 1 + 1 = i by omega, hv] at hdv
    generalize hsx : a[i - 1] = x at *
    refine norm_quo64 hd (by omega) ?_
    refine norm_u32 ?_
    refine index (by omega) ?_
    have hti : a.take i = a.take (i - 1) ++ [x] := by
      have := List.take_add_one (i := i - 1) (l := a)
      rw [show i - 1 + 1 = i by omega, hx] at this; exact this
    have hln : (a.take (i - 1)).length = i - 1 := by rw [List.length_take]; omega
    have hform : cells (a.take i ++ p) ++ sp = cells (a.take (i - 1)) ++ (Value.int .u32 x :: (cells p ++ sp)) := by
      rw [hti, cells_append, cells_append]; simp [cells]
    rw [hform] at hB3
    refine store_blk hB3 (by simp [cells]; omega) ?_
    intro w5 hgr5 hB5
    rw [set_mid' _ _ _ _ (by rw [cells_length]; exact hln)] at hB5
    rw [Nat.mod_eq_of_lt hq] at hB5
    refine norm_rem hd ?_
    refine norm_i64_to (((i - 1 : Nat) : Int) - 1) (by omega) (by omega) ?_
    refine ⟨(i - 1, (r * 4294967296 + x) % d), rfl, ⟨hE3.own hgr5 hg, by show i - 1 ≤ n; omega, Nat.mod_lt _ hd, (r * 4294967296 + x) / d :: p, by simp [hp]; omega, limbs_cons.2 ⟨hq, hLp⟩, ?_, ?_⟩, by show i - 1 < i; omega⟩
    · show Blk w5 g _ (cells (a.take (i - 1) ++ _) ++ sp)
      rw [cells_append]; simpa [cells] using hB5
    · show val (a.drop (i - 1)) = val ((r * 4294967296 + x) / d :: p) * d + _
      rw [hdv, val, ← he]; omega
  · have : i = 0 := by omega
    subst this
    rw [List.take_zero, List.nil_append] at hB3
    rw [List.drop_zero] at hv
    have hs : SN w3 (some ⟨g, 0, none⟩) n c1 p := by
      have := Sl.own (sz := 1) (n := n) (c := c1) hB3 hown2.sl.le hown2.sl.cap (by simp [cells]; omega)
      rwa [Nat.mul_one, List.take_left' (by rw [cells_length]; omega)] at this
    refine call (fin p r w3 hE3 hr (by omega) hLp hs hv) ?_
    rintro v w4 ⟨A', c', rfl, hs', rfl, rfl, e⟩
    exact ⟨_, c', by rw [← e], hs', Fresh.own hg hB3, hE3⟩

/-- Doubles in place, and lets a bit in; k is what falls out at the top. -/
theorem shift_fn (g n c b : Nat) (x : List Nat) (w : World) (hB : Blk w g 35 (cells x)) (hx : x.length = n) (hn : n ≤ 1000000) (hLx : Limbs x) (hb : b < 2) :
    Fn Try.prog 45 [.slice (some ⟨g, 0, none⟩) n c, .int .u32 b] w (fun _ w' => w.grownBy w' (some g) ∧ ∃ z k, Blk w' g 35 (cells z) ∧ z.length = n ∧ Limbs z ∧ k < 2 ∧ val z + k * 4294967296 ^ n = 2 * val x + b) := by
  refine fn_of_exec (c := c45) gx_ok Try.func45 rfl rfl rfl ?_
  refine loop gx_ok [8, 1] (fun s : Nat × Nat => [.int .i64 s.1, .int .u32 s.2]) (fun s w1 => w.grownBy w1 (some g) ∧ s.1 ≤ n ∧ s.2 < 2 ∧ ∃ p, p.length = s.1 ∧ Limbs p ∧ Blk w1 g 35 (cells (p ++ x.drop s.1)) ∧ val p + s.2 * 4294967296 ^ s.1 = 2 * val (x.take s.1) + b)
    (fun s _ => n - s.1) (0, b) rfl ⟨World.grownBy.refl _ _, Nat.zero_le _, hb, [], rfl, limbs_nil, by simpa using hB, by simp [val]⟩ ?_
  rintro ⟨i, k⟩ w1 ⟨hgr, hi, hk, p, hp, hLp, hB1, hv⟩
  dsimp only at hi hk hp hB1 hv ⊢
  refine wif_d (fun h2 => ?_) (fun h2 => ?_)
  · have hxi : x[i]? = some x[i] := List.getElem?_eq_getElem (by omega)
    have hcx : x.drop i = x[i] :: x.drop (i + 1) := List.drop_eq_getElem_cons (by omega)
    have hxl := hLx.get hxi
    rw [hcx] at hB1
    refine index (by omega) ?_
    refine load_blk hB1 (cells_get' (get_mid p _ _ hp)) ?_
    generalize hy : x[i] = y at *
    refine norm_shr 31 2147483648 (by decide) rfl rfl ?_
    refine index (by omega) ?_
    refine load_blk hB1 (cells_get' (get_mid p _ _ hp)) ?_
    refine normIf (m := ((y % 2147483648 * 2 : Nat) : Int)) (by decide) ?_ ?_
    · rw [show ((y : Int) * 2 ^ (min (1 : Int).toNat IntKind.u32.bits)) = ((y * 2 : Nat) : Int) by rw [show (2 : Int) ^ (min (1 : Int).toNat IntKind.u32.bits) = 2 by rfl]; omega, wrap_u32_nat]; omega
    refine norm_or32 (s := y % 2147483648 * 2 + k) (or_add (y % 2147483648) k 1 (by omega)) (by omega) (by omega) ?_
    refine index (by omega) ?_
    refine store_blk hB1 (by simp [cells]; omega) ?_
    intro w2 hgr2 hB2
    rw [← cells_set, set_mid' _ _ _ _ hp] at hB2
    refine norm_i64_to ((i + 1 : Nat) : Int) (by omega) (by omega) ?_
    refine ⟨(i + 1, y / 2147483648), rfl, ⟨grown_trans hgr hgr2, by show i + 1 ≤ n; omega, by show y / 2147483648 < 2; omega, p ++ [y % 2147483648 * 2 + k], by simp [hp], limbs_append.2 ⟨hLp, limbs_cons.2 ⟨by omega, limbs_nil⟩⟩, hB2, ?_⟩, by show n - (i + 1) < n - i; omega⟩
    show val (p ++ [y % 2147483648 * 2 + k]) + y / 2147483648 * 4294967296 ^ (i + 1) = 2 * val (x.take (i + 1)) + b
    rw [val_snoc, hp, val_take_succ hxi, Nat.pow_succ]
    have hd : y % 2147483648 + 2147483648 * (y / 2147483648) = y := Nat.mod_add_div y 2147483648
    generalize 4294967296 ^ i = P at *
    generalize y % 2147483648 = r at *
    generalize y / 2147483648 = q at *
    grind
  · have : i = n := by omega
    subst this
    rw [List.drop_of_length_le (by omega), List.append_nil] at hB1
    rw [List.take_of_length_le (by omega)] at hv
    exact ⟨hgr, p, k, hB1, hp, hLp, hk, hv⟩

theorem less_fn (A B : Option Addr) (n c m d : Nat) (a b : List Nat) (w : World) (ha : SN w A n c a) (hb : SN w B m d b) (hLa : Limbs a) (hLb : Limbs b) (hmn : m ≤ n) (hn : n ≤ 1000000) :
    Fn Try.prog 46 [.slice A n c, .slice B m d] w (fun v w' => v = .bool (decide (val a < val b)) ∧ w' = w) := by
  have hla := ha.length
  have hlb := hb.length
  refine fn_of_exec (c := { c46 with cuts := [6] }) gx_ok Try.func46 rfl rfl rfl ?_
  refine loop gx_ok [11] (fun i : Nat => [.int .i64 i]) (fun i w1 => w1 = w ∧ i ≤ n ∧ val (a.drop (n - i)) = val (b.drop (n - i))) (fun i _ => n - i) 0 rfl ⟨rfl, Nat.zero_le _, by
    rw [List.drop_of_length_le (by omega), List.drop_of_length_le (by omega)]⟩ ?_
  rintro i w1 ⟨rfl, hi, hv⟩
  refine wif_d (fun h2 => ?_) (fun h2 => ?_)
  · refine norm_i64_to ((n - 1 : Nat) : Int) (by omega) (by omega) ?_
    refine norm_i64_to ((n - 1 - i : Nat) : Int) (by omega) (by omega) ?_
    refine index_sl ha (by omega) (fun ad z hA hu hcell => ?_)
    obtain ⟨x, hx, rfl⟩ := cells_get hu
    refine load hcell ?_
    refine cut gx_ok [8] (fun y : Nat => [.int .u32 y]) (fun y w2 => w2 = w1 ∧ y = b[n - 1 - i]?.getD 0) ?_ ?_
    · refine wif_d (fun h3 => ?_) (fun h3 => ?_)
      · refine index_sl hb (by omega) (fun ad u hA hu hcell => ?_)
        obtain ⟨y, hy, rfl⟩ := cells_get hu
        refine load hcell ?_
        exact ⟨y, rfl, rfl, by rw [hy]; rfl⟩
      · exact ⟨0, rfl, rfl, by rw [List.getElem?_eq_none (by omega)]; rfl⟩
    rintro y w2 ⟨rfl, hy⟩
    have ka := val_drop a (n - 1 - i)
    have kb := val_drop b (n - 1 - i)
    rw [hx, show n - 1 - i + 1 = n - i by omega, Option.getD_some] at ka
    rw [← hy, show n - 1 - i + 1 = n - i by omega] at kb
    refine wif_ne (fun h3 => ?_) (fun h3 => ?_)
    · refine And.intro ?_ rfl
      congr 1
      rcases Nat.lt_or_ge x y with h | h
      · rw [decide_eq_true (by omega : (x : Int) < y), decide_eq_true (lt_of_drop hLa (n - 1 - i) (by omega))]
      · rw [decide_eq_false (by omega : ¬ (x : Int) < y), decide_eq_false (by have := lt_of_drop hLb (b := a) (n - 1 - i) (by omega); omega)]
    · refine norm_i64_to ((i + 1 : Nat) : Int) (by omega) (by omega) ?_
      refine ⟨i + 1, rfl, ⟨rfl, by omega, ?_⟩, by show n - (i + 1) < n - i; omega⟩
      rw [show n - (i + 1) = n - 1 - i by omega, ka, kb, hv, show x = y by omega]
  · refine And.intro ?_ rfl
    have : i = n := by omega
    subst this
    rw [Nat.sub_self, List.drop_zero, List.drop_zero] at hv
    rw [hv, decide_eq_false (by omega)]
end Go.Proofs.Ytpalpikenkkhlaa
