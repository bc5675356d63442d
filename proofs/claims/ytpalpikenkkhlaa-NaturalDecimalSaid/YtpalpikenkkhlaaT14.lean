/-
  Uint64 of both: the contracts.
  Conditions: none.
-/
import Derived.Test.YtpalpikenkkhlaaT13
namespace Go.Proofs.Ytpalpikenkkhlaa
open Go Go.RowKit

def u64B (l : List Nat) : Bool := decide (Vd l) && decide (l.length ≤ 2)
def u64V (l : List Nat) : Nat := if u64B l = true then val l else 0

theorem u64_no {l : List Nat} (h : ¬ (Vd l ∧ l.length ≤ 2)) : u64V l = 0 ∧ u64B l = false := by
  have hb : u64B l = false := by unfold u64B; rw [Bool.eq_false_iff]; simpa using h
  exact ⟨by unfold u64V; rw [hb]; rfl, hb⟩
theorem u64_yes {l : List Nat} (h1 : Vd l) (h2 : l.length ≤ 2) : u64V l = val l ∧ u64B l = true := by
  have hb : u64B l = true := by unfold u64B; simp [h1, h2]
  exact ⟨by unfold u64V; rw [hb]; rfl, hb⟩

theorem norm_shl64 {x n d : Nat} {y : Int} {K : Int → Prop} (hy : 0 ≤ y) (hn : min y.toNat 64 = n) (hd : 2 ^ n = d) (hx : x * d ≤ 18446744073709551615) (k : K ((x * d : Nat) : Int)) : NormIf (0 ≤ y) (IntKind.u64.wrap ((x : Int) * 2 ^ (min y.toNat IntKind.u64.bits))) K := by
  refine normIf hy ?_ k
  rw [show min y.toNat IntKind.u64.bits = n from hn]
  have e : (x : Int) * 2 ^ n = ((x * d : Nat) : Int) := by rw [← hd]; norm_cast
  rw [e]
  exact IntWalk.u64_in _ (by omega)

theorem or_high {a x : Nat} (ha : a < 4294967296) : a ||| (x * 4294967296) = a + 4294967296 * x := by
  have := Nat.shiftLeft_add_eq_or_of_lt (b := a) (i := 32) (by omega) x
  rw [Nat.shiftLeft_eq, show (2 : Nat) ^ 32 = 4294967296 from rfl] at this
  rw [Nat.or_comm]
  omega

theorem uint64_fn (A : Option Addr) (n c : Nat) (l : List Nat) (w : World) (h : SN w A n c l) (hL : Limbs l) :
    Fn Try.prog 37 [.slice A n c] w (fun v w' => v = .tuple #[.int .u64 (u64V l), .bool (u64B l)] ∧ w' = w) := by
  have hl := h.length
  refine fn_of_exec (c := c37) gx_ok Try.func37 rfl rfl rfl ?_
  refine call (valid_fn _ _ _ _ _ h) ?_
  rintro v w' ⟨rfl, rfl⟩
  refine wif_not (wif_d (fun hv => ?_) (fun hv => ?_))
  · refine wif_d (fun h2 => ?_) (fun h2 => ?_)
    · obtain ⟨e1, e2⟩ := u64_no (l := l) (fun k => by omega)
      rw [e1, e2]; exact And.intro rfl rfl
    · obtain ⟨e1, e2⟩ := u64_yes hv (by omega)
      rw [e1, e2]
      refine loop gx_ok [16, 4] (fun s : Nat => [.int .i64 s, .int .u64 (val (l.take s) : Nat)]) (fun s w2 => w2 = w' ∧ s ≤ n) (fun s _ => n - s) 0 rfl ⟨rfl, Nat.zero_le _⟩ ?_
      rintro k w2 ⟨rfl, hk⟩
      dsimp only
      refine wif_d (fun h3 => ?_) (fun h3 => ?_)
      · refine index_sl h (by omega) (fun ad u hA hu hcell => ?_)
        obtain ⟨x, hx, rfl⟩ := cells_get hu
        have hxl := hL.get hx
        refine load hcell ?_
        refine norm_u64 (by omega) ?_
        have hsucc := val_take_succ hx
        have hlt := val_take_lt hL k
        rcases (by omega : k = 0 ∨ k = 1) with rfl | rfl
        · refine norm_i64_to 0 (by omega) (by omega) ?_
          refine norm_shl64 (n := 0) (d := 1) (by decide) (by decide) (by decide) (by omega) ?_
          rw [Nat.mul_one]
          have e0 : val (l.take 0) = 0 := by simp [val]
          rw [e0]
          refine norm_or64 (s := x) (Nat.zero_or x) (by omega) (by omega) ?_
          refine norm_i64_to ((1 : Nat) : Int) (by omega) (by omega) ?_
          have hs1 : val (l.take 1) = x := by have h9 := hsucc; rw [e0] at h9; simpa using h9
          refine ⟨1, ?_, ⟨rfl, by omega⟩, by show n - 1 < n - 0; omega⟩
          dsimp only
          rw [hs1]
          rfl
        · refine norm_i64_to 32 (by omega) (by omega) ?_
          refine norm_shl64 (n := 32) (d := 4294967296) (by decide) (by decide) (by decide) (by omega) ?_
          refine norm_or64 (or_high (by omega)) (by omega) (by omega) ?_
          refine norm_i64_to ((2 : Nat) : Int) (by omega) (by omega) ?_
          have hs2 : val (l.take 2) = val (l.take 1) + 4294967296 * x := by have h9 := hsucc; simpa using h9
          refine ⟨2, ?_, ⟨rfl, by omega⟩, by show n - 2 < n - 1; omega⟩
          dsimp only
          rw [hs2]
          rfl
      · rw [List.take_of_length_le (by omega)]
        exact And.intro rfl rfl
  · obtain ⟨e1, e2⟩ := u64_no (l := l) (fun k => hv k.1)
    rw [e1, e2]; exact And.intro rfl rfl

theorem ruint64_fn (A : Option Addr) (n c : Nat) (l : List Nat) (w : World) (h : SN w A n c l) (hL : Limbs l) :
    Fn Try.prog 38 [.slice A n c] w (fun v w' => v = .tuple #[.int .u64 (u64V l), .bool (u64B l)] ∧ w' = w) := by
  have hl := h.length
  refine fn_of_exec (c := c38) gx_ok Try.func38 rfl rfl rfl ?_
  refine call (rvalid_fn _ _ _ _ _ h) ?_
  rintro v w' ⟨rfl, rfl⟩
  refine wif_not (wif_d (fun hv => ?_) (fun hv => ?_))
  · refine wif_d (fun h2 => ?_) (fun h2 => ?_)
    · obtain ⟨e1, e2⟩ := u64_no (l := l) (fun k => by omega)
      rw [e1, e2]; exact And.intro rfl rfl
    · obtain ⟨e1, e2⟩ := u64_yes hv (by omega)
      rw [e1, e2]
      refine call (rlimb_fn _ _ _ _ 0 _ h hL) ?_
      rintro v w2 ⟨rfl, rfl⟩
      refine call (rlimb_fn _ _ _ _ 1 _ h hL) ?_
      rintro v w3 ⟨rfl, rfl⟩
      have h0 := limbs_getD hL 0
      have h1 := limbs_getD hL 1
      have hs : val l = l[0]?.getD 0 + 4294967296 * l[1]?.getD 0 := by
        have e : val l = val (l.take 2) := by rw [List.take_of_length_le (by omega)]
        rw [e, val_take_succ', val_take_succ']; simp [val]
      refine norm_u64_to ((4294967296 * l[1]?.getD 0 : Nat) : Int) (by omega) (by omega) ?_
      refine norm_u64_to ((val l : Nat) : Int) (by omega) (by omega) ?_
      exact And.intro rfl rfl
  · obtain ⟨e1, e2⟩ := u64_no (l := l) (fun k => hv k.1)
    rw [e1, e2]; exact And.intro rfl rfl

theorem u64_of {a : Int} (h : (Lit.int .u64 a).wf = true) : ∃ N : Nat, a = (N : Int) ∧ N < 18446744073709551616 := by
  simp [Lit.wf, IntKind.min, IntKind.max, IntKind.signed, IntKind.bits] at h
  exact ⟨a.toNat, by omega, by omega⟩
theorem u32_of {a : Int} (h : (Lit.int .u32 a).wf = true) : ∃ N : Nat, a = (N : Int) ∧ N < 4294967296 := by
  simp [Lit.wf, IntKind.min, IntKind.max, IntKind.signed, IntKind.bits] at h
  exact ⟨a.toNat, by omega, by omega⟩
theorem u8_of {a : Int} (h : (Lit.int .u8 a).wf = true) : ∃ N : Nat, a = (N : Int) ∧ N < 256 := by
  simp [Lit.wf, IntKind.min, IntKind.max, IntKind.signed, IntKind.bits] at h
  exact ⟨a.toNat, by omega, by omega⟩

theorem dec_int (n m : Nat) : (decide (n ≤ m) == decide ((n : Int) ≤ (m : Int))) = true := by
  by_cases h : n ≤ m
  · rw [decide_eq_true h, decide_eq_true (by omega)]; rfl
  · rw [decide_eq_false h, decide_eq_false (by omega)]; rfl

theorem uint64N {A : Option Addr} {c x : Nat} {w : World} (i : Nat) (ha : NV w A c x) (hx : Lt i x) (hi : i ≤ 1024) :
    Fn Try.prog 37 [.slice A (toL x).length c] w (fun v w' => v = .tuple #[.int .u64 (if (toL x).length ≤ 2 then x else 0 : Nat), .bool (decide ((toL x).length ≤ 2))] ∧ Ext w w') := by
  refine (uint64_fn _ _ _ _ _ ha (limbs_toL _)).mono fun v w' hr => ⟨hr.1.trans ?_, hr.2 ▸ Ext.refl _⟩
  have hv := lt_vd hx hi
  by_cases h : (toL x).length ≤ 2
  · obtain ⟨e1, e2⟩ := u64_yes hv h
    rw [e1, e2, val_toL, if_pos h, decide_eq_true h]
  · obtain ⟨e1, e2⟩ := u64_no (l := toL x) (fun k => h k.2)
    rw [e1, e2, if_neg h, decide_eq_false h]
end Go.Proofs.Ytpalpikenkkhlaa
