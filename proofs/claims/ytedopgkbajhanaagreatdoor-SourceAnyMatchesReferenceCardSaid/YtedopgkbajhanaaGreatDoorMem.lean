/-
  Memory as these proofs speak of it: slices that read as lists, blocks that are known whole, worlds that only grew; and one lemma for each small proposition of the engine.
  Conditions: none.
-/
import Derived.Test.YtedopgkbajhanaaGreatDoorEng
namespace Go.Proofs.YtedopgkbajhanaaGreatDoor
open Go Go.RowKit

/-! ### Worlds that grew -/
def Ext (w w' : World) : Prop := w.grownBy w' none

theorem Ext.refl (w : World) : Ext w w := ⟨rfl, rfl, rfl, Nat.le_refl _, fun _ _ _ => rfl⟩
theorem Ext.trans {a b c : World} (h : Ext a b) (k : Ext b c) : Ext a c :=
  ⟨k.os.trans h.os, k.tape.trans h.tape, k.output.trans h.output, Nat.le_trans h.size k.size, fun i hi hn => (k.block i (Nat.lt_of_lt_of_le hi h.size) hn).trans (h.block i hi hn)⟩
theorem Ext.drew (w : World) : Ext w w.drew := ⟨rfl, rfl, rfl, Nat.le_refl _, fun _ _ _ => rfl⟩
theorem Ext.alloc (w : World) (o : Obj) : Ext w (w.alloc o) := World.grownBy_alloc w o none
/-- A write into a block that the older world did not have. -/
theorem Ext.own {w0 w w1 : World} {g : Nat} (h : Ext w0 w) (k : w.grownBy w1 (some g)) (hg : w0.heap.size ≤ g) : Ext w0 w1 :=
  ⟨k.os.trans h.os, k.tape.trans h.tape, k.output.trans h.output, Nat.le_trans h.size k.size, fun i hi hn => (k.block i (Nat.lt_of_lt_of_le hi h.size) (fun e => by cases e; omega)).trans (h.block i hi hn)⟩
theorem Ext.cell {w w' : World} (h : Ext w w') {a : Addr} {v : Value} (hc : w.cell? a = some v) : w'.cell? a = some v := World.grownBy.cell h hc (by simp)
theorem Ext.below {w w' : World} (h : Ext w w') : Below w.heap.size w w' := ⟨h.os, h.tape, h.output, h.size, fun k hk => h.block k hk (by simp)⟩
theorem Ext.grown {w w' : World} (h : Ext w w') (row : Option Nat) : w.grownBy w' row := ⟨h.os, h.tape, h.output, h.size, fun k hk _ => h.block k hk (by simp)⟩
theorem grown_trans {a b c : World} {row : Option Nat} (h : a.grownBy b row) (k : b.grownBy c row) : a.grownBy c row :=
  ⟨k.os.trans h.os, k.tape.trans h.tape, k.output.trans h.output, Nat.le_trans h.size k.size, fun i hi hn => (k.block i (Nat.lt_of_lt_of_le hi h.size) hn).trans (h.block i hi hn)⟩

/-! ### A block known whole -/
def Blk (w : World) (g : Nat) (t : TypeId) (cs : List Value) : Prop := w.heap[g]? = some (.cells cs.toArray t (0, 0))

theorem Blk.lt {w : World} {g t : Nat} {cs : List Value} (h : Blk w g t cs) : g < w.heap.size := (Array.getElem?_eq_some_iff.1 h).1
theorem Blk.ext {w w' : World} {g t : Nat} {cs : List Value} (h : Blk w g t cs) (k : Ext w w') : Blk w' g t cs := (k.block g h.lt (by simp)).trans h
theorem Blk.other {w w' : World} {g t g' : Nat} {cs : List Value} (h : Blk w g t cs) (k : w.grownBy w' (some g')) (hn : g ≠ g') : Blk w' g t cs := (k.block g h.lt (by simp; exact hn)).trans h
theorem add_own (g j : Nat) : (⟨g, 0, none⟩ : Addr).add j = ⟨g, j, none⟩ := by unfold Addr.add; split <;> simp_all
theorem Blk.cell {w : World} {g t : Nat} {cs : List Value} (h : Blk w g t cs) (j : Nat) : w.cell? ((⟨g, 0, none⟩ : Addr).add j) = cs[j]? := by
  rw [add_own, cell_of_row w g j _ t _ h]; simp
theorem Blk.frozen {w : World} {g t : Nat} {cs : List Value} (h : Blk w g t cs) (j : Nat) : w.frozen? ((⟨g, 0, none⟩ : Addr).add j) = false := by
  rw [add_own]; exact frozen_of_row w g j _ t h
theorem Blk.new (w : World) (t : TypeId) (cs : List Value) : Blk (w.alloc (.cells cs.toArray t)) w.heap.size t cs := heap_alloc_new w _

theorem grown_setCell (w : World) (a : Addr) (v : Value) : w.grownBy (w.setCell a v) (some a.block) :=
  ⟨rfl, rfl, rfl, by simp, fun k _ hn => Below.heap_setCell w a v k (fun e => hn (by rw [e]))⟩
theorem Blk.set {w : World} {g t : Nat} {cs : List Value} (h : Blk w g t cs) (j : Nat) (v : Value) : Blk (w.setCell ((⟨g, 0, none⟩ : Addr).add j) v) g t (cs.set j v) := by
  rw [add_own]
  have := heap_setCell_same w g j cs.toArray t v h
  unfold Blk
  rw [this]
  simp

/-! ### A slice that reads as a list -/
structure Sl (w : World) (sz : Nat) (A : Option Addr) (n c : Nat) (cs : List Value) : Prop where
  len : cs.length = n * sz
  le : n ≤ c
  cap : c ≤ maxLen
  at_ : 0 < n → ∃ ad, A = some ad ∧ ∀ j u, cs[j]? = some u → w.cell? (ad.add j) = some u

theorem Sl.ext {w w' : World} {sz n c : Nat} {A : Option Addr} {cs : List Value} (h : Sl w sz A n c cs) (k : Ext w w') : Sl w' sz A n c cs :=
  ⟨h.len, h.le, h.cap, fun hn => let ⟨ad, e, hc⟩ := h.at_ hn; ⟨ad, e, fun j u hu => k.cell (hc j u hu)⟩⟩
theorem Sl.nil (w : World) (sz : Nat) : Sl w sz none 0 0 [] := ⟨by simp, Nat.le_refl _, by simp [maxLen], fun h => absurd h (by omega)⟩
theorem Sl.empty (w : World) (sz : Nat) (A : Option Addr) (c : Nat) (hc : c ≤ maxLen) : Sl w sz A 0 c [] := ⟨by simp, Nat.zero_le _, hc, fun h => absurd h (by omega)⟩
theorem Sl.take {w : World} {sz n c : Nat} {A : Option Addr} {cs : List Value} (h : Sl w sz A n c cs) {m : Nat} (hm : m ≤ n) : Sl w sz A m c (cs.take (m * sz)) :=
  ⟨by rw [List.length_take, h.len]; exact Nat.min_eq_left (Nat.mul_le_mul_right _ hm), Nat.le_trans hm h.le, h.cap, fun hn => let ⟨ad, e, hc⟩ := h.at_ (by omega); ⟨ad, e, fun j u hu => hc j u (by
    rw [List.getElem?_take] at hu; split at hu <;> simp_all)⟩⟩
theorem Sl.own {w : World} {g t sz n c : Nat} {cs : List Value} (h : Blk w g t cs) (hn : n ≤ c) (hc : c ≤ maxLen) (hl : n * sz ≤ cs.length) : Sl w sz (some ⟨g, 0, none⟩) n c (cs.take (n * sz)) :=
  ⟨by rw [List.length_take]; exact Nat.min_eq_left hl, hn, hc, fun _ => ⟨_, rfl, fun j u hu => by
    rw [h.cell]; rw [List.getElem?_take] at hu; split at hu <;> simp_all⟩⟩
theorem Sl.own' {w : World} {g t n : Nat} {cs : List Value} (h : Blk w g t cs) (hl : cs.length = n) (hn : n ≤ maxLen) : Sl w 1 (some ⟨g, 0, none⟩) n n cs := by
  have := Sl.own (sz := 1) h (Nat.le_refl n) hn (by omega)
  rwa [List.take_of_length_le (by omega)] at this

/-- The slice lies in memory that the world w did not have, and w' has. -/
def Fresh (w w' : World) (A : Option Addr) : Prop := ∀ ad, A = some ad → w.heap.size ≤ ad.block ∧ ad.block < w'.heap.size
theorem Fresh.own {w w' : World} {g t : Nat} {cs : List Value} (h : w.heap.size ≤ g) (hB : Blk w' g t cs) : Fresh w w' (some ⟨g, 0, none⟩) := fun ad e => by cases e; exact ⟨h, hB.lt⟩
theorem Fresh.none (w w' : World) : Fresh w w' none := fun _ e => by cases e
theorem Fresh.ext {w w' w2 : World} {A : Option Addr} (h : Fresh w w' A) (k : Ext w' w2) : Fresh w w2 A := fun ad e => ⟨(h ad e).1, Nat.lt_of_lt_of_le (h ad e).2 k.size⟩

/-! ### The small propositions, one by one -/
theorem wif {b : Bool} {p q : Prop} (hp : b = true → p) (hq : b = false → q) : WIf b p q := by unfold WIf; exact ⟨hp, hq⟩
theorem wif_d {c p q : Prop} [Decidable c] (hp : c → p) (hq : ¬ c → q) : WIf (decide c) p q := wif (fun h => hp (of_decide_eq_true h)) (fun h => hq (of_decide_eq_false h))
theorem wif_t {b : Bool} {p q : Prop} (hb : b = true) (hp : p) : WIf b p q := wif (fun _ => hp) (fun h => by rw [hb] at h; cases h)
theorem wif_f {b : Bool} {p q : Prop} (hb : b = false) (hq : q) : WIf b p q := wif (fun h => by rw [hb] at h; cases h) (fun _ => hq)
theorem wif_dt {c p q : Prop} [Decidable c] (hc : c) (hp : p) : WIf (decide c) p q := wif_t (decide_eq_true hc) hp
theorem wif_df {c p q : Prop} [Decidable c] (hc : ¬ c) (hq : q) : WIf (decide c) p q := wif_f (decide_eq_false hc) hq
theorem wif_eq {x y : Int} {p q : Prop} (hp : x = y → p) (hq : x ≠ y → q) : WIf (x == y) p q := wif (fun h => hp (by simpa using h)) (fun h => hq (by simpa using h))
theorem wif_eqt {x y : Int} {p q : Prop} (h : x = y) (hp : p) : WIf (x == y) p q := wif_t (by simpa using h) hp
theorem wif_eqf {x y : Int} {p q : Prop} (h : x ≠ y) (hq : q) : WIf (x == y) p q := wif_f (by simpa using h) hq
theorem wif_ne {x y : Int} {p q : Prop} (hp : x ≠ y → p) (hq : x = y → q) : WIf (x != y) p q := wif (fun h => hp (by simpa using h)) (fun h => hq (by simpa using h))
theorem wif_net {x y : Int} {p q : Prop} (h : x ≠ y) (hp : p) : WIf (x != y) p q := wif_t (by simpa using h) hp
theorem wif_nef {x y : Int} {p q : Prop} (h : x = y) (hq : q) : WIf (x != y) p q := wif_f (by simpa using h) hq
theorem wif_not {b : Bool} {p q : Prop} (h : WIf b q p) : WIf (!b) p q := by unfold WIf at *; cases b <;> simp_all

theorem norm {n m : Int} {K : Int → Prop} (h : n = m) (k : K m) : Norm n K := by unfold Norm; rw [h]; exact k
theorem norm_i64 {n : Int} {K : Int → Prop} (h : -9223372036854775808 ≤ n ∧ n ≤ 9223372036854775807) (k : K n) : Norm (IntKind.i64.wrap n) K := norm (IntWalk.i64_in n h) k
theorem norm_u64 {n : Int} {K : Int → Prop} (h : 0 ≤ n ∧ n ≤ 18446744073709551615) (k : K n) : Norm (IntKind.u64.wrap n) K := norm (IntWalk.u64_in n h) k
theorem norm_u32_in {n : Int} {K : Int → Prop} (h : 0 ≤ n ∧ n ≤ 4294967295) (k : K n) : Norm (IntKind.u32.wrap n) K := norm (IntWalk.u32_in n h) k
theorem norm_u8 {n : Int} {K : Int → Prop} (h : 0 ≤ n ∧ n ≤ 255) (k : K n) : Norm (IntKind.u8.wrap n) K := norm (IntWalk.u8_in n h) k
theorem norm_i32 {n : Int} {K : Int → Prop} (h : -2147483648 ≤ n ∧ n ≤ 2147483647) (k : K n) : Norm (IntKind.i32.wrap n) K := norm (IntWalk.i32_in n h) k
/-- The same, and the number gets the shape that is wanted. -/
theorem norm_i64_to {n : Int} {K : Int → Prop} (m : Int) (hm : n = m) (h : -9223372036854775808 ≤ m ∧ m ≤ 9223372036854775807) (k : K m) : Norm (IntKind.i64.wrap n) K := by subst hm; exact norm_i64 h k
theorem norm_u64_to {n : Int} {K : Int → Prop} (m : Int) (hm : n = m) (h : 0 ≤ m ∧ m ≤ 18446744073709551615) (k : K m) : Norm (IntKind.u64.wrap n) K := by subst hm; exact norm_u64 h k
theorem norm_u32_to {n : Int} {K : Int → Prop} (m : Int) (hm : n = m) (h : 0 ≤ m ∧ m ≤ 4294967295) (k : K m) : Norm (IntKind.u32.wrap n) K := by subst hm; exact norm_u32_in h k
theorem norm_u8_to {n : Int} {K : Int → Prop} (m : Int) (hm : n = m) (h : 0 ≤ m ∧ m ≤ 255) (k : K m) : Norm (IntKind.u8.wrap n) K := by subst hm; exact norm_u8 h k
theorem normIf {p : Prop} {n m : Int} {K : Int → Prop} (hp : p) (h : n = m) (k : K m) : NormIf p n K := by unfold NormIf; rw [h]; exact ⟨hp, k⟩
theorem need {p : Prop} {v : Value} {K : Value → Prop} (hp : p) (k : K v) : Need p v K := by unfold Need; exact ⟨hp, k⟩
theorem or_add (r x i : Nat) (h : x < 2 ^ i) : r * 2 ^ i ||| x = r * 2 ^ i + x := by
  have := Nat.shiftLeft_add_eq_or_of_lt h r
  rw [Nat.shiftLeft_eq] at this
  exact this.symm
theorem norm_or64 {a b s : Nat} {K : Int → Prop} (hs : a ||| b = s) (ha : a < 18446744073709551616) (hb : b < 18446744073709551616) (k : K (s : Int)) : Norm (IntKind.u64.wrap ((BitVec.ofInt IntKind.u64.bits (a : Int) ||| BitVec.ofInt IntKind.u64.bits (b : Int)).toNat : Int)) K := by
  have hlt : a ||| b < 2 ^ 64 := Nat.or_lt_two_pow (by omega) (by omega)
  refine norm ?_ k
  rw [BitVec.toNat_or, BitVec.ofInt_natCast, BitVec.ofInt_natCast, BitVec.toNat_ofNat, BitVec.toNat_ofNat]
  simp only [IntKind.bits]
  rw [Nat.mod_eq_of_lt (by omega), Nat.mod_eq_of_lt (by omega), hs]
  rw [hs] at hlt
  exact IntWalk.u64_in _ (by omega)
theorem norm_or32 {a b s : Nat} {K : Int → Prop} (hs : a ||| b = s) (ha : a < 4294967296) (hb : b < 4294967296) (k : K (s : Int)) : Norm (IntKind.u32.wrap ((BitVec.ofInt IntKind.u32.bits (a : Int) ||| BitVec.ofInt IntKind.u32.bits (b : Int)).toNat : Int)) K := by
  have hlt : a ||| b < 2 ^ 32 := Nat.or_lt_two_pow (by omega) (by omega)
  refine norm ?_ k
  rw [BitVec.toNat_or, BitVec.ofInt_natCast, BitVec.ofInt_natCast, BitVec.toNat_ofNat, BitVec.toNat_ofNat]
  simp only [IntKind.bits]
  rw [Nat.mod_eq_of_lt (by omega), Nat.mod_eq_of_lt (by omega), hs]
  rw [hs] at hlt
  exact IntWalk.u32_in _ (by omega)
theorem norm_and32 {a b s : Nat} {K : Int → Prop} (hs : a &&& b = s) (ha : a < 4294967296) (hb : b < 4294967296) (k : K (s : Int)) : Norm (IntKind.u32.wrap ((BitVec.ofInt IntKind.u32.bits (a : Int) &&& BitVec.ofInt IntKind.u32.bits (b : Int)).toNat : Int)) K := by
  have hlt : a &&& b < 2 ^ 32 := Nat.and_lt_two_pow _ (by omega)
  refine norm ?_ k
  rw [BitVec.toNat_and, BitVec.ofInt_natCast, BitVec.ofInt_natCast, BitVec.toNat_ofNat, BitVec.toNat_ofNat]
  simp only [IntKind.bits]
  rw [Nat.mod_eq_of_lt (by omega), Nat.mod_eq_of_lt (by omega), hs]
  rw [hs] at hlt
  exact IntWalk.u32_in _ (by omega)
theorem fdiv_pow (x : Nat) (n : Nat) : (x : Int).fdiv (2 ^ n) = ((x / 2 ^ n : Nat) : Int) := by
  rw [Int.fdiv_eq_ediv_of_nonneg _ (Int.le_of_lt (Int.pow_pos (by decide)))]
  norm_cast
theorem wrap_u32_nat (n : Nat) : IntKind.u32.wrap (n : Int) = ((n % 4294967296 : Nat) : Int) := by rw [IntKind.wrap_u32]; omega
theorem wrap_u8_nat (n : Nat) : IntKind.u8.wrap (n : Int) = ((n % 256 : Nat) : Int) := by rw [IntKind.wrap_u8]; omega
theorem wrap_u64_nat (n : Nat) : IntKind.u64.wrap (n : Int) = ((n % 18446744073709551616 : Nat) : Int) := by
  simp only [IntKind.wrap, IntKind.bits, IntKind.signed]; simp
theorem tmod_nat (a b : Nat) : (a : Int).tmod (b : Int) = ((a % b : Nat) : Int) := by rw [Int.tmod_eq_emod_of_nonneg (by omega)]; norm_cast
theorem tdiv_nat (a b : Nat) : (a : Int).tdiv (b : Int) = ((a / b : Nat) : Int) := by rw [Int.tdiv_eq_ediv_of_nonneg (by omega)]; norm_cast
theorem norm_shr {x : Nat} {k : IntKind} {y : Int} {K : Int → Prop} (n d : Nat) (hy : 0 ≤ y) (hn : min y.toNat k.bits = n) (hd : 2 ^ n = d) (h : K ((x / d : Nat) : Int)) : NormIf (0 ≤ y) ((x : Int).fdiv (2 ^ (min y.toNat k.bits))) K := by
  subst hd; rw [hn]; exact (by unfold NormIf; exact ⟨hy, by rw [fdiv_pow]; exact h⟩)
theorem norm_u32 {n : Nat} {K : Int → Prop} (k : K ((n % 4294967296 : Nat) : Int)) : Norm (IntKind.u32.wrap (n : Int)) K := norm (wrap_u32_nat n) k
theorem norm_rem {x : Nat} {d : Nat} {K : Int → Prop} (hd : 0 < d) (k : K ((x % d : Nat) : Int)) : NormIf ((d : Int) ≠ 0) ((x : Int).tmod d) K := normIf (by omega) (tmod_nat x d) k
theorem norm_quo64 {x : Nat} {d : Nat} {K : Int → Prop} (hd : 0 < d) (hx : x ≤ 18446744073709551615) (k : K ((x / d : Nat) : Int)) : NormIf ((d : Int) ≠ 0) (IntKind.u64.wrap ((x : Int).tdiv d)) K := by
  refine normIf (by omega) ?_ k
  rw [tdiv_nat]
  have : x / d ≤ x := Nat.div_le_self x d
  generalize x / d = q at *
  exact IntWalk.u64_in _ (by omega)

theorem load {w : World} {p : Addr} {v : Value} {K : Value → Prop} (h : w.cell? p = some v) (k : K v) : Load w p K := by unfold Load; exact ⟨v, h, k⟩
theorem load_blk {w : World} {g t : Nat} {cs : List Value} {j : Nat} {v : Value} {K : Value → Prop} (h : Blk w g t cs) (hv : cs[j]? = some v) (k : K v) : Load w ((⟨g, 0, none⟩ : Addr).add j) K := load (by rw [h.cell]; exact hv) k
theorem store_blk {w : World} {g t : Nat} {cs : List Value} {j : Nat} {v : Value} {K : World → Prop} (h : Blk w g t cs) (hj : j < cs.length) (k : ∀ w1, w.grownBy w1 (some g) → Blk w1 g t (cs.set j v) → K w1) : Store w ((⟨g, 0, none⟩ : Addr).add j) v K := by
  unfold Store
  refine ⟨⟨cs[j], by rw [h.cell]; simp [hj]⟩, h.frozen j, k _ ?_ (h.set j v)⟩
  have := grown_setCell w ((⟨g, 0, none⟩ : Addr).add j) v
  rw [add_own] at this ⊢; exact this
theorem index {a : Addr} {n j : Nat} {K : Addr → Prop} (hj : j < n) (k : K (a.add j)) : Index (some a) n (j : Int) 1 K := by
  unfold Index; exact ⟨a, rfl, by omega, by omega, by simpa using k⟩
theorem index_n {a : Addr} {n j sz : Nat} {K : Addr → Prop} (hj : j < n) (k : K (a.add (j * sz))) : Index (some a) n (j : Int) sz K := by
  unfold Index; exact ⟨a, rfl, by omega, by omega, by simpa using k⟩
theorem index_sl {w : World} {A : Option Addr} {n c j : Nat} {cs : List Value} {K : Addr → Prop} (h : Sl w 1 A n c cs) (hj : j < n) (k : ∀ ad u, A = some ad → cs[j]? = some u → w.cell? (ad.add j) = some u → K (ad.add j)) : Index A n (j : Int) 1 K := by
  obtain ⟨ad, rfl, hc⟩ := h.at_ (by omega)
  have hl : j < cs.length := by have := h.len; omega
  exact index hj (k ad cs[j] rfl (by simp [hl]) (hc j _ (by simp [hl])))
theorem sindex {s : ByteArray} {j : Nat} {K : Int → Prop} (hj : j < s.size) (k : K (s[j].toNat : Int)) : SIndex s (j : Int) K := by
  unfold SIndex; exact ⟨s[j], by omega, by simp [hj], k⟩
theorem qload {C : World → Prop} {p : Addr} {v : Value} {K : Value → Prop} (h : ∀ w, C w → w.cell? p = some v) (k : K v) : QLoad C p K := by unfold QLoad; exact ⟨v, h, k⟩
theorem qcall {P : Program} {f : FuncId} {l : List Value} {C : World → Prop} {K : Value → Prop} {v : Value} (h : ∀ w, C w → Fn P f l w (fun u w' => u = v ∧ C w')) (k : K v) : QCall P f l C K := by unfold QCall; exact ⟨v, h, k⟩

theorem draw {c : Cx} (hg : c.g.Ok) {id : Nat} {ops : List Oper} {S : Env} {w : World} {Q : Post} (hB : Region.lexB .any ops.toArray = true)
    (h : execQL c ops ops S (Ext w) (fun S => ∀ w', Ext w w' → Q .normal S w')) : AtDraw c id ops S w Q := draw_in hg (Ext w) (Ext.drew w) hB h

/-! ### Operations that make memory -/
theorem at_run {c : Cx} {o : Oper} {S : Env} {w w' : World} {K : Env → World → Prop} {Q : Post} {v : Value} (h : ∀ a, Fits c.N S a → (execOp a.eval o).run c.g.P w = .ok (.value v) w') (k : putK c S o.dst (.v v) (fun S => K S w')) : AtOp c o S w K Q := by
  unfold AtOp
  intro a hf
  exact wp_value (h a hf) (putK_sound (e := .v v) k hf)

theorem madeCells_one (z : Value) (n : Nat) : madeCells #[z] n = Array.replicate n z := by
  apply Array.ext
  · simp [madeCells]
  · intro i h1 h2; simp [madeCells, Nat.mod_one]

theorem at_make {c : Cx} (hg : c.g.Ok) {o : Oper} {S : Env} {w : World} {K : Env → World → Prop} {Q : Post} {t e : Nat} {x y : Operand} {n : Nat} {r re : TyRow} (ho : o.op = .makeSlice t x y) (hr : rowOf c.g.tys t = some r) (hd : r.d = .slice e) (hre : rowOf c.g.tys e = some re) (hz : re.z.cells = #[re.z])
    (hs : re.sz = 1) (hx : S.ev x = some (.int .i64 n)) (hy : S.ev y = some (.int .i64 n)) (hb : re.by_ * n ≤ 281474976710656) (hn : n ≤ maxLen)
    (k : ∀ w1, Ext w w1 → w1.heap.size = w.heap.size + 1 → Blk w1 w.heap.size e (List.replicate n re.z) → putK c S o.dst (.v (.slice (some ⟨w.heap.size, 0, none⟩) n n)) (fun S => K S w1)) : AtOp c o S w K Q := by
  obtain ⟨_, i, hi, hsz, hby, hiz⟩ := hg.row hre
  have hr' := (hg.row hr).1
  rw [hd] at hr'
  have hr1 := run_make (P := c.g.P) w t e i re.z hr' hi hiz .i64 .i64 n n (by omega) (by omega) (by rw [hby]; omega) (by unfold maxLen at hn; omega)
  rw [hz, hsz, hs, madeCells_one] at hr1
  refine at_run (w' := w.alloc (.cells (Array.replicate n re.z) e)) (v := .slice (some ⟨w.heap.size, 0, none⟩) n n) (fun a hf => ?_) (k _ (Ext.alloc w _) (by simp) ?_)
  · have e1 := hf.ev hx
    have e2 := hf.ev hy
    simp only [execOp, ho, e1, e2]
    simp at hr1 ⊢
    rw [hr1]; rfl
  · have := Blk.new w e (List.replicate n re.z)
    simpa using this

theorem at_slice_h {c : Cx} (hg : c.g.Ok) {o : Oper} {S : Env} {w : World} {K : Env → World → Prop} {Q : Post} {t e : Nat} {x y : Operand} {A : Option Addr} {n cp : Nat} {h : Nat} {r : TyRow} (ho : o.op = .slice t x none (some y) none) (hr : rowOf c.g.tys t = some r) (hd : r.d = .slice e) {re : TyRow} (hre : rowOf c.g.tys e = some re)
    (hx : S.ev x = some (.slice A n cp)) (hy : S.ev y = some (.int .i64 h)) (hh : h ≤ cp)
    (k : putK c S o.dst (.v (.slice A h cp)) (fun S => K S w)) : AtOp c o S w K Q := by
  have hr' := (hg.row hr).1
  rw [hd] at hr'
  refine at_run (w' := w) (fun a hf => ?_) k
  have e1 := hf.ev hx
  have e2 := hf.ev hy
  simp [execOp, ho, e1, e2, Instr.sliceAt, Instr.slice, run_underlying hr', Instr.sliceBounds, Instr.sliceBound, asIntOf, hh, run_sizeOf hg hre]
  intro _
  cases A <;> simp [Addr.add]

theorem at_slice_l {c : Cx} (hg : c.g.Ok) {o : Oper} {S : Env} {w : World} {K : Env → World → Prop} {Q : Post} {t e : Nat} {x y : Operand} {A : Option Addr} {n cp : Nat} {l : Nat} {r : TyRow} (ho : o.op = .slice t x (some y) none none) (hr : rowOf c.g.tys t = some r) (hd : r.d = .slice e) {re : TyRow} (hre : rowOf c.g.tys e = some re)
    (hx : S.ev x = some (.slice A n cp)) (hy : S.ev y = some (.int .i64 l)) (hl : l ≤ n)
    (k : putK c S o.dst (.v (.slice (if cp = l then A else A.map (·.add (l * re.sz))) (n - l) (cp - l))) (fun S => K S w)) : AtOp c o S w K Q := by
  have hr' := (hg.row hr).1
  rw [hd] at hr'
  refine at_run (w' := w) (fun a hf => ?_) k
  have e1 := hf.ev hx
  have e2 := hf.ev hy
  simp [execOp, ho, e1, e2, Instr.sliceAt, Instr.slice, run_underlying hr', Instr.sliceBounds, Instr.sliceBound, asIntOf, hl, run_sizeOf hg hre]

/-! ### Slices that the call itself makes and appends to -/
structure Own (w : World) (base e sz : Nat) (A : Option Addr) (n c : Nat) (cs : List Value) : Prop where
  row : w.ownsRow base e sz (.slice A n c) n cs

theorem Own.form {w : World} {base e sz : Nat} {v : Value} {n : Nat} {cs : List Value} (h : w.ownsRow base e sz v n cs) : ∃ A c, v = .slice A n c ∧ Own w base e sz A n c cs := by
  rcases h.2 with ⟨rfl, rfl⟩ | ⟨g, cap, cur, rfl, r⟩
  · exact ⟨none, 0, rfl, ⟨h⟩⟩
  · exact ⟨_, cap, rfl, ⟨h⟩⟩

theorem Own.sl {w : World} {base e sz n c : Nat} {A : Option Addr} {cs : List Value} (h : Own w base e sz A n c cs) : Sl w sz A n c cs := by
  have h := h.row
  have h1 := h.1
  rcases h.2 with ⟨hv, rfl⟩ | ⟨g, cap, cur, hv, hb, hg, hn, hm, hs, ht⟩
  · cases hv; exact ⟨h1, Nat.le_refl _, by simp [maxLen], fun h => absurd h (by omega)⟩
  · cases hv
    refine ⟨h1, hn, hm, fun _ => ⟨_, rfl, fun j u hu => ?_⟩⟩
    exact World.ownsRow.cells h (g := g) rfl j u hu

theorem Own.ext {w w' : World} {base e sz n c : Nat} {A : Option Addr} {cs : List Value} (h : Own w base e sz A n c cs) (k : Ext w w') : Own w' base e sz A n c cs :=
  ⟨h.row.kept k (by cases hv : (Value.slice A n c).ownBlock <;> simp)⟩

theorem Own.empty {w : World} {g e sz : Nat} {base : Nat} (h : Blk w g e []) (hb : base ≤ g) : Own w base e sz (some ⟨g, 0, none⟩) 0 0 [] :=
  ⟨⟨by simp, .inr ⟨g, 0, _, rfl, hb, h, Nat.le_refl _, by simp [maxLen], by simp, by simp⟩⟩⟩

theorem Own.nil (w : World) (base e sz : Nat) : Own w base e sz none 0 0 [] := ⟨World.ownsRow_nil w base e sz⟩

theorem Own.blk {w : World} {base e n c : Nat} {A : Option Addr} {cs : List Value} (h : Own w base e 1 A n c cs) (hn : 0 < n) : ∃ g sp, A = some ⟨g, 0, none⟩ ∧ base ≤ g ∧ Blk w g e (cs ++ sp) ∧ (cs ++ sp).length = c := by
  have h := h.row
  rcases h.2 with ⟨hv, rfl⟩ | ⟨g, cap, cur, hv, hb, hg, hn', hm, hs, ht⟩
  · omega
  · cases hv
    refine ⟨g, cur.toList.drop n, rfl, hb, ?_⟩
    rw [Nat.mul_one] at ht
    rw [← ht, List.take_append_drop]
    exact ⟨by simpa [Blk] using hg, by simpa using hs⟩

theorem Own.of_blk {w : World} {base e n c g : Nat} {cs sp : List Value} (h : Blk w g e (cs ++ sp)) (hb : base ≤ g) (hl : cs.length = n) (hc : (cs ++ sp).length = c) (hm : c ≤ maxLen) : Own w base e 1 (some ⟨g, 0, none⟩) n c cs :=
  ⟨⟨by omega, .inr ⟨g, c, _, rfl, hb, h, by rw [List.length_append] at hc; omega, hm, by simpa using hc, by rw [Nat.mul_one]; simp [← hl]⟩⟩⟩

theorem store_own {w : World} {base e n c j : Nat} {a : Addr} {xs : List Value} {v : Value} {K : World → Prop} (h : Own w base e 1 (some a) n c xs) (hj : j < n)
    (k : ∀ w1, w.grownBy w1 (Value.slice (some a) n c).ownBlock → Own w1 base e 1 (some a) n c (xs.set j v) → K w1) : Store w (a.add j) v K := by
  obtain ⟨g, sp, hA, hb, hB, hl⟩ := h.blk (by omega)
  cases hA
  have hlen : xs.length = n := by have := h.sl.len; omega
  refine store_blk hB (by rw [List.length_append]; omega) (fun w1 hgr hB1 => k w1 hgr ?_)
  rw [List.set_append_left _ _ (by omega)] at hB1
  exact Own.of_blk hB1 hb (by rw [List.length_set]; exact hlen) (by rw [List.length_append, List.length_set]; rw [List.length_append] at hl; exact hl) h.sl.cap

/-- The worlds that an append leaves: nothing turned but the row that it owns. -/
theorem Ext.row {w0 w w1 : World} {base e sz n c : Nat} {A : Option Addr} {cs : List Value} (h : Ext w0 w) (hb : w0.heap.size ≤ base) (ho : Own w base e sz A n c cs) (k : w.grownBy w1 (Value.slice A n c).ownBlock) : Ext w0 w1 := by
  cases hv : (Value.slice A n c).ownBlock with
  | none => rw [hv] at k; exact h.trans k
  | some g => rw [hv] at k; exact h.own k (Nat.le_trans hb (ho.row.lt g hv).1)

theorem block_add (a : Addr) (j : Nat) : (a.add j).block = a.block := by unfold Addr.add; split <;> rfl

/-- What lies apart from a row stays while the row is appended to. -/
theorem Sl.apart {w w1 : World} {sz n c : Nat} {B : Option Addr} {cs : List Value} {row : Option Nat} (h : Sl w sz B n c cs) (k : w.grownBy w1 row) (hr : ∀ g ad, row = some g → B = some ad → ad.block ≠ g) : Sl w1 sz B n c cs :=
  ⟨h.len, h.le, h.cap, fun hn => by
    obtain ⟨ad, rfl, hc⟩ := h.at_ hn
    refine ⟨ad, rfl, fun j u hu => World.grownBy.cell k (hc j u hu) (fun e => ?_)⟩
    rw [block_add] at e
    exact hr ad.block ad e.symm rfl rfl⟩

theorem scalar_one {u : Value} (h : scalar u = true) : u.oneCell' = true := by cases u <;> first | rfl | (simp [scalar] at h)

theorem append_block {P : Program} {w w1 : World} {t ty e : TypeId} {i : TypeInfo} {z : Value} {bytes base n m cc : Nat} {v v' : Value} {xs ys : List Value} (ht : P.underlying t = some (.slice e)) (hi : P.info? e = some i) (hz : i.zero = some z) (hs : i.size = 1) (hby : i.bytes = bytes)
    (hown : w.ownsRow base e 1 v n xs) (b : Addr) (hm : 0 < m) (hl : ys.length = m) (hcell : ∀ j u, ys[j]? = some u → w.cell? (b.add j) = some u) (h1 : ∀ u ∈ ys, u.oneCell' = true) (h63 : n + m ≤ maxLen) (hbytes : (n + m) * bytes ≤ 140737488355328)
    (hrun : (Builtin.append_ #[t, t] ty #[v, .slice (some b) m cc]).run P w = .ok v' w1) : ∀ g', v'.ownBlock = some g' → v.ownBlock = some g' ∨ w.heap.size ≤ g' := by
  intro g' hg'
  subst hby
  have hsmall : n + m ≤ 9223372036854775807 := by simp only [maxLen] at h63; omega
  rcases hown.2 with ⟨rfl, rfl⟩ | ⟨g, cap, cur, rfl, hbg, hg, hnc, hcm, hcs, htake⟩
  · have hr := run_append_nil (P := P) w t ty e i z ht hi hz b m cc ys (by rw [hl, hs]; omega) hcell (by omega) (by omega) (by have hb := hbytes; simp only [Nat.zero_add] at hb; omega)
    rw [hr] at hrun
    cases hrun
    simp [Value.ownBlock] at hg'
    exact .inr (by omega)
  · by_cases hroom : n + m ≤ cap
    · have hr := run_append_room (P := P) w t ty e i ht hi g n cap cur hg b m cc ys (by rw [hl, hs]; omega) hcell h1 hroom (by rw [hl, hs, hcs]; omega)
      rw [hr] at hrun
      cases hrun
      exact .inl hg'
    · have holds : ∀ j u, xs[j]? = some u → w.cell? ((⟨g, 0, none⟩ : Addr).add j) = some u := hown.cells (g := g) rfl
      have hr := run_append_grow (P := P) w t ty e i z ht hi hz ⟨g, 0, none⟩ n cap xs (by rw [hs]; exact hown.1) holds b m cc ys (by rw [hl, hs]; omega) hcell (by omega) (by omega) (growslice_fits (by omega) hbytes)
      rw [hr] at hrun
      cases hrun
      simp [Value.ownBlock] at hg'
      exact .inr (by omega)

theorem at_append' {c : Cx} (hg : c.g.Ok) {o : Oper} {S : Env} {w : World} {K : Env → World → Prop} {Q : Post} {t t2 e : Nat} {x y : Operand} {A B : Option Addr} {n cp : Nat} {m c2 : Nat} {xs ys : List Value} {base : Nat} {r re r2 : TyRow}
    (ho : o.op = .call ⟨.builtin .append, #[x, y], #[t, t2]⟩) (hr : rowOf c.g.tys t = some r) (hd : r.d = .slice e) (hre : rowOf c.g.tys e = some re) (hs : re.sz = 1) (hzc : re.z.cells.size = 1) (hr2 : rowOf c.g.tys t2 = some r2) (hd2 : ∃ e2, r2.d = .slice e2)
    (hx : S.ev x = some (.slice A n cp)) (hy : S.ev y = some (.slice B m c2)) (hown : Own w base e 1 A n cp xs) (hys : Sl w 1 B m c2 ys) (hsc : ∀ u ∈ ys, scalar u = true)
    (h63 : n + m ≤ maxLen) (hby : (n + m) * re.by_ ≤ 140737488355328) (hbase : base ≤ w.heap.size)
    (k : ∀ A' c' w1, w.grownBy w1 (Value.slice A n cp).ownBlock → Own w1 base e 1 A' (n + m) c' (xs ++ ys) → (∀ ad, A' = some ad → A = some ad ∨ w.heap.size ≤ ad.block) → putK c S o.dst (.v (.slice A' (n + m) c')) (fun S => K S w1)) : AtOp c o S w K Q := by
  obtain ⟨_, i, hi, hsz, hbyt, hiz⟩ := hg.row hre
  have hr' := (hg.row hr).1
  rw [hd] at hr'
  obtain ⟨e2, hd2⟩ := hd2
  have hr2' := (hg.row hr2).1
  rw [hd2] at hr2'
  have hlen : ys.length = m := by have := hys.len; omega
  unfold AtOp
  intro a hf
  have e1 := hf.ev hx
  have e2' := hf.ev hy
  have key : ∃ v' w1, (Builtin.append_ #[t, t] o.type #[.slice A n cp, .slice B m c2]).run c.g.P w = .ok v' w1 ∧ w1.ownsRow base e 1 v' (n + m) (xs ++ ys) ∧ w.grownBy w1 (Value.slice A n cp).ownBlock ∧ (∀ g', v'.ownBlock = some g' → (Value.slice A n cp).ownBlock = some g' ∨ w.heap.size ≤ g') := by
    by_cases h0 : m = 0
    · subst h0
      have hnil : ys = [] := List.eq_nil_of_length_eq_zero hlen
      subst hnil
      have hle : n ≤ cp := hown.sl.le
      refine ⟨.slice A n cp, w, ?_, by simpa using hown.row, ⟨rfl, rfl, rfl, Nat.le_refl _, fun _ _ _ => rfl⟩, fun _ h => .inl h⟩
      cases A <;> cases B <;> simp [Builtin.append_, run_underlying hr', sizeOf, typeInfo, hi, Builtin.lenOf, hle, Builtin.firstCells, loadCells, loadCellsFrom, storeCells]
    · obtain ⟨b, rfl, hcell⟩ := hys.at_ (by omega)
      obtain ⟨v', w1, hrun, how, hgr, _⟩ := run_append_own (P := c.g.P) (w := w) base t o.type e i re.z 1 re.by_ hr' hi hiz (by rw [hsz, hs]) hbyt hzc (by decide) _ n xs hown.row b m c2 ys (by omega) hcell (fun u hu => scalar_one (hsc u hu)) h63 hby hbase
      exact ⟨v', w1, hrun, how, hgr, append_block hr' hi hiz (by rw [hsz, hs]) hbyt hown.row b (by omega) (by omega) hcell (fun u hu => scalar_one (hsc u hu)) h63 hby hrun⟩
  obtain ⟨v', w1, hrun, how, hgr, hblk⟩ := key
  obtain ⟨A', c', rfl, hown'⟩ := Own.form how
  have hblk' : ∀ ad, A' = some ad → A = some ad ∨ w.heap.size ≤ ad.block := fun ad e => by
    subst e
    rcases hblk ad.block rfl with h | h
    · left
      rcases hown.row.2 with ⟨hv, _⟩ | ⟨g, cap, cur, hv, _⟩
      · cases hv; simp [Value.ownBlock] at h
      · cases hv
        rcases how.2 with ⟨hv, _⟩ | ⟨g2, cap2, cur2, hv2, _⟩
        · cases hv
        · cases hv2; simp [Value.ownBlock] at h; rw [h]
    · exact .inr h
  refine wp_value (v := .slice A' (n + m) c') (w' := w1) ?_ (putK_sound (e := .v _) (k A' c' w1 hgr hown' hblk') hf)
  have hsame : (Builtin.append_ #[t, t2] o.type #[.slice A n cp, .slice B m c2]).run c.g.P w = (Builtin.append_ #[t, t] o.type #[.slice A n cp, .slice B m c2]).run c.g.P w := by
    simp [Builtin.append_, run_underlying hr', run_underlying hr2']
  simp only [execOp, ho, resolve, invoke]
  simp [builtin, e1, e2', hsame, hrun]

theorem at_append {c : Cx} (hg : c.g.Ok) {o : Oper} {S : Env} {w : World} {K : Env → World → Prop} {Q : Post} {t t2 e : Nat} {x y : Operand} {A B : Option Addr} {n cp : Nat} {m c2 : Nat} {xs ys : List Value} {base : Nat} {r re r2 : TyRow}
    (ho : o.op = .call ⟨.builtin .append, #[x, y], #[t, t2]⟩) (hr : rowOf c.g.tys t = some r) (hd : r.d = .slice e) (hre : rowOf c.g.tys e = some re) (hs : re.sz = 1) (hzc : re.z.cells.size = 1) (hr2 : rowOf c.g.tys t2 = some r2) (hd2 : ∃ e2, r2.d = .slice e2)
    (hx : S.ev x = some (.slice A n cp)) (hy : S.ev y = some (.slice B m c2)) (hown : Own w base e 1 A n cp xs) (hys : Sl w 1 B m c2 ys) (hsc : ∀ u ∈ ys, scalar u = true)
    (h63 : n + m ≤ maxLen) (hby : (n + m) * re.by_ ≤ 140737488355328) (hbase : base ≤ w.heap.size)
    (k : ∀ A' c' w1, w.grownBy w1 (Value.slice A n cp).ownBlock → Own w1 base e 1 A' (n + m) c' (xs ++ ys) → putK c S o.dst (.v (.slice A' (n + m) c')) (fun S => K S w1)) : AtOp c o S w K Q :=
  at_append' hg ho hr hd hre hs hzc hr2 hd2 hx hy hown hys hsc h63 hby hbase (fun A' c' w1 h1 h2 _ => k A' c' w1 h1 h2)

theorem fill1 (z v : Value) (h : scalar v = true) : Instr.fill (fun i => some (i * 1, 1)) #[z] [(0, v)] = some #[v] := by
  have hc : v.cells = #[v] := by cases v <;> first | rfl | (simp [scalar] at h)
  simp [Instr.fill, hc]

theorem fill2 (z v u : Value) (h : scalar v = true) (h' : scalar u = true) : Instr.fill (fun i => some (i * 1, 1)) #[z, z] [(0, v), (1, u)] = some #[v, u] := by
  have hc : v.cells = #[v] := by cases v <;> first | rfl | (simp [scalar] at h)
  have hc' : u.cells = #[u] := by cases u <;> first | rfl | (simp [scalar] at h')
  simp [Instr.fill, hc, hc']

section
variable {c : Cx} (hg : c.g.Ok) {o : Oper} {S : Env} {w : World} {K : Env → World → Prop} {Q : Post} {t e : Nat} {r re : TyRow}
include hg
theorem run_build (hr : rowOf c.g.tys t = some r) (hd : r.d = .slice e) (hre : rowOf c.g.tys e = some re) (hs : re.sz = 1) (hz : re.z.cells = #[re.z]) (n : Nat) (hn : n ≤ 1000) (parts : Array (Nat × Value)) (cs : List Value)
    (hf : Instr.fill (fun i => some (i * 1, 1)) (Array.replicate n re.z) parts.toList = some cs.toArray) :
    (Instr.buildSlice t n parts).run c.g.P w = .ok (.slice (some ⟨w.heap.size, 0, none⟩) n n) (w.alloc (.cells cs.toArray e)) := by
  obtain ⟨_, i, hi, hsz, hbyt, hiz⟩ := hg.row hre
  have hr' := (hg.row hr).1
  rw [hd] at hr'
  have e1 : (Array.range n).map (fun j => (#[re.z] : Array Value)[j % (#[re.z] : Array Value).size]!) = Array.replicate n re.z := madeCells_one re.z n
  have h24 : ¬ (16777216 < n) := by omega
  by_cases h0 : n = 0
  · subst h0
    simp [Instr.buildSlice, run_underlying hr', sizeOf, typeInfo, hi, hsz, hs, newRow] at hf ⊢
    rw [show Array.map (fun _ => (default : Value)) (Array.range 0) = #[] by simp [Array.range_zero'], hf]
    simp
  · simp [Instr.buildSlice, run_underlying hr', sizeOf, typeInfo, hi, hsz, hs, newRow, h24, h0, zeroValue, hiz, hz]
    simp at e1 hf
    rw [e1, hf]
    simp

theorem at_build0 (ho : o.op = .buildSlice t 0 #[]) (hr : rowOf c.g.tys t = some r) (hd : r.d = .slice e) (hre : rowOf c.g.tys e = some re) (hs : re.sz = 1) (hz : re.z.cells = #[re.z])
    (k : ∀ w1, Ext w w1 → w1.heap.size = w.heap.size + 1 → Blk w1 w.heap.size e [] → putK c S o.dst (.v (.slice (some ⟨w.heap.size, 0, none⟩) 0 0)) (fun S => K S w1)) : AtOp c o S w K Q := by
  have hrun := run_build (w := w) hg hr hd hre hs hz 0 (by omega) #[] [] (by simp [Instr.fill])
  refine at_run (w' := w.alloc (.cells #[] e)) (fun a hf => ?_) (k _ (Ext.alloc w _) (by simp) (Blk.new w e []))
  simp only [execOp, ho]
  simp [hrun]

theorem at_build1 {x : Operand} {v : Value} (ho : o.op = .buildSlice t 1 #[(0, x)]) (hr : rowOf c.g.tys t = some r) (hd : r.d = .slice e) (hre : rowOf c.g.tys e = some re) (hs : re.sz = 1) (hz : re.z.cells = #[re.z]) (hx : S.ev x = some v) (hv : scalar v = true)
    (k : ∀ w1, Ext w w1 → w1.heap.size = w.heap.size + 1 → Blk w1 w.heap.size e [v] → putK c S o.dst (.v (.slice (some ⟨w.heap.size, 0, none⟩) 1 1)) (fun S => K S w1)) : AtOp c o S w K Q := by
  have hrun := run_build (w := w) hg hr hd hre hs hz 1 (by omega) #[(0, v)] [v] (fill1 re.z v hv)
  refine at_run (w' := w.alloc (.cells #[v] e)) (fun a hf => ?_) (k _ (Ext.alloc w _) (by simp) (Blk.new w e [v]))
  have e1 := hf.ev hx
  simp only [execOp, ho]
  simp [e1, hrun]

theorem at_build2 {x y : Operand} {v u : Value} (ho : o.op = .buildSlice t 2 #[(0, x), (1, y)]) (hr : rowOf c.g.tys t = some r) (hd : r.d = .slice e) (hre : rowOf c.g.tys e = some re) (hs : re.sz = 1) (hz : re.z.cells = #[re.z]) (hx : S.ev x = some v) (hy : S.ev y = some u) (hv : scalar v = true) (hu : scalar u = true)
    (k : ∀ w1, Ext w w1 → w1.heap.size = w.heap.size + 1 → Blk w1 w.heap.size e [v, u] → putK c S o.dst (.v (.slice (some ⟨w.heap.size, 0, none⟩) 2 2)) (fun S => K S w1)) : AtOp c o S w K Q := by
  have hrun := run_build (w := w) hg hr hd hre hs hz 2 (by omega) #[(0, v), (1, u)] [v, u] (fill2 re.z v u hv hu)
  refine at_run (w' := w.alloc (.cells #[v, u] e)) (fun a hf => ?_) (k _ (Ext.alloc w _) (by simp) (Blk.new w e [v, u]))
  have e1 := hf.ev hx
  have e2 := hf.ev hy
  simp only [execOp, ho]
  simp [e1, e2, hrun]
end

/-- 'copy' into a block of the call's own, from its head on. -/
theorem at_copy {c : Cx} (hg : c.g.Ok) {o : Oper} {S : Env} {w : World} {K : Env → World → Prop} {Q : Post} {t t2 e : Nat} {x y : Operand} {g n cp : Nat} {A : Option Addr} {m c2 : Nat} {xs ys : List Value} {r re : TyRow}
    (ho : o.op = .call ⟨.builtin .copy, #[x, y], #[t, t2]⟩) (hr : rowOf c.g.tys t = some r) (hd : r.d = .slice e) (hre : rowOf c.g.tys e = some re) (hs : re.sz = 1)
    (hx : S.ev x = some (.slice (some ⟨g, 0, none⟩) n cp)) (hy : S.ev y = some (.slice A m c2)) (hb : Blk w g e xs) (hys : Sl w 1 A m c2 ys) (hmn : m ≤ n) (hnx : n ≤ xs.length) (hsc : ∀ u ∈ ys, scalar u = true)
    (k : ∀ w1, w.grownBy w1 (some g) → w1.heap.size = w.heap.size → Blk w1 g e (ys ++ xs.drop m) → putK c S o.dst (.v (.int .i64 m)) (fun S => K S w1)) : AtOp c o S w K Q := by
  obtain ⟨_, i, hi, hsz, hbyt, hiz⟩ := hg.row hre
  have hr' := (hg.row hr).1
  rw [hd] at hr'
  have hlen : ys.length = m := by have := hys.len; omega
  have hfc : (Builtin.firstCells 1 m (.slice A m c2)).run c.g.P w = .ok ys.toArray w := by
    by_cases h0 : m = 0
    · subst h0
      have : ys = [] := List.eq_nil_of_length_eq_zero hlen
      subst this
      cases A <;> simp [Builtin.firstCells, loadCells, loadCellsFrom]
    · obtain ⟨ad, rfl, hc⟩ := hys.at_ (by omega)
      have := run_loadCells_list (P := c.g.P) (w := w) ad ys hc
      rw [hlen] at this
      simpa [Builtin.firstCells] using this
  have hst := run_storeCells_at c.g.P g 0 e ys 0 xs.toArray w hb (by simp; omega) (fun u hu => scalar_one (hsc u hu))
  simp only [Nat.zero_add, Nat.add_zero] at hst
  have hmin : Nat.min m n = m := Nat.min_eq_left hmn
  refine at_run (w' := w.setRow g (ys ++ xs.drop m).toArray) (v := .int .i64 m) (fun a hf => ?_) (k _ ?_ (by simp) ?_)
  · have e1 := hf.ev hx
    have e2 := hf.ev hy
    have hst' : (storeCells (⟨g, 0, none⟩ : Addr) ys).run c.g.P w = .ok () (w.setRow g (ys ++ xs.drop m).toArray) := by
      have := hst
      rw [hlen] at this
      simpa [add_own] using this
    simp only [execOp, ho, resolve, invoke]
    simp [builtin, e1, e2, Builtin.copy_, run_underlying hr', sizeOf, typeInfo, hi, hsz, hs, Builtin.lenOf, hmin, hfc, hst', goInt]
  · exact ⟨rfl, rfl, rfl, by simp, fun j _ hj => setRow_other w g j _ (fun e => hj (by rw [e]))⟩
  · exact setRow_heap w g xs.toArray _ e _ hb

/-! ### Bytes -/
def bytesV (l : List Nat) : List Value := l.map fun (x : Nat) => .int .u8 x
def strOf (l : List Nat) : ByteArray := ⟨(l.map UInt8.ofNat).toArray⟩

theorem bytesV_get {l : List Nat} {j : Nat} {u : Value} (h : (bytesV l)[j]? = some u) : ∃ x, l[j]? = some x ∧ u = .int .u8 (x : Int) := by
  simp only [bytesV, List.getElem?_map, Option.map_eq_some_iff] at h
  obtain ⟨x, hx, rfl⟩ := h; exact ⟨x, hx, rfl⟩
theorem bytesV_get' {l : List Nat} {j x : Nat} (h : l[j]? = some x) : (bytesV l)[j]? = some (.int .u8 (x : Int)) := by simp [bytesV, h]
theorem bytesV_append (l m : List Nat) : bytesV (l ++ m) = bytesV l ++ bytesV m := by simp [bytesV]
theorem bytesV_take (l : List Nat) (n : Nat) : bytesV (l.take n) = (bytesV l).take n := by simp [bytesV]
theorem bytesV_length (l : List Nat) : (bytesV l).length = l.length := by simp [bytesV]
theorem bytesV_set (l : List Nat) (i x : Nat) : bytesV (l.set i x) = (bytesV l).set i (.int .u8 (x : Int)) := by simp [bytesV, List.map_set]
theorem bytesV_scalar (l : List Nat) : ∀ u ∈ bytesV l, scalar u = true := by
  intro u hu; simp only [bytesV, List.mem_map] at hu; obtain ⟨x, _, rfl⟩ := hu; rfl

theorem strOf_append (l m : List Nat) : strOf l ++ strOf m = strOf (l ++ m) := by
  apply ByteArray.ext; simp [strOf, ByteArray.data_append]
theorem strOf_size (l : List Nat) : (strOf l).size = l.length := by simp [strOf, ByteArray.size]

theorem foldl_push (l : List Nat) (s : ByteArray) : (l.map fun (x : Nat) => (x : Int)).foldl (fun r n => r.push (UInt8.ofNat n.toNat)) s = s ++ strOf l := by
  induction l generalizing s with
  | nil => apply ByteArray.ext; simp [strOf, ByteArray.data_append]
  | cons x l ih =>
    simp only [List.map_cons, List.foldl_cons, ih]
    apply ByteArray.ext
    apply Array.ext'
    simp [strOf, ByteArray.data_append, ByteArray.push]

/-- 'string(b)' of bytes. -/
theorem at_str {c : Cx} (hg : c.g.Ok) {o : Oper} {S : Env} {w : World} {K : Env → World → Prop} {Q : Post} {t t2 e : Nat} {x : Operand} {A : Option Addr} {n cp : Nat} {l : List Nat} {r re r2 : TyRow}
    (ho : o.op = .convert t t2 x) (hr : rowOf c.g.tys t = some r) (hd : r.d = .slice e) (hre : rowOf c.g.tys e = some re) (hde : re.d = .int .u8) (hr2 : rowOf c.g.tys t2 = some r2) (hd2 : r2.d = .string)
    (hx : S.ev x = some (.slice A n cp)) (hs : Sl w 1 A n cp (bytesV l))
    (k : putK c S o.dst (.v (.string (strOf l))) (fun S => K S w)) : AtOp c o S w K Q := by
  have hr' := (hg.row hr).1
  have hre' := (hg.row hre).1
  have hr2' := (hg.row hr2).1
  rw [hd] at hr'; rw [hde] at hre'; rw [hd2] at hr2'
  have hlen : l.length = n := by have := hs.len; simpa [bytesV] using this
  refine at_run (w' := w) (fun a hf => ?_) k
  have e1 := hf.ev hx
  simp only [execOp, ho, e1]
  have hrun := run_convert_bytes_string (P := c.g.P) w t t2 e A n cp hr' hre' hr2'
  by_cases h0 : n = 0
  · subst h0
    have : l = [] := List.eq_nil_of_length_eq_zero hlen
    subst this
    cases A with
    | none => simp [hrun, Conv.bytesToString, strOf]; rfl
    | some a =>
      have := run_bytesToString (P := c.g.P) w a 0 cp [] (by simp [loadCells, loadCellsFrom])
      simp [hrun, this, strOf]; rfl
  · obtain ⟨ad, rfl, hc⟩ := hs.at_ (by omega)
    have h1 := run_loadCells_list (P := c.g.P) (w := w) ad (bytesV l) hc
    rw [bytesV_length, hlen] at h1
    have h2 := run_bytesToString (P := c.g.P) w ad n cp (l.map fun (x : Nat) => (x : Int)) (by rw [h1]; simp [bytesV])
    rw [foldl_push] at h2
    have h3 : ByteArray.empty ++ strOf l = strOf l := by apply ByteArray.ext; simp
    rw [h3] at h2
    simp [hrun, h2]

/-! ### Strings as lists of bytes -/
def bytesOf (s : ByteArray) : List Nat := s.data.toList.map UInt8.toNat
theorem bytesOf_length (s : ByteArray) : (bytesOf s).length = s.size := by simp [bytesOf]
theorem bytesOf_lt (s : ByteArray) : ∀ x ∈ bytesOf s, x < 256 := by
  intro x hx; simp only [bytesOf, List.mem_map] at hx; obtain ⟨b, _, rfl⟩ := hx; exact b.toNat_lt
theorem bytesOf_get {s : ByteArray} {j : Nat} (hj : j < s.size) : (bytesOf s)[j]? = some s[j].toNat := by
  have h' : j < s.data.size := hj
  have : s[j] = s.data[j] := rfl
  rw [this]
  simp only [bytesOf, List.getElem?_map, Array.getElem?_toList]
  rw [Array.getElem?_eq_getElem h']; rfl
theorem sindex' {s : ByteArray} {j : Nat} {K : Int → Prop} (hj : j < s.size) (k : ∀ x, (bytesOf s)[j]? = some x → x < 256 → K (x : Int)) : SIndex s (j : Int) K :=
  sindex hj (k _ (bytesOf_get hj) (s[j]).toNat_lt)
theorem strOf_bytesOf (s : ByteArray) : strOf (bytesOf s) = s := by
  apply ByteArray.ext; simp [strOf, bytesOf, Function.comp_def]
theorem bytesOf_strOf {l : List Nat} (h : ∀ x ∈ l, x < 256) : bytesOf (strOf l) = l := by
  simp only [bytesOf, strOf, List.map_map]
  conv => rhs; rw [← List.map_id l]
  apply List.map_congr_left
  intro x hx
  simp [Nat.mod_eq_of_lt (h x hx)]
theorem strOf_inj {l m : List Nat} (hl : ∀ x ∈ l, x < 256) (hm : ∀ x ∈ m, x < 256) (h : strOf l = strOf m) : l = m := by
  rw [← bytesOf_strOf hl, ← bytesOf_strOf hm, h]
theorem bytesOf_inj {s t : ByteArray} (h : bytesOf s = bytesOf t) : s = t := by rw [← strOf_bytesOf s, ← strOf_bytesOf t, h]
end Go.Proofs.YtedopgkbajhanaaGreatDoor
