/-
  Numbers and lists: plain facts, no program in sight.
-/
import Derived.Test.YtcbeifkfllcjoaaDoorRY
set_option linter.unusedVariables false
set_option linter.unusedSimpArgs false
namespace Go.Proofs.YtcbeifkfllcjoaaDoor

/-! ### int64 -/
theorem wrap_u64 {n : Int} (h0 : 0 ≤ n) (h1 : n < 18446744073709551616) : IntKind.u64.wrap n = n := by
  have e1 : (2 : Int) ^ 64 = 18446744073709551616 := by decide
  simp only [IntKind.wrap, IntKind.bits, IntKind.signed, Bool.false_and, Bool.false_eq_true, if_false, e1]
  omega
theorem wrap_u64_nonneg (n : Int) : 0 ≤ IntKind.u64.wrap n := by
  have e1 : (2 : Int) ^ 64 = 18446744073709551616 := by decide
  simp only [IntKind.wrap, IntKind.bits, IntKind.signed, Bool.false_and, Bool.false_eq_true, if_false, e1]
  omega
theorem wrap_i64_ge (n : Int) : -9223372036854775808 ≤ IntKind.i64.wrap n ∧ IntKind.i64.wrap n < 9223372036854775808 := by
  have e1 : (2 : Int) ^ 64 = 18446744073709551616 := by decide
  have e2 : (2 : Int) ^ (64 - 1) = 9223372036854775808 := by decide
  simp only [IntKind.wrap, IntKind.bits, IntKind.signed, Bool.true_and, decide_eq_true_eq, e1, e2]
  split <;> omega

/-- an int64 -/
def I64 (n : Int) : Prop := -9223372036854775808 ≤ n ∧ n < 9223372036854775808
theorem wrap_I64 {n : Int} (h : I64 n) : IntKind.i64.wrap n = n := wrap_i64 h.1 h.2

/-! ### masks -/
theorem ofInt_nat (n : Nat) (h : n < 18446744073709551616) : (BitVec.ofInt 64 (n : Int)).toNat = n := by
  have e : (2 ^ 64 : Nat) = 18446744073709551616 := by decide
  rw [BitVec.ofInt_natCast, BitVec.toNat_ofNat, e]
  exact Nat.mod_eq_of_lt h

theorem e63 : (2 : Nat) ^ 63 = 9223372036854775808 := by decide
theorem e64 : (2 : Nat) ^ 64 = 18446744073709551616 := by decide
theorem bits_i64 : IntKind.i64.bits = 64 := rfl
theorem and_nat {x y : Nat} (hx : x < 9223372036854775808) (hy : y < 9223372036854775808) : bitsK .and .i64 (x : Int) (y : Int) = ((x &&& y : Nat) : Int) := by
  show IntKind.i64.wrap ((BitVec.ofInt 64 (x : Int) &&& BitVec.ofInt 64 (y : Int)).toNat : Int) = _
  rw [BitVec.toNat_and, ofInt_nat x (by omega), ofInt_nat y (by omega)]
  have := Nat.and_le_left (n := x) (m := y)
  exact wrap_i64 (by omega) (by omega)
theorem or_nat {x y : Nat} (hx : x < 9223372036854775808) (hy : y < 9223372036854775808) : bitsK .or .i64 (x : Int) (y : Int) = ((x ||| y : Nat) : Int) := by
  show IntKind.i64.wrap ((BitVec.ofInt 64 (x : Int) ||| BitVec.ofInt 64 (y : Int)).toNat : Int) = _
  rw [BitVec.toNat_or, ofInt_nat x (by omega), ofInt_nat y (by omega)]
  have : x ||| y < 2 ^ 63 := Nat.or_lt_two_pow (by simpa using hx) (by simpa using hy)
  exact wrap_i64 (by omega) (by rw [e63] at this; omega)
theorem xor_nat {x y : Nat} (hx : x < 9223372036854775808) (hy : y < 9223372036854775808) : bitsK .xor .i64 (x : Int) (y : Int) = ((x ^^^ y : Nat) : Int) := by
  show IntKind.i64.wrap ((BitVec.ofInt 64 (x : Int) ^^^ BitVec.ofInt 64 (y : Int)).toNat : Int) = _
  rw [BitVec.toNat_xor, ofInt_nat x (by omega), ofInt_nat y (by omega)]
  have : x ^^^ y < 2 ^ 63 := Nat.xor_lt_two_pow (by simpa using hx) (by simpa using hy)
  exact wrap_i64 (by omega) (by rw [e63] at this; omega)

theorem shl_nat {i : Nat} (h : i < 63) : IntKind.i64.wrap (1 * 2 ^ (min (i : Int).toNat 64)) = ((2 ^ i : Nat) : Int) := by
  have : (2 : Nat) ^ i < 2 ^ 63 := Nat.pow_lt_pow_right (by decide) h
  rw [show min (i : Int).toNat 64 = i by omega, Int.one_mul]
  have e : (2 : Int) ^ i = ((2 ^ i : Nat) : Int) := by simp
  rw [e63] at this
  rw [e]
  generalize 2 ^ i = q at this
  exact wrap_i64 (by omega) (by omega)

theorem fdiv_nat (m i : Nat) (h : i ≤ 64) : Int.fdiv (m : Int) (2 ^ (min (i : Int).toNat 64)) = ((m / 2 ^ i : Nat) : Int) := by
  rw [show min (i : Int).toNat 64 = i by omega]
  have e : (2 : Int) ^ i = ((2 ^ i : Nat) : Int) := by simp
  rw [e]
  generalize 2 ^ i = q
  rw [Int.fdiv_eq_ediv_of_nonneg _ (by omega)]
  rfl

/-- the bit of a mask -/
theorem has_nat {m i : Nat} (hm : m < 9223372036854775808) (hi : i < 64) : (bitsK .and .i64 (Int.fdiv (m : Int) (2 ^ (min (i : Int).toNat 64))) 1 = 1) ↔ m.testBit i = true := by
  rw [fdiv_nat m i (by omega)]
  have h1 : m / 2 ^ i < 9223372036854775808 := Nat.lt_of_le_of_lt (Nat.div_le_self _ _) hm
  rw [show (1 : Int) = ((1 : Nat) : Int) from rfl, and_nat h1 (by decide)]
  rw [Nat.testBit_eq_decide_div_mod_eq, decide_eq_true_eq, Nat.and_one_is_mod]
  omega

/-- the members of a mask, upwards -/
def bitsOf (m : Nat) : List Nat := (List.range 63).filter fun i => m.testBit i

theorem mem_bitsOf {m i : Nat} : i ∈ bitsOf m ↔ i < 63 ∧ m.testBit i = true := by simp [bitsOf]

theorem clear_bit {k q : Nat} (i : Nat) : ((2 ^ k * (2 * q + 1)) &&& (2 ^ k * (2 * q + 1) - 1)).testBit i = ((2 ^ k * (2 * q + 1)).testBit i && decide (i ≠ k)) := by
  have e1 : 2 ^ k * (2 * q + 1) - 1 = 2 ^ k * (2 * q) + (2 ^ k - 1) := by
    have : 0 < 2 ^ k := Nat.two_pow_pos k
    rw [Nat.mul_add, Nat.mul_one]
    omega
  have hlt : 2 ^ k - 1 < 2 ^ k := by have : 0 < 2 ^ k := Nat.two_pow_pos k; omega
  rw [Nat.testBit_and, e1, Nat.testBit_two_pow_mul_add _ hlt, Nat.testBit_two_pow_mul]
  by_cases h : i < k
  · simp [h, show ¬ k ≤ i by omega]
  · have hk : k ≤ i := by omega
    rw [if_neg h]
    obtain ⟨d, rfl⟩ : ∃ d, i = k + d := ⟨i - k, by omega⟩
    cases d with
    | zero => simp
    | succ d =>
      simp only [hk, decide_true, Bool.true_and, Nat.add_sub_cancel_left]
      rw [Nat.testBit_succ, Nat.testBit_succ]
      have d1 : (2 * q + 1) / 2 = q := by omega
      have d2 : (2 * q) / 2 = q := by omega
      rw [d1, d2]
      simp

theorem low_bit {k q : Nat} (i : Nat) (h : i < k) : (2 ^ k * (2 * q + 1)).testBit i = false := by
  rw [Nat.testBit_two_pow_mul]
  simp [show ¬ k ≤ i by omega]
theorem own_bit {k q : Nat} : (2 ^ k * (2 * q + 1)).testBit k = true := by
  rw [Nat.testBit_two_pow_mul]
  simp

/-- the least member goes ahead of the others -/
theorem bitsOf_cons {m : Nat} (h0 : m ≠ 0) (hm : m < 9223372036854775808) : Lib.ctz 64 m < 63 ∧ bitsOf m = Lib.ctz 64 m :: bitsOf (m &&& (m - 1)) ∧ m &&& (m - 1) < m := by
  obtain ⟨q, hq, hk⟩ := Lib.ctzFrom_spec 64 m (by omega) (by rw [e64]; omega)
  have hc : Lib.ctz 64 m = Lib.ctzFrom 64 m := if_neg h0
  rw [hc]
  generalize Lib.ctzFrom 64 m = k at hq hk ⊢
  have hk63 : k < 63 := by
    apply Nat.lt_of_not_le
    intro hle
    have h1 : 2 ^ 63 ≤ 2 ^ k := Nat.pow_le_pow_right (by decide) hle
    rw [e63] at h1
    have h2 : 2 ^ k ≤ 2 ^ k * (2 * q + 1) := Nat.le_mul_of_pos_right _ (by omega)
    omega
  refine ⟨hk63, ?_, ?_⟩
  · rw [hq]
    unfold bitsOf
    have hr : List.range 63 = List.range k ++ k :: (List.range (62 - k)).map (fun j => k + 1 + j) := by
      rw [show 63 = k + (1 + (62 - k)) by omega, List.range_add, List.range_add]
      simp [Nat.add_assoc]
    rw [hr, List.filter_append, List.filter_append]
    have hz : (List.range k).filter (fun i => (2 ^ k * (2 * q + 1)).testBit i) = [] := by
      rw [List.filter_eq_nil_iff]
      intro i hi
      rw [low_bit i (List.mem_range.1 hi)]
      simp
    have hz' : (List.range k).filter (fun i => ((2 ^ k * (2 * q + 1)) &&& (2 ^ k * (2 * q + 1) - 1)).testBit i) = [] := by
      rw [List.filter_eq_nil_iff]
      intro i hi
      rw [clear_bit, low_bit i (List.mem_range.1 hi)]
      simp
    rw [hz, hz', List.nil_append, List.nil_append, List.filter_cons, if_pos own_bit, List.filter_cons, if_neg (by rw [clear_bit]; simp)]
    congr 1
    apply List.filter_congr
    intro i hi
    obtain ⟨j, _, rfl⟩ := List.mem_map.1 hi
    rw [clear_bit]
    simp
    omega
  · have := Nat.and_le_right (n := m) (m := m - 1)
    omega

theorem bitsOf_zero : bitsOf 0 = [] := by simp [bitsOf]

theorem length_bitsOf (m : Nat) : (bitsOf m).length ≤ 63 := by
  have := List.length_filter_le (fun i => m.testBit i) (List.range 63)
  simpa [bitsOf] using this

theorem bitsOf_lt {m n : Nat} (h : m < 2 ^ n) : ∀ i ∈ bitsOf m, i < n := by
  intro i hi
  have h2 := (mem_bitsOf.1 hi).2
  apply Nat.lt_of_not_le
  intro hle
  rw [Nat.testBit_lt_two_pow (Nat.lt_of_lt_of_le h (Nat.pow_le_pow_right (by decide) hle))] at h2
  cases h2

/-! ### lists -/
theorem getD_nat {α : Type} (l : List α) (n : Nat) (d : α) (h : n < l.length) : l.getD ((n : Int).toNat) d = l[n] := by
  simp [List.getD_eq_getElem?_getD, h]

end Go.Proofs.YtcbeifkfllcjoaaDoor
