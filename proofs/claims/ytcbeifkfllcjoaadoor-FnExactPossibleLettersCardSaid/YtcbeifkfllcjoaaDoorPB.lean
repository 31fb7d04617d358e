/-
  Contracts of small functions: ranges, comparisons, masks.
-/
import Derived.Test.YtcbeifkfllcjoaaDoorPA
import Derived.Test.YtcbeifkfllcjoaaDoorG1
import Derived.Test.YtcbeifkfllcjoaaDoorG2
import Derived.Test.YtcbeifkfllcjoaaDoorG3
import Derived.Test.YtcbeifkfllcjoaaDoorG4
import Derived.Test.YtcbeifkfllcjoaaDoorG5
set_option linter.unusedVariables false
set_option linter.unusedSimpArgs false
set_option maxRecDepth 100000
namespace Go.Proofs.YtcbeifkfllcjoaaDoor

theorem inRange_ok (n lo hi : Int) : f136_H n lo hi (decide (lo ≤ n ∧ n ≤ hi)) :=
  f136_go _ _ _ _ ⟨fun h => by simp [h], fun h => by simp [h]⟩
theorem l01In_ok (n lo hi : Int) : f115_H n lo hi (decide (lo ≤ n ∧ n ≤ hi)) :=
  f115_go _ _ _ _ ⟨fun h => by simp [show lo ≤ n from h], fun h => by simp [show ¬ lo ≤ n from h]⟩

/-- how a loop's index goes on -/
theorem wrap_succ {n : Nat} (h : n < 9223372036854775807) : IntKind.i64.wrap ((n : Int) + 1) = ((n + 1 : Nat) : Int) := by
  rw [wrap_i64 (by omega) (by omega)]
  simp

theorem mem_drop_succ {α : Type} {l : List α} {n : Nat} (h : n < l.length) (p : α → Prop) : (∃ x ∈ l.drop n, p x) ↔ p l[n] ∨ ∃ x ∈ l.drop (n + 1), p x := by
  rw [List.drop_eq_getElem_cons h]
  simp only [List.mem_cons, or_and_right, exists_or, exists_eq_left]

theorem allIn_loop (l : List Int) (lo hi : Int) (hl : l.length < 9223372036854775807) : ∀ k n, n + k = l.length → ∃ r, f190_L1 l lo hi l.length n r ∧ (r ≥ 0 ↔ ∃ x ∈ l.drop n, ¬ (lo ≤ x ∧ x ≤ hi)) := by
  intro k
  induction k with
  | zero =>
    intro n hn
    exact ⟨-1, f190_at1 _ _ _ _ _ _ ⟨fun h => absurd h (by omega), fun _ => rfl⟩, by rw [List.drop_of_length_le (by omega)]; simp⟩
  | succ k ih =>
    intro n hn
    have hlt : n < l.length := by omega
    rw [mem_drop_succ hlt]
    by_cases hx : lo ≤ l[n] ∧ l[n] ≤ hi
    · obtain ⟨r, hr, hiff⟩ := ih (n + 1) (by omega)
      refine ⟨r, f190_at1 _ _ _ _ _ _ ⟨fun _ => ⟨by omega, by omega, _, inRange_ok _ _ _, fun h => ?_, fun _ => ?_⟩, fun h => absurd h (by omega)⟩, ?_⟩
      · rw [getD_nat l n 0 hlt] at h
        simp [hx] at h
      · rw [wrap_succ (by omega)]; exact hr
      · rw [hiff]; simp [hx]
    · refine ⟨n, f190_at1 _ _ _ _ _ _ ⟨fun _ => ⟨by omega, by omega, _, inRange_ok _ _ _, fun _ => rfl, fun h => ?_⟩, fun h => absurd h (by omega)⟩, ?_⟩
      · rw [getD_nat l n 0 hlt] at h
        simp [hx] at h
      · exact ⟨fun _ => .inl hx, fun _ => Int.natCast_nonneg n⟩

/-- the library's search for an element beyond a range -/
theorem allIn_ok (l : List Int) (lo hi : Int) (hl : l.length < 9223372036854775807) : ∃ r, f190_H l lo hi r ∧ (r ≥ 0 ↔ ∃ x ∈ l, ¬ (lo ≤ x ∧ x ≤ hi)) := by
  obtain ⟨r, hr, h⟩ := allIn_loop l lo hi hl l.length 0 (by omega)
  exact ⟨r, f190_go _ _ _ _ hr, by simpa using h⟩

/-! ### equal lists -/
theorem drop_eq_succ {α : Type} {a b : List α} {n : Nat} (ha : n < a.length) (hb : n < b.length) : a.drop n = b.drop n ↔ a[n] = b[n] ∧ a.drop (n + 1) = b.drop (n + 1) := by
  rw [List.drop_eq_getElem_cons ha, List.drop_eq_getElem_cons hb]
  simp only [List.cons.injEq]

theorem l01Same_loop (a b : List Int) (hab : a.length = b.length) (hl : a.length < 9223372036854775807) : ∀ k n, n + k = a.length → f92_L1 a b n (decide (a.drop n = b.drop n)) := by
  intro k
  induction k with
  | zero =>
    intro n hn
    refine f92_at1 _ _ _ _ ⟨fun h => absurd h (by omega), fun _ => ?_⟩
    rw [List.drop_of_length_le (by omega), List.drop_of_length_le (by omega)]
    simp
  | succ k ih =>
    intro n hn
    have ha : n < a.length := by omega
    have hb : n < b.length := by omega
    refine f92_at1 _ _ _ _ ⟨fun _ => ⟨by omega, by omega, by omega, fun h => ?_, fun h => ?_⟩, fun h => absurd h (by omega)⟩
    · rw [getD_nat a n 0 ha, getD_nat b n 0 hb] at h
      simp [drop_eq_succ ha hb, h]
    · rw [getD_nat a n 0 ha, getD_nat b n 0 hb] at h
      rw [wrap_succ (by omega)]
      have := ih (n + 1) (by omega)
      simpa [drop_eq_succ ha hb, h] using this

theorem l01Same_ok (a b : List Int) (hl : a.length < 9223372036854775807) : f92_H a b (decide (a = b)) := by
  refine f92_go _ _ _ ⟨fun h => ?_, fun h => ?_⟩
  · have : a ≠ b := fun e => h (by rw [e])
    simp [this]
  · simpa using l01Same_loop a b (by omega) hl a.length 0 (by omega)

theorem eqInts_loop (a b : List Int) (hab : a.length = b.length) (hl : a.length < 9223372036854775807) : ∀ k n, n + k = a.length → f20_L1 a b n (decide (a.drop n = b.drop n)) := by
  intro k
  induction k with
  | zero =>
    intro n hn
    refine f20_at1 _ _ _ _ ⟨fun h => absurd h (by omega), fun _ => ?_⟩
    rw [List.drop_of_length_le (by omega), List.drop_of_length_le (by omega)]
    simp
  | succ k ih =>
    intro n hn
    have ha : n < a.length := by omega
    have hb : n < b.length := by omega
    refine f20_at1 _ _ _ _ ⟨fun _ => ⟨by omega, by omega, by omega, fun h => ?_, fun h => ?_⟩, fun h => absurd h (by omega)⟩
    · rw [getD_nat a n 0 ha, getD_nat b n 0 hb] at h
      simp [drop_eq_succ ha hb, h]
    · rw [getD_nat a n 0 ha, getD_nat b n 0 hb] at h
      rw [wrap_succ (by omega)]
      have := ih (n + 1) (by omega)
      simpa [drop_eq_succ ha hb, h] using this

theorem eqInts_ok (a b : List Int) (hl : a.length < 9223372036854775807) : f20_H a b (decide (a = b)) := by
  refine f20_go _ _ _ ⟨fun h => ?_, fun h => ?_⟩
  · have : a ≠ b := fun e => h (by rw [e])
    simp [this]
  · simpa using eqInts_loop a b (by omega) hl a.length 0 (by omega)

/-! ### the lexicographic order -/
def lexLt : List Int → List Int → Bool
  | _, [] => false
  | [], _ :: _ => true
  | a :: s, b :: t => if a = b then lexLt s t else decide (a < b)
def cmpL : List Int → List Int → Int
  | [], [] => 0
  | [], _ :: _ => -1
  | _ :: _, [] => 1
  | a :: s, b :: t => if a < b then -1 else if b < a then 1 else cmpL s t

theorem lexLt_cmp : ∀ a b, (lexLt a b = true ↔ cmpL a b < 0) ∧ (cmpL a b = 0 ↔ a = b) ∧ (lexLt b a = true ↔ 0 < cmpL a b) ∧ -1 ≤ cmpL a b ∧ cmpL a b ≤ 1 := by
  intro a
  induction a with
  | nil => intro b; cases b <;> simp [lexLt, cmpL]
  | cons x s ih =>
    intro b
    cases b with
    | nil => simp [lexLt, cmpL]
    | cons y t =>
      obtain ⟨h1, h2, h3, h4, h5⟩ := ih t
      unfold lexLt cmpL
      by_cases hxy : x < y
      · have : ¬ x = y := by omega
        have h' : ¬ y = x := by omega
        have h'' : ¬ y < x := by omega
        simp [hxy, this, h', h'']
      · by_cases hyx : y < x
        · have : ¬ x = y := by omega
          have h' : ¬ y = x := by omega
          simp [hxy, hyx, this, h']
        · have : x = y := by omega
          subst this
          simp only [if_true, if_neg hxy]
          simp only [List.cons.injEq, true_and]
          exact ⟨h1, h2, h3, h4, h5⟩

theorem l01Less_loop (a b : List Int) (hl : a.length < 9223372036854775807) : ∀ k n, n + k = a.length → n ≤ b.length → f151_L1 a b n (lexLt (a.drop n) (b.drop n)) := by
  intro k
  induction k with
  | zero =>
    intro n hn hb
    refine f151_at1 _ _ _ _ ⟨fun h => absurd h (by omega), fun _ => ?_⟩
    rw [List.drop_of_length_le (show a.length ≤ n by omega)]
    by_cases h : n < b.length
    · rw [List.drop_eq_getElem_cons h]
      simp [lexLt]; omega
    · rw [List.drop_of_length_le (by omega)]
      simp [lexLt]; omega
  | succ k ih =>
    intro n hn hb
    have ha : n < a.length := by omega
    refine f151_at1 _ _ _ _ ⟨fun _ => ⟨fun h => ⟨by omega, by omega, by omega, fun h' => ?_, fun h' => ?_⟩, fun h => ?_⟩, fun h => absurd h (by omega)⟩
    · have hb : n < b.length := by omega
      rw [getD_nat a n 0 ha, getD_nat b n 0 hb] at h' ⊢
      rw [List.drop_eq_getElem_cons ha, List.drop_eq_getElem_cons hb]
      simp [lexLt, h']
    · have hb : n < b.length := by omega
      rw [getD_nat a n 0 ha, getD_nat b n 0 hb] at h'
      rw [wrap_succ (by omega)]
      have := ih (n + 1) (by omega) (by omega)
      rw [List.drop_eq_getElem_cons ha, List.drop_eq_getElem_cons hb]
      simpa [lexLt, h'] using this
    · rw [List.drop_of_length_le (show b.length ≤ n by omega)]
      simp [lexLt]; omega

theorem l01Less_ok (a b : List Int) (hl : a.length < 9223372036854775807) : f151_H a b (lexLt a b) :=
  f151_go _ _ _ (by simpa using l01Less_loop a b hl a.length 0 (by omega) (by omega))

theorem cmp_ok (x y : Int) : f233_H x y (if x < y then -1 else if y < x then 1 else 0) := by
  refine f233_go _ _ _ ⟨fun h => absurd rfl h, fun _ => ⟨fun h => absurd rfl h, fun _ => ⟨fun h => ?_, fun h => ⟨fun h' => ?_, fun h' => ?_⟩⟩⟩⟩
  · simp [h]
  · have : y < x := h'
    simp [h, this]
  · have : ¬ y < x := h'
    simp [h, this]

theorem compare_loop (a b : List Int) (hl : a.length < 9223372036854775807) : ∀ k n, n + k = a.length → n ≤ b.length → f158_L1 a b a.length n (cmpL (a.drop n) (b.drop n)) := by
  intro k
  induction k with
  | zero =>
    intro n hn hb
    refine f158_at1 _ _ _ _ _ ⟨fun h => absurd h (by omega), fun _ => ⟨fun h => ?_, fun h => ?_⟩⟩
    · rw [List.drop_of_length_le (show a.length ≤ n by omega), List.drop_eq_getElem_cons (show n < b.length by omega)]
      simp [cmpL]
    · rw [List.drop_of_length_le (show a.length ≤ n by omega), List.drop_of_length_le (show b.length ≤ n by omega)]
      simp [cmpL]
  | succ k ih =>
    intro n hn hb
    have ha : n < a.length := by omega
    refine f158_at1 _ _ _ _ _ ⟨fun _ => ⟨by omega, by omega, fun h => ?_, fun h => ⟨by omega, _, cmp_ok _ _, fun h' => ?_, fun h' => ?_⟩⟩, fun h => absurd h (by omega)⟩
    · rw [List.drop_of_length_le (show b.length ≤ n by omega), List.drop_eq_getElem_cons ha]
      simp [cmpL]
    · have hb : n < b.length := by omega
      rw [getD_nat a n 0 ha, getD_nat b n 0 hb] at h' ⊢
      rw [List.drop_eq_getElem_cons ha, List.drop_eq_getElem_cons hb]
      unfold cmpL
      by_cases h1 : a[n] < b[n]
      · simp [h1]
      · by_cases h2 : b[n] < a[n]
        · simp [h1, h2]
        · simp [h1, h2] at h'
    · have hb : n < b.length := by omega
      rw [getD_nat a n 0 ha, getD_nat b n 0 hb] at h'
      rw [wrap_succ (by omega)]
      have := ih (n + 1) (by omega) (by omega)
      rw [List.drop_eq_getElem_cons ha, List.drop_eq_getElem_cons hb]
      unfold cmpL
      by_cases h1 : a[n] < b[n]
      · simp [h1] at h'
      · by_cases h2 : b[n] < a[n]
        · simp [h1, h2] at h'
        · simpa [h1, h2] using this

theorem compare_ok (a b : List Int) (hl : a.length < 9223372036854775807) : f158_H a b (cmpL a b) :=
  f158_go _ _ _ (by simpa using compare_loop a b hl a.length 0 (by omega) (by omega))

end Go.Proofs.YtcbeifkfllcjoaaDoor
