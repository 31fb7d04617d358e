/-
  Contracts of the laws' own helpers: sizes, copies, comparisons of equal data.
-/
import Derived.Test.YtcbeifkfllcjoaaDoorPC
set_option linter.unusedVariables false
set_option linter.unusedSimpArgs false
set_option maxRecDepth 100000
namespace Go.Proofs.YtcbeifkfllcjoaaDoor

/-! ### sizes -/
theorem szInts_ok (l : List Int) (left : Int) (h0 : 0 ≤ left) (h1 : left ≤ 1048576) (hl : l.length ≤ 9223372036854775807) : ∃ r : Int, f69_H l left r ∧ (¬ r < 0 → 0 ≤ r ∧ r ≤ left ∧ (l.length : Int) ≤ 1048576) := by
  have hw : IntKind.i64.wrap (left - (l.length : Int)) = left - l.length := wrap_i64 (by omega) (by omega)
  by_cases h : left - (l.length : Int) < 0
  · exact ⟨-1, f69_go _ _ _ ⟨fun _ => rfl, fun h' => absurd (by rw [hw]; exact h) h'⟩, fun h' => absurd (by decide) h'⟩
  · refine ⟨left - l.length, f69_go _ _ _ ⟨fun h' => absurd (by rw [hw] at h'; exact h') h, fun _ => hw.symm⟩, fun _ => ⟨by omega, by omega, by omega⟩⟩

theorem szJoint_ok (j : S161) (left : Int) (h0 : 0 ≤ left) (h1 : left ≤ 1048576) (hf : j.2.1.length ≤ 9223372036854775807) (ht : j.2.2.1.length ≤ 9223372036854775807) :
    ∃ r : Int, f148_H j left r ∧ (¬ r < 0 → 0 ≤ r ∧ r ≤ left ∧ (j.2.1.length : Int) ≤ 1048576 ∧ (j.2.2.1.length : Int) ≤ 1048576) := by
  obtain ⟨r1, k1, c1⟩ := szInts_ok j.2.1 left h0 h1 hf
  by_cases n1 : r1 < 0
  · exact ⟨-1, f148_go _ _ _ ⟨r1, k1, fun _ => rfl, fun h => absurd n1 h⟩, fun h => absurd (by decide) h⟩
  · obtain ⟨a1, a2, a3⟩ := c1 n1
    obtain ⟨r2, k2, c2⟩ := szInts_ok j.2.2.1 r1 a1 (by omega) ht
    by_cases n2 : r2 < 0
    · exact ⟨-1, f148_go _ _ _ ⟨r1, k1, fun h => absurd h n1, fun _ => ⟨r2, k2, fun _ => rfl, fun h => absurd n2 h⟩⟩, fun h => absurd (by decide) h⟩
    · obtain ⟨b1, b2, b3⟩ := c2 n2
      exact ⟨r2, f148_go _ _ _ ⟨r1, k1, fun h => absurd h n1, fun _ => ⟨r2, k2, fun h => absurd h n2, fun _ => rfl⟩⟩, fun _ => ⟨b1, by omega, a3, b3⟩⟩

theorem szJoints_loop (l : List S161) (a1 : Int) (hl : l.length < 9223372036854775807) (hj : ∀ j ∈ l, j.2.1.length ≤ 9223372036854775807 ∧ j.2.2.1.length ≤ 9223372036854775807) : ∀ k n, n + k = l.length → ∀ left : Int, 0 ≤ left → left ≤ 1048576 →
    ∃ r : Int, f70_L1 l a1 left n r ∧ (¬ r < 0 → 0 ≤ r ∧ r ≤ left ∧ ∀ j ∈ l.drop n, (j.2.1.length : Int) ≤ 1048576 ∧ (j.2.2.1.length : Int) ≤ 1048576) := by
  intro k
  induction k with
  | zero =>
    intro n hn left h0 h1
    exact ⟨left, f70_at1 _ _ _ _ _ ⟨fun h => absurd h (by omega), fun _ => rfl⟩, fun _ => ⟨h0, Int.le_refl _, by rw [List.drop_of_length_le (by omega)]; simp⟩⟩
  | succ k ih =>
    intro n hn left h0 h1
    have hlt : n < l.length := by omega
    obtain ⟨q1, q2⟩ := hj l[n] (List.getElem_mem hlt)
    obtain ⟨r1, k1, c1⟩ := szJoint_ok l[n] left h0 h1 q1 q2
    rw [← getD_nat l n (0, ([], ([], ()))) hlt] at k1
    by_cases n1 : r1 < 0
    · exact ⟨-1, f70_at1 _ _ _ _ _ ⟨fun _ => ⟨by omega, by omega, r1, k1, fun _ => rfl, fun h => absurd n1 h⟩, fun h => absurd h (by omega)⟩, fun h => absurd (by decide) h⟩
    · obtain ⟨a1', a2, a3, a4⟩ := c1 n1
      obtain ⟨r, hr, c2⟩ := ih (n + 1) (by omega) r1 a1' (by omega)
      refine ⟨r, f70_at1 _ _ _ _ _ ⟨fun _ => ⟨by omega, by omega, r1, k1, fun h => absurd h n1, fun _ => by rw [wrap_succ (by omega)]; exact hr⟩, fun h => absurd h (by omega)⟩, fun h => ?_⟩
      obtain ⟨b1, b2, b3⟩ := c2 h
      refine ⟨b1, by omega, fun j hj' => ?_⟩
      rw [List.drop_eq_getElem_cons hlt, List.mem_cons] at hj'
      rcases hj' with rfl | hj'
      · exact ⟨a3, a4⟩
      · exact b3 j hj'

theorem szJoints_ok (l : List S161) (left : Int) (h0 : 0 ≤ left) (h1 : left ≤ 1048576) (hl : l.length ≤ 9223372036854775807) (hj : ∀ j ∈ l, j.2.1.length ≤ 9223372036854775807 ∧ j.2.2.1.length ≤ 9223372036854775807) :
    ∃ r : Int, f70_H l left r ∧ (¬ r < 0 → 0 ≤ r ∧ r ≤ left ∧ (l.length : Int) ≤ 1048576 ∧ ∀ j ∈ l, (j.2.1.length : Int) ≤ 1048576 ∧ (j.2.2.1.length : Int) ≤ 1048576) := by
  have hw : IntKind.i64.wrap (left - (l.length : Int)) = left - l.length := wrap_i64 (by omega) (by omega)
  by_cases h : left - (l.length : Int) < 0
  · exact ⟨-1, f70_go _ _ _ ⟨fun _ => rfl, fun h' => absurd (by rw [hw]; exact h) h'⟩, fun h' => absurd (by decide) h'⟩
  · obtain ⟨r, hr, c⟩ := szJoints_loop l left (by omega) hj l.length 0 (by omega) (left - l.length) (by omega) (by omega)
    refine ⟨r, f70_go _ _ _ ⟨fun h' => absurd (by rw [hw] at h'; exact h') h, fun _ => by rw [hw]; exact hr⟩, fun h' => ?_⟩
    obtain ⟨b1, b2, b3⟩ := c h'
    exact ⟨b1, by omega, by omega, by simpa using b3⟩

theorem szIntss_loop (l : List (List Int)) (a1 : Int) (hl : l.length < 9223372036854775807) (hj : ∀ j ∈ l, j.length ≤ 9223372036854775807) : ∀ k n, n + k = l.length → ∀ left : Int, 0 ≤ left → left ≤ 1048576 →
    ∃ r : Int, f71_L1 l a1 left n r ∧ (¬ r < 0 → 0 ≤ r ∧ r ≤ left ∧ ∀ j ∈ l.drop n, (j.length : Int) ≤ 1048576) := by
  intro k
  induction k with
  | zero =>
    intro n hn left h0 h1
    exact ⟨left, f71_at1 _ _ _ _ _ ⟨fun h => absurd h (by omega), fun _ => rfl⟩, fun _ => ⟨h0, Int.le_refl _, by rw [List.drop_of_length_le (by omega)]; simp⟩⟩
  | succ k ih =>
    intro n hn left h0 h1
    have hlt : n < l.length := by omega
    obtain ⟨r1, k1, c1⟩ := szInts_ok l[n] left h0 h1 (hj l[n] (List.getElem_mem hlt))
    rw [← getD_nat l n [] hlt] at k1
    by_cases n1 : r1 < 0
    · exact ⟨-1, f71_at1 _ _ _ _ _ ⟨fun _ => ⟨by omega, by omega, r1, k1, fun _ => rfl, fun h => absurd n1 h⟩, fun h => absurd h (by omega)⟩, fun h => absurd (by decide) h⟩
    · obtain ⟨a1', a2, a3⟩ := c1 n1
      obtain ⟨r, hr, c2⟩ := ih (n + 1) (by omega) r1 a1' (by omega)
      refine ⟨r, f71_at1 _ _ _ _ _ ⟨fun _ => ⟨by omega, by omega, r1, k1, fun h => absurd h n1, fun _ => by rw [wrap_succ (by omega)]; exact hr⟩, fun h => absurd h (by omega)⟩, fun h => ?_⟩
      obtain ⟨b1, b2, b3⟩ := c2 h
      refine ⟨b1, by omega, fun j hj' => ?_⟩
      rw [List.drop_eq_getElem_cons hlt, List.mem_cons] at hj'
      rcases hj' with rfl | hj'
      · exact a3
      · exact b3 j hj'

theorem szIntss_ok (l : List (List Int)) (left : Int) (h0 : 0 ≤ left) (h1 : left ≤ 1048576) (hl : l.length ≤ 9223372036854775807) (hj : ∀ j ∈ l, j.length ≤ 9223372036854775807) :
    ∃ r : Int, f71_H l left r ∧ (¬ r < 0 → 0 ≤ r ∧ r ≤ left ∧ (l.length : Int) ≤ 1048576 ∧ ∀ j ∈ l, (j.length : Int) ≤ 1048576) := by
  have hw : IntKind.i64.wrap (left - (l.length : Int)) = left - l.length := wrap_i64 (by omega) (by omega)
  by_cases h : left - (l.length : Int) < 0
  · exact ⟨-1, f71_go _ _ _ ⟨fun _ => rfl, fun h' => absurd (by rw [hw]; exact h) h'⟩, fun h' => absurd (by decide) h'⟩
  · obtain ⟨r, hr, c⟩ := szIntss_loop l left (by omega) hj l.length 0 (by omega) (left - l.length) (by omega) (by omega)
    refine ⟨r, f71_go _ _ _ ⟨fun h' => absurd (by rw [hw] at h'; exact h') h, fun _ => by rw [hw]; exact hr⟩, fun h' => ?_⟩
    obtain ⟨b1, b2, b3⟩ := c h'
    exact ⟨b1, by omega, by omega, by simpa using b3⟩

/-! ### copies -/
theorem fill_succ {α : Type} (l : List α) (d : α) {n k : Nat} (hn : n + (k + 1) = l.length) : (l.take n ++ List.replicate (k + 1) d).set n (l[n]'(by omega)) = l.take (n + 1) ++ List.replicate k d := by
  have hlen : (l.take n).length = n := by simp; omega
  rw [List.set_append_right _ _ (by omega), hlen, Nat.sub_self, List.replicate_succ, List.set_cons_zero, List.take_succ_eq_append_getElem (by omega), List.append_assoc, List.singleton_append]

theorem toInts_loop (l : List Int) (hl : l.length < 9223372036854775807) : ∀ k n, n + k = l.length → f17_L1 l n (l.take n ++ List.replicate k 0) l := by
  intro k
  induction k with
  | zero =>
    intro n hn
    refine f17_at1 _ _ _ _ ⟨fun h => absurd h (by omega), fun _ => ?_⟩
    rw [List.take_of_length_le (by omega)]
    simp
  | succ k ih =>
    intro n hn
    have hlt : n < l.length := by omega
    have hlen : (l.take n ++ List.replicate (k + 1) (0 : Int)).length = l.length := by simp; omega
    refine f17_at1 _ _ _ _ ⟨fun _ => ⟨by omega, by omega, by rw [hlen]; omega, by rw [hlen]; omega, ?_⟩, fun h => absurd h (by omega)⟩
    rw [wrap_succ (by omega), getD_nat l n 0 hlt, Int.toNat_natCast, fill_succ l 0 hn]
    exact ih (n + 1) (by omega)

theorem toInts_ok (l : List Int) (hl : (l.length : Int) * 8 ≤ 140737488355328) : f17_H l l :=
  f17_go _ _ ⟨hl, by simpa using toInts_loop l (by omega) l.length 0 (by omega)⟩

theorem toJoints_loop (l : List S161) (hl : l.length < 9223372036854775807) (hj : ∀ j ∈ l, (j.2.1.length : Int) * 8 ≤ 140737488355328 ∧ (j.2.2.1.length : Int) * 8 ≤ 140737488355328) : ∀ k n, n + k = l.length → f75_L1 l n (l.take n ++ List.replicate k (0, ([], ([], ())))) l := by
  intro k
  induction k with
  | zero =>
    intro n hn
    refine f75_at1 _ _ _ _ ⟨fun h => absurd h (by omega), fun _ => ?_⟩
    rw [List.take_of_length_le (by omega)]
    simp
  | succ k ih =>
    intro n hn
    have hlt : n < l.length := by omega
    have hlen : (l.take n ++ List.replicate (k + 1) ((0, ([], ([], ()))) : S161)).length = l.length := by simp; omega
    obtain ⟨q1, q2⟩ := hj l[n] (List.getElem_mem hlt)
    refine f75_at1 _ _ _ _ ⟨fun _ => ⟨by omega, by omega, l[n].2.1, ?_, l[n].2.2.1, ?_, by rw [hlen]; omega, by rw [hlen]; omega, ?_⟩, fun h => absurd h (by omega)⟩
    · rw [getD_nat l n _ hlt]; exact toInts_ok _ q1
    · rw [getD_nat l n _ hlt]; exact toInts_ok _ q2
    · rw [wrap_succ (by omega), getD_nat l n _ hlt, Int.toNat_natCast]
      have := fill_succ l ((0, ([], ([], ()))) : S161) hn
      rw [show (l[n].1, (l[n].2.1, (l[n].2.2.1, ()))) = l[n] from rfl, this]
      exact ih (n + 1) (by omega)

theorem toJoints_ok (l : List S161) (hl : (l.length : Int) * 56 ≤ 140737488355328) (hj : ∀ j ∈ l, (j.2.1.length : Int) * 8 ≤ 140737488355328 ∧ (j.2.2.1.length : Int) * 8 ≤ 140737488355328) : f75_H l l :=
  f75_go _ _ ⟨hl, by simpa using toJoints_loop l (by omega) hj l.length 0 (by omega)⟩

theorem toIntss_loop (l : List (List Int)) (hl : l.length < 9223372036854775807) (hj : ∀ j ∈ l, (j.length : Int) * 8 ≤ 140737488355328) : ∀ k n, n + k = l.length → f76_L1 l n (l.take n ++ List.replicate k []) l := by
  intro k
  induction k with
  | zero =>
    intro n hn
    refine f76_at1 _ _ _ _ ⟨fun h => absurd h (by omega), fun _ => ?_⟩
    rw [List.take_of_length_le (by omega)]
    simp
  | succ k ih =>
    intro n hn
    have hlt : n < l.length := by omega
    have hlen : (l.take n ++ List.replicate (k + 1) ([] : List Int)).length = l.length := by simp; omega
    refine f76_at1 _ _ _ _ ⟨fun _ => ⟨by omega, by omega, l[n], ?_, by rw [hlen]; omega, by rw [hlen]; omega, ?_⟩, fun h => absurd h (by omega)⟩
    · rw [getD_nat l n _ hlt]; exact toInts_ok _ (hj _ (List.getElem_mem hlt))
    · rw [wrap_succ (by omega), Int.toNat_natCast, fill_succ l [] hn]
      exact ih (n + 1) (by omega)

theorem toIntss_ok (l : List (List Int)) (hl : (l.length : Int) * 24 ≤ 140737488355328) (hj : ∀ j ∈ l, (j.length : Int) * 8 ≤ 140737488355328) : f76_H l l :=
  f76_go _ _ ⟨hl, by simpa using toIntss_loop l (by omega) hj l.length 0 (by omega)⟩

/-! ### equal data -/
theorem eqInts_refl (l : List Int) (hl : l.length < 9223372036854775807) : f20_H l l true := by
  have := eqInts_ok l l hl
  simpa using this

theorem eqJoint_refl (j : S161) (h1 : j.2.1.length < 9223372036854775807) (h2 : j.2.2.1.length < 9223372036854775807) : f161_H j j true :=
  f161_go _ _ _ ⟨fun h => absurd rfl h, fun _ => ⟨_, eqInts_refl _ h1, fun h => (by cases h), fun _ => ⟨_, eqInts_refl _ h2, fun h => (by cases h), fun _ => rfl⟩⟩⟩

theorem eqJoints_loop (l : List S161) (hl : l.length < 9223372036854775807) (hj : ∀ j ∈ l, j.2.1.length < 9223372036854775807 ∧ j.2.2.1.length < 9223372036854775807) : ∀ k n, n + k = l.length → f80_L1 l l n true := by
  intro k
  induction k with
  | zero => intro n hn; exact f80_at1 _ _ _ _ ⟨fun h => absurd h (by omega), fun _ => rfl⟩
  | succ k ih =>
    intro n hn
    have hlt : n < l.length := by omega
    obtain ⟨q1, q2⟩ := hj l[n] (List.getElem_mem hlt)
    refine f80_at1 _ _ _ _ ⟨fun _ => ⟨by omega, by omega, by omega, true, ?_, fun h => (by cases h), fun _ => by rw [wrap_succ (by omega)]; exact ih (n + 1) (by omega)⟩, fun h => absurd h (by omega)⟩
    rw [getD_nat l n _ hlt]
    exact eqJoint_refl _ q1 q2

theorem eqJoints_refl (l : List S161) (hl : l.length < 9223372036854775807) (hj : ∀ j ∈ l, j.2.1.length < 9223372036854775807 ∧ j.2.2.1.length < 9223372036854775807) : f80_H l l true :=
  f80_go _ _ _ ⟨fun h => absurd rfl h, fun _ => by simpa using eqJoints_loop l hl hj l.length 0 (by omega)⟩

theorem eqIntss_loop (l : List (List Int)) (hl : l.length < 9223372036854775807) (hj : ∀ j ∈ l, j.length < 9223372036854775807) : ∀ k n, n + k = l.length → f30_L1 l l n true := by
  intro k
  induction k with
  | zero => intro n hn; exact f30_at1 _ _ _ _ ⟨fun h => absurd h (by omega), fun _ => rfl⟩
  | succ k ih =>
    intro n hn
    have hlt : n < l.length := by omega
    refine f30_at1 _ _ _ _ ⟨fun _ => ⟨by omega, by omega, by omega, true, ?_, fun h => (by cases h), fun _ => by rw [wrap_succ (by omega)]; exact ih (n + 1) (by omega)⟩, fun h => absurd h (by omega)⟩
    rw [getD_nat l n _ hlt]
    exact eqInts_refl _ (hj _ (List.getElem_mem hlt))

theorem eqIntss_refl (l : List (List Int)) (hl : l.length < 9223372036854775807) (hj : ∀ j ∈ l, j.length < 9223372036854775807) : f30_H l l true :=
  f30_go _ _ _ ⟨fun h => absurd rfl h, fun _ => by simpa using eqIntss_loop l hl hj l.length 0 (by omega)⟩

end Go.Proofs.YtcbeifkfllcjoaaDoor
