/-
  IsAsynchronous, the reference's and the program's: both say `Valid`.
-/
import Derived.Test.YtcbeifkfllcjoaaDoorPE
set_option linter.unusedVariables false
set_option linter.unusedSimpArgs false
set_option maxRecDepth 100000
namespace Go.Proofs.YtcbeifkfllcjoaaDoor

/-- truth as a Bool -/
noncomputable def tt (p : Prop) : Bool := @decide p (Classical.propDecidable p)
theorem tt_iff {p : Prop} : tt p = true ↔ p := @decide_eq_true_iff p (Classical.propDecidable p)
theorem tt_true {p : Prop} (h : p) : tt p = true := tt_iff.2 h
theorem tt_false {p : Prop} (h : ¬ p) : tt p = false := by
  cases hq : tt p with
  | true => exact absurd (tt_iff.1 hq) h
  | false => rfl
theorem tt_congr {p q : Prop} (h : p ↔ q) : tt p = tt q := by rw [propext h]
theorem tt_decide {p : Prop} [Decidable p] : decide p = tt p := by
  by_cases h : p
  · rw [tt_true h]; simp [h]
  · rw [tt_false h]; simp [h]
theorem tt_bool (b : Bool) : tt (b = true) = b := by
  cases b
  · exact tt_false (by decide)
  · exact tt_true rfl

/-- what holds of all from here on -/
def From (P : Nat → Prop) (n k : Nat) : Prop := ∀ i, k ≤ i → i < n → P i
theorem from_step {P : Nat → Prop} {n k : Nat} (h : k < n) : From P n k ↔ P k ∧ From P n (k + 1) := by
  constructor
  · intro hf
    exact ⟨hf k (Nat.le_refl _) h, fun i hi hn => hf i (by omega) hn⟩
  · rintro ⟨h1, h2⟩ i hi hn
    by_cases e : i = k
    · subst e; exact h1
    · exact h2 i (by omega) hn
theorem from_end {P : Nat → Prop} {n k : Nat} (h : n ≤ k) : From P n k := fun i hi hn => absurd hn (by omega)
theorem from_zero {P : Nat → Prop} {n : Nat} (h : From P n 0) {i : Nat} (hi : i < n) : P i := h i (Nat.zero_le _) hi

/-- the mask of all members, as the code counts it -/
def full (n : Int) : Int := IntKind.i64.wrap ((IntKind.i64.wrap (1 * 2 ^ (min (IntKind.u64.wrap n).toNat 64))) - 1)
theorem full_eq {n : Nat} (h : n ≤ 62) : full (n : Int) = ((2 ^ n - 1 : Nat) : Int) := by
  have h2 : (2 : Nat) ^ n ≤ 2 ^ 62 := Nat.pow_le_pow_right (by decide) h
  have h3 : (2 : Nat) ^ 62 < 9223372036854775807 := by decide
  have h4 := Nat.two_pow_pos n
  unfold full
  rw [wrap_u64 (by omega) (by omega), shl_nat (by omega), wrap_i64 (by omega) (by omega)]
  omega

theorem i64_le (n : Nat) (h : n ≤ 1048576) : IntKind.i64.wrap ((n : Int) - 1) = n - 1 := wrap_i64 (by omega) (by omega)
theorem i64_pred {k : Nat} (h0 : 0 < k) (h : k ≤ 1048576) : (IntKind.i64.wrap ((k : Int) - 1)).toNat = k - 1 := by rw [i64_le k h]; omega

/-! ### places -/
def VPlaces (n : Nat) (l : List Int) : Prop := (1 ≤ n ∧ n ≤ 4) ∧ l.length ≤ 8 ∧ ∀ x ∈ l, 1 ≤ x ∧ x ≤ ((2 ^ n - 1 : Nat) : Int)

theorem places_loop (n : Nat) (l : List Int) (hn : n ≤ 1048576) (hl : l.length ≤ 1048576) : ∀ k i, i + k = l.length →
    f149_L1 n l i (tt ((1 ≤ n ∧ n ≤ 4) ∧ l.length ≤ 8 ∧ ∀ x ∈ l.drop i, 1 ≤ x ∧ x ≤ full n)) := by
  intro k
  induction k with
  | zero =>
    intro i hi
    refine f149_at1 _ _ _ _ ⟨fun h => absurd h (by omega), fun _ => ⟨_, l01In_ok _ _ _, fun h => ?_, fun h => ?_⟩⟩
    · simp only [decide_eq_true_eq] at h
      rw [tt_decide]
      refine tt_congr ⟨fun h' => ?_, fun h' => ⟨by omega, by omega, by rw [List.drop_of_length_le (by omega)]; simp⟩⟩
      omega
    · simp only [decide_eq_false_iff_not] at h
      exact tt_false fun h' => h (by omega)
  | succ k ih =>
    intro i hi
    have hlt : i < l.length := by omega
    refine f149_at1 _ _ _ _ ⟨fun _ => ⟨by omega, by omega, wrap_u64_nonneg _, _, l01In_ok _ _ _, fun h => ?_, fun h => ?_⟩, fun h => absurd h (by omega)⟩
    · simp only [decide_eq_false_iff_not] at h
      rw [getD_nat l i _ hlt] at h
      refine tt_false fun h' => h ?_
      exact h'.2.2 _ (by rw [List.drop_eq_getElem_cons hlt]; exact List.mem_cons_self ..)
    · simp only [decide_eq_true_eq] at h
      rw [getD_nat l i _ hlt] at h
      rw [wrap_succ (by omega)]
      have := ih (i + 1) (by omega)
      rw [tt_congr (p := (1 ≤ n ∧ n ≤ 4) ∧ l.length ≤ 8 ∧ ∀ x ∈ l.drop i, 1 ≤ x ∧ x ≤ full n) (q := (1 ≤ n ∧ n ≤ 4) ∧ l.length ≤ 8 ∧ ∀ x ∈ l.drop (i + 1), 1 ≤ x ∧ x ≤ full n)]
      · exact this
      · rw [List.drop_eq_getElem_cons hlt]
        simp only [List.mem_cons, forall_eq_or_imp]
        exact ⟨fun ⟨a, b, c, d⟩ => ⟨a, b, d⟩, fun ⟨a, b, d⟩ => ⟨a, b, h, d⟩⟩

theorem places_ok (n : Nat) (l : List Int) (hn : n ≤ 1048576) (hl : l.length ≤ 1048576) : f149_H n l (tt (VPlaces n l)) := by
  refine f149_go _ _ _ ?_
  have := places_loop n l hn hl l.length 0 (by omega)
  rw [List.drop_zero] at this
  have e : tt (VPlaces n l) = tt ((1 ≤ n ∧ n ≤ 4) ∧ l.length ≤ 8 ∧ ∀ x ∈ l, 1 ≤ x ∧ x ≤ full n) := by
    refine tt_congr ⟨fun ⟨a, b, c⟩ => ⟨a, b, ?_⟩, fun ⟨a, b, c⟩ => ⟨a, b, ?_⟩⟩
    · rw [full_eq (by omega)]; exact c
    · rw [← full_eq (by omega)]; exact c
  rw [e]
  exact this

theorem arePlaces_ok (n : Nat) (l : List Int) (hn : n ≤ 1048576) (hl : l.length ≤ 1048576) : f131_H n l (tt (VPlaces n l)) := by
  refine f131_go _ _ _ ⟨_, inRange_ok _ _ _, fun h => ⟨fun h8 => ⟨by omega, ?_⟩, fun h8 => ?_⟩, fun h => ?_⟩
  · simp only [decide_eq_true_eq] at h
    have e : IntKind.i64.wrap ((IntKind.i64.wrap (1 * 2 ^ (min (n : Int).toNat 64))) - 1) = ((2 ^ n - 1 : Nat) : Int) := by
      rw [← full_eq (by omega)]
      unfold full
      rw [wrap_u64 (by omega) (by omega)]
    rw [e]
    obtain ⟨r, hr, c⟩ := allIn_ok l 1 ((2 ^ n - 1 : Nat) : Int) (by omega)
    refine ⟨r, hr, ?_⟩
    rw [tt_decide]
    by_cases q : r ≥ 0
    · rw [tt_true q]
      obtain ⟨x, hx, hx'⟩ := c.1 q
      exact tt_false fun h' => hx' (h'.2.2 x hx)
    · rw [tt_false q]
      refine tt_true ⟨by omega, by omega, fun x hx => ?_⟩
      exact Classical.byContradiction fun h' => q (c.2 ⟨x, hx, h'⟩)
  · exact tt_false fun h' => h8 (by have := h'.2.1; omega)
  · simp only [decide_eq_false_iff_not] at h
    exact tt_false fun h' => h (by have := h'.1; omega)

/-! ### the machine -/
/-- every list is short -/
def Small (z : S25) : Prop :=
  z.1.length ≤ 1048576 ∧ z.2.1.length ≤ 1048576 ∧ z.2.2.1.length ≤ 1048576 ∧ z.2.2.2.1.length ≤ 1048576 ∧ (∀ j ∈ z.2.2.2.1, j.2.1.length ≤ 1048576 ∧ j.2.2.1.length ≤ 1048576) ∧
    z.2.2.2.2.1.length ≤ 1048576 ∧ ∀ f ∈ z.2.2.2.2.1, f.length ≤ 1048576

/-- the place of a letter -/
def pl (z : S25) (a : Int) : Nat := (z.1.getD a.toNat 0).toNat
/-- the joint of an index -/
def J (z : S25) (i : Nat) : S161 := z.2.2.2.1.getD i (0, ([], ([], ())))
/-- the final state of an index -/
def Fi (z : S25) (i : Nat) : List Int := z.2.2.2.2.1.getD i []
def ltJ (a b : S161) : Prop := a.1 < b.1 ∨ a.1 = b.1 ∧ lexLt a.2.1 b.2.1 = true
def VJ (z : S25) (j : S161) : Prop := (0 ≤ j.1 ∧ j.1 < (z.1.length : Int)) ∧ okG (sel (pl z j.1) z.2.1) j.2.1 = true ∧ okG (sel (pl z j.1) z.2.1) j.2.2.1 = true
def PJ (z : S25) (i : Nat) : Prop := VJ z (J z i) ∧ (0 < i → ltJ (J z (i - 1)) (J z i))
def PF (z : S25) (i : Nat) : Prop := okG z.2.1 (Fi z i) = true ∧ (0 < i → lexLt (Fi z (i - 1)) (Fi z i) = true)

def VBase (z : S25) : Prop := VPlaces z.2.1.length z.1 ∧ ∀ s ∈ z.2.1, 1 ≤ s ∧ s ≤ 4
def Valid (z : S25) : Prop :=
  VBase z ∧ okG z.2.1 z.2.2.1 = true ∧ (From (PJ z) z.2.2.2.1.length 0 ∧ z.2.2.2.1.length ≤ 64) ∧ (From (PF z) z.2.2.2.2.1.length 0 ∧ z.2.2.2.2.1.length ≤ 64)

theorem pl_lt {z : S25} (h : VBase z) {a : Int} (h0 : 0 ≤ a) (h1 : a < (z.1.length : Int)) : z.1.getD a.toNat 0 = (pl z a : Int) ∧ 1 ≤ pl z a ∧ pl z a < 2 ^ z.2.1.length := by
  have hlt : a.toNat < z.1.length := by omega
  have e : z.1.getD a.toNat 0 = z.1[a.toNat] := by simp [List.getD_eq_getElem?_getD, hlt]
  have := h.1.2.2 _ (List.getElem_mem hlt)
  have h4 := Nat.two_pow_pos z.2.1.length
  rw [← e] at this
  unfold pl
  omega

theorem okG_len {s g : List Int} (h : okG s g = true) : g.length = s.length := okG_length h

theorem pl_small {z : S25} (h : VBase z) {a : Int} (h0 : 0 ≤ a) (h1 : a < (z.1.length : Int)) : pl z a < 16 := by
  have h2 := (pl_lt h h0 h1).2.2
  have h3 : (2 : Nat) ^ z.2.1.length ≤ 2 ^ 4 := Nat.pow_le_pow_right (by decide) h.1.1.2
  omega

theorem J_mem {z : S25} {i : Nat} (h : i < z.2.2.2.1.length) : J z i ∈ z.2.2.2.1 := by
  unfold J
  rw [List.getD_eq_getElem?_getD, List.getElem?_eq_getElem h]
  exact List.getElem_mem h
theorem Fi_mem {z : S25} {i : Nat} (h : i < z.2.2.2.2.1.length) : Fi z i ∈ z.2.2.2.2.1 := by
  unfold Fi
  rw [List.getD_eq_getElem?_getD, List.getElem?_eq_getElem h]
  exact List.getElem_mem h

theorem joints_loop (z : S25) (hs : Small z) (hb : VBase z) : ∀ k i, i + k = z.2.2.2.1.length → f150_L1 z i (tt (From (PJ z) z.2.2.2.1.length i ∧ z.2.2.2.1.length ≤ 64)) := by
  intro k
  obtain ⟨s1, s2, s3, s4, s5, s6, s7⟩ := hs
  have b4 := hb.1.1
  induction k with
  | zero =>
    intro i hi
    refine f150_at1 _ _ _ ⟨fun h => absurd h (by omega), fun _ => ?_⟩
    rw [tt_decide]
    exact tt_congr ⟨fun ⟨_, h⟩ => by omega, fun h => ⟨from_end (by omega), by omega⟩⟩
  | succ k ih =>
    intro i hi
    have hlt : i < z.2.2.2.1.length := by omega
    obtain ⟨q1, q2⟩ := s5 _ (J_mem hlt)
    have hi' : (i : Int).toNat = i := by omega
    refine f150_at1 _ _ _ ⟨fun _ => ⟨by omega, by omega, ?_⟩, fun h => absurd h (by omega)⟩
    rw [hi', i64_le _ s1]
    show ∃ r1 : f115_R, f115_H (J z i).1 0 _ r1 ∧ _
    have no : ¬ PJ z i → tt (From (PJ z) z.2.2.2.1.length i ∧ z.2.2.2.1.length ≤ 64) = false := fun h => tt_false fun h' => h ((from_step hlt).1 h'.1).1
    have yes : PJ z i → tt (From (PJ z) z.2.2.2.1.length i ∧ z.2.2.2.1.length ≤ 64) = tt (From (PJ z) z.2.2.2.1.length (i + 1) ∧ z.2.2.2.1.length ≤ 64) := fun h =>
      tt_congr ⟨fun h' => ⟨((from_step hlt).1 h'.1).2, h'.2⟩, fun h' => ⟨(from_step hlt).2 ⟨h, h'.1⟩, h'.2⟩⟩
    have go := ih (i + 1) (by omega)
    refine ⟨_, l01In_ok _ _ _, fun h => no fun h' => ?_, fun h => ?_⟩
    · simp only [decide_eq_false_iff_not] at h
      exact h (by have := h'.1.1; omega)
    simp only [decide_eq_true_eq] at h
    have hin : 0 ≤ (J z i).1 ∧ (J z i).1 < (z.1.length : Int) := by omega
    obtain ⟨e1, e2, e3⟩ := pl_lt hb hin.1 hin.2
    refine ⟨hin.1, hin.2, ?_⟩
    show ∃ r2 : f152_R, f152_H z (z.1.getD (J z i).1.toNat 0) (J z i).2.1 r2 ∧ (r2 = false → _) ∧ (r2 = true → ∃ r3 : f152_R, f152_H z (z.1.getD (J z i).1.toNat 0) (J z i).2.2.1 r3 ∧ _)
    rw [e1]
    refine ⟨_, local_ok z _ _ e3 (by omega) hb.2 (by omega), fun h1 => no fun h' => ?_, fun h1 => ⟨_, local_ok z _ _ e3 (by omega) hb.2 (by omega), fun h2 => no fun h' => ?_, fun h2 => ⟨fun h0 => ?_, fun h0 => ?_⟩⟩⟩
    · rw [h'.1.2.1] at h1; cases h1
    · rw [h'.1.2.2] at h2; cases h2
    · have h0' : 0 < i := by omega
      rw [i64_pred h0' (by omega), wrap_succ (by omega), i64_le _ (by omega)]
      show _ ∧ _ ∧ (((J z i).1 < (J z (i - 1)).1 → _) ∧ (¬ (J z i).1 < (J z (i - 1)).1 → ((J z i).1 = (J z (i - 1)).1 → ∃ r4 : f151_R, f151_H (J z (i - 1)).2.1 (J z i).2.1 r4 ∧ _) ∧ (¬ (J z i).1 = (J z (i - 1)).1 → _)))
      have q3 := (s5 _ (J_mem (z := z) (i := i - 1) (by omega))).1
      refine ⟨by omega, by omega, fun h3 => no fun h' => ?_, fun h3 => ⟨fun h4 => ⟨_, l01Less_ok _ _ (by omega), fun h5 => no fun h' => ?_, fun h5 => ?_⟩, fun h4 => ?_⟩⟩
      · rcases h'.2 h0' with h'' | h'' <;> omega
      · rcases h'.2 h0' with h'' | h''
        · omega
        · rw [h''.2] at h5; cases h5
      · rw [yes ⟨⟨hin, h1, h2⟩, fun _ => Or.inr ⟨h4.symm, h5⟩⟩]; exact go
      · rw [yes ⟨⟨hin, h1, h2⟩, fun _ => Or.inl (by omega)⟩]; exact go
    · rw [wrap_succ (by omega), yes ⟨⟨hin, h1, h2⟩, fun h' => absurd h' (by omega)⟩]; exact go

theorem joints_ok (z : S25) (hs : Small z) (hb : VBase z) : f150_H z (tt (From (PJ z) z.2.2.2.1.length 0 ∧ z.2.2.2.1.length ≤ 64)) :=
  f150_go _ _ (by simpa using joints_loop z hs hb z.2.2.2.1.length 0 (by omega))

theorem full_sel {z : S25} (hb : VBase z) : ∃ m : Nat, full (z.2.1.length : Int) = (m : Int) ∧ m < 2 ^ z.2.1.length ∧ sel m z.2.1 = z.2.1 := by
  have b4 := hb.1.1
  have h4 := Nat.two_pow_pos z.2.1.length
  exact ⟨2 ^ z.2.1.length - 1, full_eq (by omega), by omega, sel_full (by omega)⟩

theorem finals_loop (z : S25) (hs : Small z) (hb : VBase z) : ∀ k i, i + k = z.2.2.2.2.1.length → f72_L2 z i (tt (From (PF z) z.2.2.2.2.1.length i ∧ z.2.2.2.2.1.length ≤ 64)) := by
  intro k
  obtain ⟨s1, s2, s3, s4, s5, s6, s7⟩ := hs
  have b4 := hb.1.1
  obtain ⟨m, m1, m2, m3⟩ := full_sel hb
  induction k with
  | zero =>
    intro i hi
    refine f72_at2 _ _ _ ⟨fun h => absurd h (by omega), fun _ => ?_⟩
    rw [tt_decide]
    exact tt_congr ⟨fun ⟨_, h⟩ => by omega, fun h => ⟨from_end (by omega), by omega⟩⟩
  | succ k ih =>
    intro i hi
    have hlt : i < z.2.2.2.2.1.length := by omega
    have q1 := s7 _ (Fi_mem hlt)
    have hi' : (i : Int).toNat = i := by omega
    refine f72_at2 _ _ _ ⟨fun _ => ⟨by omega, by omega, wrap_u64_nonneg _, ?_⟩, fun h => absurd h (by omega)⟩
    rw [hi']
    show ∃ r1 : f152_R, f152_H z (full z.2.1.length) (Fi z i) r1 ∧ _
    rw [m1]
    have no : ¬ PF z i → tt (From (PF z) z.2.2.2.2.1.length i ∧ z.2.2.2.2.1.length ≤ 64) = false := fun h => tt_false fun h' => h ((from_step hlt).1 h'.1).1
    have yes : PF z i → tt (From (PF z) z.2.2.2.2.1.length i ∧ z.2.2.2.2.1.length ≤ 64) = tt (From (PF z) z.2.2.2.2.1.length (i + 1) ∧ z.2.2.2.2.1.length ≤ 64) := fun h =>
      tt_congr ⟨fun h' => ⟨((from_step hlt).1 h'.1).2, h'.2⟩, fun h' => ⟨(from_step hlt).2 ⟨h, h'.1⟩, h'.2⟩⟩
    have go := ih (i + 1) (by omega)
    refine ⟨_, local_ok z m _ m2 (by omega) hb.2 (by omega), fun h1 => no fun h' => ?_, fun h1 => ⟨fun h0 => ?_, fun h0 => ?_⟩⟩
    · rw [m3, h'.1] at h1; cases h1
    · rw [m3] at h1
      have h0' : 0 < i := by omega
      rw [i64_pred h0' (by omega), wrap_succ (by omega), i64_le _ (by omega)]
      show _ ∧ _ ∧ ∃ r2 : f151_R, f151_H (Fi z (i - 1)) (Fi z i) r2 ∧ _
      have q3 := s7 _ (Fi_mem (z := z) (i := i - 1) (by omega))
      refine ⟨by omega, by omega, _, l01Less_ok _ _ (by omega), fun h5 => no fun h' => ?_, fun h5 => ?_⟩
      · rw [h'.2 h0'] at h5; cases h5
      · rw [yes ⟨h1, fun _ => h5⟩]; exact go
    · rw [m3] at h1
      rw [wrap_succ (by omega), yes ⟨h1, fun h' => absurd h' (by omega)⟩]; exact go

theorem sizes_loop (z : S25) (hs : Small z) (hp : VPlaces z.2.1.length z.1) : ∀ k i, i + k = z.2.1.length → (∀ s ∈ z.2.1.take i, 1 ≤ s ∧ s ≤ 4) → f72_L1 z i (tt (Valid z)) := by
  intro k
  have hs0 := hs
  obtain ⟨s1, s2, s3, s4, s5, s6, s7⟩ := hs
  have b4 := hp.1
  induction k with
  | zero =>
    intro i hi ht
    rw [List.take_of_length_le (by omega)] at ht
    have hb : VBase z := ⟨hp, ht⟩
    obtain ⟨m, m1, m2, m3⟩ := full_sel hb
    refine f72_at1 _ _ _ ⟨fun h => absurd h (by omega), fun _ => ⟨wrap_u64_nonneg _, ?_⟩⟩
    show ∃ r1 : f152_R, f152_H z (full z.2.1.length) z.2.2.1 r1 ∧ _
    rw [m1]
    refine ⟨_, local_ok z m _ m2 (by omega) hb.2 (by omega), fun h1 => tt_false fun h' => ?_, fun h1 => ⟨_, joints_ok z hs0 hb, fun h2 => tt_false fun h' => ?_, fun h2 => ?_⟩⟩
    · rw [m3, h'.2.1] at h1; cases h1
    · rw [tt_true h'.2.2.1] at h2; cases h2
    · rw [m3] at h1
      have e : tt (Valid z) = tt (From (PF z) z.2.2.2.2.1.length 0 ∧ z.2.2.2.2.1.length ≤ 64) := tt_congr ⟨fun h => h.2.2.2, fun h => ⟨hb, h1, tt_iff.1 h2, h⟩⟩
      rw [e]
      exact finals_loop z hs0 hb z.2.2.2.2.1.length 0 (by omega)
  | succ k ih =>
    intro i hi ht
    have hlt : i < z.2.1.length := by omega
    have hi' : (i : Int).toNat = i := by omega
    refine f72_at1 _ _ _ ⟨fun _ => ⟨by omega, by omega, _, l01In_ok _ _ _, fun h => ?_, fun h => ?_⟩, fun h => absurd h (by omega)⟩
    · simp only [decide_eq_false_iff_not] at h
      rw [getD_nat _ _ _ hlt] at h
      exact tt_false fun h' => h (h'.1.2 _ (List.getElem_mem hlt))
    · simp only [decide_eq_true_eq] at h
      rw [getD_nat _ _ _ hlt] at h
      rw [wrap_succ (by omega)]
      refine ih (i + 1) (by omega) fun s hs' => ?_
      rw [List.take_succ_eq_append_getElem hlt, List.mem_append, List.mem_singleton] at hs'
      rcases hs' with hs' | rfl
      · exact ht s hs'
      · exact h

/-- the reference -/
theorem isAsyn_ok (z : S25) (hs : Small z) : f72_H z (tt (Valid z)) := by
  refine f72_go _ _ ⟨_, places_ok _ _ hs.2.1 hs.1, fun h => tt_false fun h' => ?_, fun h => ?_⟩
  · rw [tt_true h'.1.1] at h; cases h
  · exact sizes_loop z hs (tt_iff.1 h) z.2.1.length 0 (by omega) (by simp)

/-! ### the program's -/
theorem cmpJ_ok (a b : S161) (h : -9223372036854775808 ≤ a.1 - b.1 ∧ a.1 - b.1 < 9223372036854775808) (hl : a.2.1.length < 9223372036854775807) :
    f232_H a b (if a.1 = b.1 then cmpL a.2.1 b.2.1 else a.1 - b.1) := by
  refine f232_go _ _ _ ⟨fun h1 => ?_, fun h1 => ⟨_, compare_ok _ _ hl, ?_⟩⟩
  · rw [if_neg h1, wrap_i64 h.1 h.2]
  · rw [if_pos h1]

theorem cmpJ_lt (a b : S161) : ltJ a b ↔ (if a.1 = b.1 then cmpL a.2.1 b.2.1 else a.1 - b.1) < 0 := by
  unfold ltJ
  by_cases h : a.1 = b.1
  · rw [if_pos h, ← (lexLt_cmp a.2.1 b.2.1).1]
    constructor
    · rintro (h' | h')
      · omega
      · exact h'.2
    · exact fun h' => Or.inr ⟨h, h'⟩
  · rw [if_neg h]
    constructor
    · rintro (h' | h')
      · omega
      · exact absurd h'.1 h
    · exact fun h' => Or.inl (by omega)

theorem sel_sizes {z : S25} (hb : VBase z) {m : Nat} (hm : m < 2 ^ z.2.1.length) : ∀ x ∈ sel m z.2.1, 1 ≤ x ∧ x ≤ 4 := by
  intro x hx
  unfold sel at hx
  obtain ⟨i, hi, rfl⟩ := List.mem_map.1 hx
  have := bitsOf_lt hm i hi
  refine hb.2 _ ?_
  rw [List.getD_eq_getElem?_getD, List.getElem?_eq_getElem this]
  exact List.getElem_mem this

theorem goodJoints_loop (z : S25) (hs : Small z) (hb : VBase z) : ∀ k i, i + k = z.2.2.2.1.length → (∀ n, n < i → 0 ≤ (J z n).1 ∧ (J z n).1 < (z.1.length : Int)) →
    f157_L1 z z.2.2.2.1.length i (tt (From (PJ z) z.2.2.2.1.length i ∧ z.2.2.2.1.length ≤ 64)) := by
  intro k
  obtain ⟨s1, s2, s3, s4, s5, s6, s7⟩ := hs
  have b4 := hb.1.1
  induction k with
  | zero =>
    intro i hi hbef
    refine f157_at1 _ _ _ _ ⟨fun h => absurd h (by omega), fun _ => ?_⟩
    rw [tt_decide]
    exact tt_congr ⟨fun ⟨_, h⟩ => by omega, fun h => ⟨from_end (by omega), by omega⟩⟩
  | succ k ih =>
    intro i hi hbef
    have hlt : i < z.2.2.2.1.length := by omega
    obtain ⟨q1, q2⟩ := s5 _ (J_mem hlt)
    have hi' : (i : Int).toNat = i := by omega
    refine f157_at1 _ _ _ _ ⟨fun _ => ⟨by omega, by omega, ?_⟩, fun h => absurd h (by omega)⟩
    rw [hi', i64_le _ s1]
    show ∃ r1 : f136_R, f136_H (J z i).1 0 _ r1 ∧ _
    have no : ¬ PJ z i → tt (From (PJ z) z.2.2.2.1.length i ∧ z.2.2.2.1.length ≤ 64) = false := fun h => tt_false fun h' => h ((from_step hlt).1 h'.1).1
    have yes : PJ z i → tt (From (PJ z) z.2.2.2.1.length i ∧ z.2.2.2.1.length ≤ 64) = tt (From (PJ z) z.2.2.2.1.length (i + 1) ∧ z.2.2.2.1.length ≤ 64) := fun h =>
      tt_congr ⟨fun h' => ⟨((from_step hlt).1 h'.1).2, h'.2⟩, fun h' => ⟨(from_step hlt).2 ⟨h, h'.1⟩, h'.2⟩⟩
    refine ⟨_, inRange_ok _ _ _, fun h => no fun h' => ?_, fun h => ?_⟩
    · simp only [decide_eq_false_iff_not] at h
      exact h (by have := h'.1.1; omega)
    simp only [decide_eq_true_eq] at h
    have hin : 0 ≤ (J z i).1 ∧ (J z i).1 < (z.1.length : Int) := by omega
    have go := ih (i + 1) (by omega) fun n hn => by
      by_cases e : n = i
      · subst e; exact hin
      · exact hbef n (by omega)
    obtain ⟨e1, e2, e3⟩ := pl_lt hb hin.1 hin.2
    have e4 := pl_small hb hin.1 hin.2
    refine ⟨hin.1, hin.2, ?_⟩
    show ∃ r2 : f231_R, f231_H z.2.1 (z.1.getD (J z i).1.toNat 0) r2 ∧ ∃ r3 : f78_R, f78_H r2 (J z i).2.1 r3 ∧ (r3 = false → _) ∧ (r3 = true → ∃ r4 : f78_R, f78_H r2 (J z i).2.2.1 r4 ∧ _)
    rw [e1]
    have g4 := sel_sizes hb e3
    refine ⟨_, locals_ok _ _ (by omega) (bitsOf_lt e3), _, isGlobal_ok _ _ g4 (by omega), fun h1 => no fun h' => ?_, fun h1 => ⟨_, isGlobal_ok _ _ g4 (by omega), fun h2 => no fun h' => ?_, fun h2 => ⟨fun h0 => ?_, fun h0 => ?_⟩⟩⟩
    · rw [h'.1.2.1] at h1; cases h1
    · rw [h'.1.2.2] at h2; cases h2
    · have h0' : 0 < i := by omega
      rw [i64_pred h0' (by omega), wrap_succ (by omega), i64_le _ (by omega)]
      show _ ∧ _ ∧ ∃ r5 : f232_R, f232_H (J z (i - 1)) (J z i) r5 ∧ _
      have q3 := (s5 _ (J_mem (z := z) (i := i - 1) (by omega))).1
      have q4 := hbef (i - 1) (by omega)
      refine ⟨by omega, by omega, _, cmpJ_ok _ _ (by omega) (by omega), fun h5 => no fun h' => ?_, fun h5 => ?_⟩
      · have := (cmpJ_lt _ _).1 (h'.2 h0')
        exact absurd h5 (Int.not_le.2 this)
      · have h6 := (cmpJ_lt (J z (i - 1)) (J z i)).2 (Int.not_le.1 h5)
        rw [yes ⟨⟨hin, h1, h2⟩, fun _ => h6⟩]; exact go
    · rw [wrap_succ (by omega), yes ⟨⟨hin, h1, h2⟩, fun h' => absurd h' (by omega)⟩]; exact go

theorem goodJoints_ok (z : S25) (hs : Small z) (hb : VBase z) : f157_H z (tt (From (PJ z) z.2.2.2.1.length 0 ∧ z.2.2.2.1.length ≤ 64)) :=
  f157_go _ _ (by simpa using goodJoints_loop z hs hb z.2.2.2.1.length 0 (by omega) (fun n h => absurd h (by omega)))

theorem goodFinals_loop (z : S25) (hs : Small z) (hb : VBase z) (h64 : z.2.2.2.2.1.length ≤ 64) : ∀ k i, i + k = z.2.2.2.2.1.length → f77_L1 z z.2.2.2.2.1.length i (tt (From (PF z) z.2.2.2.2.1.length i)) := by
  intro k
  obtain ⟨s1, s2, s3, s4, s5, s6, s7⟩ := hs
  induction k with
  | zero =>
    intro i hi
    exact f77_at1 _ _ _ _ ⟨fun h => absurd h (by omega), fun _ => tt_true (from_end (by omega))⟩
  | succ k ih =>
    intro i hi
    have hlt : i < z.2.2.2.2.1.length := by omega
    have q1 := s7 _ (Fi_mem hlt)
    have hi' : (i : Int).toNat = i := by omega
    refine f77_at1 _ _ _ _ ⟨fun _ => ⟨by omega, by omega, ?_⟩, fun h => absurd h (by omega)⟩
    rw [hi']
    show ∃ r1 : f78_R, f78_H z.2.1 (Fi z i) r1 ∧ _
    have no : ¬ PF z i → tt (From (PF z) z.2.2.2.2.1.length i) = false := fun h => tt_false fun h' => h ((from_step hlt).1 h').1
    have yes : PF z i → tt (From (PF z) z.2.2.2.2.1.length i) = tt (From (PF z) z.2.2.2.2.1.length (i + 1)) := fun h =>
      tt_congr ⟨fun h' => ((from_step hlt).1 h').2, fun h' => (from_step hlt).2 ⟨h, h'⟩⟩
    have go := ih (i + 1) (by omega)
    refine ⟨_, isGlobal_ok _ _ hb.2 (by omega), fun h1 => no fun h' => ?_, fun h1 => ⟨fun h0 => ?_, fun h0 => ?_⟩⟩
    · rw [h'.1] at h1; cases h1
    · have h0' : 0 < i := by omega
      rw [i64_pred h0' (by omega), wrap_succ (by omega), i64_le _ (by omega)]
      show _ ∧ _ ∧ ∃ r2 : f158_R, f158_H (Fi z (i - 1)) (Fi z i) r2 ∧ _
      have q3 := s7 _ (Fi_mem (z := z) (i := i - 1) (by omega))
      refine ⟨by omega, by omega, _, compare_ok _ _ (by omega), fun h5 => no fun h' => ?_, fun h5 => ?_⟩
      · have := (lexLt_cmp _ _).1.1 (h'.2 h0')
        exact absurd h5 (Int.not_le.2 this)
      · have h6 := (lexLt_cmp (Fi z (i - 1)) (Fi z i)).1.2 (Int.not_le.1 h5)
        rw [yes ⟨h1, fun _ => h6⟩]; exact go
    · rw [wrap_succ (by omega), yes ⟨h1, fun h' => absurd h' (by omega)⟩]; exact go

theorem isAsynI_ok (z : S25) (hs : Small z) : f77_H z (tt (Valid z)) := by
  have hs0 := hs
  obtain ⟨s1, s2, s3, s4, s5, s6, s7⟩ := hs
  refine f77_go _ _ ⟨_, arePlaces_ok _ _ s2 s1, fun h => tt_false fun h' => ?_, fun h => ?_⟩
  · rw [tt_true h'.1.1] at h; cases h
  have hp := tt_iff.1 h
  obtain ⟨r, hr, c⟩ := allIn_ok z.2.1 1 4 (by omega)
  refine ⟨r, hr, fun h1 => tt_false fun h' => ?_, fun h1 => ?_⟩
  · obtain ⟨x, hx, hx'⟩ := c.1 h1
    exact hx' (h'.1.2 x hx)
  have hb : VBase z := ⟨hp, fun x hx => Classical.byContradiction fun h' => h1 (c.2 ⟨x, hx, h'⟩)⟩
  refine ⟨_, isGlobal_ok _ _ hb.2 (by omega), fun h2 => tt_false fun h' => ?_, fun h2 => ⟨_, goodJoints_ok z hs0 hb, fun h3 => tt_false fun h' => ?_, fun h3 => ⟨fun h4 => tt_false fun h' => ?_, fun h4 => ?_⟩⟩⟩
  · rw [h'.2.1] at h2; cases h2
  · rw [tt_true h'.2.2.1] at h3; cases h3
  · have := h'.2.2.2.2; omega
  · have h64 : z.2.2.2.2.1.length ≤ 64 := by omega
    have e : tt (Valid z) = tt (From (PF z) z.2.2.2.2.1.length 0) := tt_congr ⟨fun h => h.2.2.2.1, fun h => ⟨hb, h2, tt_iff.1 h3, h, h64⟩⟩
    rw [e]
    exact goodFinals_loop z hs0 hb h64 z.2.2.2.2.1.length 0 (by omega)

end Go.Proofs.YtcbeifkfllcjoaaDoor
