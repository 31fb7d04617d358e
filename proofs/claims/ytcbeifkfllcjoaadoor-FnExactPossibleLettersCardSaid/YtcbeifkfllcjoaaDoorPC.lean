/-
  Contracts: members of masks, parts of lists, global states.
-/
import Derived.Test.YtcbeifkfllcjoaaDoorPB
import Derived.Test.YtcbeifkfllcjoaaDoorPX
set_option linter.unusedVariables false
set_option linter.unusedSimpArgs false
set_option maxRecDepth 100000
namespace Go.Proofs.YtcbeifkfllcjoaaDoor

def ints (l : List Nat) : List Int := l.map fun i : Nat => (i : Int)
theorem length_ints (l : List Nat) : (ints l).length = l.length := by simp [ints]

theorem members_loop (a : Int) : ∀ (m : Nat), m < 9223372036854775808 → ∀ out : List Int, out.length + (bitsOf m).length ≤ 63 → f178_L1 a m out (out ++ ints (bitsOf m)) := by
  intro m
  induction m using Nat.strongRecOn with
  | ind m ih =>
    intro hm out hl
    by_cases h0 : m = 0
    · subst h0
      refine f178_at1 _ _ _ _ ⟨fun h => absurd rfl h, fun _ => ?_⟩
      rw [bitsOf_zero]
      simp [ints]
    · obtain ⟨hk, hb, hlt⟩ := bitsOf_cons h0 hm
      rw [hb, List.length_cons] at hl
      refine f178_at1 _ _ _ _ ⟨fun _ => ⟨_, by rw [wrap_u64 (by omega) (by omega)]; exact tz_ok m (by omega), by simp only [List.length_cons, List.length_nil]; omega, ?_⟩, fun h => absurd h (by omega)⟩
      rw [show IntKind.i64.wrap ((m : Int) - 1) = ((m - 1 : Nat) : Int) by rw [wrap_i64 (by omega) (by omega)]; omega, and_nat hm (by omega), hb]
      have := ih _ hlt (by omega) (out ++ [((Lib.ctz 64 m : Nat) : Int)]) (by simp; omega)
      simpa [ints] using this

theorem members_ok (m : Nat) (hm : m < 9223372036854775808) : f178_H m (ints (bitsOf m)) :=
  f178_go _ _ (by simpa using members_loop m m hm [] (by have := length_bitsOf m; simpa using this))

/-- what the members of a mask have in a list -/
def sel (m : Nat) (l : List Int) : List Int := (bitsOf m).map fun i => l.getD i 0

theorem length_sel (m : Nat) (l : List Int) : (sel m l).length = (bitsOf m).length := by simp [sel]

theorem locals_loop (l : List Int) (m : Int) (bs : List Nat) (hb : ∀ i ∈ bs, i < l.length) (hlen : bs.length ≤ 63) : ∀ k n, n + k = bs.length → ∀ out : List Int, out.length = n →
    f231_L1 l m bs.length n out (ints bs) (out ++ (bs.drop n).map fun i => l.getD i 0) := by
  intro k
  induction k with
  | zero =>
    intro n hn out ho
    refine f231_at1 _ _ _ _ _ _ _ ⟨fun h => absurd h (by omega), fun _ => ?_⟩
    rw [List.drop_of_length_le (by omega)]
    simp
  | succ k ih =>
    intro n hn out ho
    have hlt : n < bs.length := by omega
    have hi := hb bs[n] (List.getElem_mem hlt)
    have hg : List.getD (ints bs) ((n : Int).toNat) 0 = (bs[n] : Int) := by rw [getD_nat _ _ _ (by rw [length_ints]; exact hlt)]; simp [ints]
    refine f231_at1 _ _ _ _ _ _ _ ⟨fun _ => ⟨by omega, by rw [length_ints]; omega, by rw [length_ints]; omega, by rw [hg]; omega, by rw [hg]; omega, by simp only [List.length_cons, List.length_nil]; omega, ?_⟩, fun h => absurd h (by omega)⟩
    rw [wrap_succ (by omega), hg, Int.toNat_natCast]
    have := ih (n + 1) (by omega) (out ++ [l.getD bs[n] 0]) (by simp; omega)
    rw [List.drop_eq_getElem_cons hlt, List.map_cons]
    simpa only [List.append_assoc, List.singleton_append] using this

theorem locals_ok (l : List Int) (m : Nat) (hm : m < 9223372036854775808) (hb : ∀ i ∈ bitsOf m, i < l.length) : f231_H l m (sel m l) := by
  refine f231_go _ _ _ ⟨_, members_ok m hm, ?_⟩
  rw [length_ints]
  simpa [sel] using locals_loop l m (bitsOf m) hb (length_bitsOf m) (bitsOf m).length 0 (by omega) [] rfl

/-- the same, going through the list -/
def selFrom (m : Nat) : Nat → List Int → List Int
  | _, [] => []
  | p, x :: l => if m.testBit p then x :: selFrom m (p + 1) l else selFrom m (p + 1) l

theorem selFrom_eq (m : Nat) : ∀ (l : List Int) (p : Nat), selFrom m p l = ((List.range l.length).filter fun i => m.testBit (p + i)).map fun i => l.getD i 0 := by
  intro l
  induction l with
  | nil => intro p; rfl
  | cons x l ih =>
    intro p
    unfold selFrom
    rw [ih (p + 1), List.length_cons, List.range_succ_eq_map, List.filter_cons, List.filter_map]
    have e : ((fun i => m.testBit (p + i)) ∘ Nat.succ) = fun i => m.testBit (p + 1 + i) := by
      funext i
      simp only [Function.comp]
      congr 1
      omega
    rw [e]
    by_cases h : m.testBit p = true
    · simp [h, Function.comp_def]
    · simp [h, Function.comp_def]

theorem bitsOf_range {m n : Nat} (h : m < 2 ^ n) (hn : n ≤ 63) : bitsOf m = (List.range n).filter fun i => m.testBit i := by
  unfold bitsOf
  rw [show 63 = n + (63 - n) by omega, List.range_add, List.filter_append]
  have : ((List.range (63 - n)).map (fun x => n + x)).filter (fun i => m.testBit i) = [] := by
    rw [List.filter_eq_nil_iff]
    intro i hi
    obtain ⟨j, _, rfl⟩ := List.mem_map.1 hi
    rw [Nat.testBit_lt_two_pow (Nat.lt_of_lt_of_le h (Nat.pow_le_pow_right (by decide) (by omega)))]
    simp
  rw [this, List.append_nil]

theorem selFrom_sel {m : Nat} {l : List Int} (h : m < 2 ^ l.length) (hn : l.length ≤ 63) : selFrom m 0 l = sel m l := by
  rw [selFrom_eq, sel, bitsOf_range h hn]
  simp

theorem part_loop (g : List Int) (m : Nat) (hm : m < 9223372036854775808) (hg : g.length ≤ 63) : ∀ k n, n + k = g.length → ∀ out : List Int, out.length ≤ n → f228_L1 g m n out (out ++ selFrom m n (g.drop n)) := by
  intro k
  induction k with
  | zero =>
    intro n hn out ho
    refine f228_at1 _ _ _ _ _ ⟨fun h => absurd h (by omega), fun _ => ?_⟩
    rw [List.drop_of_length_le (by omega)]
    simp [selFrom]
  | succ k ih =>
    intro n hn out ho
    have hlt : n < g.length := by omega
    have hu : IntKind.u64.wrap (n : Int) = n := wrap_u64 (by omega) (by omega)
    rw [List.drop_eq_getElem_cons hlt]
    refine f228_at1 _ _ _ _ _ ⟨fun _ => ⟨wrap_u64_nonneg _, fun h => ⟨by omega, by omega, by simp only [List.length_cons, List.length_nil]; omega, ?_⟩, fun h => ?_⟩, fun h => absurd h (by omega)⟩
    · rw [hu, has_nat hm (by omega)] at h
      rw [wrap_succ (by omega), getD_nat g n 0 hlt]
      have := ih (n + 1) (by omega) (out ++ [g[n]]) (by simp; omega)
      simpa [selFrom, h] using this
    · rw [hu, has_nat hm (by omega)] at h
      rw [wrap_succ (by omega)]
      have := ih (n + 1) (by omega) out (by omega)
      simpa [selFrom, h] using this

theorem part_ok (g : List Int) (m : Nat) (hm : m < 2 ^ g.length) (hg : g.length ≤ 62) : f228_H g m (sel m g) := by
  have h1 : (2 : Nat) ^ g.length ≤ 2 ^ 62 := Nat.pow_le_pow_right (by decide) hg
  have h2 : (2 : Nat) ^ 62 < 9223372036854775808 := by decide
  rw [← selFrom_sel hm (by omega)]
  exact f228_go _ _ _ (by simpa using part_loop g m (by omega) (by omega) g.length 0 (by omega) [] (by simp))

/-! ### global states -/
def okG : List Int → List Int → Bool
  | [], [] => true
  | s :: ss, x :: xs => decide (0 ≤ x ∧ x ≤ s - 1) && okG ss xs
  | _, _ => false

theorem okG_length : ∀ {s g : List Int}, okG s g = true → g.length = s.length := by
  intro s
  induction s with
  | nil => intro g h; cases g <;> simp [okG] at h ⊢
  | cons a s ih =>
    intro g h
    cases g with
    | nil => simp [okG] at h
    | cons x g =>
      simp only [okG, Bool.and_eq_true] at h
      simp [ih h.2]

theorem isGlobal_loop (s g : List Int) (hs : ∀ x ∈ s, 1 ≤ x ∧ x ≤ 4) (hlen : g.length = s.length) (hl : g.length < 9223372036854775807) : ∀ k n, n + k = g.length → f78_L1 s g g.length n (okG (s.drop n) (g.drop n)) := by
  intro k
  induction k with
  | zero =>
    intro n hn
    refine f78_at1 _ _ _ _ _ ⟨fun h => absurd h (by omega), fun _ => ?_⟩
    rw [List.drop_of_length_le (show g.length ≤ n by omega), List.drop_of_length_le (by omega)]
    rfl
  | succ k ih =>
    intro n hn
    have hg : n < g.length := by omega
    have h's : n < s.length := by omega
    have hsn := hs s[n] (List.getElem_mem h's)
    rw [List.drop_eq_getElem_cons hg, List.drop_eq_getElem_cons h's]
    refine f78_at1 _ _ _ _ _ ⟨fun _ => ⟨by omega, by omega, by omega, _, inRange_ok _ _ _, fun h => ?_, fun h => ?_⟩, fun h => absurd h (by omega)⟩
    · rw [getD_nat g n 0 hg, getD_nat s n 0 h's, wrap_i64 (by omega) (by omega)] at h
      simp [okG, h]
    · rw [getD_nat g n 0 hg, getD_nat s n 0 h's, wrap_i64 (by omega) (by omega)] at h
      rw [wrap_succ (by omega)]
      have := ih (n + 1) (by omega)
      simpa [okG, h] using this

theorem okG_false {s g : List Int} (h : g.length ≠ s.length) : okG s g = false := by
  cases hq : okG s g with
  | true => exact absurd (okG_length hq) h
  | false => rfl

theorem isGlobal_ok (s g : List Int) (hs : ∀ x ∈ s, 1 ≤ x ∧ x ≤ 4) (hl : g.length < 9223372036854775807) : f78_H s g (okG s g) := by
  refine f78_go _ _ _ ⟨fun h => okG_false (by omega), fun h => ?_⟩
  simpa using isGlobal_loop s g hs (by omega) hl g.length 0 (by omega)

/-- the reference's way through a list of local states -/
theorem local_loop (z : S25) (m : Nat) (l : List Int) (hm : m < 9223372036854775808) (hz : z.2.1.length ≤ 63) (hs : ∀ x ∈ z.2.1, 1 ≤ x ∧ x ≤ 4) (hl : l.length < 9223372036854775807) : ∀ k n, n + k = z.2.1.length → ∀ i, i ≤ l.length →
    f152_L1 z m l i n (okG (selFrom m n (z.2.1.drop n)) (l.drop i)) := by
  intro k
  induction k with
  | zero =>
    intro n hn i hi
    refine f152_at1 _ _ _ _ _ _ ⟨fun h => absurd h (by omega), fun _ => ?_⟩
    rw [List.drop_of_length_le (show z.2.1.length ≤ n by omega)]
    by_cases h : i < l.length
    · rw [List.drop_eq_getElem_cons h]
      simp [selFrom, okG, -List.getElem_cons_drop]; omega
    · rw [List.drop_of_length_le (by omega)]
      simp [selFrom, okG, -List.getElem_cons_drop]; omega
  | succ k ih =>
    intro n hn i hi
    have hlt : n < z.2.1.length := by omega
    have hu : IntKind.u64.wrap (n : Int) = n := wrap_u64 (by omega) (by omega)
    have hsn := hs z.2.1[n] (List.getElem_mem hlt)
    rw [List.drop_eq_getElem_cons hlt]
    refine f152_at1 _ _ _ _ _ _ ⟨fun _ => ⟨wrap_u64_nonneg _, fun h => ?_, fun h => ⟨fun h' => ?_, fun h' => ⟨by omega, by omega, by omega, by omega, _, l01In_ok _ _ _, fun h'' => ?_, fun h'' => ?_⟩⟩⟩, fun h => absurd h (by omega)⟩
    · rw [hu, has_nat hm (by omega)] at h
      rw [wrap_succ (by omega)]
      simpa [selFrom, h] using ih (n + 1) (by omega) i hi
    · rw [hu, has_nat hm (by omega)] at h
      rw [List.drop_of_length_le (show l.length ≤ i by omega)]
      simp [selFrom, h, okG, -List.getElem_cons_drop]
    · rw [hu, has_nat hm (by omega)] at h
      have hil : i < l.length := by omega
      rw [getD_nat l i 0 hil, getD_nat z.2.1 n 0 hlt, wrap_i64 (by omega) (by omega)] at h''
      rw [List.drop_eq_getElem_cons hil]
      simp [selFrom, h, okG, h'', -List.getElem_cons_drop]
    · rw [hu, has_nat hm (by omega)] at h
      have hil : i < l.length := by omega
      rw [getD_nat l i 0 hil, getD_nat z.2.1 n 0 hlt, wrap_i64 (by omega) (by omega)] at h''
      rw [wrap_succ (by omega), wrap_succ (by omega), List.drop_eq_getElem_cons hil]
      simpa [selFrom, h, okG, h'', -List.getElem_cons_drop] using ih (n + 1) (by omega) (i + 1) (by omega)

theorem local_ok (z : S25) (m : Nat) (l : List Int) (hm : m < 2 ^ z.2.1.length) (hz : z.2.1.length ≤ 62) (hs : ∀ x ∈ z.2.1, 1 ≤ x ∧ x ≤ 4) (hl : l.length < 9223372036854775807) : f152_H z m l (okG (sel m z.2.1) l) := by
  have h1 : (2 : Nat) ^ z.2.1.length ≤ 2 ^ 62 := Nat.pow_le_pow_right (by decide) hz
  have h2 : (2 : Nat) ^ 62 < 9223372036854775808 := by decide
  rw [← selFrom_sel hm (by omega)]
  exact f152_go _ _ _ _ (by simpa using local_loop z m l (by omega) (by omega) hs hl z.2.1.length 0 (by omega) 0 (by omega))

theorem sel_full {l : List Int} (h : l.length ≤ 62) : sel (2 ^ l.length - 1) l = l := by
  rw [sel, bitsOf_range (n := l.length) (by have := Nat.two_pow_pos l.length; omega) (by omega)]
  have : (List.range l.length).filter (fun i => (2 ^ l.length - 1).testBit i) = List.range l.length := by
    rw [List.filter_eq_self]
    intro i hi
    rw [Nat.testBit_two_pow_sub_one]
    simpa using hi
  rw [this]
  apply List.ext_getElem
  · simp
  · intro i h1 h2
    simp [h2]

end Go.Proofs.YtcbeifkfllcjoaaDoor
