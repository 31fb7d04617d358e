/-
  The step of the machine, the reference's and the program's.
-/
import Derived.Test.YtcbeifkfllcjoaaDoorPD
set_option linter.unusedVariables false
set_option linter.unusedSimpArgs false
set_option maxRecDepth 100000
namespace Go.Proofs.YtcbeifkfllcjoaaDoor

/-! ### order -/
theorem lexLt_trans : ∀ {a b c : List Int}, lexLt a b = true → lexLt b c = true → lexLt a c = true := by
  intro a
  induction a with
  | nil => intro b c h1 h2; cases b with
    | nil => simp [lexLt] at h1
    | cons y b => cases c with
      | nil => simp [lexLt] at h2
      | cons z c => simp [lexLt]
  | cons x a ih => intro b c h1 h2; cases b with
    | nil => simp [lexLt] at h1
    | cons y b => cases c with
      | nil => simp [lexLt] at h2
      | cons z c =>
        simp only [lexLt] at h1 h2 ⊢
        by_cases e1 : x = y
        · by_cases e2 : y = z
          · subst e1; subst e2
            simp only [if_true] at h1 h2 ⊢
            exact ih h1 h2
          · subst e1
            simp only [if_true, if_neg e2] at h1 h2 ⊢
            exact h2
        · rw [if_neg e1, decide_eq_true_eq] at h1
          by_cases e2 : y = z
          · subst e2
            rw [if_neg (by omega), decide_eq_true_eq]
            exact h1
          · rw [if_neg e2, decide_eq_true_eq] at h2
            rw [if_neg (by omega), decide_eq_true_eq]
            omega
theorem lexLt_irrefl (a : List Int) : ¬ lexLt a a = true := by
  intro h
  have h1 := (lexLt_cmp a a).1.1 h
  have h2 := (lexLt_cmp a a).2.1.2 rfl
  omega
theorem ltJ_trans {a b c : S161} (h1 : ltJ a b) (h2 : ltJ b c) : ltJ a c := by
  rcases h1 with h1 | ⟨h1, k1⟩ <;> rcases h2 with h2 | ⟨h2, k2⟩
  · exact Or.inl (by omega)
  · exact Or.inl (by omega)
  · exact Or.inl (by omega)
  · exact Or.inr ⟨by omega, lexLt_trans k1 k2⟩

theorem sorted_J {z : S25} (h : Valid z) : ∀ (d p : Nat), p + (d + 1) < z.2.2.2.1.length → ltJ (J z p) (J z (p + (d + 1))) := by
  intro d
  induction d with
  | zero => intro p hp; exact (from_zero h.2.2.1.1 hp).2 (by omega)
  | succ d ih =>
    intro p hp
    have h1 := ih p (by omega)
    have h2 := (from_zero h.2.2.1.1 hp).2 (by omega)
    exact ltJ_trans h1 h2
theorem sorted_J' {z : S25} (h : Valid z) {p q : Nat} (hpq : p < q) (hq : q < z.2.2.2.1.length) : ltJ (J z p) (J z q) := by
  have := sorted_J h (q - p - 1) p (by omega)
  rwa [show p + (q - p - 1 + 1) = q by omega] at this

/-! ### the step -/
/-- the joint of an index is a state's for a letter -/
def Is (z : S25) (g : List Int) (a : Int) (i : Nat) : Prop := i < z.2.2.2.1.length ∧ (J z i).1 = a ∧ (J z i).2.1 = sel (pl z a) g

theorem is_unique {z : S25} (h : Valid z) {g : List Int} {a : Int} {i k : Nat} (hi : Is z g a i) (hk : Is z g a k) : i = k := by
  have no : ∀ {p q : Nat}, Is z g a p → Is z g a q → p < q → False := by
    intro p q hp hq hpq
    rcases sorted_J' h hpq hq.1 with h' | ⟨_, h'⟩
    · have := hp.2.1; have := hq.2.1; omega
    · rw [hp.2.2, hq.2.2] at h'; exact lexLt_irrefl _ h'
  rcases Nat.lt_trichotomy i k with h' | h' | h'
  · exact (no hi hk h').elim
  · exact h'
  · exact (no hk hi h').elim

/-- a list with some entries set -/
def putL : List Int → List Nat → List Int → List Int
  | g, [], _ => g
  | g, _ :: _, [] => g
  | g, b :: bs, t :: ts => putL (g.set b t) bs ts

open Classical in
noncomputable def stepR (z : S25) (g : List Int) (a : Int) : Bool × List Int :=
  if h : ∃ i, Is z g a i then (true, putL g (bitsOf (pl z a)) (J z h.choose).2.2.1) else (false, [])

theorem stepR_of {z : S25} (h : Valid z) {g : List Int} {a : Int} {i : Nat} (hi : Is z g a i) : stepR z g a = (true, putL g (bitsOf (pl z a)) (J z i).2.2.1) := by
  have he : ∃ i, Is z g a i := ⟨i, hi⟩
  unfold stepR
  rw [dif_pos he, is_unique h he.choose_spec hi]
theorem stepR_none {z : S25} {g : List Int} {a : Int} (hi : ∀ i, ¬ Is z g a i) : stepR z g a = (false, []) := by
  unfold stepR
  rw [dif_neg (fun ⟨i, h⟩ => hi i h)]

/-- the members of a mask among those from k on -/
def bitsFrom (m : Nat) : Nat → Nat → List Nat
  | _, 0 => []
  | k, c + 1 => if m.testBit k then k :: bitsFrom m (k + 1) c else bitsFrom m (k + 1) c
theorem bitsFrom_eq (m : Nat) : ∀ c k, bitsFrom m k c = (List.range' k c).filter fun i => m.testBit i := by
  intro c
  induction c with
  | zero => intro k; rfl
  | succ c ih =>
    intro k
    rw [List.range'_succ, List.filter_cons, bitsFrom, ih]
theorem bitsOf_from {m n : Nat} (h : m < 2 ^ n) (hn : n ≤ 63) : bitsOf m = bitsFrom m 0 n := by
  rw [bitsOf_range h hn, bitsFrom_eq, List.range_eq_range']

theorem length_putL : ∀ (bs : List Nat) (g t : List Int), (putL g bs t).length = g.length := by
  intro bs
  induction bs with
  | nil => intro g t; rw [putL]
  | cons b bs ih => intro g t; cases t with
    | nil => rw [putL]
    | cons x t => simp [putL, ih]

theorem put_loop (z : S25) (hb : VBase z) (g : List Int) (a : Nat) (ha : a < z.1.length) (hg : g.length = z.2.1.length) (i : Nat) (hi : i < z.2.2.2.1.length) (hil : z.2.2.2.1.length ≤ 1048576) (hto : (J z i).2.2.1.length ≤ 1048576) : ∀ c k, k + c = g.length → ∀ cnt, cnt + (bitsFrom (pl z a) k c).length = (J z i).2.2.1.length → ∀ out : List Int, out.length = g.length →
    f153_L2 z g a i cnt k out (true, putL out (bitsFrom (pl z a) k c) ((J z i).2.2.1.drop cnt)) := by
  have b4 := hb.1.1
  intro c
  induction c with
  | zero =>
    intro k hk cnt hc out ho
    exact f153_at2 _ _ _ _ _ _ _ _ ⟨fun h => absurd h (by omega), fun _ => by rw [bitsFrom, putL]⟩
  | succ c ih =>
    intro k hk cnt hc out ho
    obtain ⟨e1, e2, e3⟩ := pl_lt hb (a := (a : Int)) (by omega) (by omega)
    have e4 := pl_small hb (a := (a : Int)) (by omega) (by omega)
    refine f153_at2 _ _ _ _ _ _ _ _ ⟨fun _ => ⟨by omega, by omega, wrap_u64_nonneg _, ?_⟩, fun h => absurd h (by omega)⟩
    rw [wrap_u64 (by omega) (by omega), wrap_succ (n := k) (by omega), e1, Int.toNat_natCast i, Int.toNat_natCast cnt]
    rw [has_nat (m := pl z a) (i := k) (by omega) (by omega)]
    show (_ → _ ∧ _ ∧ _ ∧ (cnt : Int) < ((J z i).2.2.1.length : Int) ∧ _ ∧ _ ∧ _ ∧ f153_L2 z g a i _ _ (out.set (k : Int).toNat ((J z i).2.2.1.getD cnt 0)) _) ∧ _
    rw [Int.toNat_natCast]
    refine ⟨fun h => ?_, fun h => ?_⟩
    · rw [bitsFrom, if_pos h, List.length_cons] at hc
      have hlt : cnt < (J z i).2.2.1.length := by omega
      refine ⟨by omega, by omega, by omega, by omega, by omega, by omega, by omega, ?_⟩
      rw [wrap_succ (by omega), bitsFrom, if_pos h, List.drop_eq_getElem_cons hlt, putL]
      have := ih (k + 1) (by omega) (cnt + 1) (by omega) (out.set k (J z i).2.2.1[cnt]) (by simpa using ho)
      rw [List.getD_eq_getElem?_getD, List.getElem?_eq_getElem hlt]
      exact this
    · rw [bitsFrom, if_neg h] at hc
      rw [bitsFrom, if_neg h]
      exact ih (k + 1) (by omega) cnt hc out ho

theorem ok_put {z : S25} (h : Valid z) {i : Nat} (hi : i < z.2.2.2.1.length) {a : Nat} (ha : (J z i).1 = (a : Int)) : a < z.1.length ∧ (J z i).2.2.1.length = (bitsOf (pl z a)).length := by
  have h1 := (from_zero h.2.2.1.1 hi).1
  rw [VJ, ha] at h1
  refine ⟨by omega, ?_⟩
  rw [okG_length h1.2.2, length_sel]

theorem step_loop (z : S25) (hs : Small z) (h : Valid z) (g : List Int) (a : Nat) (ha : a < z.1.length) (hg : g.length = z.2.1.length) : ∀ c k, k + c = z.2.2.2.1.length → (∀ i, i < k → ¬ Is z g a i) →
    f153_L1 z g a k (sel (pl z a) g) (stepR z g a) := by
  have hb := h.1
  have b4 := hb.1.1
  have hs0 := hs
  obtain ⟨s1, s2, s3, s4, s5, s6, s7⟩ := hs
  obtain ⟨e1, e2, e3⟩ := pl_lt hb (a := (a : Int)) (by omega) (by omega)
  intro c
  induction c with
  | zero =>
    intro k hk hbef
    refine f153_at1 _ _ _ _ _ _ ⟨fun h => absurd h (by omega), fun _ => ?_⟩
    exact stepR_none fun i hi => hbef i (by have := hi.1; omega) hi
  | succ c ih =>
    intro k hk hbef
    have hlt : k < z.2.2.2.1.length := by omega
    have q := s5 _ (J_mem hlt)
    refine f153_at1 _ _ _ _ _ _ ⟨fun _ => ⟨by omega, by omega, ?_⟩, fun h => absurd h (by omega)⟩
    rw [Int.toNat_natCast, wrap_succ (by omega)]
    show (¬ (J z k).1 = a → _) ∧ ((J z k).1 = a → ∃ r1 : f92_R, f92_H (J z k).2.1 _ r1 ∧ _)
    have more : ¬ Is z g a k → f153_L1 z g a ((k + 1 : Nat) : Int) (sel (pl z a) g) (stepR z g a) := fun hno => ih (k + 1) (by omega) fun i hi => by
      by_cases e : i = k
      · subst e; exact hno
      · exact hbef i (by omega)
    refine ⟨fun h1 => more fun h' => h1 h'.2.1, fun h1 => ⟨_, l01Same_ok _ _ (by omega), fun h2 => more fun h' => ?_, fun h2 => ⟨?_, ?_⟩⟩⟩
    · simp only [decide_eq_false_iff_not] at h2
      exact h2 h'.2.2
    · simp only [List.length_nil]
      omega
    · simp only [decide_eq_true_eq] at h2
      obtain ⟨_, o2⟩ := ok_put h hlt h1
      rw [stepR_of h ⟨hlt, h1, h2⟩]
      have hbits : bitsOf (pl z a) = bitsFrom (pl z a) 0 g.length := bitsOf_from (by rw [hg]; exact e3) (by omega)
      have := put_loop z hb g a ha hg k hlt s4 q.2 g.length 0 (by omega) 0 (by rw [← hbits]; omega) ([] ++ g) (by simp)
      rw [hbits]
      simpa using this

/-- the reference's step -/
theorem step_ok (z : S25) (hs : Small z) (h : Valid z) (g : List Int) (a : Nat) (ha : a < z.1.length) (hg : g.length = z.2.1.length) : f153_H z g a (stepR z g a) := by
  have hb := h.1
  have b4 := hb.1.1
  obtain ⟨e1, e2, e3⟩ := pl_lt hb (a := (a : Int)) (by omega) (by omega)
  refine f153_go _ _ _ _ ⟨by omega, by omega, sel (pl z a) g, ?_, ?_⟩
  · rw [e1]; exact part_ok g _ (by rw [hg]; exact e3) (by omega)
  · exact step_loop z hs h g a ha hg z.2.2.2.1.length 0 (by omega) fun i hi => absurd hi (by omega)

/-! ### the program's -/
/-- the comparing of joints -/
def cmpJ (a b : S161) : Int := if a.1 = b.1 then cmpL a.2.1 b.2.1 else a.1 - b.1
theorem cmpJ_zero (a b : S161) : cmpJ a b = 0 ↔ a.1 = b.1 ∧ a.2.1 = b.2.1 := by
  unfold cmpJ
  by_cases h : a.1 = b.1
  · rw [if_pos h, (lexLt_cmp _ _).2.1]; exact ⟨fun h' => ⟨h, h'⟩, fun h' => h'.2⟩
  · rw [if_neg h]; exact ⟨fun h' => absurd h' (by omega), fun h' => absurd h'.1 h⟩

theorem mid_eq {i j : Nat} (h : i + j < 9223372036854775807) : IntKind.i64.wrap (Int.fdiv (IntKind.u64.wrap (IntKind.i64.wrap ((i : Int) + j))) (2 ^ (min (1 : Int).toNat 64))) = (((i + j) / 2 : Nat) : Int) := by
  rw [wrap_i64 (n := (i : Int) + j) (by omega) (by omega), wrap_u64 (by omega) (by omega)]
  have := fdiv_nat (i + j) 1 (by omega)
  rw [show ((1 : Nat) : Int) = (1 : Int) from rfl, Nat.pow_one] at this
  rw [show ((i : Int) + j) = ((i + j : Nat) : Int) by omega, this]
  exact wrap_i64 (by omega) (by omega)

theorem search_loop (z : S25) (hs : Small z) (h : Valid z) (g : List Int) (a : Nat) (ha : a < z.1.length) (t : S161) (ht1 : t.1 = a) (ht2 : t.2.1 = sel (pl z a) g) : ∀ d i j, j - i = d → i ≤ j → j ≤ z.2.2.2.1.length →
    (∀ p, p < i → ltJ (J z p) t) → (∀ p, j ≤ p → p < z.2.2.2.1.length → ¬ ltJ (J z p) t) →
    ∃ r : Int × Bool, f234_L1 z.2.2.2.1 t z.2.2.2.1.length i j r ∧ ((r.2 = true ∧ ∃ k : Nat, r.1 = k ∧ Is z g a k) ∨ (r.2 = false ∧ ∀ k, ¬ Is z g a k)) := by
  have hb := h.1
  have b4 := hb.1.1
  have b5 := hb.1.2.1
  have hs0 := hs
  obtain ⟨s1, s2, s3, s4, s5, s6, s7⟩ := hs
  have cmp : ∀ p, p < z.2.2.2.1.length → f232_H (J z p) t (cmpJ (J z p) t) := fun p hp => by
    have h1 := (from_zero h.2.2.1.1 hp).1.1
    have q := s5 _ (J_mem hp)
    exact cmpJ_ok _ _ (by omega) (by omega)
  have isz : ∀ p, p < z.2.2.2.1.length → (Is z g a p ↔ cmpJ (J z p) t = 0) := fun p hp => by
    rw [cmpJ_zero, ht1, ht2]
    exact ⟨fun h' => ⟨h'.2.1, h'.2.2⟩, fun h' => ⟨hp, h'.1, h'.2⟩⟩
  intro d
  induction d using Nat.strongRecOn with
  | ind d ih =>
    intro i j hd hij hj hlo hhi
    by_cases hlt : i < j
    · have hm1 : (i + j) / 2 < j := by omega
      have hm2 : i ≤ (i + j) / 2 := by omega
      by_cases hc : ltJ (J z ((i + j) / 2)) t
      · obtain ⟨r, hr, c⟩ := ih (j - ((i + j) / 2 + 1)) (by omega) ((i + j) / 2 + 1) j rfl (by omega) hj (fun p hp => by
          by_cases e : p = (i + j) / 2
          · subst e; exact hc
          · exact ltJ_trans (sorted_J' h (by omega) (by omega)) hc) hhi
        refine ⟨r, f234_at1 _ _ _ _ _ _ ⟨fun _ => ?_, fun h' => absurd h' (by omega)⟩, c⟩
        rw [mid_eq (by omega), Int.toNat_natCast, wrap_succ (by omega)]
        exact ⟨by omega, by omega, _, cmp _ (by omega), fun _ => hr, fun h' => absurd ((cmpJ_lt _ _).1 hc) h'⟩
      · obtain ⟨r, hr, c⟩ := ih ((i + j) / 2 - i) (by omega) i ((i + j) / 2) rfl (by omega) (by omega) hlo (fun p hp hp' => by
          by_cases e : p = (i + j) / 2
          · subst e; exact hc
          · exact fun h' => hc (ltJ_trans (sorted_J' h (by omega) (by omega)) h'))
        refine ⟨r, f234_at1 _ _ _ _ _ _ ⟨fun _ => ?_, fun h' => absurd h' (by omega)⟩, c⟩
        rw [mid_eq (by omega), Int.toNat_natCast, wrap_succ (by omega)]
        exact ⟨by omega, by omega, _, cmp _ (by omega), fun h' => absurd ((cmpJ_lt _ _).2 h') hc, fun _ => hr⟩
    · have hij' : i = j := by omega
      subst hij'
      have none_of : (i < z.2.2.2.1.length → ¬ cmpJ (J z i) t = 0) → ∀ k, ¬ Is z g a k := by
        intro hn k hk
        have hk0 := (isz k hk.1).1 hk
        rcases Nat.lt_trichotomy k i with h' | h' | h'
        · have h1 := (cmpJ_lt _ _).1 (hlo k h')
          have h2 : cmpJ (J z k) t < 0 := h1
          omega
        · subst h'; exact hn hk.1 hk0
        · have h1 := sorted_J' h h' hk.1
          have h2 := hhi i (Nat.le_refl _) (by have := hk.1; omega)
          refine h2 ?_
          have e1 := hk.2.1; have e2 := hk.2.2
          rcases h1 with h1 | ⟨h1, h1'⟩
          · exact Or.inl (by omega)
          · exact Or.inr ⟨by omega, by rw [ht2, ← e2]; exact h1'⟩
      by_cases hn : i < z.2.2.2.1.length
      · by_cases hc : cmpJ (J z i) t = 0
        · refine ⟨((i : Int), true), f234_at1 _ _ _ _ _ _ ⟨fun h' => absurd h' (by omega), fun _ => ⟨fun _ => ⟨by omega, by omega, ?_⟩, fun h' => absurd h' (by omega)⟩⟩, Or.inl ⟨rfl, i, rfl, (isz i hn).2 hc⟩⟩
          rw [Int.toNat_natCast]
          exact ⟨_, cmp i hn, by rw [hc]; rfl⟩
        · refine ⟨((i : Int), false), f234_at1 _ _ _ _ _ _ ⟨fun h' => absurd h' (by omega), fun _ => ⟨fun _ => ⟨by omega, by omega, ?_⟩, fun h' => absurd h' (by omega)⟩⟩, Or.inr ⟨rfl, none_of fun _ => hc⟩⟩
          rw [Int.toNat_natCast]
          exact ⟨_, cmp i hn, by rw [beq_false_of_ne hc]⟩
      · exact ⟨((i : Int), false), f234_at1 _ _ _ _ _ _ ⟨fun h' => absurd h' (by omega), fun _ => ⟨fun h' => absurd h' (by omega), fun _ => rfl⟩⟩, Or.inr ⟨rfl, none_of fun h' => absurd h' hn⟩⟩

theorem search_ok (z : S25) (hs : Small z) (h : Valid z) (g : List Int) (a : Nat) (ha : a < z.1.length) (t : S161) (ht1 : t.1 = a) (ht2 : t.2.1 = sel (pl z a) g) :
    ∃ r : Int × Bool, f234_H z.2.2.2.1 t r ∧ ((r.2 = true ∧ ∃ k : Nat, r.1 = k ∧ Is z g a k) ∨ (r.2 = false ∧ ∀ k, ¬ Is z g a k)) := by
  obtain ⟨r, hr, c⟩ := search_loop z hs h g a ha t ht1 ht2 z.2.2.2.1.length 0 z.2.2.2.1.length (by omega) (by omega) (by omega) (fun p hp => absurd hp (by omega)) (fun p hp hp' => absurd hp (by omega))
  exact ⟨r, f234_go _ _ _ hr, c⟩

theorem move_loop (z : S25) (hs : Small z) (g : List Int) (a : Nat) (i : Nat) (hi : i < z.2.2.2.1.length) (bs : List Nat) (hlen : (J z i).2.2.1.length = bs.length) (hbs : ∀ b ∈ bs, b < g.length) (h63 : bs.length ≤ 63) : ∀ c k, k + c = bs.length → ∀ out : List Int, out.length = g.length →
    f159_L1 z g a i bs.length k out (ints bs) (true, putL out (bs.drop k) ((J z i).2.2.1.drop k)) := by
  obtain ⟨s1, s2, s3, s4, s5, s6, s7⟩ := hs
  intro c
  induction c with
  | zero =>
    intro k hk out ho
    refine f159_at1 _ _ _ _ _ _ _ _ _ ⟨fun h => absurd h (by omega), fun _ => ?_⟩
    rw [List.drop_of_length_le (l := bs) (by omega), putL]
  | succ c ih =>
    intro k hk out ho
    have hlt : k < bs.length := by omega
    have hlt2 : k < (J z i).2.2.1.length := by omega
    have e1 : (ints bs).getD k 0 = (bs[k] : Int) := by simp [ints, List.getD_eq_getElem?_getD, hlt]
    have hb := hbs _ (List.getElem_mem hlt)
    refine f159_at1 _ _ _ _ _ _ _ _ _ ⟨fun _ => ?_, fun h => absurd h (by omega)⟩
    rw [Int.toNat_natCast, Int.toNat_natCast, e1, length_ints, wrap_succ (by omega), Int.toNat_natCast]
    show _ ∧ _ ∧ _ ∧ _ ∧ _ ∧ (k : Int) < ((J z i).2.2.1.length : Int) ∧ _ ∧ _ ∧ _ ∧ f159_L1 z g a i bs.length _ (out.set bs[k] ((J z i).2.2.1.getD k 0)) _ _
    refine ⟨by omega, by omega, by omega, by omega, by omega, by omega, by omega, by omega, by omega, ?_⟩
    have := ih (k + 1) (by omega) (out.set bs[k] (J z i).2.2.1[k]) (by simpa using ho)
    rw [List.getD_eq_getElem?_getD, List.getElem?_eq_getElem hlt2, List.drop_eq_getElem_cons hlt, List.drop_eq_getElem_cons hlt2, putL]
    exact this

/-- the program's step -/
theorem move_ok (z : S25) (hs : Small z) (h : Valid z) (g : List Int) (a : Nat) (ha : a < z.1.length) (hg : g.length = z.2.1.length) : f159_H z g a (stepR z g a) := by
  have hb := h.1
  have b4 := hb.1.1
  obtain ⟨e1, e2, e3⟩ := pl_lt hb (a := (a : Int)) (by omega) (by omega)
  have e4 := pl_small hb (a := (a : Int)) (by omega) (by omega)
  have hbl := bitsOf_lt e3
  obtain ⟨r, hr, c⟩ := search_ok z hs h g a ha ((a : Int), (sel (pl z a) g, ([], ()))) rfl rfl
  refine f159_go _ _ _ _ ⟨by omega, by omega, sel (pl z a) g, ?_, r, hr, fun h1 => ?_, fun h1 => ?_⟩
  · rw [e1]; exact locals_ok g _ (by omega) (fun i hi => by rw [hg]; exact hbl i hi)
  · rcases c with ⟨c1, _⟩ | ⟨_, c2⟩
    · rw [c1] at h1; cases h1
    · exact stepR_none c2
  · rcases c with ⟨_, k, c1, c2⟩ | ⟨c1, _⟩
    · refine ⟨g, clone_ok g (by omega), ints (bitsOf (pl z a)), ?_, ?_⟩
      · rw [e1]; exact members_ok _ (by omega)
      · rw [c1, length_ints, stepR_of h c2]
        have := move_loop z hs g a k c2.1 (bitsOf (pl z a)) (ok_put h c2.1 c2.2.1).2 (fun b hb' => by rw [hg]; exact hbl b hb') (length_bitsOf _) (bitsOf (pl z a)).length 0 (by omega) g rfl
        simpa using this
    · rw [c1] at h1; cases h1

/-! ### the possible letters -/
noncomputable def possFrom (z : S25) (g : List Int) : Nat → Nat → Nat → Nat
  | 0, _, m => m
  | c + 1, k, m => possFrom z g c (k + 1) (if (stepR z g k).1 = true then m ||| 2 ^ k else m)

theorem or_pow_lt {m k : Nat} (hm : m < 9223372036854775808) (hk : k < 63) : m ||| 2 ^ k < 9223372036854775808 := by
  have h2 : (2 : Nat) ^ k < 2 ^ 63 := Nat.pow_lt_pow_right (by decide) hk
  have := Nat.or_lt_two_pow (x := m) (y := 2 ^ k) (n := 63) (by simpa using hm) h2
  simpa using this

theorem poss_loop (z : S25) (hs : Small z) (h : Valid z) (g : List Int) (hg : g.length = z.2.1.length) : ∀ c k, k + c = z.1.length → ∀ m : Nat, m < 9223372036854775808 →
    f74_L1 z g (m : Int) k (possFrom z g c k m : Int) ∧ f79_L1 z g (m : Int) z.1.length k (possFrom z g c k m : Int) := by
  have b5 := h.1.1.2.1
  intro c
  induction c with
  | zero =>
    intro k hk m hm
    exact ⟨f74_at1 _ _ _ _ _ ⟨fun h => absurd h (by omega), fun _ => rfl⟩, f79_at1 _ _ _ _ _ _ ⟨fun h => absurd h (by omega), fun _ => rfl⟩⟩
  | succ c ih =>
    intro k hk m hm
    have hlt : k < z.1.length := by omega
    have h2 : (2 : Nat) ^ k < 2 ^ 63 := Nat.pow_lt_pow_right (by decide) (by omega)
    have h3 : (2 : Nat) ^ 63 = 9223372036854775808 := by decide
    have i1 := ih (k + 1) (by omega) (m ||| 2 ^ k) (or_pow_lt hm (by omega))
    have i2 := ih (k + 1) (by omega) m hm
    constructor
    · refine f74_at1 _ _ _ _ _ ⟨fun _ => ⟨_, step_ok z hs h g k hlt hg, fun h1 => ⟨wrap_u64_nonneg _, ?_⟩, fun h1 => ?_⟩, fun h => absurd h (by omega)⟩
      · rw [wrap_u64 (by omega) (by omega), shl_nat (by omega), or_nat hm (by omega), wrap_succ (by omega), possFrom, if_pos h1]
        exact i1.1
      · rw [wrap_succ (by omega), possFrom, if_neg (by rw [h1]; decide)]
        exact i2.1
    · refine f79_at1 _ _ _ _ _ _ ⟨fun _ => ⟨_, move_ok z hs h g k hlt hg, fun h1 => ⟨by omega, ?_⟩, fun h1 => ?_⟩, fun h => absurd h (by omega)⟩
      · rw [shl_nat (by omega), or_nat hm (by omega), wrap_succ (by omega), possFrom, if_pos h1]
        exact i1.2
      · rw [wrap_succ (by omega), possFrom, if_neg (by rw [h1]; decide)]
        exact i2.2

noncomputable def possL (z : S25) (g : List Int) : Nat := possFrom z g z.1.length 0 0
theorem poss_ok (z : S25) (hs : Small z) (h : Valid z) (g : List Int) (hg : g.length = z.2.1.length) : f74_H z g (possL z g : Int) ∧ f79_H z g (possL z g : Int) := by
  have := poss_loop z hs h g hg z.1.length 0 (by omega) 0 (by omega)
  exact ⟨f74_go _ _ _ this.1, f79_go _ _ _ this.2⟩

end Go.Proofs.YtcbeifkfllcjoaaDoor
