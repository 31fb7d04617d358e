/-
  Regions: in the order of the text, and in any order.
-/
import Derived.Test.YtcbeifkfllcjoaaDoorRR
import Derived.Tactics
set_option linter.unusedVariables false
set_option linter.unusedSimpArgs false
namespace Go.Proofs.YtcbeifkfllcjoaaDoor

theorem lands_wp {P : Program} {o : Oper} {a : Act} {w : World} {next : Act → World → Prop} {Q : Exit → Act → World → Prop} (h : Lands P ((execOp a.eval o).run P w) fun v w' => next (a.put o.dst v) w') : o.wp P a w next Q := by
  unfold Oper.wp
  generalize (execOp a.eval o).run P w = r at h
  unfold Lands at h
  split at h
  · exact h
  · exact h
  · exact Calls.mono h fun e w' he => by cases e <;> first | exact he | exact he.elim
  · exact h
  · exact h.elim

inductive Trace (C : Ctx) (ops : Array Oper) (base : Nat) : Nat → List Oper → FS → List (Rec × FP) → FS → Prop
  | nil (i : Nat) (s : FS) : Trace C ops base i [] s [] s
  | cons {i : Nat} {o : Oper} {l : List Oper} {s s' : FS} {r : Rec} {fp : FP} {rs : List (Rec × FP)} : Doable C ops (base + 16 * i) o s r fp → r.dst = o.dst → Trace C ops base (i + 1) l (r.app C.N s) rs s' → Trace C ops base i (o :: l) s ((r, fp) :: rs) s'

theorem regGo_trace {C : Ctx} {run : Runner} (hrun : RunOk C.P C.B C.W0 run) {ops : Array Oper} {scr : RegScr} {base : Nat} (hb : C.np ≤ base) : ∀ {l : List Oper} {i : Nat} {st : St} {r : RegOut}, regGo C.P run ops scr base i l st = some r → (∀ p ∈ r.props, p) → (∀ c ∈ r.calls, CallOb.Holds C.P C.B C.W0 c) → st.env.length = C.N →
    ∃ rs, Trace C ops base i l st.fs rs r.st.fs ∧ rs.map (·.2) = r.fps ∧ r.st.env.length = C.N ∧ r.st.next = st.next ∧ r.st.np = st.np := by
  intro l
  induction l with
  | nil =>
    intro i st r h _ _ hN
    simp only [regGo, Option.some.injEq] at h
    subst h
    exact ⟨[], .nil _ _, rfl, hN, rfl, rfl⟩
  | cons o l ih =>
    intro i st r h hp hc hN
    simp only [regGo] at h
    split at h
    · cases h
    · rename_i st1 ps cs fp h1
      split at h
      · cases h
      · rename_i r1 h2
        injection h with h
        subst h
        obtain ⟨q, hq, hd, hfs, hN1, hn1, hnp1⟩ := stepOp_ok hrun (fid := base + 16 * i) h1 (by omega) (fun p hm => hp p (List.mem_append_left _ hm)) (fun c hm => hc c (List.mem_append_left _ hm)) hN
        obtain ⟨rs, ht, hf, hN2, hn2, hnp2⟩ := ih h2 (fun p hm => hp p (List.mem_append_right _ hm)) (fun c hm => hc c (List.mem_append_right _ hm)) hN1
        rw [hfs] at ht
        exact ⟨(q, fp) :: rs, .cons hq hd ht, by simp [hf], hN2, hn2.trans hn1, hnp2.trans hnp1⟩

theorem seq_ok {C : Ctx} {ops : Array Oper} {base : Nat} {Q : Exit → Act → World → Prop} : ∀ {i : Nat} {l : List Oper} {s s' : FS} {rs : List (Rec × FP)}, Trace C ops base i l s rs s' → ∀ {a : Act} {w : World}, StR C s a w → (∀ k, usedF s k → k < base + 16 * i) →
    (∀ a w, StR C s' a w → Q .normal a w) → wpList C.P ops Q l a w ∧ ∀ k, usedF s' k → k < base + 16 * (i + l.length) := by
  intro i l s s' rs ht
  induction ht with
  | nil i s =>
    intro a w hst hu hq
    exact ⟨hq a w hst, fun k hk => by have := hu k hk; simp only [List.length_nil]; omega⟩
  | @cons i o l s s' r fp rs hd hdst ht ih =>
    intro a w hst hu hq
    obtain ⟨_, _, hdo⟩ := hd
    obtain ⟨hg, hdo⟩ := hdo s (fun _ _ => rfl) (fun _ _ => rfl) fun k h1 h2 h3 => by have := hu k h3; omega
    have hu1 : ∀ k, usedF (r.app C.N s) k → k < base + 16 * (i + 1) := fun k hk => by
      rcases hg k hk with h | h
      · have := hu k h; omega
      · omega
    have hdo := hdo a w hst
    have key : ∀ {a : Act} {w : World}, StR C (r.app C.N s) a w → wpList C.P ops Q l a w := fun h => (ih h hu1 hq).1
    have hex : ∃ a w, StR C (r.app C.N s) a w ∨ True := ⟨a, w, .inr trivial⟩
    refine ⟨?_, fun k hk => ?_⟩
    · refine wpList_step fun K hK => ?_
      split
      · rename_i hw
        rw [if_pos hw] at hdo
        exact lands_wp (hdo.mono fun v w' h => hK _ _ (key h))
      · rename_i hw
        rw [if_neg hw] at hdo
        exact hK _ _ (key hdo)
    · have : ∀ {i : Nat} {l : List Oper} {s s' : FS} {rs : List (Rec × FP)}, Trace C ops base i l s rs s' → (∀ k, usedF s k → k < base + 16 * i) → ∀ k, usedF s' k → k < base + 16 * (i + l.length) := by
        intro i l s s' rs ht
        induction ht with
        | nil i s => intro hu k hk; have := hu k hk; simp only [List.length_nil]; omega
        | @cons i o l s s' r fp rs hd hdst ht ih =>
          intro hu k hk
          have := ih (fun k hk => by
            rcases (hd.2.2 s (fun _ _ => rfl) (fun _ _ => rfl) fun k h1 h2 h3 => by have := hu k h3; omega).1 k hk with h | h
            · have := hu k h; omega
            · omega) k hk
          simp only [List.length_cons]
          omega
      have := this ht hu1 k hk
      simp only [List.length_cons]
      omega

/-! ### Any order -/
def foldD (N : Nat) (D : Nat → Bool) : Nat → List (Rec × FP) → FS → FS
  | _, [], s => s
  | i, p :: l, s => foldD N D (i + 1) l (if D i = true then p.1.app N s else s)

theorem updH_ne {H : Nat → Option O} : ∀ {u : List (Nat × Option O)} {o : Nat}, o ∉ u.map (·.1) → updH H u o = H o := by
  intro u
  induction u generalizing H with
  | nil => intro o _; rfl
  | cons p u ih =>
    intro o h
    simp only [List.map_cons, List.mem_cons, not_or] at h
    simp only [updH]
    rw [ih h.2]
    unfold upd1
    rw [if_neg h.1]

theorem updH_congr {H H' : Nat → Option O} : ∀ {u : List (Nat × Option O)} {o : Nat}, H o = H' o → updH H u o = updH H' u o := by
  intro u
  induction u generalizing H H' with
  | nil => intro o h; exact h
  | cons p u ih =>
    intro o h
    simp only [updH]
    refine ih ?_
    unfold upd1
    rw [h]

theorem foldD_env {N : Nat} {D D' : Nat → Bool} {t : Nat} : ∀ {rs : List (Rec × FP)} {i : Nat} {s s' : FS}, s.1 t = s'.1 t → (∀ (j : Nat) (p : Rec × FP), rs[j]? = some p → D (i + j) ≠ D' (i + j) → p.1.dst ≠ some t) → (foldD N D i rs s).1 t = (foldD N D' i rs s').1 t := by
  intro rs
  induction rs with
  | nil => intro i s s' h _; exact h
  | cons p rs ih =>
    intro i s s' h hd
    simp only [foldD]
    refine ih ?_ fun j q hq hne => hd (j + 1) q (by simpa using hq) (by rwa [show i + (j + 1) = i + 1 + j by omega])
    have hne : p.1.dst ≠ some t → ∀ s : FS, (p.1.app N s).1 t = s.1 t := by
      intro hne s
      unfold Rec.app setF
      cases hp : p.1.dst with
      | none => rfl
      | some d =>
        simp only
        rw [if_neg]
        rintro ⟨rfl, _⟩
        exact hne hp
    have happ : (p.1.app N s).1 t = (p.1.app N s').1 t := by
      unfold Rec.app setF
      cases hp : p.1.dst with
      | none => exact h
      | some d => simp only; rw [h]
    have h0 := hd 0 p (by simp)
    rw [Nat.add_zero] at h0
    cases hD : D i <;> cases hD' : D' i
    · exact h
    · simp only [Bool.false_eq_true, if_false, if_true]
      rw [hne (h0 (by rw [hD, hD']; simp))]
      exact h
    · simp only [Bool.false_eq_true, if_false, if_true]
      rw [hne (h0 (by rw [hD, hD']; simp))]
      exact h
    · exact happ

theorem foldD_obj {N : Nat} {D D' : Nat → Bool} {t : Nat} : ∀ {rs : List (Rec × FP)} {i : Nat} {s s' : FS}, s.2 t = s'.2 t → (∀ (j : Nat) (p : Rec × FP), rs[j]? = some p → D (i + j) ≠ D' (i + j) → t ∉ p.1.upd.map (·.1)) → (foldD N D i rs s).2 t = (foldD N D' i rs s').2 t := by
  intro rs
  induction rs with
  | nil => intro i s s' h _; exact h
  | cons p rs ih =>
    intro i s s' h hd
    simp only [foldD]
    refine ih ?_ fun j q hq hne => hd (j + 1) q (by simpa using hq) (by rwa [show i + (j + 1) = i + 1 + j by omega])
    have hne : t ∉ p.1.upd.map (·.1) → ∀ s : FS, (p.1.app N s).2 t = s.2 t := fun hne s => updH_ne hne
    have happ : (p.1.app N s).2 t = (p.1.app N s').2 t := updH_congr h
    have h0 := hd 0 p (by simp)
    rw [Nat.add_zero] at h0
    cases hD : D i <;> cases hD' : D' i
    · exact h
    · simp only [Bool.false_eq_true, if_false, if_true]
      rw [hne (h0 (by rw [hD, hD']; simp))]
      exact h
    · simp only [Bool.false_eq_true, if_false, if_true]
      rw [hne (h0 (by rw [hD, hD']; simp))]
      exact h
    · exact happ

def Rec.apart (r q : Rec) : Prop := (∀ d, r.dst = some d → q.dst ≠ some d) ∧ ∀ o, o ∈ r.upd.map (·.1) → o ∉ q.upd.map (·.1)

theorem updH_val {H H' : Nat → Option O} : ∀ {u : List (Nat × Option O)} {o : Nat}, o ∈ u.map (·.1) → updH H u o = updH H' u o := by
  intro u
  induction u generalizing H H' with
  | nil => intro o h; simp at h
  | cons p u ih =>
    intro o h
    simp only [updH]
    by_cases hu : o ∈ u.map (·.1)
    · exact ih hu
    · simp only [List.map_cons, List.mem_cons] at h
      have ho := h.resolve_right hu
      rw [updH_ne hu, updH_ne hu]
      unfold upd1
      rw [if_pos ho, if_pos ho]

theorem app_comm {N : Nat} {r q : Rec} (h : r.apart q) (s : FS) : r.app N (q.app N s) = q.app N (r.app N s) := by
  unfold Rec.app
  refine Prod.ext ?_ ?_
  · funext t
    simp only [setF]
    cases hr : r.dst with
    | none => rfl
    | some d =>
      cases hq : q.dst with
      | none => rfl
      | some e =>
        have hne : d ≠ e := fun e' => h.1 d hr (by rw [hq, e'])
        simp only
        by_cases h1 : t = d ∧ d < N
        · rw [if_pos h1, if_neg (fun h2 => hne (h1.1.symm.trans h2.1)), if_pos h1]
        · rw [if_neg h1]
          by_cases h2 : t = e ∧ e < N
          · rw [if_pos h2, if_pos h2]
          · rw [if_neg h2, if_neg h2, if_neg h1]
  · funext o
    simp only
    by_cases h1 : o ∈ r.upd.map (·.1)
    · rw [updH_ne (h.2 o h1)]
      exact updH_val h1
    · rw [updH_ne h1]
      by_cases h2 : o ∈ q.upd.map (·.1)
      · exact updH_val h2
      · rw [updH_ne h2, updH_ne h2, updH_ne h1]

theorem foldD_app {N : Nat} {D : Nat → Bool} {r : Rec} : ∀ {rs : List (Rec × FP)} {i : Nat} {s : FS}, (∀ (j : Nat) (p : Rec × FP), rs[j]? = some p → D (i + j) = true → r.apart p.1) → foldD N D i rs (r.app N s) = r.app N (foldD N D i rs s) := by
  intro rs
  induction rs with
  | nil => intro i s _; rfl
  | cons p rs ih =>
    intro i s h
    simp only [foldD]
    have h0 := h 0 p (by simp)
    rw [Nat.add_zero] at h0
    have hr := ih (i := i + 1) (s := if D i = true then p.1.app N s else s) fun j q hq hD => h (j + 1) q (by simpa using hq) (by rwa [show i + (j + 1) = i + 1 + j by omega])
    rw [← hr]
    congr 1
    split
    · rename_i hD
      exact (app_comm (h0 hD) s).symm
    · rfl

theorem foldD_congr {N : Nat} {D D' : Nat → Bool} : ∀ {rs : List (Rec × FP)} {i : Nat} {s : FS}, (∀ j, j < rs.length → D (i + j) = D' (i + j)) → foldD N D i rs s = foldD N D' i rs s := by
  intro rs
  induction rs with
  | nil => intro i s _; rfl
  | cons p rs ih =>
    intro i s h
    simp only [foldD]
    rw [show D i = D' i from h 0 (by simp)]
    exact ih fun j hj => by have := h (j + 1) (by simpa using hj); rwa [show i + (j + 1) = i + 1 + j by omega] at this

theorem foldD_ins {N : Nat} {D D' : Nat → Bool} {i : Nat} {r : Rec} {fp : FP} (hD' : ∀ j, D' j = (D j || decide (j = i))) (hDi : D i = false) : ∀ {rs : List (Rec × FP)} {k : Nat} {s : FS}, k ≤ i → rs[i - k]? = some (r, fp) →
    (∀ (j : Nat) (p : Rec × FP), rs[j]? = some p → i < k + j → D (k + j) = true → r.apart p.1) → foldD N D' k rs s = r.app N (foldD N D k rs s) := by
  intro rs
  induction rs with
  | nil => intro k s _ h; simp at h
  | cons p rs ih =>
    intro k s hk hr hap
    simp only [foldD]
    by_cases hki : k = i
    · subst hki
      rw [Nat.sub_self] at hr
      simp only [List.getElem?_cons_zero, Option.some.injEq] at hr
      subst hr
      have hk' : D' k = true := by rw [hD']; simp
      rw [if_pos hk', if_neg (by rw [hDi]; simp)]
      rw [foldD_congr (D := D') (D' := D) (fun j _ => by rw [hD', decide_eq_false (by omega), Bool.or_false])]
      exact foldD_app fun j q hq hD => hap (j + 1) q (by simpa using hq) (by omega) (by rwa [show k + (j + 1) = k + 1 + j by omega])
    · have hk' : D' k = D k := by rw [hD', decide_eq_false hki, Bool.or_false]
      rw [hk']
      refine ih (by omega) ?_ fun j q hq h1 h2 => hap (j + 1) q (by simpa using hq) (by omega) (by rwa [show k + (j + 1) = k + 1 + j by omega])
      rw [show i - k = (i - (k + 1)) + 1 by omega] at hr
      simpa using hr

end Go.Proofs.YtcbeifkfllcjoaaDoor
