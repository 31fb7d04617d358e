/-
  Running code; calls as wholes.
-/
import Derived.Test.YtfebffaimkpngaaRU
set_option linter.unusedVariables false
set_option linter.unusedSimpArgs false
namespace Go.Proofs.Ytfebffaimkpngaa

/-- at a loop's head: one step on -/
def nrm : List Item → List Item
  | .inLoop c :: k => .code c :: .inLoop c :: k
  | .code (.loop c) :: k => .code c :: .inLoop c :: k
  | t => t

theorem nrm_steps (P : Program) (t k : List Item) (a : Act) (w : World) (b : Frame) (cs : List Frame) : Steps P (lone (b.at a (t ++ k)) cs w) (lone (b.at a (nrm t ++ k)) cs w) := by
  unfold nrm
  split
  · exact .one step_inLoop
  · exact .one step_loop
  · exact .refl _ _

/-- from one place of a body and one state to another -/
def Reach (C : Ctx) (c c' : Cfg) : Prop :=
  Inv C c.st → Inv C c'.st ∧ ∀ a w, StR C c.st.fs a w → ∀ (b : Frame) (k : List Item) (cs : List Frame), ∃ a' w', StR C c'.st.fs a' w' ∧ Steps C.P (lone (b.at a (nrm c.todo ++ k)) cs w) (lone (b.at a' (nrm c'.todo ++ k)) cs w')

theorem Reach.refl (C : Ctx) (c : Cfg) : Reach C c c := fun hi => ⟨hi, fun a w hst b k cs => ⟨a, w, hst, Steps.refl _ _⟩⟩

theorem Reach.trans {C : Ctx} {c c' c'' : Cfg} (h : Reach C c c') (h' : Reach C c' c'') : Reach C c c'' := fun hi => by
  obtain ⟨hi1, h1⟩ := h hi
  obtain ⟨hi2, h2⟩ := h' hi1
  refine ⟨hi2, fun a w hst b k cs => ?_⟩
  obtain ⟨a1, w1, hst1, s1⟩ := h1 a w hst b k cs
  obtain ⟨a2, w2, hst2, s2⟩ := h2 a1 w1 hst1 b k cs
  exact ⟨a2, w2, hst2, s1.trans s2⟩

theorem Reach.step {C : Ctx} {c c' : Cfg} {todo : List Item} (h : ∀ a w (b : Frame) k cs, StR C c.st.fs a w → step C.P (lone (b.at a (nrm c.todo ++ k)) cs w) = .next (lone (b.at a (todo ++ k)) cs w)) (h' : Reach C ⟨todo, c.st⟩ c') : Reach C c c' := fun hi => by
  obtain ⟨hi1, h1⟩ := h' hi
  refine ⟨hi1, fun a w hst b k cs => ?_⟩
  obtain ⟨a1, w1, hst1, s1⟩ := h1 a w hst b k cs
  exact ⟨a1, w1, hst1, .head (h a w b k cs hst) ((nrm_steps _ _ _ _ _ _ _).trans s1)⟩

theorem exitTo_append {id : Nat} : ∀ {t t' : List Item} (k : List Item), exitTo id t = some t' → exitTo id (t ++ k) = some (t' ++ k) := by
  intro t
  induction t with
  | nil => intro t' k h; simp [exitTo] at h
  | cons x t ih =>
    intro t' k h
    cases x with
    | inBlock i =>
      simp only [exitTo, List.cons_append] at h ⊢
      split at h
      · rename_i hc
        injection h with h
        subst h
        rw [if_pos hc]
      · rename_i hc
        rw [if_neg hc]
        exact ih k h
    | _ => simp only [exitTo, List.cons_append] at h ⊢; exact ih k h

theorem inLoop_reach {C : Ctx} {c : Code} {k : List Item} {st : St} {c' : Cfg} (h : Reach C ⟨.code c :: .inLoop c :: k, st⟩ c') : Reach C ⟨.inLoop c :: k, st⟩ c' := fun hi => by
  obtain ⟨hi1, h1⟩ := h hi
  refine ⟨hi1, fun a w hst b kk cs => ?_⟩
  obtain ⟨a1, w1, hst1, s1⟩ := h1 a w hst b kk cs
  exact ⟨a1, w1, hst1, (nrm_steps C.P (.code c :: .inLoop c :: k) kk a w b cs).trans s1⟩

theorem exec_ok {C : Ctx} {run : Runner} (hrun : RunOk C.P C.B C.W0 run) (hm : C.P.follows .mixedOrders = true) : ∀ {n : Nat} {s : List Scr} {c : Cfg} {r : ExecOut}, execN C.P run n s c = some r → (∀ p ∈ r.props, p) → (∀ c ∈ r.calls, CallOb.Holds C.P C.B C.W0 c) → Reach C c r.cfg := by
  intro n
  induction n with
  | zero => intro s c r h; simp [execN] at h
  | succ n ih =>
    intro s c r h hp hc
    obtain ⟨todo, st⟩ := c
    unfold execN at h
    simp only at h
    split at h
    · injection h with h
      subst h
      exact Reach.refl _ _
    · injection h with h
      subst h
      exact Reach.refl _ _
    · exact Reach.step (fun a w b k cs _ => step_skip) (ih h hp hc)
    · exact Reach.step (fun a w b k cs _ => step_inBlock) (ih h hp hc)
    · exact Reach.step (fun a w b k cs _ => step_seq) (ih h hp hc)
    · exact Reach.step (fun a w b k cs _ => step_block) (ih h hp hc)
    · rename_i c k
      exact (ih h hp hc : Reach C ⟨.inLoop c :: k, st⟩ r.cfg)
    · rename_i c k
      split at h
      · rename_i live objs rest
        split at h
        · rename_i st' hcan
          injection h with h
          subst h
          intro hi
          obtain ⟨hi1, h1⟩ := canon_ok hcan hi
          exact ⟨hi1, fun a w hst b k' cs => ⟨a, w, (h1 a w hst).1, Steps.refl _ _⟩⟩
        · cases h
      · exact inLoop_reach (ih h hp hc)
      · exact inLoop_reach (ih h hp hc)
    · rename_i id k
      split at h
      · rename_i k' hk
        exact Reach.step (fun a w b kk cs _ => step_exit (exitTo_append (t := k) (t' := k') kk hk)) (ih h hp hc)
      · cases h
    · rename_i c x y k
      split at h
      · rename_i q hq
        have hcond : ∀ a w, StR C st.fs a w → a.eval c = .bool q := by
          intro a w hst
          obtain ⟨S, β, hg, he, _⟩ := hst
          have := eval_repA (env := st.env) (s' := st.fs.1) he c fun t _ => rfl
          rw [hq] at this
          exact inv_bool this
        split at h
        · rename_i d rest
          split at h
          · rename_i r' hr
            injection h with h
            subst h
            have hqd : q = d := okP (l := decide (q = d) :: r'.props) hp (by simp)
            have h2 : Reach C ⟨.code (if d = true then x else y) :: k, st⟩ r'.cfg := ih hr (fun p hpm => hp p (List.mem_cons_of_mem _ hpm)) hc
            exact Reach.step (fun a w b kk cs hst => step_cond (t := d) (by rw [hcond a w hst, hqd])) h2
          · cases h
        · exact Reach.step (fun a w b kk cs hst => step_cond (t := q) (hcond a w hst)) (ih h hp hc)
      · cases h
    · rename_i id ops draw k
      split at h
      · cases h
      · rename_i r1 hr1
        split at h
        · rename_i x hx
          injection h with h
          subst h
          intro hi
          obtain ⟨h1, hi1⟩ := region_ok (id := id) hrun hm hr1 (fun p hpm => hp p (List.mem_append_left _ hpm)) (fun c hcm => hc c (List.mem_append_left _ hcm)) hi
          obtain ⟨hi2, h2⟩ := ih hx (fun p hpm => hp p (List.mem_append_right _ hpm)) (fun c hcm => hc c (List.mem_append_right _ hcm)) hi1
          refine ⟨hi2, fun a w hst b k' cs => ?_⟩
          obtain ⟨e, a1, w1, ⟨rfl, hst1⟩, harr⟩ := h1 a w hst b (k ++ k') cs
          obtain ⟨a2, w2, hst2, s2⟩ := h2 a1 w1 hst1 b k' cs
          exact ⟨a2, w2, hst2, Steps.trans harr ((nrm_steps C.P k k' a1 w1 b cs).trans s2)⟩
        · cases h
    · cases h

/-! ### Calls as wholes -/
theorem resK_ok {P : Program} {B W0 w S β} {st : St} {a : Act} (g : Good B W0 w S β st.fs.2) (he : ∀ t, RepA w S β (st.fs.1 t) (a.tmps.getD t undef)) : ∀ {l : List ResultVar} {r : List A}, resK P st l = some r →
    ∃ vs : List Value, RepL w S β r vs ∧ (l.mapM (fun | ResultVar.tmp t => (pure (a.tmps.getD t undef) : Sem Value) | .cell x t => do loadVar t (← asAddr (a.tmps.getD x undef)))).run P w = .ok vs w := by
  intro l
  induction l with
  | nil => intro r h; simp only [resK, Option.some.injEq] at h; subst h; exact ⟨[], .nil, rfl⟩
  | cons x l ih =>
    intro r h
    cases x with
    | tmp t =>
      simp only [resK] at h
      split at h
      · rename_i r' hr
        injection h with h
        subst h
        obtain ⟨vs, h1, h2⟩ := ih hr
        refine ⟨_, .cons (he t) h1, ?_⟩
        simp only [List.mapM_cons, pure_bind, Sem.run_bind, h2, Result.andThen_ok]
        rfl
      · cases h
    | cell x t =>
      simp only [resK] at h
      split at h
      · rename_i v r' hv hr
        injection h with h
        subst h
        obtain ⟨vs, h1, h2⟩ := ih hr
        obtain ⟨u, hru, _, hu⟩ := load_core (P := P) g (fun o x h => h) (he x) hv (fun p hp => by simp at hp)
        refine ⟨u :: vs, .cons hu h1, ?_⟩
        have hld : (do loadVar t (← asAddr (a.tmps.getD x undef)) : Sem Value).run P w = .ok u w := by
          generalize hq : a.tmps.getD x undef = q at hru
          cases q with
          | pointer p =>
            cases p with
            | none => simp [Instr.loadAt, Instr.sureAddr, stuck, Sem.run] at hru
            | some p => simpa [Instr.loadAt, Instr.sureAddr, asAddr] using hru
          | _ => simp [Instr.loadAt, Instr.sureAddr, stuck, Sem.run] at hru
        simp only [List.mapM_cons, Sem.run_bind] at hld ⊢
        rw [hld]
        simp only [Result.andThen_ok, h2]
        rfl
      · cases h

end Go.Proofs.Ytfebffaimkpngaa
