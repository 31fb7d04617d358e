/-
  States, and one operation of a region.
-/
import Derived.Test.YtcbeifkfllcjoaaDoorRQ
import Derived.Orders
set_option linter.unusedVariables false
set_option linter.unusedSimpArgs false
namespace Go.Proofs.YtcbeifkfllcjoaaDoor

abbrev FS := (Nat → A) × (Nat → Option O)

def St.fs (st : St) : FS := (fun t => st.env.getD t .undef, lookO st.objs)

structure Rec where
  dst : Option Tmp
  v : A
  upd : List (Nat × Option O)

def setF (N : Nat) (env : Nat → A) (d : Option Tmp) (v : A) : Nat → A := match d with
  | some d => fun t => if t = d ∧ d < N then v else env t
  | none => env

def Rec.app (N : Nat) (r : Rec) (s : FS) : FS := (setF N s.1 r.dst r.v, updH s.2 r.upd)

structure Ctx where
  P : Program
  B : Nat
  W0 : Nat → Option Obj
  w0 : World
  S0 : Nat → Prop
  β0 : Nat → Value
  H0 : Nat → Option O
  np : Nat
  N : Nat

/-- the machine's state as the abstract one says -/
def StR (C : Ctx) (s : FS) (a : Act) (w : World) : Prop :=
  ∃ S β, Good C.B C.W0 w S β s.2 ∧ (∀ t, RepA w S β (s.1 t) (a.tmps.getD t undef)) ∧ a.defers = [] ∧ a.tmps.size = C.N ∧ Mov C.w0 C.S0 C.β0 C.H0 w S β s.2 ∧ ∀ o, o < C.np → β o = C.β0 o

def usedF (s : FS) (k : Nat) : Prop := (∃ t, k ∈ (s.1 t).ids) ∨ s.2 k ≠ none ∨ ∃ o y, s.2 o = some y ∧ k ∈ y.ids

theorem put_getD (a : Act) (d : Option Tmp) (v : Value) (N : Nat) (hN : a.tmps.size = N) (t : Nat) :
    (a.put d v).tmps.getD t undef = match d with | some d => if t = d ∧ d < N then v else a.tmps.getD t undef | none => a.tmps.getD t undef := by
  cases d with
  | none => rfl
  | some d =>
    simp only [Act.put]
    by_cases h : t = d ∧ d < N
    · rw [if_pos h]
      obtain ⟨rfl, h⟩ := h
      simp [Array.getD, hN, h]
    · rw [if_neg h]
      by_cases ht : t = d
      · subst ht
        have : ¬ t < N := fun hh => h ⟨rfl, hh⟩
        simp [Array.getD, hN, this]
      · simp only [Array.getD_eq_getD_getElem?]
        rw [Array.getElem?_setIfInBounds_ne (fun e => ht e.symm)]

theorem put_defers (a : Act) (d : Option Tmp) (v : Value) : (a.put d v).defers = a.defers := by cases d <;> rfl
theorem put_size (a : Act) (d : Option Tmp) (v : Value) : (a.put d v).tmps.size = a.tmps.size := by cases d <;> simp [Act.put]

theorem env_put {C : Ctx} {env : Nat → A} {a : Act} {w : World} {S β} {d : Option Tmp} {x : A} {v : Value} (hN : a.tmps.size = C.N) (he : ∀ t, RepA w S β (env t) (a.tmps.getD t undef)) (hv : RepA w S β x v) :
    ∀ t, RepA w S β (setF C.N env d x t) ((a.put d v).tmps.getD t undef) := by
  intro t
  rw [put_getD a d v C.N hN]
  cases d with
  | none => exact he t
  | some d =>
    simp only [setF]
    by_cases h : t = d ∧ d < C.N
    · rw [if_pos h, if_pos h]
      exact hv
    · rw [if_neg h, if_neg h]
      exact he t

/-- what an operation does, from any state that agrees on what it reads -/
def Doable (C : Ctx) (ops : Array Oper) (fid : Nat) (o : Oper) (s : FS) (r : Rec) (fp : FP) : Prop :=
  fp.wt = r.dst ∧ fp.wo = r.upd.map (·.1) ∧
  ∀ s' : FS, (∀ t, t ∈ fp.rt → s'.1 t = s.1 t) → (∀ k, k ∈ fp.ro → s'.2 k = s.2 k) → (∀ k, fid ≤ k → k < fid + 16 → ¬ usedF s' k) →
    (∀ k, usedF (r.app C.N s') k → usedF s' k ∨ (fid ≤ k ∧ k < fid + 16)) ∧
    ∀ a w, StR C s' a w → if Region.wanted o (yielded ops a.tmps) = true then Lands C.P ((execOp a.eval o).run C.P w) (fun v w' => StR C (r.app C.N s') (a.put o.dst v) w') else StR C (r.app C.N s') (a.put o.dst undef) w

theorem setF_ids {N : Nat} {env : Nat → A} {d : Option Tmp} {x : A} {t k : Nat} (h : k ∈ (setF N env d x t).ids) : k ∈ x.ids ∨ k ∈ (env t).ids := by
  cases d with
  | none => exact .inr h
  | some d =>
    simp only [setF] at h
    split at h
    · exact .inl h
    · exact .inr h

theorem updH_used {H : Nat → Option O} : ∀ {u : List (Nat × Option O)} {o : Nat} {y : O}, updH H u o = some y → (o ∈ updIds u ∧ ∀ k ∈ y.ids, k ∈ updIds u) ∨ H o = some y := by
  intro u
  induction u generalizing H with
  | nil => intro o y h; exact .inr h
  | cons p u ih =>
    intro o y h
    obtain ⟨k, x⟩ := p
    simp only [updH] at h
    rcases ih h with ⟨h1, h2⟩ | h1
    · refine .inl ?_
      cases x with
      | none => exact ⟨by simp [updIds, h1], fun q hq => by simp [updIds, h2 q hq]⟩
      | some x => exact ⟨by simp [updIds, h1], fun q hq => by simp [updIds, h2 q hq]⟩
    · unfold upd1 at h1
      split at h1
      · rename_i hk
        subst hk
        subst h1
        exact .inl ⟨by simp [updIds], fun q hq => by simp [updIds, hq]⟩
      · exact .inr h1

theorem used_app {N : Nat} {r : Rec} {s : FS} {fid : Nat} {ids : List Nat} (hids : ∀ k ∈ ids, usedF s k) (h : ∀ k ∈ r.v.ids ++ updIds r.upd, hasN ids k = true ∨ (fid ≤ k ∧ k < fid + 16)) :
    ∀ k, usedF (r.app N s) k → usedF s k ∨ (fid ≤ k ∧ k < fid + 16) := by
  have key : ∀ k, k ∈ r.v.ids ++ updIds r.upd → usedF s k ∨ (fid ≤ k ∧ k < fid + 16) := fun k hk => (h k hk).imp (fun hh => hids k ((hasN_iff _ _).1 hh)) id
  rintro k (⟨t, ht⟩ | hk | ⟨o, y, hy, hk⟩)
  · rcases setF_ids ht with h1 | h1
    · exact key k (List.mem_append_left _ h1)
    · exact .inl (.inl ⟨t, h1⟩)
  · cases hq : updH s.2 r.upd k with
    | none => exact absurd hq hk
    | some y =>
      rcases updH_used hq with ⟨h1, _⟩ | h1
      · exact key k (List.mem_append_right _ h1)
      · exact .inl (.inr (.inl (by rw [h1]; simp)))
  · rcases updH_used hy with ⟨h1, h2⟩ | h1
    · exact key k (List.mem_append_right _ (h2 k hk))
    · exact .inl (.inr (.inr ⟨o, y, h1, hk⟩))

theorem evA_ids {env : List A} {x : Operand} {k : Nat} (h : k ∈ (evA env x).ids) : ∃ t, k ∈ (env.getD t .undef).ids := by
  cases x with
  | tmp t => exact ⟨t, h⟩
  | const v =>
    exfalso
    simp only [evA] at h
    unfold constA at h
    split at h <;> simp [A.ids] at h
  | global g => simp [evA, A.ids] at h
  | func f => simp [evA, A.ids, idsL] at h

theorem mem_idsL_map {env : List A} {l : List Operand} {k : Nat} (h : k ∈ idsL (l.map (evA env))) : ∃ x ∈ l, k ∈ (evA env x).ids := by
  induction l with
  | nil => simp [idsL] at h
  | cons x l ih =>
    simp only [List.map_cons, idsL, List.mem_append] at h
    rcases h with h | h
    · exact ⟨x, by simp, h⟩
    · obtain ⟨y, hy, hk⟩ := ih h
      exact ⟨y, by simp [hy], hk⟩

theorem idsO_used {s : FS} {look : Nat → Option O} (hl : ∀ o x, look o = some x → s.2 o = some x) : ∀ {l : List Nat} {k : Nat}, k ∈ idsO look l → usedF s k := by
  intro l
  induction l with
  | nil => intro k h; simp [idsO] at h
  | cons o l ih =>
    intro k h
    simp only [idsO, List.mem_append] at h
    rcases h with h | h
    · split at h
      · rename_i x hx
        exact .inr (.inr ⟨o, x, hl o x hx, h⟩)
      · simp at h
    · exact ih h

theorem eval_repA {w S β} {env : List A} {s' : Nat → A} {a : Act} (he : ∀ t, RepA w S β (s' t) (a.tmps.getD t undef)) (x : Operand) (h : ∀ t, x = .tmp t → s' t = env.getD t .undef) : RepA w S β (evA env x) (a.eval x) := by
  cases x with
  | tmp t =>
    have := he t
    rw [h t rfl] at this
    exact this
  | const v => exact constA_ok v
  | global g => exact .glob
  | func f => exact .clo (vs := []) rfl fun i h => by simp at h

theorem eval_repL {w S β} {env : List A} {s' : Nat → A} {a : Act} (he : ∀ t, RepA w S β (s' t) (a.tmps.getD t undef)) : ∀ (l : List Operand), (∀ t, Operand.tmp t ∈ l → s' t = env.getD t .undef) → RepL w S β (l.map (evA env)) (l.map a.eval) := by
  intro l
  induction l with
  | nil => intro _; exact .nil
  | cons x l ih =>
    intro h
    exact .cons (eval_repA he x fun t ht => h t (by simp [ht])) (ih fun t ht => h t (by simp [ht]))

theorem mem_opTmps {o : Oper} {t : Nat} (h : Operand.tmp t ∈ o.op.operands.toList) : t ∈ opTmps o :=
  List.mem_filterMap.2 ⟨_, h, rfl⟩

theorem wantedA_ok {ops : Array Oper} {env : List A} {o : Oper} {told : Option Bool} {b : Bool} {ps : List Bool} {rt : List Nat} (h : wantedA ops env o told = some (b, ps, rt)) (hp : ∀ p ∈ ps, p) {w S β} {s' : Nat → A} {a : Act} (he : ∀ t, RepA w S β (s' t) (a.tmps.getD t undef)) (hs : ∀ t, t ∈ rt → s' t = env.getD t .undef) :
    Region.wanted o (yielded ops a.tmps) = b := by
  unfold wantedA at h
  unfold Region.wanted
  split at h
  · rename_i hg
    simp only [Option.some.injEq, Prod.mk.injEq] at h
    rw [hg]
    exact h.1
  · rename_i j want hg
    rw [hg]
    simp only
    split at h
    · rename_i d hd
      split at h
      · rename_i q hq
        have hb : b = (q == want) ∧ d ∈ rt := by
          split at h
          · rename_i t
            simp only [Option.some.injEq, Prod.mk.injEq] at h
            obtain ⟨rfl, rfl, rfl⟩ := h
            have hqt : q = t := okP hp (by simp)
            exact ⟨by rw [hqt], by simp⟩
          · simp only [Option.some.injEq, Prod.mk.injEq] at h
            obtain ⟨rfl, rfl, rfl⟩ := h
            exact ⟨rfl, by simp⟩
        have hr := he d
        rw [hs d hb.2, hq] at hr
        have hv := inv_bool hr
        have hsome : a.tmps[d]? = some (.bool q) := by
          rw [Array.getD_eq_getD_getElem?] at hv
          cases hx : a.tmps[d]? with
          | none => rw [hx] at hv; cases hv
          | some v => rw [hx] at hv; simp only [Option.getD_some] at hv; rw [hv]
        have hy : yielded ops a.tmps j = some q := by
          unfold yielded
          rw [hd, Option.bind_some, hsome]
        rw [hy, hb.1]
        cases q <;> cases want <;> rfl
      · rename_i hq
        simp only [Option.some.injEq, Prod.mk.injEq] at h
        obtain ⟨rfl, rfl, rfl⟩ := h
        have hr := he d
        rw [hs d (by simp), hq] at hr
        obtain ⟨vs, hl, hv⟩ := inv_tup hr
        obtain rfl := hl.of_nil
        have hy : yielded ops a.tmps j = none := by
          unfold yielded
          rw [hd, Option.bind_some]
          rw [Array.getD_eq_getD_getElem?] at hv
          cases hx : a.tmps[d]? with
          | none => rfl
          | some v => rw [hx] at hv; simp only [Option.getD_some] at hv; rw [hv]
        rw [hy]
        rfl
      · cases h
    · cases h

theorem chg_mov {C : Ctx} {fid w S β H w' S' β' H'} (m : Mov C.w0 C.S0 C.β0 C.H0 w S β H) (c : Chg fid w S β H w' S' β' H') : Mov C.w0 C.S0 C.β0 C.H0 w' S' β' H' := m.trans c.mov

theorem stepOp_ok {C : Ctx} {run : Runner} (hrun : RunOk C.P C.B C.W0 run) {ops : Array Oper} {scr : RegScr} {fid i : Nat} {o : Oper} {st st' : St} {ps : List Bool} {cs : List CallOb} {fp : FP} (h : stepOp C.P run ops scr fid i o st = some (st', ps, cs, fp)) (hfid : C.np ≤ fid)
    (hp : ∀ p ∈ ps, p) (hc : ∀ c ∈ cs, CallOb.Holds C.P C.B C.W0 c) (hN : st.env.length = C.N) :
    ∃ r : Rec, Doable C ops fid o st.fs r fp ∧ r.dst = o.dst ∧ st'.fs = r.app C.N st.fs ∧ st'.env.length = C.N ∧ st'.next = st.next ∧ st'.np = st.np := by
  have hset : ∀ v, (fun t => (setE st.env o.dst v).getD t .undef) = setF C.N (fun t => st.env.getD t .undef) o.dst v := by
    intro v
    funext t
    cases hd : o.dst with
    | none => rfl
    | some d =>
      simp only [setE, setF]
      rw [List.getD_eq_getElem?_getD, List.getElem?_set]
      by_cases htd : d = t
      · subst htd
        rw [if_pos rfl]
        by_cases hlt : d < C.N
        · rw [if_pos (show d < st.env.length by rw [hN]; exact hlt), if_pos ⟨rfl, hlt⟩]; rfl
        · rw [if_neg (show ¬ d < st.env.length by rw [hN]; exact hlt), if_neg (fun h => hlt h.2)]
          rw [List.getD_eq_getElem?_getD, List.getElem?_eq_none (show st.env.length ≤ d by rw [hN]; exact Nat.le_of_not_lt hlt)]
      · rw [if_neg htd, if_neg (fun h => htd h.1.symm), List.getD_eq_getElem?_getD]
  have hlen : ∀ v, (setE st.env o.dst v).length = C.N := fun v => by
    cases hd : o.dst <;> simp [setE, hN]
  unfold stepOp at h
  split at h
  · cases h
  · rename_i gps rt hw
    simp only [Option.some.injEq, Prod.mk.injEq] at h
    obtain ⟨rfl, rfl, rfl, rfl⟩ := h
    refine ⟨⟨o.dst, .tup [], []⟩, ⟨rfl, rfl, fun s' h1 h2 h3 => ⟨?_, fun a w hst => ?_⟩⟩, rfl, ?_, hlen _, rfl, rfl⟩
    · exact used_app (ids := []) (fun k hk => by simp at hk) (fun k hk => by simp [A.ids, idsL, updIds] at hk)
    · obtain ⟨S, β, hg, he, hd, hsz, hm, hβ⟩ := hst
      rw [wantedA_ok hw hp he h1]
      simp only [Bool.false_eq_true, if_false]
      exact ⟨S, β, hg, env_put hsz he (.tup (vs := []) rfl fun i h => absurd h (by simp)), (put_defers _ _ _).trans hd, (put_size _ _ _).trans hsz, hm, hβ⟩
    · simp only [St.fs, Rec.app, updH]
      rw [hset]
  · rename_i gps rt hw
    simp only at h
    split at h
    · cases h
    · rename_i r hr
      split at h
      · rename_i hall
        simp only [Option.some.injEq, Prod.mk.injEq] at h
        obtain ⟨rfl, rfl, rfl, rfl⟩ := h
        have hall' : ∀ k ∈ r.v.ids ++ updIds r.upd, hasN (closeIds (lookO st.objs) (o.op.operands.toList.map (evA st.env))) k = true ∨ (fid ≤ k ∧ k < fid + 16) := by
          intro k hk
          have := List.all_eq_true.1 hall k hk
          simpa only [Bool.or_eq_true, Bool.and_eq_true, decide_eq_true_eq] using this
        refine ⟨⟨o.dst, r.v, r.upd⟩, ⟨rfl, rfl, fun s' h1 h2 h3 => ?_⟩, rfl, ?_, hlen _, rfl, rfl⟩
        · have htmp : ∀ t, Operand.tmp t ∈ o.op.operands.toList → s'.1 t = st.env.getD t .undef := fun t ht => h1 t (List.mem_append_left _ (mem_opTmps ht))
          have hlk : ∀ k x, mask (lookO st.objs) (closeIds (lookO st.objs) (o.op.operands.toList.map (evA st.env))) k = some x → s'.2 k = some x := by
            intro k x hk
            unfold mask at hk
            split at hk
            · rename_i hm
              rw [h2 k ((hasN_iff _ _).1 hm)]
              exact hk
            · cases hk
          have hids1 : ∀ k, k ∈ idsL (o.op.operands.toList.map (evA st.env)) → usedF s' k := by
            intro k hk
            obtain ⟨x, hx, hkx⟩ := mem_idsL_map hk
            cases x with
            | tmp t =>
              refine .inl ⟨t, ?_⟩
              rw [htmp t hx]
              exact hkx
            | const v =>
              exfalso
              simp only [evA] at hkx
              unfold constA at hkx
              split at hkx <;> simp [A.ids] at hkx
            | global g => simp [evA, A.ids] at hkx
            | func f => simp [evA, A.ids, idsL] at hkx
          have hids : ∀ k ∈ closeIds (lookO st.objs) (o.op.operands.toList.map (evA st.env)), usedF s' k := by
            intro k hk
            simp only [closeIds, List.mem_append] at hk
            rcases hk with hk | hk
            · exact hids1 k hk
            · have : ∀ {l : List Nat}, (∀ q ∈ l, s'.2 q = lookO st.objs q) → k ∈ idsO (lookO st.objs) l → usedF s' k := by
                intro l
                induction l with
                | nil => intro _ h; simp [idsO] at h
                | cons q l ih =>
                  intro hq h
                  simp only [idsO, List.mem_append] at h
                  rcases h with h | h
                  · split at h
                    · rename_i x hx
                      exact .inr (.inr ⟨q, x, by rw [hq q (by simp)]; exact hx, h⟩)
                    · simp at h
                  · exact ih (fun q' hq' => hq q' (by simp [hq'])) h
              exact this (fun q hq => h2 q (List.mem_append_left _ hq)) hk
          refine ⟨used_app (r := ⟨o.dst, r.v, r.upd⟩) hids hall', fun a w hst => ?_⟩
          obtain ⟨S, β, hg, he, hd, hsz, hm, hβ⟩ := hst
          rw [wantedA_ok hw (fun p hpm => hp p (List.mem_append_left _ hpm)) he fun t ht => h1 t (List.mem_append_right _ ht)]
          simp only [if_true]
          have hfresh : Fresh fid s'.2 := fun k hk1 hk2 => by
            have hn := h3 k hk1 hk2
            refine ⟨?_, fun q y hy hky => hn (.inr (.inr ⟨q, y, hy, hky⟩))⟩
            cases hq : s'.2 k with
            | none => rfl
            | some y => exact absurd (.inr (.inl (by rw [hq]; simp))) hn
          have hnot : fid ∉ idsL (o.op.operands.toList.map (evA st.env)) := fun hm => h3 fid (Nat.le_refl _) (by omega) (hids1 fid hm)
          have hop := opK_ok hrun (o := o) (ρ := a.eval) hg hlk hfresh (eval_repL he _ htmp) hnot hr (fun p hpm => hp p (List.mem_append_right _ hpm)) hc
          refine hop.mono ?_
          rintro v w' ⟨S', β', hv, hg', hch⟩
          refine ⟨S', β', hg', ?_, (put_defers _ _ _).trans hd, (put_size _ _ _).trans hsz, hm.trans hch.mov, fun q hq => (hch.hβ q (.inl (by omega))).trans (hβ q hq)⟩
          refine env_put hsz (fun t => (he t).mono hch.hS (fun b hb => hch.keep hg hb) fun q hq => hch.hβ q ?_) hv
          by_cases hq1 : fid ≤ q ∧ q < fid + 16
          · exact absurd (.inl ⟨t, hq⟩) (h3 q hq1.1 hq1.2)
          · omega
        · simp only [St.fs, Rec.app]
          rw [hset, lookO_putO]
      · cases h

end Go.Proofs.YtcbeifkfllcjoaaDoor
