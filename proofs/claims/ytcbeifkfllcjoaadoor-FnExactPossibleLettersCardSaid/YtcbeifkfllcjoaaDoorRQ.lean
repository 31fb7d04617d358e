/-
  Every operation the evaluator takes, the machine takes alike.
-/
import Derived.Test.YtcbeifkfllcjoaaDoorRP
set_option linter.unusedVariables false
set_option linter.unusedSimpArgs false
namespace Go.Proofs.YtcbeifkfllcjoaaDoor

section
variable {run : Runner} {P : Program} {B : Nat} {W0 : Nat → Option Obj} {fid : Nat} {w : World} {S : Nat → Prop} {β : Nat → Value} {H : Nat → Option O} {look : Nat → Option O} {ρ : Operand → Value} {o : Oper} {out : Out}

def OpTo (P : Program) (B : Nat) (W0 : Nat → Option Obj) (fid : Nat) (w : World) (S : Nat → Prop) (β : Nat → Value) (H : Nat → Option O) (r : Result Next) (out : Out) : Prop :=
  Lands P r fun v w' => ∃ S' β', RepA w' S' β' out.v v ∧ Good B W0 w' S' β' (updH H out.upd) ∧ Chg fid w S β H w' S' β' (updH H out.upd)

theorem StepTo.op {r : Result Next} (h : StepTo B W0 fid w S β H r out) : OpTo P B W0 fid w S β H r out := by
  obtain ⟨w', S', β', v, hr, ha, hg, hc⟩ := h
  rcases hr with rfl | ⟨rfl, rfl⟩
  · exact ⟨S', β', ha, hg, hc⟩
  · exact ⟨S', β', ha, hg, hc⟩

theorem repL0 {xs : List A} (h : RepL w S β xs []) : xs = [] := List.eq_nil_of_length_eq_zero h.1.symm
theorem repL1 {xs : List A} {v : Value} (h : RepL w S β xs [v]) : ∃ a, xs = [a] ∧ RepA w S β a v := by
  cases xs with
  | nil => simp [RepL] at h
  | cons a xs =>
    obtain ⟨v', vs, hv, ha, hl⟩ := h.uncons
    injection hv with e1 e2
    subst e1 e2
    rw [repL0 hl]
    exact ⟨a, rfl, ha⟩
theorem repL2 {xs : List A} {u v : Value} (h : RepL w S β xs [u, v]) : ∃ a b, xs = [a, b] ∧ RepA w S β a u ∧ RepA w S β b v := by
  cases xs with
  | nil => simp [RepL] at h
  | cons a xs =>
    obtain ⟨v', vs, hv, ha, hl⟩ := h.uncons
    injection hv with e1 e2
    subst e1 e2
    obtain ⟨b, rfl, hb⟩ := repL1 hl
    exact ⟨a, b, rfl, ha, hb⟩
theorem repL3 {xs : List A} {u v t : Value} (h : RepL w S β xs [u, v, t]) : ∃ a b c, xs = [a, b, c] ∧ RepA w S β a u ∧ RepA w S β b v ∧ RepA w S β c t := by
  cases xs with
  | nil => simp [RepL] at h
  | cons a xs =>
    obtain ⟨v', vs, hv, ha, hl⟩ := h.uncons
    injection hv with e1 e2
    subst e1 e2
    obtain ⟨b, c, rfl, hb, hc⟩ := repL2 hl
    exact ⟨a, b, c, rfl, ha, hb, hc⟩

theorem builtin_ok (g : Good B W0 w S β H) (hl : ∀ o x, look o = some x → H o = some x) (hf0 : H fid = none) (hf1 : ∀ o y, H o = some y → fid ∉ y.ids) {c : Call} (ho : o.op = .call c) {b : Builtin} (hb : c.callee = .builtin b) {xs : List A} (hx : RepL w S β xs (c.args.map ρ).toList)
    (h : builtinK P look fid b c.argTypes.toList xs = some out) (hp : ∀ p ∈ out.props, p) : StepTo B W0 fid w S β H ((execOp ρ o).run P w) out := by
  unfold builtinK at h
  split at h
  · rename_i t x hts
    have ht : c.argTypes = #[t] := Array.toList_inj.1 hts
    obtain ⟨v, vs, hv, ha, hr⟩ := hx.uncons
    obtain rfl := hr.of_nil
    exact op_len g hl ho hb (Array.toList_inj.1 hv) ht ha h
  · rename_i t t' s x hts
    have ht : c.argTypes = #[t, t'] := Array.toList_inj.1 hts
    split at h
    · rename_i htt
      subst htt
      obtain ⟨v, vs, hv, ha, hr⟩ := hx.uncons
      obtain ⟨u, us, rfl, ha', hr⟩ := hr.uncons
      obtain rfl := hr.of_nil
      exact op_append g hl hf0 hf1 ho hb (Array.toList_inj.1 hv) ht ha ha' h hp
    · obtain ⟨v, vs, hv, ha, hr⟩ := hx.uncons
      obtain ⟨u, us, rfl, ha', hr⟩ := hr.uncons
      obtain rfl := hr.of_nil
      exact op_grow g hf0 hf1 ho hb (Array.toList_inj.1 hv) ht ha ha' h hp
  · rename_i t hts
    have ht : c.argTypes = #[t] := Array.toList_inj.1 hts
    split at h
    · rename_i e hu
      obtain rfl := out_pure h
      obtain ⟨v, vs, hv, ha, hr⟩ := hx.uncons
      obtain rfl := hr.of_nil
      have hv' : c.args.map ρ = #[v] := Array.toList_inj.1 hv
      refine StepTo.pure g (v := .int .i64 0) ?_ rfl (repA_int _ _)
      simp [execOp, ho, resolve, hb, hv', ht, invoke, builtin, Builtin.cap_, inv_nil ha, run_underlying hu, goInt]
    · cases h
  · rename_i k a k' b
    split at h
    · rename_i hk
      subst hk
      obtain rfl := out_pure h
      obtain ⟨v, vs, hv, ha, hr⟩ := hx.uncons
      obtain ⟨u, us, rfl, ha', hr⟩ := hr.uncons
      obtain rfl := hr.of_nil
      exact op_min g ho hb (Array.toList_inj.1 hv) ha ha'
    · cases h
  · rename_i k a k' b
    split at h
    · rename_i hk
      subst hk
      obtain rfl := out_pure h
      obtain ⟨v, vs, hv, ha, hr⟩ := hx.uncons
      obtain ⟨u, us, rfl, ha', hr⟩ := hr.uncons
      obtain rfl := hr.of_nil
      exact op_max g ho hb (Array.toList_inj.1 hv) ha ha'
    · cases h
  · cases h

theorem op_makeSlice (g : Good B W0 w S β H) (hf0 : H fid = none) (hf1 : ∀ o y, H o = some y → fid ∉ y.ids) {t : TypeId} {x y : Operand} (ho : o.op = .makeSlice t x y) {cs : Option CallScript} {dec : Option Bool} {a b : A} (ha : RepA w S β a (ρ x)) (hb : RepA w S β b (ρ y))
    (h : opK P run look fid cs dec (.makeSlice t x y) [a, b] = some out) (hp : ∀ p ∈ out.props, p) : StepTo B W0 fid w S β H ((execOp ρ o).run P w) out := by
  cases a with
  | val τa n =>
    cases τa with
    | int k =>
      cases k with
      | i64 =>
        cases b with
        | val τb c =>
          cases τb with
          | int k =>
            cases k with
            | i64 => exact op_makeSlice1 g hf0 hf1 ho (inv_int ha) (inv_int hb) h hp
            | _ => cases h
          | _ => cases h
        | _ => cases h
      | _ => cases b with
        | val τb c => cases τb <;> cases h
        | _ => cases h
    | _ => cases h
  | _ => cases h

theorem op_call (hrun : RunOk P B W0 run) (g : Good B W0 w S β H) (hl : ∀ o x, look o = some x → H o = some x) (hfresh : Fresh fid H) {c : Call} (ho : o.op = .call c) {f : Operand} (hcc : c.callee = .value f) {cs : Option CallScript} {g' : FuncId} {caps args : List A} (ha : RepA w S β (.clo g' caps) (ρ f)) (hargs : RepL w S β args (c.args.map ρ).toList)
    (h : callK P run look fid cs g' (args ++ caps) = some out) (hp : ∀ p ∈ out.props, p) (hc : ∀ c ∈ out.calls, CallOb.Holds P B W0 c) : OpTo P B W0 fid w S β H ((execOp ρ o).run P w) out := by
  obtain ⟨vs, hvs, hf⟩ := inv_clo ha
  have h2 := callK_ok hrun g hl hfresh (hargs.append hvs) h hp hc
  have e : (execOp ρ o).run P w = (callFunc g' ((c.args.map ρ).toList ++ vs).toArray).run P w := by
    have e2 : ((c.args.map ρ).toList ++ vs).toArray = c.args.map ρ ++ vs.toArray := by apply Array.toList_inj.1; simp
    rw [e2]
    simp [execOp, ho, resolve, hcc, hf, Deferred.ofValue, invoke]
  unfold OpTo
  rw [e]
  exact h2

theorem opK_ok (hrun : RunOk P B W0 run) (g : Good B W0 w S β H) (hl : ∀ o x, look o = some x → H o = some x) (hfresh : Fresh fid H) {cs : Option CallScript} {dec : Option Bool} {xs : List A} (hx : RepL w S β xs (o.op.operands.toList.map ρ)) (hids : fid ∉ idsL xs)
    (h : opK P run look fid cs dec o.op xs = some out) (hp : ∀ p ∈ out.props, p) (hc : ∀ c ∈ out.calls, CallOb.Holds P B W0 c) : OpTo P B W0 fid w S β H ((execOp ρ o).run P w) out := by
  obtain ⟨hf0, hf1⟩ := hfresh fid (Nat.le_refl _) (by omega)
  cases hop : o.op with
  | move x =>
    rw [hop] at h hx
    obtain ⟨a, rfl, ha⟩ := repL1 hx
    exact (op_move g hop ha h).op
  | assign x =>
    rw [hop] at h hx
    obtain ⟨a, rfl, ha⟩ := repL1 hx
    exact (op_assign g hop ha h).op
  | pick x y z =>
    rw [hop] at h hx
    obtain ⟨a, b, c, rfl, ha, hb, hc⟩ := repL3 hx
    exact (op_pick g hop ha hb hc h hp).op
  | alloc t =>
    rw [hop] at h hx
    obtain rfl := repL0 hx
    simp only [opK] at h
    split at h
    · rename_i cs hz
      injection h with h
      subst h
      exact (op_alloc g hf0 hf1 hop hz).op
    · cases h
  | box t x =>
    rw [hop] at h hx
    obtain ⟨a, rfl, ha⟩ := repL1 hx
    simp only [opK] at h
    split at h
    · rename_i hcond
      injection h with h
      subst h
      refine (op_box g hf0 hf1 hop ha (fun hm => hids ?_) hcond.2).op
      simp only [idsL, List.append_nil]
      revert hm
      cases a with
      | val τ x =>
        intro hm
        have : ∀ (τ : Ty) (x : τ.Den), idsL (cellsV τ x) = [] := by
          intro τ
          induction τ with
          | pair a b iha ihb =>
            intro x
            have : ∀ l m : List A, idsL (l ++ m) = idsL l ++ idsL m := by
              intro l m
              induction l with
              | nil => rfl
              | cons a l ih => simp [idsL, ih]
            simp [cellsV, this, iha, ihb]
          | _ => intro x; simp [cellsV, idsL, A.ids]
        simp only [A.cells, this] at hm
        simp at hm
      | agg cs => intro hm; exact hm
      | _ => intro hm; simpa [A.cells, idsL] using hm
    · cases h
  | build t ps =>
    rw [hop] at h hx
    exact (op_build g hop (by simpa [Op.operands] using hx) h).op
  | buildSlice t n ps =>
    rw [hop] at h hx
    exact (op_buildSlice g hl hf0 hf1 hop hids (by simpa [Op.operands] using hx) h).op
  | load t x =>
    rw [hop] at h hx
    obtain ⟨a, rfl, ha⟩ := repL1 hx
    exact (op_load g hl hop ha h hp).op
  | store t x y =>
    rw [hop] at h hx
    obtain ⟨a, b, rfl, ha, hb⟩ := repL2 hx
    exact (op_store g hl hop ha hb h hp).op
  | nilCheck x =>
    rw [hop] at h hx
    obtain ⟨a, rfl, ha⟩ := repL1 hx
    exact (op_nilCheck g hop ha h).op
  | binOp op t x y yt =>
    rw [hop] at h hx
    obtain ⟨a, b, rfl, ha, hb⟩ := repL2 hx
    exact (op_binOp g hl hop ha hb h hp).op
  | unOp op t x =>
    rw [hop] at h hx
    obtain ⟨a, rfl, ha⟩ := repL1 hx
    exact (op_unOp g hop ha h).op
  | convert s d x =>
    rw [hop] at h hx
    obtain ⟨a, rfl, ha⟩ := repL1 hx
    exact (op_convert g hl hop ha h).op
  | makeFunc fn first captured =>
    rw [hop] at h hx
    cases fn with
    | func f =>
      simp only [opK] at h
      split at h
      · rename_i hfirst
        have hf : first = #[] := by simpa using hfirst
        subst hf
        exact (op_makeFunc g hl hop hfirst (by simpa [Op.operands] using hx) h).op
      · cases h
    | _ => cases h
  | makeMap t r =>
    rw [hop] at h hx
    cases r with
    | none =>
      obtain rfl := repL0 hx
      exact (op_makeMap g hf0 hf1 hop h).op
    | some r => cases h
  | makeSlice t x y =>
    rw [hop] at h hx
    obtain ⟨a, b, rfl, ha, hb⟩ := repL2 hx
    exact (op_makeSlice g hf0 hf1 hop ha hb h hp).op
  | slice t x lo hi mx =>
    rw [hop] at h hx
    cases mx with
    | none => exact (op_slice g hl hop hf0 hf1 hx h hp).op
    | some m => cases xs <;> cases h
  | fieldAddr t x f =>
    rw [hop] at h hx
    obtain ⟨a, rfl, ha⟩ := repL1 hx
    exact (op_fieldAddr g hop ha h).op
  | field t x f =>
    rw [hop] at h hx
    obtain ⟨a, rfl, ha⟩ := repL1 hx
    exact (op_field g hop ha h).op
  | indexAddr t x y =>
    rw [hop] at h hx
    obtain ⟨a, b, rfl, ha, hb⟩ := repL2 hx
    exact (op_indexAddr g hl hop ha hb h hp).op
  | index t x y =>
    rw [hop] at h hx
    obtain ⟨a, b, rfl, ha, hb⟩ := repL2 hx
    exact (op_index g hop ha hb h hp).op
  | lookup t m y ok =>
    rw [hop] at h hx
    obtain ⟨a, b, rfl, ha, hb⟩ := repL2 hx
    cases a <;> try (simp only [opK] at h; cases h; done)
    simp only [opK] at h
    exact (op_lookup g hl hop ha hb h).op
  | mapUpdate t m y z =>
    rw [hop] at h hx
    obtain ⟨a, b, c, rfl, ha, hb, hc⟩ := repL3 hx
    cases a <;> try (simp only [opK] at h; cases h; done)
    simp only [opK] at h
    exact (op_mapSet g hl (.inl hop) ha hb hc h).op
  | insert t m y z =>
    rw [hop] at h hx
    obtain ⟨a, b, c, rfl, ha, hb, hc⟩ := repL3 hx
    cases a <;> try (simp only [opK] at h; cases h; done)
    simp only [opK] at h
    exact (op_mapSet g hl (.inr hop) ha hb hc h).op
  | mapEntry t m y =>
    rw [hop] at h hx
    obtain ⟨a, b, rfl, ha, hb⟩ := repL2 hx
    cases a <;> try (simp only [opK] at h; cases h; done)
    simp only [opK] at h
    exact (op_mapEntry g hl hop ha hb h).op
  | entryStore t m y z =>
    rw [hop] at h hx
    obtain ⟨a, b, c, rfl, ha, hb, hc⟩ := repL3 hx
    cases a <;> try (simp only [opK] at h; cases h; done)
    cases b with
    | val τ q =>
      cases τ with
      | int k =>
        cases k <;> try (simp only [opK] at h; cases h; done)
        simp only [opK] at h
        exact (op_entryStore g hl hop ha hb hc h hp).op
      | _ => simp only [opK] at h; cases h
    | _ => simp only [opK] at h; cases h
  | extract x i =>
    rw [hop] at h hx
    obtain ⟨a, rfl, ha⟩ := repL1 hx
    exact (op_extract g hop ha h).op
  | call c =>
    rw [hop] at h hx
    simp only [opK] at h
    split at h
    · rename_i b hb
      have e : (Op.call c).operands.toList.map ρ = (c.args.map ρ).toList := by simp [Op.operands, Call.operands, hb]
      rw [e] at hx
      exact (builtin_ok g hl hf0 hf1 hop hb hx h hp).op
    · rename_i f hf
      have e : (Op.call c).operands.toList.map ρ = ρ f :: (c.args.map ρ).toList := by simp [Op.operands, Call.operands, hf]
      rw [e] at hx
      split at h
      · obtain ⟨v, vs, hv, ha, hr⟩ := hx.uncons
        injection hv with e1 e2
        subst e1 e2
        exact op_call hrun g hl hfresh hop hf ha hr h hp hc
      · cases h
    · cases h
  | _ =>
    rw [hop] at h
    first
      | cases h
      | (cases xs <;> cases h)

end
end Go.Proofs.YtcbeifkfllcjoaaDoor
