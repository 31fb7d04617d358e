/-
  Literals, make, store, append.
-/
import Derived.Test.YtcbeifkfllcjoaaDoorRG
import Derived.Maps.AppendAt
set_option linter.unusedVariables false
set_option linter.unusedSimpArgs false
namespace Go.Proofs.YtcbeifkfllcjoaaDoor

theorem splice_get (l m : List Value) (a : Nat) (h : a + m.length ≤ l.length) (k : Nat) : (l.take a ++ m ++ l.drop (a + m.length))[k]? = if a ≤ k ∧ k < a + m.length then m[k - a]? else l[k]? := by
  by_cases h1 : k < a
  · rw [if_neg (by omega), List.append_assoc, List.getElem?_append_left (by simp; omega), List.getElem?_take, if_pos h1]
  · by_cases h2 : k < a + m.length
    · rw [if_pos ⟨by omega, h2⟩, List.append_assoc, List.getElem?_append_right (by simp; omega), List.getElem?_append_left (by simp; omega)]
      congr 1
      simp
      omega
    · rw [if_neg (by omega), List.getElem?_append_right (by simp; omega), List.getElem?_drop]
      congr 1
      simp
      omega

theorem length_splice (l m : List Value) (a : Nat) (h : a + m.length ≤ l.length) : (l.take a ++ m ++ l.drop (a + m.length)).length = l.length := by
  simp
  omega

theorem setCells_ok {w S β} {cs new cs' : List A} {off : Nat} {vs us : List Value} (h : setCells cs off new = some cs') (hl : RepL w S β cs vs) (hn : RepL w S β new us) :
    off + us.length ≤ vs.length ∧ RepL w S β cs' (vs.take off ++ us ++ vs.drop (off + us.length)) := by
  unfold setCells at h
  split at h
  · rename_i hle
    injection h with h
    subst h
    rw [← hn.1, ← hl.1] at hle
    refine ⟨hle, ((hl.take off).append hn).append ?_⟩
    rw [hn.1]
    exact hl.drop _
  · cases h

/-- what 'fill' writes -/
theorem foldl_zip : ∀ (vs : List Value) (k off : Nat) (cs : Array Value), off + k + vs.length ≤ cs.size →
    ((vs.zipIdx k).foldl (fun cs (p : Value × Nat) => cs.setIfInBounds (off + p.2) p.1) cs).toList = cs.toList.take (off + k) ++ vs ++ cs.toList.drop (off + k + vs.length) := by
  intro vs
  induction vs with
  | nil => intro k off cs h; simp
  | cons v vs ih =>
    intro k off cs h
    simp only [List.zipIdx_cons, List.foldl_cons]
    rw [ih (k + 1) off _ (by simp at h ⊢; omega)]
    apply List.ext_getElem?
    intro i
    have e1 : (cs.setIfInBounds (off + k) v).toList = cs.toList.set (off + k) v := by simp
    simp only [List.length_cons] at h
    rw [splice_get _ _ _ (by rw [e1]; simp; omega), splice_get _ _ _ (by simp; omega), e1, List.getElem?_set]
    by_cases hi : i = off + k
    · subst hi
      rw [if_neg (by omega), if_pos rfl, if_pos (by simp; omega), if_pos (by simp)]
      simp
    · by_cases hlt : off + (k + 1) ≤ i ∧ i < off + (k + 1) + vs.length
      · rw [if_pos hlt, if_pos (by simp; omega)]
        rw [show i - (off + k) = (i - (off + (k + 1))) + 1 by omega]
        simp
      · rw [if_neg hlt, if_neg (fun e => hi e.symm), if_neg (by simp; omega)]

theorem fill_step (place : Nat → Option (Nat × Nat)) (cells : Array Value) (i : Nat) (v : Value) (rest : List (Nat × Value)) {off n : Nat} (hp : place i = some (off, n)) (hn : v.cells.size = n) (hle : off + n ≤ cells.size) :
    ∃ c2, Instr.fill place cells ((i, v) :: rest) = Instr.fill place c2 rest ∧ c2.toList = cells.toList.take off ++ v.cells.toList ++ cells.toList.drop (off + v.cells.toList.length) := by
  refine ⟨v.cells.zipIdx.foldl (fun cs p => cs.setIfInBounds (off + p.2) p.1) cells, ?_, ?_⟩
  · simp only [Instr.fill, hp]
    rw [if_neg (by simp; omega)]
  · rw [← Array.foldl_toList, Array.toList_zipIdx]
    exact foldl_zip _ 0 off cells (by simp; omega)

theorem fillA_ok {w S β} {place : Nat → Option (Nat × Nat)} : ∀ {js : List Nat} {cs : List A} {as : List A} {cs' : List A} {z : Array Value} {vs : List Value}, fillA place cs js as = some cs' → RepL w S β cs z.toList → (∀ u ∈ z.toList, u.oneCell' = true) → RepL w S β as vs →
    ∃ z', Instr.fill place z (js.zip vs) = some z' ∧ RepL w S β cs' z'.toList ∧ ∀ u ∈ z'.toList, u.oneCell' = true := by
  intro js
  induction js with
  | nil =>
    intro cs as cs' z vs h hl h1 hv
    cases as with
    | nil =>
      simp only [fillA, Option.some.injEq] at h
      subst h
      exact ⟨z, by simp [Instr.fill], hl, h1⟩
    | cons a as => simp [fillA] at h
  | cons j js ih =>
    intro cs as cs' z vs h hl h1 hv
    cases as with
    | nil => simp [fillA] at h
    | cons a as =>
      obtain ⟨v, vs, rfl, ha, hv⟩ := hv.uncons
      simp only [fillA] at h
      split at h
      · rename_i off n hp
        split at h
        · rename_i hc
          split at h
          · rename_i cs2 hs
            obtain ⟨hla, h2⟩ := cells_ok ha hc.2
            obtain ⟨hle, hl2⟩ := setCells_ok hs hl hla
            have hlen : v.cells.size = n := by have := hla.1; simp at this; omega
            obtain ⟨c2, hf, hc2⟩ := fill_step place z j v (js.zip vs) hp hlen (by simp at hle; omega)
            rw [← hc2] at hl2
            obtain ⟨z', hz', hl3, h3⟩ := ih h hl2 (fun u hu => by
              rw [hc2] at hu
              simp only [List.append_assoc, List.mem_append] at hu
              rcases hu with hu | hu | hu
              · exact h1 u (List.mem_of_mem_take hu)
              · exact h2 u hu
              · exact h1 u (List.mem_of_mem_drop hu)) hv
            exact ⟨z', by rw [List.zip_cons_cons, hf]; exact hz', hl3, h3⟩
          · cases h
        · cases h
      · cases h

theorem zeroCells_ok {P : Program} {t : TypeId} {cs : List A} (h : zeroCells P t = some cs) : ∃ i z, P.info? t = some i ∧ i.zero = some z ∧ cs = z.cells.toList.map constA ∧ ∀ u ∈ z.cells.toList, u.oneCell' = true := by
  unfold zeroCells at h
  split at h
  · rename_i i hi
    split at h
    · rename_i z hz
      split at h
      · rename_i hall
        injection h with h
        exact ⟨i, z, hi, hz, h.symm, fun u hu => by rw [← isOne_eq]; exact List.all_eq_true.1 hall u hu⟩
      · cases h
    · cases h
  · cases h

theorem repL_const {w S β} (l : List Value) : RepL w S β (l.map constA) l := ⟨by simp, fun i h1 h2 => by simpa using constA_ok _⟩

theorem zip_parts (ps : Array (Nat × Operand)) (ρ : Operand → Value) : (ps.map fun (i, x) => (i, ρ x)).toList = (ps.toList.map (·.1)).zip ((ps.toList.map (·.2)).map ρ) := by
  rw [Array.toList_map]
  induction ps.toList with
  | nil => rfl
  | cons p l ih => simp [ih]

section ops
variable {run : Runner} {P : Program} {B : Nat} {W0 : Nat → Option Obj} {fid : Nat} {w : World} {S : Nat → Prop} {β : Nat → Value} {H : Nat → Option O} {look : Nat → Option O} {ρ : Operand → Value} {o : Oper} {out : Out}

theorem op_build (g : Good B W0 w S β H) {t : TypeId} {ps : Array (Nat × Operand)} (ho : o.op = .build t ps) {cs : Option CallScript} {dec : Option Bool} {xs : List A} (hx : RepL w S β xs ((ps.toList.map (·.2)).map ρ))
    (h : opK P run look fid cs dec (.build t ps) xs = some out) : StepTo B W0 fid w S β H ((execOp ρ o).run P w) out := by
  have key : ∀ {c : Array Value} {cs' : List A}, P.built t (ps.map fun (i, x) => (i, ρ x)).toList = some c → RepL w S β cs' c.toList → (∀ u ∈ c.toList, u.oneCell' = true) → Out.pure (.agg cs') = some out → StepTo B W0 fid w S β H ((execOp ρ o).run P w) out := by
    intro c cs' hb hl h1 h
    obtain rfl := out_pure h
    refine StepTo.pure g (v := .agg c) ?_ rfl ?_
    · simp only [execOp, ho, Sem.run_bind, run_build w t _ c hb, Result.andThen_ok, Sem.run_pure]
    · have : RepA w S β (.agg cs') (.agg c.toList.toArray) := .agg hl.1 h1 hl.2
      simpa using this
  simp only [opK] at h
  split at h
  · rename_i fs zs hu hz
    obtain ⟨it, z, hit, hiz, rfl, hz1⟩ := zeroCells_ok hz
    split at h
    · rename_i places hpl
      split at h
      · rename_i cs' hf
        obtain ⟨c, hc, hl, h1⟩ := fillA_ok hf (repL_const z.cells.toList) hz1 hx
        refine key (c := c) ?_ hl h1 h
        unfold Program.built
        simp only [hit, hu, hiz, hpl, zip_parts]
        exact hc
      · cases h
    · cases h
  · rename_i n e zs hu hz
    obtain ⟨it, z, hit, hiz, rfl, hz1⟩ := zeroCells_ok hz
    split at h
    · rename_i n hn
      split at h
      · rename_i cs' hf
        obtain ⟨c, hc, hl, h1⟩ := fillA_ok hf (repL_const z.cells.toList) hz1 hx
        refine key (c := c) ?_ hl h1 h
        obtain ⟨ie, hie, rfl⟩ : ∃ ie, P.info? e = some ie ∧ ie.size = n := by
          unfold sizeT at hn
          cases hq : P.info? e with
          | none => rw [hq] at hn; cases hn
          | some ie => rw [hq] at hn; simp at hn; exact ⟨ie, rfl, hn⟩
        unfold Program.built
        simp only [hit, hu, hiz, hie, zip_parts]
        exact hc
      · cases h
    · cases h
  · cases h

end ops
end Go.Proofs.YtcbeifkfllcjoaaDoor
