/-
  Calls: what a contract says, and how a caller takes it in.
-/
import Derived.Test.YtcbeifkfllcjoaaDoorRN
import Derived.Calls
set_option linter.unusedVariables false
set_option linter.unusedSimpArgs false
namespace Go.Proofs.YtcbeifkfllcjoaaDoor

theorem renA_ok {w : World} {S : Nat → Prop} {β β' : Nat → Value} {f : Nat → Option Nat} {a : A} {v : Value} (h : RepA w S β a v) :
    (∀ o j, o ∈ a.ids → f o = some j → β' j = β o) → RepA w S β' (renA f a) v := by
  induction h with
  | undef v => intro _; exact .undef v
  | val hv => intro _; exact .val hv
  | nil => intro _; exact .nil
  | emp => intro _; exact .emp
  | @ref o h1 =>
    intro hf
    simp only [renA]
    split
    · rename_i j hj
      have e := hf o j (by simp [A.ids]) hj
      rw [← e]
      exact .ref (by rw [e]; exact h1)
    · exact .undef _
  | @pel o i sz off b n c k h1 e =>
    intro hf
    simp only [renA]
    split
    · rename_i j hj
      exact .pel ((hf o j (by simp [A.ids]) hj).trans h1) e
    · exact .undef _
  | pst hb h1 => intro _; exact .pst hb h1
  | @pcs cells off b vs hb hl hc h1 _ ih =>
    intro hf
    simp only [renA]
    have hr : ∀ l : List A, (renL f l).length = l.length ∧ ∀ i (h : i < l.length) (h' : i < (renL f l).length), (renL f l)[i] = renA f l[i] := by
      intro l
      induction l with
      | nil => exact ⟨rfl, fun i h => by simp at h⟩
      | cons a l ih => exact ⟨by simp [renL, ih.1], fun i h h' => by cases i with | zero => rfl | succ i => exact ih.2 i (by simpa using h) (by simpa [renL] using h')⟩
    obtain ⟨e1, e2⟩ := hr cells
    refine .pcs hb (hl.trans e1.symm) (fun i hi => hc i (by omega)) h1 fun i hi hi' => ?_
    rw [e2 i (by omega) hi]
    exact ih i (by omega) hi' fun o j ho => hf o j (by simp only [A.ids]; exact mem_idsL (by omega) ho)
  | @pbox o off b h1 =>
    intro hf
    simp only [renA]
    split
    · rename_i j hj
      exact .pbox ((hf o j (by simp [A.ids]) hj).trans h1)
    · exact .undef _
  | @mapr o h1 =>
    intro hf
    simp only [renA]
    split
    · rename_i j hj
      have e := hf o j (by simp [A.ids]) hj
      rw [← e]
      exact .mapr (by rw [e]; exact h1)
    · exact .undef _
  | glob => intro _; exact .glob
  | @clo g caps vs hl _ ih =>
    intro hf
    simp only [renA]
    have hr : ∀ l : List A, (renL f l).length = l.length ∧ ∀ i (h : i < l.length) (h' : i < (renL f l).length), (renL f l)[i] = renA f l[i] := by
      intro l
      induction l with
      | nil => exact ⟨rfl, fun i h => by simp at h⟩
      | cons a l ih => exact ⟨by simp [renL, ih.1], fun i h h' => by cases i with | zero => rfl | succ i => exact ih.2 i (by simpa using h) (by simpa [renL] using h')⟩
    obtain ⟨e1, e2⟩ := hr caps
    refine .clo (hl.trans e1.symm) fun i hi hi' => ?_
    rw [e2 i (by omega) hi]
    exact ih i (by omega) hi' fun o j ho => hf o j (by simp only [A.ids]; exact mem_idsL (by omega) ho)
  | @agg cells vs hl h1 _ ih =>
    intro hf
    simp only [renA]
    have hr : ∀ l : List A, (renL f l).length = l.length ∧ ∀ i (h : i < l.length) (h' : i < (renL f l).length), (renL f l)[i] = renA f l[i] := by
      intro l
      induction l with
      | nil => exact ⟨rfl, fun i h => by simp at h⟩
      | cons a l ih => exact ⟨by simp [renL, ih.1], fun i h h' => by cases i with | zero => rfl | succ i => exact ih.2 i (by simpa using h) (by simpa [renL] using h')⟩
    obtain ⟨e1, e2⟩ := hr cells
    refine .agg (hl.trans e1.symm) h1 fun i hi hi' => ?_
    rw [e2 i (by omega) hi]
    exact ih i (by omega) hi' fun o j ho => hf o j (by simp only [A.ids]; exact mem_idsL (by omega) ho)
  | @tup cells vs hl _ ih =>
    intro hf
    simp only [renA]
    have hr : ∀ l : List A, (renL f l).length = l.length ∧ ∀ i (h : i < l.length) (h' : i < (renL f l).length), (renL f l)[i] = renA f l[i] := by
      intro l
      induction l with
      | nil => exact ⟨rfl, fun i h => by simp at h⟩
      | cons a l ih => exact ⟨by simp [renL, ih.1], fun i h h' => by cases i with | zero => rfl | succ i => exact ih.2 i (by simpa using h) (by simpa [renL] using h')⟩
    obtain ⟨e1, e2⟩ := hr cells
    refine .tup (hl.trans e1.symm) fun i hi hi' => ?_
    rw [e2 i (by omega) hi]
    exact ih i (by omega) hi' fun o j ho => hf o j (by simp only [A.ids]; exact mem_idsL (by omega) ho)

theorem renL_length (f : Nat → Option Nat) (l : List A) : (renL f l).length = l.length := by
  induction l with
  | nil => rfl
  | cons a l ih => simp [renL, ih]
theorem renL_get (f : Nat → Option Nat) (l : List A) : ∀ i (h : i < l.length) (h' : i < (renL f l).length), (renL f l)[i] = renA f l[i] := by
  induction l with
  | nil => exact fun i h => by simp at h
  | cons a l ih => exact fun i h h' => by cases i with | zero => rfl | succ i => exact ih i (by simpa using h) (by simpa [renL] using h')
theorem renL_ok {w : World} {S : Nat → Prop} {β β' : Nat → Value} {f : Nat → Option Nat} {as : List A} {vs : List Value} (h : RepL w S β as vs) (hf : ∀ o j, o ∈ idsL as → f o = some j → β' j = β o) : RepL w S β' (renL f as) vs :=
  ⟨h.1.trans (renL_length f as).symm, fun i hi hi' => by
    rw [renL_get f as i (by rw [renL_length] at hi; exact hi) hi]
    exact renA_ok (h.2 i (by rw [renL_length] at hi; exact hi) hi') fun o j ho => hf o j (mem_idsL _ ho)⟩

theorem renO_ok {B : Nat} {w : World} {S : Nat → Prop} {β β' : Nat → Value} {f : Nat → Option Nat} {v : Value} {x : O} (h : RepO B w S β v x) (hf : ∀ o j, o ∈ x.ids → f o = some j → β' j = β o) : RepO B w S β' v (renO f x) := by
  cases x with
  | arr e τ xs z => exact h
  | map κ ν es => exact h
  | row e n sz cells =>
    obtain ⟨vs, h1, h2, h3, h4⟩ := h
    exact ⟨vs, h1, h2, renL_ok h3 hf, h4⟩
  | box t cells z =>
    obtain ⟨b, vs, hb, h1, h2, h3, h4⟩ := h
    exact ⟨b, vs, hb, h1, h2, renL_ok h3 hf, h4⟩

theorem renO_frz (f : Nat → Option Nat) (x : O) : (renO f x).frz = x.frz := by cases x <;> rfl

/-! ### What a whole call may change -/
structure Mov (w : World) (S : Nat → Prop) (β : Nat → Value) (H : Nat → Option O) (w' : World) (S' : Nat → Prop) (β' : Nat → Value) (H' : Nat → Option O) : Prop where
  hS : ∀ b, S b → S' b
  heap : ∀ b, b < w.heap.size → ¬ Own β H b → w'.heap[b]? = w.heap[b]?
  size : w.heap.size ≤ w'.heap.size
  os : w'.os = w.os
  tape : w'.tape = w.tape
  output : w'.output = w.output
  own : ∀ b, Own β' H' b → w.heap.size ≤ b ∨ Own β H b
  st : ∀ b, S' b → S b ∨ w.heap.size ≤ b ∨ Own β H b

theorem Chg.mov {fid w S β H w' S' β' H'} (c : Chg fid w S β H w' S' β' H') : Mov w S β H w' S' β' H' := ⟨c.hS, c.heap, c.size, c.os, c.tape, c.output, c.own, c.st⟩
theorem Mov.refl (w S β H) : Mov w S β H w S β H := (Chg.refl 0 w S β H).mov
theorem Mov.trans {w S β H w' S' β' H' w'' S'' β'' H''} (c : Mov w S β H w' S' β' H') (d : Mov w' S' β' H' w'' S'' β'' H'') : Mov w S β H w'' S'' β'' H'' where
  hS b h := d.hS b (c.hS b h)
  heap b hb hn := by
    rw [d.heap b (Nat.lt_of_lt_of_le hb c.size) (fun ho => ?_), c.heap b hb hn]
    rcases c.own b ho with h | h
    · omega
    · exact hn h
  size := Nat.le_trans c.size d.size
  os := d.os.trans c.os
  tape := d.tape.trans c.tape
  output := d.output.trans c.output
  own b h := by
    rcases d.own b h with h | h
    · exact .inl (Nat.le_trans c.size h)
    · exact c.own b h
  st b h := by
    rcases d.st b h with h | h | h
    · exact c.st b h
    · exact .inr (.inl (Nat.le_trans c.size h))
    · exact .inr (c.own b h)

/-- a step of a value or a call that returns -/
def Lands (P : Program) (r : Result Next) (K : Value → World → Prop) : Prop :=
  match r with
  | .ok (.value v) w' => K v w'
  | .ok .skip w' => K undef w'
  | .ok (.enter f args) w' => Calls P f args w' fun
    | .returned v, w'' => K v w''
    | _, _ => False
  | .ok (.row row args) w' => Rows P row args w' K
  | _ => False

theorem Lands.mono {P : Program} {r : Result Next} {K K' : Value → World → Prop} (h : Lands P r K) (hk : ∀ v w, K v w → K' v w) : Lands P r K' := by
  unfold Lands at *
  split at h
  · exact hk _ _ h
  · exact hk _ _ h
  · exact Calls.mono h fun e w' he => by cases e <;> first | exact hk _ _ he | exact he
  · exact Rows.mono h hk
  · exact h.elim

def CallOb.Holds (P : Program) (B : Nat) (W0 : Nat → Option Obj) (c : CallOb) : Prop :=
  ∀ (w : World) (S : Nat → Prop) (β : Nat → Value) (vs : List Value), Good B W0 w S β (lookO (numbered 0 c.objs)) → RepL w S β c.args vs →
    Lands P ((callFunc c.f vs.toArray).run P w) fun v w' => ∃ S' β', RepA w' S' β' c.res v ∧ Good B W0 w' S' β' (lookO c.fin) ∧ Mov w S β (lookO (numbered 0 c.objs)) w' S' β' (lookO c.fin) ∧ ∀ j, j < c.objs.length → β' j = β j

theorem lookO_numbered (l : List O) : ∀ i j, lookO (numbered i l) j = if i ≤ j then l[j - i]? else none := by
  induction l with
  | nil => intro i j; simp [numbered, lookO]
  | cons x l ih =>
    intro i j
    simp only [numbered, lookO]
    by_cases h : i = j
    · subst h
      simp
    · rw [if_neg h, ih]
      by_cases h2 : i ≤ j
      · rw [if_pos h2, if_pos (by omega), show j - i = (j - (i + 1)) + 1 by omega]
        rfl
      · rw [if_neg h2, if_neg (by omega)]

theorem idxN_some {l : List Nat} {o j : Nat} (h : idxN l o = some j) : l[j]? = some o := by
  induction l generalizing j with
  | nil => simp [idxN] at h
  | cons k l ih =>
    simp only [idxN] at h
    split at h
    · rename_i hk
      injection h with h
      subst h
      simp [hk]
    · cases hq : idxN l o with
      | none => rw [hq] at h; cases h
      | some q =>
        rw [hq] at h
        simp only [Option.map_some, Option.some.injEq] at h
        subst h
        simpa using ih hq

theorem idxN_none {l : List Nat} {o : Nat} (h : idxN l o = none) : o ∉ l := by
  induction l with
  | nil => simp
  | cons k l ih =>
    simp only [idxN] at h
    split at h
    · cases h
    · rename_i hk
      cases hq : idxN l o with
      | none => simp only [List.mem_cons, not_or]; exact ⟨fun e => hk e.symm, ih hq⟩
      | some q => rw [hq] at h; cases h

theorem nodupN_cons {a : Nat} {l : List Nat} (h : nodupN (a :: l) = true) : a ∉ l ∧ nodupN l = true := by
  simp only [nodupN, Bool.and_eq_true, Bool.not_eq_true'] at h
  exact ⟨fun hm => by rw [(hasN_iff l a).2 hm] at h; exact absurd h.1 (by simp), h.2⟩

theorem idxN_get {l : List Nat} (hn : nodupN l = true) {j o : Nat} (h : l[j]? = some o) : idxN l o = some j := by
  induction l generalizing j with
  | nil => simp at h
  | cons k l ih =>
    obtain ⟨h1, h2⟩ := nodupN_cons hn
    simp only [idxN]
    cases j with
    | zero =>
      simp only [List.getElem?_cons_zero, Option.some.injEq] at h
      rw [if_pos h]
    | succ j =>
      simp only [List.getElem?_cons_succ] at h
      rw [if_neg (fun e : k = o => h1 (by rw [e]; exact List.mem_of_getElem? h)), ih h2 h]
      rfl

theorem updH_parU (f : Nat → Option Nat) (fin : List (Nat × O)) : ∀ (l : List Nat) (i : Nat) (H : Nat → Option O), nodupN l = true →
    ∀ o, updH H (parU f fin i l) o = match idxN l o with | some j => (lookO fin (i + j)).map (renO f) | none => H o := by
  intro l
  induction l with
  | nil => intro i H _ o; rfl
  | cons k l ih =>
    intro i H hn o
    obtain ⟨h1, h2⟩ := nodupN_cons hn
    simp only [parU, updH, idxN]
    rw [ih (i + 1) _ h2 o]
    by_cases hk : k = o
    · subst hk
      have : idxN l k = none := by
        cases hq : idxN l k with
        | none => rfl
        | some j => exact absurd (List.mem_of_getElem? (idxN_some hq)) h1
      rw [if_pos rfl, this]
      simp [upd1]
    · rw [if_neg hk]
      cases hq : idxN l o with
      | none =>
        simp only [upd1]
        rw [if_neg fun e => hk e.symm]
        rfl
      | some j => simp [show i + 1 + j = i + (j + 1) by omega]

theorem updH_newU (m fid : Nat) (f : Nat → Option Nat) : ∀ (fin : List (Nat × O)) (H : Nat → Option O), finOk m fin = true →
    ∀ o, updH H (newU m fid f fin) o = if o < fid then H o else match lookO fin (o - fid + m) with | some x => some (renO f x) | none => H o := by
  intro fin
  induction fin with
  | nil => intro H _ o; simp [newU, updH, lookO]
  | cons p fin ih =>
    intro H hf o
    obtain ⟨j, x⟩ := p
    simp only [finOk, Bool.and_eq_true, Bool.not_eq_true', decide_eq_true_eq] at hf
    obtain ⟨⟨⟨h1, h2⟩, h3⟩, h4⟩ := hf
    have hnot : j ∉ fin.map (·.1) := fun hm => by rw [(hasN_iff _ _).2 hm] at h2; cases h2
    have hlk : lookO fin j = none := by
      clear ih h1 h2 h3 h4
      induction fin with
      | nil => rfl
      | cons q fin ih =>
        simp only [List.map_cons, List.mem_cons, not_or] at hnot
        simp only [lookO]
        rw [if_neg (fun e => hnot.1 e.symm)]
        exact ih hnot.2
    simp only [newU, lookO]
    by_cases hj : j < m
    · rw [if_pos hj, ih H h4 o]
      by_cases ho : o < fid
      · rw [if_pos ho, if_pos ho]
      · rw [if_neg ho, if_neg ho, if_neg (by omega)]
    · rw [if_neg hj]
      simp only [updH]
      rw [ih _ h4 o]
      by_cases ho : o < fid
      · rw [if_pos ho, if_pos ho]
        simp only [upd1]
        rw [if_neg (by omega)]
      · rw [if_neg ho, if_neg ho]
        by_cases hjo : j = o - fid + m
        · rw [if_pos hjo, ← hjo, hlk]
          simp only [upd1]
          rw [if_pos (by omega)]
        · rw [if_neg hjo]
          cases hq : lookO fin (o - fid + m) with
          | none =>
            simp only [upd1]
            rw [if_neg (by omega)]
          | some y => rfl

theorem finOk_ids {m : Nat} : ∀ {fin : List (Nat × O)}, finOk m fin = true → ∀ {j x}, lookO fin j = some x → j < m + 16 ∧ ∀ k ∈ x.ids, k < m + 16 := by
  intro fin
  induction fin with
  | nil => intro _ j x h; simp [lookO] at h
  | cons p fin ih =>
    intro hf j x h
    obtain ⟨i, y⟩ := p
    simp only [finOk, Bool.and_eq_true, Bool.not_eq_true', decide_eq_true_eq, List.all_eq_true] at hf
    obtain ⟨⟨⟨h1, h2⟩, h3⟩, h4⟩ := hf
    simp only [lookO] at h
    split at h
    · rename_i hij
      injection h with h
      subst h
      subst hij
      exact ⟨h1, h3⟩
    · exact ih h4 h

end Go.Proofs.YtcbeifkfllcjoaaDoor
