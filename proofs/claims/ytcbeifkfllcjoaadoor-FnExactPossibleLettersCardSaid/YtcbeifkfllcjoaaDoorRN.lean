/-
  Values as a callee sees them; closures.
-/
import Derived.Test.YtcbeifkfllcjoaaDoorRMM
set_option linter.unusedVariables false
set_option linter.unusedSimpArgs false
namespace Go.Proofs.YtcbeifkfllcjoaaDoor

section ops
variable {run : Runner} {P : Program} {B : Nat} {W0 : Nat → Option Obj} {fid : Nat} {w : World} {S : Nat → Prop} {β : Nat → Value} {H : Nat → Option O} {look : Nat → Option O} {ρ : Operand → Value} {o : Oper} {out : Out}

/-- a frozen object may be read as data -/
def Seen (w : World) (S : Nat → Prop) (β : Nat → Value) (look : Nat → Option O) (o : Nat) : Prop :=
  (∀ e τ xs fz, look o = some (.arr e τ xs fz) → RepV w S (.slice τ) xs (β o)) ∧
  (∀ t cells fz, look o = some (.box t cells fz) → ∃ b vs, β o = .pointer (some ⟨b, 0, none⟩) ∧ S b ∧ w.heap[b]? = some (.cells (List.toArray vs) t (0, 0)) ∧ RepL w S β cells vs ∧ ∀ u ∈ vs, u.oneCell' = true)

theorem freezeSeen (g : Good B W0 w S β H) (hl : ∀ o x, look o = some x → H o = some x) (fid : Nat) (f : List Nat) :
    ∃ S1, Good B W0 w S1 β (updH H (freezeU look f)) ∧ Chg fid w S β H w S1 β (updH H (freezeU look f)) ∧ (∀ b, S b → S1 b) ∧
      (∀ o, o ∈ f → Seen w S1 β look o) ∧ Frozen S β H S1 (updH H (freezeU look f)) := by
  obtain ⟨S1, g1, f1, hin⟩ := Good.freezeAll (look := look) f g fun o x h => ⟨x, hl o x h, .inl rfl⟩
  refine ⟨S1, g1, f1.chg fid w, f1.hS, fun o ho => ⟨fun e τ xs fz hlk => ?_, fun t cells fz hlk => ?_⟩, f1⟩
  · obtain ⟨h1, h2⟩ := hin o ho _ hlk rfl
    exact arr_val (g1.rep h1) h2
  · obtain ⟨h1, h2⟩ := hin o ho _ hlk rfl
    obtain ⟨b, vs, hb, _, hh, hr, h3⟩ := g1.rep h1
    exact ⟨b, vs, hb, h2 b (by rw [hb]; rfl), hh, hr, h3⟩

theorem trL_some {rr : List Nat} : ∀ {l l' : List A}, trL look rr l = some l' → l'.length = l.length ∧ ∀ i (h : i < l.length) (h' : i < l'.length), trA look rr l[i] = some l'[i] := by
  intro l
  induction l with
  | nil =>
    intro l' h
    simp only [trL, Option.some.injEq] at h
    subst h
    exact ⟨rfl, fun i h => by simp at h⟩
  | cons a l ih =>
    intro l' h
    simp only [trL] at h
    split at h
    · rename_i a' m h1 h2
      injection h with h
      subst h
      obtain ⟨e1, e2⟩ := ih h2
      refine ⟨by simp [e1], fun i hi hi' => ?_⟩
      cases i with
      | zero => exact h1
      | succ i => exact e2 i (by simpa using hi) (by simpa using hi')
    · cases h

theorem trA_ok {rr : List Nat} {β' : Nat → Value} (hβ : ∀ o j, idxN rr o = some j → β' j = β o) {a : A} {v : Value} (h : RepA w S β a v) :
    ∀ {a' : A}, trA look rr a = some a' → (∀ o, o ∈ a.ids → idxN rr o = none → Seen w S β look o) → RepA w S β' a' v := by
  induction h with
  | undef v => intro a' h hs; simp only [trA, Option.some.injEq] at h; subst h; exact .undef v
  | val hv => intro a' h hs; simp only [trA, Option.some.injEq] at h; subst h; exact .val hv
  | nil => intro a' h hs; simp only [trA, Option.some.injEq] at h; subst h; exact .nil
  | emp => intro a' h hs; simp only [trA, Option.some.injEq] at h; subst h; exact .emp
  | @ref o h1 =>
    intro a' h hs
    simp only [trA] at h
    split at h
    · rename_i j hj
      injection h with h
      subst h
      rw [← hβ o j hj]
      exact .ref (by rw [hβ o j hj]; exact h1)
    · rename_i hj
      split at h
      · rename_i e τ xs fz hlk
        injection h with h
        subst h
        exact .val ((hs o (by simp [A.ids]) hj).1 e τ xs fz hlk)
      · cases h
  | pel h1 e => intro a' h hs; simp [trA] at h
  | pst hb h1 => intro a' h hs; simp only [trA, Option.some.injEq] at h; subst h; exact .pst hb h1
  | @pcs cells off b vs hb hl hc h1 _ ih =>
    intro a' h hs
    simp only [trA] at h
    cases ht : trL look rr cells with
    | none => rw [ht] at h; cases h
    | some cs =>
      rw [ht] at h
      simp only [Option.map_some, Option.some.injEq] at h
      subst h
      obtain ⟨e1, e2⟩ := trL_some ht
      refine .pcs hb (hl.trans e1.symm) (fun i hi => hc i (by omega)) h1 fun i hi hi' => ih i (by omega) hi' (e2 i (by omega) hi) fun o ho => hs o ?_
      simp only [A.ids]; exact mem_idsL (by omega) ho
  | @pbox o off b h1 =>
    intro a' h hs
    simp only [trA] at h
    split at h
    · rename_i j hj
      injection h with h
      subst h
      exact .pbox ((hβ o j hj).trans h1)
    · rename_i hj
      split at h
      · rename_i t cells fz hlk
        split at h
        · rename_i hids
          injection h with h
          subst h
          obtain ⟨b', vs, hb', hS, hh, hr, h3⟩ := (hs o (by simp [A.ids]) hj).2 t cells fz hlk
          rw [h1] at hb'
          injection hb' with hb'
          injection hb' with hb'
          injection hb' with hb'
          subst hb'
          have hr' : RepL w S β' cells vs := hr.mono (fun _ h => h) (fun _ _ => rfl) fun o ho => by rw [hids] at ho; simp at ho
          exact .pcs hS hr'.1 (fun i hi => by rw [cell_of_row w b i _ _ _ hh]; simp) h3 hr'.2
        · cases h
      · cases h
  | @mapr o h1 =>
    intro a' h hs
    simp only [trA] at h
    cases hj : idxN rr o with
    | none => rw [hj] at h; cases h
    | some j =>
      rw [hj] at h
      simp only [Option.map_some, Option.some.injEq] at h
      subst h
      rw [← hβ o j hj]
      exact .mapr (by rw [hβ o j hj]; exact h1)
  | glob => intro a' h hs; simp [trA] at h
  | @clo f caps vs hl _ ih =>
    intro a' h hs
    simp only [trA] at h
    cases ht : trL look rr caps with
    | none => rw [ht] at h; cases h
    | some cs =>
      rw [ht] at h
      simp only [Option.map_some, Option.some.injEq] at h
      subst h
      obtain ⟨e1, e2⟩ := trL_some ht
      exact .clo (hl.trans e1.symm) fun i hi hi' => ih i (by omega) hi' (e2 i (by omega) hi) fun o ho => hs o (by simp only [A.ids]; exact mem_idsL (by omega) ho)
  | @agg cells vs hl h1 _ ih =>
    intro a' h hs
    simp only [trA] at h
    cases ht : trL look rr cells with
    | none => rw [ht] at h; cases h
    | some cs =>
      rw [ht] at h
      simp only [Option.map_some, Option.some.injEq] at h
      subst h
      obtain ⟨e1, e2⟩ := trL_some ht
      exact .agg (hl.trans e1.symm) h1 fun i hi hi' => ih i (by omega) hi' (e2 i (by omega) hi) fun o ho => hs o (by simp only [A.ids]; exact mem_idsL (by omega) ho)
  | @tup cells vs hl _ ih =>
    intro a' h hs
    simp only [trA] at h
    cases ht : trL look rr cells with
    | none => rw [ht] at h; cases h
    | some cs =>
      rw [ht] at h
      simp only [Option.map_some, Option.some.injEq] at h
      subst h
      obtain ⟨e1, e2⟩ := trL_some ht
      exact .tup (hl.trans e1.symm) fun i hi hi' => ih i (by omega) hi' (e2 i (by omega) hi) fun o ho => hs o (by simp only [A.ids]; exact mem_idsL (by omega) ho)

theorem trL_ok {rr : List Nat} {β' : Nat → Value} (hβ : ∀ o j, idxN rr o = some j → β' j = β o) {as as' : List A} {vs : List Value} (h : RepL w S β as vs) (ht : trL look rr as = some as') (hs : ∀ o, o ∈ idsL as → idxN rr o = none → Seen w S β look o) : RepL w S β' as' vs := by
  obtain ⟨e1, e2⟩ := trL_some ht
  exact ⟨h.1.trans e1.symm, fun i hi hi' => trA_ok hβ (h.2 i (by omega) hi') (e2 i (by omega) hi) fun o ho => hs o (mem_idsL (by omega) ho)⟩

theorem op_makeFunc (g : Good B W0 w S β H) (hl : ∀ o x, look o = some x → H o = some x) {f : FuncId} {first captured : Array Operand} (ho : o.op = .makeFunc (.func f) first captured) (hfirst : first.isEmpty = true) {caps : List A} (hx : RepL w S β caps (captured.toList.map ρ))
    (h : funK look f caps = some out) : StepTo B W0 fid w S β H ((execOp ρ o).run P w) out := by
  unfold funK at h
  split at h
  · rename_i cs ht
    injection h with h
    subst h
    obtain ⟨S1, g1, c1, hS1, hseen, _⟩ := freezeSeen g hl fid (idsL caps)
    have h2 := trL_ok (β' := β) (fun o j h => by simp [idxN] at h) (hx.mono hS1 (fun _ _ => rfl) fun _ _ => rfl) ht fun o ho _ => hseen o ho
    refine ⟨w, S1, β, .func (.func f) #[] (captured.toList.map ρ).toArray, .inl ?_, .clo h2.1 h2.2, g1, c1⟩
    have hf : first.map ρ = #[] := by
      have : first = #[] := by simpa using hfirst
      rw [this]; simp
    have hc : (captured.toList.map ρ).toArray = captured.map ρ := by apply Array.toList_inj.1; rw [Array.toList_map]
    rw [hc]
    simp [execOp, ho, Instr.makeFunc, hf]
  · cases h

end ops
end Go.Proofs.YtcbeifkfllcjoaaDoor
