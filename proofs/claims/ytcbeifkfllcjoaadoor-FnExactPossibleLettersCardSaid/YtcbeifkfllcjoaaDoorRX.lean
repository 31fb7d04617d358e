/-
  From a contract to a law's row: nothing that was there has turned.
-/
import Derived.Test.YtcbeifkfllcjoaaDoorRW
import Derived.ProofKit
set_option linter.unusedVariables false
set_option linter.unusedSimpArgs false
namespace Go.Proofs.YtcbeifkfllcjoaaDoor
open Go.ChangeShapes Go.WideShapes Go.ChangeAt Go.RowKit

section
variable {H : Type} {enc : TypeId × Value → H} {P : Program}

theorem post_of_below {f : Func} {s : ChangeSpec} {apart fresh handsOn again : Bool} {W W' : World} {args : Array Value} {v : Value} {ds gs : List (DataW H)} {before pa pv : List MemPlace}
    (hW : DataW.Whole enc P f.params.toList s.vars apart W args.toList ds gs before)
    (hres : ∀ (b : Nat) (sp : Nat → Bool) (hd : Bool), DataW.TrodAll enc P W' b sp hd f.resultTypes.toList (v.resultList f.resultTypes.size) (s.fn H (ds ++ gs)).results [])
    (hargs : ∀ sp : Nat → Bool, (∀ p ∈ before, sp p.block = true) → DataW.TrodAll enc P W' 0 sp true f.params.toList args.toList (s.fn H (ds ++ gs)).args pa)
    (hvars : ∀ sp : Nat → Bool, (∀ p ∈ before, sp p.block = true) → DataW.TrodVars enc P W' sp s.vars (s.fn H (ds ++ gs)).vars pv)
    (hps : before = pa ++ pv) (hb : Below W.heap.size W W')
    (hok : ∀ (j : Nat) (t : TypeId) (r : Value), f.resultTypes[j]? = some t → (v.resultList f.resultTypes.size)[j]? = some r → Value.okWide P W' .any 0 t r) :
    s.post enc P f apart fresh handsOn again W args v W' := by
  have hold : ∀ p ∈ before, (fun b => decide (b < W.heap.size)) p.block = true := fun p hp => by simpa using hW.lt p hp
  have hlt : ∀ p ∈ before, p.block < W.heap.size := hW.lt
  refine ⟨ds, gs, before, [], pa, pv, hW, hres _ _ _, hargs _ hold, hvars _ hold, World.keptBut_mono (fun p hp => ⟨hp, ?_⟩) (hb.frame (· ∈ before)), fun _ => ?_⟩
  · rw [hps, List.mem_append] at hp
    exact Or.inr hp
  · obtain ⟨_, _, _, _, _, hz, hn⟩ := hW
    refine ⟨hok, _, _, ([] ++ pa) ++ pv, ⟨[] ++ pa, pv, trodAll_append (hargs _ (fun _ _ => rfl)) (hres _ _ _), hvars _ (fun _ _ => rfl), rfl, ?_, ?_⟩, ?_⟩
    · intro b off hp
      have hp' : MemPlace.cell b off ∈ before := by rw [hps]; simpa using hp
      rw [hb.frozen (hlt _ hp')]
      exact hz b off hp'
    · intro ha
      have := hn ha
      rw [hps] at this
      simpa using this
    · intro p hp _
      rw [hps]
      simpa using hp

/-- what a call of the whole leaves of what was there -/
theorem below_of_call {B : Nat} {W W' : World} {S S' : Nat → Prop} {β β' : Nat → Value} {H0 H1 : Nat → Option O} (hB : B = W.heap.size) (g : Good B (fun b => W.heap[b]?) W' S' β' H1) (m : Mov W S β H0 W' S' β' H1) : Below W.heap.size W W' :=
  ⟨m.os, m.tape, m.output, m.size, fun k hk => g.glob k (hB ▸ hk)⟩

/-- at the start of a law: the call owns nothing; all that there is is stable -/
theorem good_start (W : World) (β : Nat → Value) : Good W.heap.size (fun b => W.heap[b]?) W (fun b => b < W.heap.size) β (lookO (numbered 0 [])) where
  rep h := by simp [numbered, lookO] at h
  excl h := by simp [numbered, lookO] at h
  froz h := by simp [numbered, lookO] at h
  apart _ h := by simp [numbered, lookO] at h
  low b h := h
  glob b _ := rfl
  base := Nat.le_refl _

/-- a law without objects: what it returns -/
theorem law_calls {f : FuncId} {args : List A} {b : Bool} {fin : List (Nat × O)} {W : World} (h : CallOb.Holds P W.heap.size (fun b => W.heap[b]?) ⟨f, args, [], .val .bool b, fin⟩) (hE : Enters P) {fn : Func} {c : Code} (hf : P.funcs[f]? = some fn) (hb : fn.body = some c)
    {vs : List Value} (hargs : RepL W (fun b => b < W.heap.size) (fun _ => undef) args vs) :
    Calls P f vs.toArray W fun e W' => e = .returned (.bool b) ∧ Below W.heap.size W W' := by
  have := h W (fun b => b < W.heap.size) (fun _ => undef) vs (good_start W _) hargs
  rw [run_callFunc hE hf hb] at this
  refine Calls.mono this fun e W' he => ?_
  cases e with
  | returned v =>
    obtain ⟨S', β', hv, hg, hm, _⟩ := he
    exact ⟨by rw [inv_bool hv], below_of_call rfl hg hm⟩
  | panicked c => exact he.elim
  | outgrown => exact he.elim

end
end Go.Proofs.YtcbeifkfllcjoaaDoor
