/-
  The law of possible letters: the row and its card.
-/
import Derived.Test.YtcbeifkfllcjoaaDoorK
import Derived.Test.YtcbeifkfllcjoaaDoorL3
import Derived.Test.YtcbeifkfllcjoaaDoorF3
import Derived.Test.YtcbeifkfllcjoaaDoorTie
import Derived.Test.YtcbeifkfllcjoaaDoorCards
import Derived.JoinedOf
import Derived.Stop.Joined
import Derived.SevenTiedAt
set_option linter.unusedVariables false
set_option linter.unusedSimpArgs false
set_option maxRecDepth 100000
namespace Go.Proofs.YtcbeifkfllcjoaaDoor
open Go.ChangeShapes Go.WideShapes Go.ChangeAt Go.RowKit

theorem c3_ty : tyIs Tryd.prog 12 26 t25 = true := by kernel_rfl
theorem c3_ty2 : tyIs Tryd.prog 12 22 (.slice (.int .i64)) = true := by kernel_rfl

theorem c3_wf {z : S25} (h : WfD t25 z) : Wf z := by
  obtain ⟨h1, h2, h3, ⟨h4, h4'⟩, ⟨h5, h5'⟩, _⟩ := h
  refine ⟨h1.1, h2.1, h3.1, h4, fun j hj => ?_, h5, fun f hf => ?_⟩
  · obtain ⟨i, hi, rfl⟩ := List.getElem_of_mem hj
    exact ⟨(h4' i hi).2.1.1, (h4' i hi).2.2.1.1⟩
  · obtain ⟨i, hi, rfl⟩ := List.getElem_of_mem hf
    exact (h5' i hi).1

theorem c3_any {z : S25} {g : List Int} {W : World} (hw : WfD t25 z) {v0 v1 : Value} (h0 : RepV W (fun b => b < W.heap.size) t25 z v0) (h1 : RepV W (fun b => b < W.heap.size) (.slice (.int .i64)) g v1) (ht : Tab W.heap.size (fun b => W.heap[b]?)) :
    Calls Tryd.prog 3 #[v0, v1] W fun e W' => e = .returned (.bool true) ∧ Below W.heap.size W W' :=
  law_calls (law3 z (c3_wf hw) g _ _ ht) enters Tryd.func3 rfl (.cons (.val h0) (.cons (.val h1) .nil))

theorem c3_lifted (os : Os) (started : os.Started) (H : Type) (enc : TypeId × Value → H) :
    ReturnsInHanded {} Tryd.checked os 3 .any (fun w args => (Rows.fnExactPossibleLettersSpec.pre enc Tryd.prog Tryd.f3 [] false w args ∧ laidMetH Tryd.prog tabRow w) ∧ sizedMet enc Tryd.prog Tryd.f3 (OpenSpec.ofChange Rows.fnExactPossibleLettersSpec) false w args)
      (Rows.fnExactPossibleLettersSpec.post enc Tryd.prog Tryd.f3 false true false false) := by
  refine returnsInHanded_of_change_and (C := Tryd.checked) (X := fun w _ => laidMetH Tryd.prog tabRow w) (fun _ _ _ hh h => h.of_heap hh) kOwn started (by kernel_rfl) Tryd.func3
    (ChangeSpec.witness_shaped (enc := enc) (C := Tryd.checked) (os := os) (X := fun w _ => laidMetH Tryd.prog tabRow w) false (kWorld os) #[.agg #[.slice none 0 0, .slice none 0 0, .slice none 0 0, .slice none 0 0, .slice none 0 0], .slice none 0 0] 8 rfl (World.shaped_of_RefB (by kernel_rfl) (by kernel_rfl)) (by kernel_rfl) (by kernel_rfl) (by kernel_rfl) (kWorld_met os _)) ?_
  intro W base args ds gs before hval0 hW _ _ hL _
  have hval : ∀ (j : Nat) t v, Tryd.f3.params[j]? = some t → args[j]? = some v → Value.okWide Tryd.prog W .any base t v := hval0
  have hW' := hW
  obtain ⟨p, q, hA0, hV, rfl, hfz, hnd⟩ := hW
  have hA : DataW.TrodAll enc Tryd.prog W 0 (fun _ => true) true Tryd.f3.params.toList args.toList ds p := hA0
  rw [Tryd.params3] at hA hval
  obtain ⟨v0, v1, d0, d1, p0, p1, rfl, rfl, rfl, h0, h1⟩ := trodAll_two hA
  obtain ⟨rfl, rfl⟩ := trodVars_none hV
  obtain ⟨z, hz, wz⟩ := arg_ok c3_ty (hval 0 26 v0 rfl rfl) h0
  obtain ⟨g, hg, wg⟩ := arg_ok c3_ty2 (hval 1 22 v1 rfl rfl) h1
  clear hA0 hval0
  have hlt : ∀ x ∈ p0 ++ p1 ++ [], x.block < W.heap.size := hW'.lt
  refine (c3_any wz hz hg (tab_of_laid hL)).mono fun e W' ⟨he, hb⟩ => ?_
  subst he
  exact ⟨_, rfl, post_of_below (pa := p0 ++ p1) (pv := []) hW' (fun _ _ _ => trodAll_mk1 (shut_bool Tryd.underlying4 _))
    (fun sp hs => trodAll_mk2 (arg_after (by kernel_rfl) (of_decide_eq_true (by kernel_rfl)) h0 hb hlt (fun x hx => by simp [hx]) hs) (arg_after (by kernel_rfl) (of_decide_eq_true (by kernel_rfl)) h1 hb hlt (fun x hx => by simp [hx]) hs))
    (fun _ _ => rfl) (by simp) hb (ok_one (by kernel_rfl) rfl (okWide_bool_mk Tryd.underlying4 _))⟩

theorem c3_row : Rows.FnExactPossibleLettersSaid :=
  OpenClaim.holds_of_wide 3 Tryd.f3 rfl rfl rfl rfl rfl rfl rfl ⟨rfl, rfl, rfl, rfl, rfl⟩ rfl rfl rfl rfl rfl c3_named Tryd.func3 c3_facts c3_inst c3_wrap
    (fun os started H enc _ => c3_lifted os started H enc)

theorem c3_card : Rows.FnExactPossibleLettersCardSaid :=
  Claim7.holds_tied_plain_at .later [] [.data] true (true, "55f267bced668d51ff178c59521df85fbbdd7a50f9b0b58e7e85b11f6571ac3f") false
    c3_row (fun _ h => by cases h) c3_text (fun _ h => by cases h) fnExactPossibleLetters_row_tie rfl ⟨rfl, rfl⟩ kMain rfl
    (fun f fn hf hfn => by
      obtain rfl : f = 3 := Option.some.inj (c3_named.symm.trans hf) |>.symm
      obtain rfl : fn = Tryd.f3 := (Option.some.inj (Tryd.func3.symm.trans hfn)).symm
      exact ⟨kLooks, fun j t ht => by
        rw [Tryd.params3] at ht
        rcases j with _ | _ | j
        · obtain rfl : t = 26 := by simpa using ht.symm
          exact c3_in0
        · obtain rfl : t = 22 := by simpa using ht.symm
          exact c3_in1
        · simp at ht⟩)
    c3_goes
#print axioms c3_card
end Go.Proofs.YtcbeifkfllcjoaaDoor
