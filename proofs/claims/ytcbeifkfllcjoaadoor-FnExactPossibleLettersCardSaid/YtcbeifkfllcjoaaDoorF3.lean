/-
  The law of possible letters: the row's closed facts.
-/
import Derived.Test.YtcbeifkfllcjoaaDoorRows
import Derived.JoinedOf
import Derived.SevenTiedAt
set_option maxRecDepth 100000
set_option maxHeartbeats 0
namespace Go.Proofs.YtcbeifkfllcjoaaDoor

theorem and_split {a b : Bool} (ha : a = true) (hb : b = true) : (a && b) = true := by rw [ha, hb]; rfl
theorem c3_named : Tryd.pinned.checked.prog.funcNamed Rows.fnExactPossibleLettersRow.func = some 3 := by kernel_rfl
theorem c3_facts : joinedFacts Tryd.pinned.checked.prog 3 Tryd.f3 Rows.fnExactPossibleLettersSpec Rows.fnExactPossibleLettersRow = true := by
  unfold joinedFacts
  iterate 31 refine and_split ?_ ?_
  all_goals (as_aux_lemma => kernel_rfl)
theorem c3_inst : Tryd.f3.isInstance Tryd.pinned.checked.prog Rows.fnExactPossibleLettersRow.origin Rows.fnExactPossibleLettersRow.targs := of_decide_eq_true (by kernel_rfl)
theorem c3_wrap : Tryd.f3.isWrapper Tryd.pinned.checked.prog Rows.fnExactPossibleLettersRow.wrapper Rows.fnExactPossibleLettersRow.mainSum := by
  unfold Func.isWrapper
  first | (rw [if_pos (by decide +kernel)]; kernel_rfl) | (rw [if_neg (by decide +kernel)]; exact ⟨rfl, rfl⟩)
theorem c3_text : Rows.fnExactPossibleLettersRow.wfByText (OpenSpec.ofChange Rows.fnExactPossibleLettersSpec) = true := by kernel_rfl
theorem c3_goes : false = Rows.fnExactPossibleLettersRow.goesBy Tryd.pinned.checked.prog := by kernel_rfl
theorem c3_in0 : Tryd.prog.wantsStandIn 26 = false := by kernel_rfl
theorem c3_in1 : Tryd.prog.wantsStandIn 22 = false := by kernel_rfl
end Go.Proofs.YtcbeifkfllcjoaaDoor
