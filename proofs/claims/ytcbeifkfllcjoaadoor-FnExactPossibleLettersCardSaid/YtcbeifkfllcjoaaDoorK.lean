/-
  What every law's closing uses: the library's table out of the row's premise, the arguments behind the call, a world that meets the premise.
-/
import Derived.Test.YtcbeifkfllcjoaaDoorRZ
import Derived.Test.YtcbeifkfllcjoaaDoorRY
import Derived.Test.YtcbeifkfllcjoaaDoorRows
import Derived.LaidLaws
import Derived.LaidMore
import Derived.RowKit
import Derived.RowKitTokens
import Derived.ChangeVars
import Derived.WideKeyArgs
import Derived.SevenTiedAt
set_option linter.unusedVariables false
set_option linter.unusedSimpArgs false
set_option maxRecDepth 100000
namespace Go.Proofs.YtcbeifkfllcjoaaDoor
open Go.ChangeShapes Go.WideShapes Go.RowKit

theorem kOwn : ownKnob Tryd.prog.godebug = none := by kernel_rfl
theorem kLaidOut : laidOutB Tryd.prog = true := by kernel_rfl
theorem kTab : Tryd.prog.globalNamed "math/bits.deBruijn64tab" = some 0 := by kernel_rfl

def tabRow : List (String × DataW Unit) := [("math/bits.deBruijn64tab", Rows.laid_math_bits_deBruijn64tab)]

theorem tab_list : (Rows.laid_math_bits_deBruijn64tab : DataW Unit) = .agg ((List.range 64).map fun i => .lit (.int .u8 (Lib.deBruijn64tab.getD i 0 : Nat))) := by kernel_rfl

theorem kTabType : ∃ t e, (Tryd.prog.globals[0]?).map (·.type) = some t ∧ Tryd.prog.underlying t = some (.array 64 e) ∧ Tryd.prog.underlying e = some (.int .u8) ∧ Tryd.prog.cellsOf e = 1 := by
  have h : (match (Tryd.prog.globals[0]?).map (·.type) with
    | some t => match Tryd.prog.underlying t with
      | some (.array n e) => decide (n = 64) && (match Tryd.prog.underlying e with | some (.int .u8) => true | _ => false) && decide (Tryd.prog.cellsOf e = 1)
      | _ => false
    | none => false) = true := by kernel_rfl
  split at h
  · rename_i t ht
    split at h
    · rename_i n e he
      simp only [Bool.and_eq_true, decide_eq_true_eq] at h
      obtain ⟨⟨rfl, h2⟩, h3⟩ := h
      split at h2
      · rename_i he2
        exact ⟨t, e, ht, he, he2, h3⟩
      · cases h2
    · cases h
  · cases h

theorem tab_of_laid {W : World} (h : laidMetH Tryd.prog tabRow W) : Tab W.heap.size (fun b => W.heap[b]?) := by
  have h' : laidMet Tryd.prog tabRow W := h
  obtain ⟨ps, ⟨g0, t0, cs0, f0, p0, q0, hg0, ht0, hv0, hd0, _, hps⟩, _, hall⟩ := h'
  obtain rfl := Option.some.inj (kTab.symm.trans hg0)
  obtain ⟨t, e, k1, k2, k3, k4⟩ := kTabType
  obtain rfl := Option.some.inj (k1.symm.trans ht0)
  obtain ⟨xs, m, _, hx, hlen, hn, hel⟩ := DataW.trod_array k2 hd0
  rw [tab_list] at hx
  simp only [Prod.mk.injEq, DataW.agg.injEq] at hx
  have each : ∀ i, i < 64 → cs0[i]? = some (.int .u8 (Lib.deBruijn64tab.getD i 0 : Nat)) := by
    intro i hi
    have h1 := hel i hi
    rw [List.getElem?_eq_getElem (by omega)] at h1
    obtain ⟨k, e1, e2, _⟩ := DataW.trod_int k3 h1
    have h2 : (xs.map (·.1))[i]? = some (.lit (.int .u8 k)) := by
      rw [List.getElem?_map, List.getElem?_eq_getElem (by omega), e2]
      rfl
    rw [← hx.1] at h2
    simp [List.getElem?_map, hi] at h2
    rw [k4, Nat.mul_one] at e1
    have h3 : (List.take 1 (List.drop i cs0.toList))[0]? = some (.int .u8 k) := by rw [e1]; rfl
    rw [List.getElem?_take, if_pos (by omega), List.getElem?_drop, Nat.add_zero, Array.getElem?_toList] at h3
    rw [h3, ← h2]
    simp [List.getD_eq_getElem?_getD]
  have hsz : 0 < cs0.size := (Array.getElem?_eq_some_iff.1 (each 0 (by omega))).1
  obtain ⟨⟨c, t', hc⟩, _⟩ := hall 0 0 (by
    rw [hps]
    refine List.mem_append_left _ (List.mem_append_left _ ?_)
    exact List.mem_map.2 ⟨0, List.mem_range.2 hsz, rfl⟩)
  refine ⟨(Array.getElem?_eq_some_iff.1 hc).1, c, t', hc, fun i hi => ?_⟩
  have h1 := World.var?_cell hg0 hv0 i
  rw [each i hi] at h1
  rw [← h1]
  simp [World.cell?, hc]

noncomputable def kWorld (os : Os) : World := World.doorLaid Tryd.prog 400 os
theorem kWorld_met (os : Os) (args : Array Value) : laidMetH Tryd.prog tabRow ((kWorld os).forCall (fun _ _ => 0) ⟨#[], args, []⟩).memory :=
  laidMetH_of_parts3 (fuel := 8) (laidMet_of_run' 8 (by kernel_rfl) (by kernel_rfl)) (by kernel_rfl) (by kernel_rfl)

/-- an argument reads behind the call as it read before -/
theorem arg_after {H : Type} {enc : TypeId × Value → H} {t : TypeId} (hr : Tryd.prog.readableRec t = true) (hrow : t < Tryd.prog.types.size) {W W' : World} {v : Value} {d : DataW H} {ps before : List MemPlace}
    (h : DataW.Trod enc Tryd.prog W 0 (fun _ => true) true t v d ps) (hb : Below W.heap.size W W') (hlt : ∀ x ∈ before, x.block < W.heap.size) (hsub : ∀ x ∈ ps, x ∈ before) {sp : Nat → Bool} (hs : ∀ p ∈ before, sp p.block = true) :
    DataW.Trod enc Tryd.prog W' 0 sp true t v d ps :=
  WideElems.Trod_stays kLaidOut hr hrow h (fun x hx => hb.same (hlt x (hsub x hx))) (fun x hx => hs x (hsub x hx))

theorem kMain : Tryd.pinned.checked.prog.mainIs = some (true, "55f267bced668d51ff178c59521df85fbbdd7a50f9b0b58e7e85b11f6571ac3f".toList) := by kernel_rfl
theorem kLooks : false = Tryd.pinned.checked.prog.looks [] := by kernel_rfl

end Go.Proofs.YtcbeifkfllcjoaaDoor
