/-
  Contracts of library functions that the evaluator does not run by itself.
-/
import Derived.Test.YtcbeifkfllcjoaaDoorPA
import Derived.Test.YtcbeifkfllcjoaaDoorG0
import Derived.WalkKit
import Derived.Laws.Bits64b
set_option linter.unusedVariables false
set_option linter.unusedSimpArgs false
set_option maxRecDepth 100000
namespace Go.Proofs.YtcbeifkfllcjoaaDoor
open Go.RowKit

/-! ### math/bits.TrailingZeros64 -/
theorem tz_key (x a : Nat) (hx : x < 18446744073709551616) (hx0 : x ≠ 0) (hlow : x &&& (18446744073709551616 - x) = a) :
    IntKind.u64.wrap (bits BinOp.and IntKind.u64 (x : Int) (IntKind.u64.wrap (-(x : Int))) * 285870213051353865) / 288230376151711744 = ((a * 285870213051353865 % 18446744073709551616 / 288230376151711744 : Nat) : Int) := by
  have e1 : IntKind.u64.wrap (-(x : Int)) = ((18446744073709551616 - x : Nat) : Int) := by rw [IntKind.wrap_u64]; omega
  rw [e1, bits_and_u64_nat x _ hx (by omega), hlow, IntKind.wrap_u64]
  omega

set_option maxHeartbeats 1000000 in
theorem tz_core (x k idx : Nat) (w : World) (hx0 : ((x : Int) == 0) = false)
    (key : IntKind.u64.wrap (bits BinOp.and IntKind.u64 (x : Int) (IntKind.u64.wrap (-(x : Int))) * 285870213051353865) / 288230376151711744 = (idx : Int))
    (hi : idx < 64) (hk : k < 64) (hcell : w.cell? ⟨0, idx, none⟩ = some (.int .u8 k)) :
    Calls Tryd.prog 284 #[.int .u64 x] w fun e w' => e = .returned (.int .i64 k) ∧ w' = w := by
  go_enter Tryd.func284, Tryd.ntmps284
  go_wp2_with (simp only [key])
  go_ret
  exact ⟨rfl, rfl⟩

set_option maxHeartbeats 1000000 in
theorem tz_zero (w : World) : Calls Tryd.prog 284 #[.int .u64 0] w fun e w' => e = .returned (.int .i64 64) ∧ w' = w := by
  go_enter Tryd.func284, Tryd.ntmps284
  go_wp2
  go_ret
  exact ⟨rfl, rfl⟩

theorem tz_ok (x : Nat) (hx : x < 18446744073709551616) : f284_H x (Lib.ctz 64 x) := by
  intro B W0 hT w S β vs hg hargs
  obtain ⟨v, vs', rfl, hv, hr⟩ := hargs.uncons
  obtain rfl := hr.of_nil
  obtain rfl := inv_int hv
  have key : Calls Tryd.prog 284 #[.int .u64 x] w fun e w' => e = .returned (.int .i64 (Lib.ctz 64 x)) ∧ w' = w := by
    by_cases hx0 : x = 0
    · subst hx0
      exact tz_zero w
    · obtain ⟨hlow, hk⟩ := Lib.lowest_bit 64 x hx0 hx
      obtain ⟨hi, htab⟩ := Lib.deBruijn64_at _ hk
      obtain ⟨hB, cur, t, hW, hc⟩ := hT
      have hcell := (cell_of_row w 0 (2 ^ Lib.ctz 64 x * 285870213051353865 % 18446744073709551616 / 288230376151711744) cur t (0, 0) ((hg.glob 0 hB).trans hW)).trans (hc _ hi)
      rw [htab] at hcell
      exact tz_core x _ _ w (by simp; omega) (tz_key x _ hx hx0 hlow) hi hk hcell
  have hl : [Value.int .u64 (x : Int)].toArray = #[.int .u64 (x : Int)] := rfl
  rw [hl, run_callFunc enters Tryd.func284 (c := bodyOf Tryd.f284) (by kernel_rfl)]
  refine Calls.mono key fun e w' he => ?_
  obtain ⟨rfl, rfl⟩ := he
  exact ⟨S, β, repA_int _ _, hg, Mov.refl _ _ _ _, fun j hj => by simp at hj⟩

/-! ### slices.Clone -/
theorem clone_nil : Has ⟨213, [.nil], [], .ref 0, [(0, .arr 2 (.int .i64) ([] : List Int) false)]⟩ := by
  intro B W0 hT
  refine holds_of_ends enters Tryd.func213 (c := bodyOf Tryd.f213) (by kernel_rfl) (by kernel_rfl) fun w S β => ?_
  have e : execEnd Tryd.prog run8 1000 [.fin [.nil 2 2 (.int .i64)]] ⟨[.code (bodyOf Tryd.f213)], startSt Tryd.f213 [.nil] []⟩ Tryd.f213 = some ⟨.ref 0, [(0, .arr 2 (.int .i64) ([] : List Int) false)], [], []⟩ := by kernel_rfl
  exact ends_of_exec (C := ⟨Tryd.prog, B, W0, w, S, β, lookO (numbered 0 []), 0, 8⟩) run8_ok mixed e all0 allc0
theorem clone_emp : Has ⟨213, [.emp], [], .ref 0, [(0, .arr 2 (.int .i64) ([] : List Int) false)]⟩ := by
  intro B W0 hT
  refine holds_of_ends enters Tryd.func213 (c := bodyOf Tryd.f213) (by kernel_rfl) (by kernel_rfl) fun w S β => ?_
  have e : execEnd Tryd.prog run8 1000 [] ⟨[.code (bodyOf Tryd.f213)], startSt Tryd.f213 [.emp] []⟩ Tryd.f213 = some ⟨.ref 0, [(0, .arr 2 (.int .i64) (([] : List Int) ++ []) false)], [decide ((([] : List Int).length + ([] : List Int).length) * 8 ≤ 140737488355328)], []⟩ := by kernel_rfl
  exact ends_of_exec (C := ⟨Tryd.prog, B, W0, w, S, β, lookO (numbered 0 []), 0, 8⟩) run8_ok mixed e (all1 (by decide) all0) allc0
theorem clone_some (xs : List Int) (h : 0 < xs.length) (hl : xs.length * 8 ≤ 140737488355328) : Has ⟨213, [.val (.slice (.int .i64)) xs], [], .ref 0, [(0, .arr 2 (.int .i64) xs false)]⟩ := by
  intro B W0 hT
  refine holds_of_ends enters Tryd.func213 (c := bodyOf Tryd.f213) (by kernel_rfl) (by kernel_rfl) fun w S β => ?_
  have e : execEnd Tryd.prog run8 1000 [] ⟨[.code (bodyOf Tryd.f213)], startSt Tryd.f213 [.val (.slice (.int .i64)) xs] []⟩ Tryd.f213 = some ⟨.ref 0, [(0, .arr 2 (.int .i64) (([] : List Int) ++ xs) false)], [decide (0 < xs.length), decide ((([] : List Int).length + xs.length) * 8 ≤ 140737488355328)], []⟩ := by kernel_rfl
  exact ends_of_exec (C := ⟨Tryd.prog, B, W0, w, S, β, lookO (numbered 0 []), 0, 8⟩) run8_ok mixed e (all1 (decide_eq_true h) (all1 (decide_eq_true (by simpa using hl)) all0)) allc0

/-- a slice of no known elements is nil or it is not -/
theorem has_cases {f : FuncId} {e : Ty} {res : A} {fin : List (Nat × O)} (h1 : Has ⟨f, [.nil], [], res, fin⟩) (h2 : Has ⟨f, [.emp], [], res, fin⟩) : Has ⟨f, [.val (.slice e) ([] : List e.Den)], [], res, fin⟩ := by
  intro B W0 hT w S β vs hg hargs
  obtain ⟨v, vs', rfl, hv, hr⟩ := hargs.uncons
  obtain rfl := hr.of_nil
  obtain ⟨a, c, rfl, hac⟩ := inv_slice_nil hv
  cases a with
  | none =>
    obtain rfl := hac rfl
    exact h1 B W0 hT w S β _ hg (.cons .nil .nil)
  | some a => exact h2 B W0 hT w S β _ hg (.cons .emp .nil)

theorem clone_ok (xs : List Int) (hl : xs.length * 8 ≤ 140737488355328) : f213_H xs xs := by
  rcases Nat.eq_zero_or_pos xs.length with h | h
  · obtain rfl := List.eq_nil_of_length_eq_zero h
    exact has_cases clone_nil clone_emp
  · exact clone_some xs h hl

end Go.Proofs.YtcbeifkfllcjoaaDoor
