/-
  The rules of the calls and loops (printed by emitlaw.py).
-/
import Derived.Test.YtcbeifkfllcjoaaDoorG0
set_option linter.unusedVariables false
set_option linter.unusedSimpArgs false
set_option linter.unnecessarySimpa false
set_option maxRecDepth 100000
namespace Go.Proofs.YtcbeifkfllcjoaaDoor

/-! ### loop.example/g01094/laws.szInt64S -/
theorem f69_e1 (a0 : List Int) (a1 : Int)  : execEnd Tryd.prog run8 1000 [.cond true] ⟨[.code (bodyOf Tryd.f69)], startSt Tryd.f69 [.val (.slice (.int .i64)) a0, .val (.int .i64) a1] []⟩ Tryd.f69 = some ⟨.val (.int .i64) (-1), [], [decide ((decide (IntKind.i64.wrap (a1 - (a0.length : Int)) < 0)) = true)], []⟩ := by kernel_rfl
theorem f69_e2 (a0 : List Int) (a1 : Int)  : execEnd Tryd.prog run8 1000 [.cond false] ⟨[.code (bodyOf Tryd.f69)], startSt Tryd.f69 [.val (.slice (.int .i64)) a0, .val (.int .i64) a1] []⟩ Tryd.f69 = some ⟨.val (.int .i64) (IntKind.i64.wrap (a1 - (a0.length : Int))), [], [decide ((decide (IntKind.i64.wrap (a1 - (a0.length : Int)) < 0)) = false)], []⟩ := by kernel_rfl
theorem f69_go (a0 : List Int) (a1 : Int) (r : f69_R) (h : ((IntKind.i64.wrap (a1 - (a0.length : Int)) < 0 → r = (-1)) ∧ (¬(IntKind.i64.wrap (a1 - (a0.length : Int)) < 0) → r = (IntKind.i64.wrap (a1 - (a0.length : Int)))))) : f69_H a0 a1 r := by
  intro B W0 hT
  refine holds_of_ends enters Tryd.func69 rfl (by kernel_rfl) fun w S β => ?_
  show Ends (f69_C a0 a1 B W0 w S β) Tryd.f69 _ _ _
  rcases bcase (decide (IntKind.i64.wrap (a1 - (a0.length : Int)) < 0)) with hb0 | hb0
  · replace h := h.1 (of_decide_eq_true hb0)
    rw [h]
    exact ends_of_exec (C := f69_C a0 a1 B W0 w S β) run8_ok mixed (f69_e1 a0 a1) (all1 (decide_eq_true hb0) (all0)) (allc0)
  · replace h := h.2 (of_decide_eq_false hb0)
    rw [h]
    exact ends_of_exec (C := f69_C a0 a1 B W0 w S β) run8_ok mixed (f69_e2 a0 a1) (all1 (decide_eq_true hb0) (all0)) (allc0)

/-! ### loop.example/g01094/laws.szJoint -/
theorem f148_e1 (a0 : S161) (a1 : Int)  (r1 : f69_R) : execEnd Tryd.prog run8 1000 [.reg 1 [] [(3, .con [] (.val (.int .i64) r1) [] false true)], .cond true] ⟨[.code (bodyOf Tryd.f148)], startSt Tryd.f148 [.val t161 a0, .val (.int .i64) a1] []⟩ Tryd.f148 = some ⟨.val (.int .i64) (-1), [], [decide ((decide (r1 < 0)) = true)], [⟨69, [.val (.slice (.int .i64)) a0.2.1, .val (.int .i64) a1], [], .val (.int .i64) r1, []⟩]⟩ := by kernel_rfl
theorem f148_e2 (a0 : S161) (a1 : Int)  (r1 : f69_R) (r2 : f69_R) : execEnd Tryd.prog run8 1000 [.reg 1 [] [(3, .con [] (.val (.int .i64) r1) [] false true)], .cond false, .reg 4 [] [(3, .con [] (.val (.int .i64) r2) [] false true)], .cond true] ⟨[.code (bodyOf Tryd.f148)], startSt Tryd.f148 [.val t161 a0, .val (.int .i64) a1] []⟩ Tryd.f148 = some ⟨.val (.int .i64) (-1), [], [decide ((decide (r1 < 0)) = false), decide ((decide (r2 < 0)) = true)], [⟨69, [.val (.slice (.int .i64)) a0.2.1, .val (.int .i64) a1], [], .val (.int .i64) r1, []⟩, ⟨69, [.val (.slice (.int .i64)) a0.2.2.1, .val (.int .i64) r1], [], .val (.int .i64) r2, []⟩]⟩ := by kernel_rfl
theorem f148_e3 (a0 : S161) (a1 : Int)  (r1 : f69_R) (r2 : f69_R) : execEnd Tryd.prog run8 1000 [.reg 1 [] [(3, .con [] (.val (.int .i64) r1) [] false true)], .cond false, .reg 4 [] [(3, .con [] (.val (.int .i64) r2) [] false true)], .cond false] ⟨[.code (bodyOf Tryd.f148)], startSt Tryd.f148 [.val t161 a0, .val (.int .i64) a1] []⟩ Tryd.f148 = some ⟨.val (.int .i64) r2, [], [decide ((decide (r1 < 0)) = false), decide ((decide (r2 < 0)) = false)], [⟨69, [.val (.slice (.int .i64)) a0.2.1, .val (.int .i64) a1], [], .val (.int .i64) r1, []⟩, ⟨69, [.val (.slice (.int .i64)) a0.2.2.1, .val (.int .i64) r1], [], .val (.int .i64) r2, []⟩]⟩ := by kernel_rfl
theorem f148_go (a0 : S161) (a1 : Int) (r : f148_R) (h : ∃ r1 : f69_R, f69_H a0.2.1 a1 r1 ∧ ((r1 < 0 → r = (-1)) ∧ (¬(r1 < 0) → ∃ r2 : f69_R, f69_H a0.2.2.1 r1 r2 ∧ ((r2 < 0 → r = (-1)) ∧ (¬(r2 < 0) → r = r2))))) : f148_H a0 a1 r := by
  intro B W0 hT
  refine holds_of_ends enters Tryd.func148 rfl (by kernel_rfl) fun w S β => ?_
  show Ends (f148_C a0 a1 B W0 w S β) Tryd.f148 _ _ _
  obtain ⟨r1, h0, h⟩ := h
  rcases bcase (decide (r1 < 0)) with hb1 | hb1
  · replace h := h.1 (of_decide_eq_true hb1)
    rw [h]
    exact ends_of_exec (C := f148_C a0 a1 B W0 w S β) run8_ok mixed (f148_e1 a0 a1 r1) (all1 (decide_eq_true hb1) (all0)) (allc1 (h0 B W0 hT) (allc0))
  · replace h := h.2 (of_decide_eq_false hb1)
    obtain ⟨r2, h2, h⟩ := h
    rcases bcase (decide (r2 < 0)) with hb3 | hb3
    · replace h := h.1 (of_decide_eq_true hb3)
      rw [h]
      exact ends_of_exec (C := f148_C a0 a1 B W0 w S β) run8_ok mixed (f148_e2 a0 a1 r1 r2) (all1 (decide_eq_true hb1) (all1 (decide_eq_true hb3) (all0))) (allc1 (h0 B W0 hT) (allc1 (h2 B W0 hT) (allc0)))
    · replace h := h.2 (of_decide_eq_false hb3)
      rw [h]
      exact ends_of_exec (C := f148_C a0 a1 B W0 w S β) run8_ok mixed (f148_e3 a0 a1 r1 r2) (all1 (decide_eq_true hb1) (all1 (decide_eq_true hb3) (all0))) (allc1 (h0 B W0 hT) (allc1 (h2 B W0 hT) (allc0)))

/-! ### loop.example/g01094/laws.szJointS -/
theorem f70_e1 (a0 : List S161) (a1 : Int)  : execEnd Tryd.prog run8 1000 [.cond true] ⟨[.code (bodyOf Tryd.f70)], startSt Tryd.f70 [.val (.slice t161) a0, .val (.int .i64) a1] []⟩ Tryd.f70 = some ⟨.val (.int .i64) (-1), [], [decide ((decide (IntKind.i64.wrap (a1 - (a0.length : Int)) < 0)) = true)], []⟩ := by kernel_rfl
theorem f70_e2 (a0 : List S161) (a1 : Int)  : execN Tryd.prog run8 1000 [.cond false, .stop [] [0, 1, 5] []] ⟨[.code (bodyOf Tryd.f70)], startSt Tryd.f70 [.val (.slice t161) a0, .val (.int .i64) a1] []⟩ = some ⟨⟨focus Tryd.f70 [.r, .r, .r, .l, .r, .b, .h], f70_s1 a0 a1 (IntKind.i64.wrap (a1 - (a0.length : Int))) 0⟩, [decide ((decide (IntKind.i64.wrap (a1 - (a0.length : Int)) < 0)) = false)], []⟩ := by kernel_rfl
theorem f70_go (a0 : List S161) (a1 : Int) (r : f70_R) (h : ((IntKind.i64.wrap (a1 - (a0.length : Int)) < 0 → r = (-1)) ∧ (¬(IntKind.i64.wrap (a1 - (a0.length : Int)) < 0) → f70_L1 a0 a1 (IntKind.i64.wrap (a1 - (a0.length : Int))) 0 r))) : f70_H a0 a1 r := by
  intro B W0 hT
  refine holds_of_ends enters Tryd.func70 rfl (by kernel_rfl) fun w S β => ?_
  show Ends (f70_C a0 a1 B W0 w S β) Tryd.f70 _ _ _
  rcases bcase (decide (IntKind.i64.wrap (a1 - (a0.length : Int)) < 0)) with hb0 | hb0
  · replace h := h.1 (of_decide_eq_true hb0)
    rw [h]
    exact ends_of_exec (C := f70_C a0 a1 B W0 w S β) run8_ok mixed (f70_e1 a0 a1) (all1 (decide_eq_true hb0) (all0)) (allc0)
  · replace h := h.2 (of_decide_eq_false hb0)
    exact Ends.of_reach (exec_ok (C := f70_C a0 a1 B W0 w S β) run8_ok mixed (f70_e2 a0 a1) (all1 (decide_eq_true hb0) (all0)) (allc0)) (h B W0 hT w S β)
theorem f70_e3 (a0 : List S161) (a1 : Int) (x1_0 : Int) (x1_1 : Int) (r1 : f148_R) : execEnd Tryd.prog run8 1000 [.go, .cond true, .reg 7 [] [(5, .con [] (.val (.int .i64) r1) [] false true)], .cond true] ⟨focus Tryd.f70 [.r, .r, .r, .l, .r, .b, .h], f70_s1 a0 a1 x1_0 x1_1⟩ Tryd.f70 = some ⟨.val (.int .i64) (-1), [], [decide ((decide (x1_1 < (a0.length : Int))) = true), decide (0 ≤ x1_1), decide (x1_1 < (a0.length : Int)), decide ((decide (r1 < 0)) = true)], [⟨148, [.val t161 (List.getD a0 x1_1.toNat (0, ([], ([], ())))), .val (.int .i64) x1_0], [], .val (.int .i64) r1, []⟩]⟩ := by kernel_rfl
theorem f70_e4 (a0 : List S161) (a1 : Int) (x1_0 : Int) (x1_1 : Int) (r1 : f148_R) : execN Tryd.prog run8 1000 [.go, .cond true, .reg 7 [] [(5, .con [] (.val (.int .i64) r1) [] false true)], .cond false, .stop [] [0, 1, 5] []] ⟨focus Tryd.f70 [.r, .r, .r, .l, .r, .b, .h], f70_s1 a0 a1 x1_0 x1_1⟩ = some ⟨⟨focus Tryd.f70 [.r, .r, .r, .l, .r, .b, .h], f70_s1 a0 a1 r1 (IntKind.i64.wrap (x1_1 + 1))⟩, [decide ((decide (x1_1 < (a0.length : Int))) = true), decide (0 ≤ x1_1), decide (x1_1 < (a0.length : Int)), decide ((decide (r1 < 0)) = false)], [⟨148, [.val t161 (List.getD a0 x1_1.toNat (0, ([], ([], ())))), .val (.int .i64) x1_0], [], .val (.int .i64) r1, []⟩]⟩ := by kernel_rfl
theorem f70_e5 (a0 : List S161) (a1 : Int) (x1_0 : Int) (x1_1 : Int) : execEnd Tryd.prog run8 1000 [.go, .cond false] ⟨focus Tryd.f70 [.r, .r, .r, .l, .r, .b, .h], f70_s1 a0 a1 x1_0 x1_1⟩ Tryd.f70 = some ⟨.val (.int .i64) x1_0, [], [decide ((decide (x1_1 < (a0.length : Int))) = false)], []⟩ := by kernel_rfl
theorem f70_at1 (a0 : List S161) (a1 : Int) (x1_0 : Int) (x1_1 : Int) (r : f70_R) (h : ((x1_1 < (a0.length : Int) → (0 ≤ x1_1) ∧ (x1_1 < (a0.length : Int)) ∧ ∃ r1 : f148_R, f148_H (List.getD a0 x1_1.toNat (0, ([], ([], ())))) x1_0 r1 ∧ ((r1 < 0 → r = (-1)) ∧ (¬(r1 < 0) → f70_L1 a0 a1 r1 (IntKind.i64.wrap (x1_1 + 1)) r))) ∧ (¬(x1_1 < (a0.length : Int)) → r = x1_0))) : f70_L1 a0 a1 x1_0 x1_1 r := by
  intro B W0 hT w S β
  rcases bcase (decide (x1_1 < (a0.length : Int))) with hb0 | hb0
  · replace h := h.1 (of_decide_eq_true hb0)
    obtain ⟨h1, h⟩ := h
    obtain ⟨h2, h⟩ := h
    obtain ⟨r1, h3, h⟩ := h
    rcases bcase (decide (r1 < 0)) with hb4 | hb4
    · replace h := h.1 (of_decide_eq_true hb4)
      rw [h]
      exact ends_of_exec (C := f70_C a0 a1 B W0 w S β) run8_ok mixed (f70_e3 a0 a1 x1_0 x1_1 r1) (all1 (decide_eq_true hb0) (all1 (decide_eq_true (h1)) (all1 (decide_eq_true (h2)) (all1 (decide_eq_true hb4) (all0))))) (allc1 (h3 B W0 hT) (allc0))
    · replace h := h.2 (of_decide_eq_false hb4)
      exact Ends.of_reach (exec_ok (C := f70_C a0 a1 B W0 w S β) run8_ok mixed (f70_e4 a0 a1 x1_0 x1_1 r1) (all1 (decide_eq_true hb0) (all1 (decide_eq_true (h1)) (all1 (decide_eq_true (h2)) (all1 (decide_eq_true hb4) (all0))))) (allc1 (h3 B W0 hT) (allc0))) (h B W0 hT w S β)
  · replace h := h.2 (of_decide_eq_false hb0)
    rw [h]
    exact ends_of_exec (C := f70_C a0 a1 B W0 w S β) run8_ok mixed (f70_e5 a0 a1 x1_0 x1_1) (all1 (decide_eq_true hb0) (all0)) (allc0)

/-! ### loop.example/g01094/laws.szInt64SS -/
theorem f71_e1 (a0 : List (List Int)) (a1 : Int)  : execEnd Tryd.prog run8 1000 [.cond true] ⟨[.code (bodyOf Tryd.f71)], startSt Tryd.f71 [.val (.slice (.slice (.int .i64))) a0, .val (.int .i64) a1] []⟩ Tryd.f71 = some ⟨.val (.int .i64) (-1), [], [decide ((decide (IntKind.i64.wrap (a1 - (a0.length : Int)) < 0)) = true)], []⟩ := by kernel_rfl
theorem f71_e2 (a0 : List (List Int)) (a1 : Int)  : execN Tryd.prog run8 1000 [.cond false, .stop [] [0, 1, 5] []] ⟨[.code (bodyOf Tryd.f71)], startSt Tryd.f71 [.val (.slice (.slice (.int .i64))) a0, .val (.int .i64) a1] []⟩ = some ⟨⟨focus Tryd.f71 [.r, .r, .r, .l, .r, .b, .h], f71_s1 a0 a1 (IntKind.i64.wrap (a1 - (a0.length : Int))) 0⟩, [decide ((decide (IntKind.i64.wrap (a1 - (a0.length : Int)) < 0)) = false)], []⟩ := by kernel_rfl
theorem f71_go (a0 : List (List Int)) (a1 : Int) (r : f71_R) (h : ((IntKind.i64.wrap (a1 - (a0.length : Int)) < 0 → r = (-1)) ∧ (¬(IntKind.i64.wrap (a1 - (a0.length : Int)) < 0) → f71_L1 a0 a1 (IntKind.i64.wrap (a1 - (a0.length : Int))) 0 r))) : f71_H a0 a1 r := by
  intro B W0 hT
  refine holds_of_ends enters Tryd.func71 rfl (by kernel_rfl) fun w S β => ?_
  show Ends (f71_C a0 a1 B W0 w S β) Tryd.f71 _ _ _
  rcases bcase (decide (IntKind.i64.wrap (a1 - (a0.length : Int)) < 0)) with hb0 | hb0
  · replace h := h.1 (of_decide_eq_true hb0)
    rw [h]
    exact ends_of_exec (C := f71_C a0 a1 B W0 w S β) run8_ok mixed (f71_e1 a0 a1) (all1 (decide_eq_true hb0) (all0)) (allc0)
  · replace h := h.2 (of_decide_eq_false hb0)
    exact Ends.of_reach (exec_ok (C := f71_C a0 a1 B W0 w S β) run8_ok mixed (f71_e2 a0 a1) (all1 (decide_eq_true hb0) (all0)) (allc0)) (h B W0 hT w S β)
theorem f71_e3 (a0 : List (List Int)) (a1 : Int) (x1_0 : Int) (x1_1 : Int) (r1 : f69_R) : execEnd Tryd.prog run8 1000 [.go, .cond true, .reg 7 [] [(5, .con [] (.val (.int .i64) r1) [] false true)], .cond true] ⟨focus Tryd.f71 [.r, .r, .r, .l, .r, .b, .h], f71_s1 a0 a1 x1_0 x1_1⟩ Tryd.f71 = some ⟨.val (.int .i64) (-1), [], [decide ((decide (x1_1 < (a0.length : Int))) = true), decide (0 ≤ x1_1), decide (x1_1 < (a0.length : Int)), decide ((decide (r1 < 0)) = true)], [⟨69, [.val (.slice (.int .i64)) (List.getD a0 x1_1.toNat []), .val (.int .i64) x1_0], [], .val (.int .i64) r1, []⟩]⟩ := by kernel_rfl
theorem f71_e4 (a0 : List (List Int)) (a1 : Int) (x1_0 : Int) (x1_1 : Int) (r1 : f69_R) : execN Tryd.prog run8 1000 [.go, .cond true, .reg 7 [] [(5, .con [] (.val (.int .i64) r1) [] false true)], .cond false, .stop [] [0, 1, 5] []] ⟨focus Tryd.f71 [.r, .r, .r, .l, .r, .b, .h], f71_s1 a0 a1 x1_0 x1_1⟩ = some ⟨⟨focus Tryd.f71 [.r, .r, .r, .l, .r, .b, .h], f71_s1 a0 a1 r1 (IntKind.i64.wrap (x1_1 + 1))⟩, [decide ((decide (x1_1 < (a0.length : Int))) = true), decide (0 ≤ x1_1), decide (x1_1 < (a0.length : Int)), decide ((decide (r1 < 0)) = false)], [⟨69, [.val (.slice (.int .i64)) (List.getD a0 x1_1.toNat []), .val (.int .i64) x1_0], [], .val (.int .i64) r1, []⟩]⟩ := by kernel_rfl
theorem f71_e5 (a0 : List (List Int)) (a1 : Int) (x1_0 : Int) (x1_1 : Int) : execEnd Tryd.prog run8 1000 [.go, .cond false] ⟨focus Tryd.f71 [.r, .r, .r, .l, .r, .b, .h], f71_s1 a0 a1 x1_0 x1_1⟩ Tryd.f71 = some ⟨.val (.int .i64) x1_0, [], [decide ((decide (x1_1 < (a0.length : Int))) = false)], []⟩ := by kernel_rfl
theorem f71_at1 (a0 : List (List Int)) (a1 : Int) (x1_0 : Int) (x1_1 : Int) (r : f71_R) (h : ((x1_1 < (a0.length : Int) → (0 ≤ x1_1) ∧ (x1_1 < (a0.length : Int)) ∧ ∃ r1 : f69_R, f69_H (List.getD a0 x1_1.toNat []) x1_0 r1 ∧ ((r1 < 0 → r = (-1)) ∧ (¬(r1 < 0) → f71_L1 a0 a1 r1 (IntKind.i64.wrap (x1_1 + 1)) r))) ∧ (¬(x1_1 < (a0.length : Int)) → r = x1_0))) : f71_L1 a0 a1 x1_0 x1_1 r := by
  intro B W0 hT w S β
  rcases bcase (decide (x1_1 < (a0.length : Int))) with hb0 | hb0
  · replace h := h.1 (of_decide_eq_true hb0)
    obtain ⟨h1, h⟩ := h
    obtain ⟨h2, h⟩ := h
    obtain ⟨r1, h3, h⟩ := h
    rcases bcase (decide (r1 < 0)) with hb4 | hb4
    · replace h := h.1 (of_decide_eq_true hb4)
      rw [h]
      exact ends_of_exec (C := f71_C a0 a1 B W0 w S β) run8_ok mixed (f71_e3 a0 a1 x1_0 x1_1 r1) (all1 (decide_eq_true hb0) (all1 (decide_eq_true (h1)) (all1 (decide_eq_true (h2)) (all1 (decide_eq_true hb4) (all0))))) (allc1 (h3 B W0 hT) (allc0))
    · replace h := h.2 (of_decide_eq_false hb4)
      exact Ends.of_reach (exec_ok (C := f71_C a0 a1 B W0 w S β) run8_ok mixed (f71_e4 a0 a1 x1_0 x1_1 r1) (all1 (decide_eq_true hb0) (all1 (decide_eq_true (h1)) (all1 (decide_eq_true (h2)) (all1 (decide_eq_true hb4) (all0))))) (allc1 (h3 B W0 hT) (allc0))) (h B W0 hT w S β)
  · replace h := h.2 (of_decide_eq_false hb0)
    rw [h]
    exact ends_of_exec (C := f71_C a0 a1 B W0 w S β) run8_ok mixed (f71_e5 a0 a1 x1_0 x1_1) (all1 (decide_eq_true hb0) (all0)) (allc0)

/-! ### loop.example/g01094/laws.szAsynchronous -/
theorem f14_e1 (a0 : S25) (a1 : Int)  (r1 : f69_R) : execEnd Tryd.prog run8 1000 [.reg 1 [] [(3, .con [] (.val (.int .i64) r1) [] false true)], .cond true] ⟨[.code (bodyOf Tryd.f14)], startSt Tryd.f14 [.val t25 a0, .val (.int .i64) a1] []⟩ Tryd.f14 = some ⟨.val (.int .i64) (-1), [], [decide ((decide (r1 < 0)) = true)], [⟨69, [.val (.slice (.int .i64)) a0.1, .val (.int .i64) a1], [], .val (.int .i64) r1, []⟩]⟩ := by kernel_rfl
theorem f14_e2 (a0 : S25) (a1 : Int)  (r1 : f69_R) (r2 : f69_R) : execEnd Tryd.prog run8 1000 [.reg 1 [] [(3, .con [] (.val (.int .i64) r1) [] false true)], .cond false, .reg 4 [] [(3, .con [] (.val (.int .i64) r2) [] false true)], .cond true] ⟨[.code (bodyOf Tryd.f14)], startSt Tryd.f14 [.val t25 a0, .val (.int .i64) a1] []⟩ Tryd.f14 = some ⟨.val (.int .i64) (-1), [], [decide ((decide (r1 < 0)) = false), decide ((decide (r2 < 0)) = true)], [⟨69, [.val (.slice (.int .i64)) a0.1, .val (.int .i64) a1], [], .val (.int .i64) r1, []⟩, ⟨69, [.val (.slice (.int .i64)) a0.2.1, .val (.int .i64) r1], [], .val (.int .i64) r2, []⟩]⟩ := by kernel_rfl
theorem f14_e3 (a0 : S25) (a1 : Int)  (r1 : f69_R) (r2 : f69_R) (r3 : f69_R) : execEnd Tryd.prog run8 1000 [.reg 1 [] [(3, .con [] (.val (.int .i64) r1) [] false true)], .cond false, .reg 4 [] [(3, .con [] (.val (.int .i64) r2) [] false true)], .cond false, .reg 7 [] [(3, .con [] (.val (.int .i64) r3) [] false true)], .cond true] ⟨[.code (bodyOf Tryd.f14)], startSt Tryd.f14 [.val t25 a0, .val (.int .i64) a1] []⟩ Tryd.f14 = some ⟨.val (.int .i64) (-1), [], [decide ((decide (r1 < 0)) = false), decide ((decide (r2 < 0)) = false), decide ((decide (r3 < 0)) = true)], [⟨69, [.val (.slice (.int .i64)) a0.1, .val (.int .i64) a1], [], .val (.int .i64) r1, []⟩, ⟨69, [.val (.slice (.int .i64)) a0.2.1, .val (.int .i64) r1], [], .val (.int .i64) r2, []⟩, ⟨69, [.val (.slice (.int .i64)) a0.2.2.1, .val (.int .i64) r2], [], .val (.int .i64) r3, []⟩]⟩ := by kernel_rfl
theorem f14_e4 (a0 : S25) (a1 : Int)  (r1 : f69_R) (r2 : f69_R) (r3 : f69_R) (r4 : f70_R) : execEnd Tryd.prog run8 1000 [.reg 1 [] [(3, .con [] (.val (.int .i64) r1) [] false true)], .cond false, .reg 4 [] [(3, .con [] (.val (.int .i64) r2) [] false true)], .cond false, .reg 7 [] [(3, .con [] (.val (.int .i64) r3) [] false true)], .cond false, .reg 10 [] [(3, .con [] (.val (.int .i64) r4) [] false true)], .cond true] ⟨[.code (bodyOf Tryd.f14)], startSt Tryd.f14 [.val t25 a0, .val (.int .i64) a1] []⟩ Tryd.f14 = some ⟨.val (.int .i64) (-1), [], [decide ((decide (r1 < 0)) = false), decide ((decide (r2 < 0)) = false), decide ((decide (r3 < 0)) = false), decide ((decide (r4 < 0)) = true)], [⟨69, [.val (.slice (.int .i64)) a0.1, .val (.int .i64) a1], [], .val (.int .i64) r1, []⟩, ⟨69, [.val (.slice (.int .i64)) a0.2.1, .val (.int .i64) r1], [], .val (.int .i64) r2, []⟩, ⟨69, [.val (.slice (.int .i64)) a0.2.2.1, .val (.int .i64) r2], [], .val (.int .i64) r3, []⟩, ⟨70, [.val (.slice t161) a0.2.2.2.1, .val (.int .i64) r3], [], .val (.int .i64) r4, []⟩]⟩ := by kernel_rfl
theorem f14_e5 (a0 : S25) (a1 : Int)  (r1 : f69_R) (r2 : f69_R) (r3 : f69_R) (r4 : f70_R) (r5 : f71_R) : execEnd Tryd.prog run8 1000 [.reg 1 [] [(3, .con [] (.val (.int .i64) r1) [] false true)], .cond false, .reg 4 [] [(3, .con [] (.val (.int .i64) r2) [] false true)], .cond false, .reg 7 [] [(3, .con [] (.val (.int .i64) r3) [] false true)], .cond false, .reg 10 [] [(3, .con [] (.val (.int .i64) r4) [] false true)], .cond false, .reg 13 [] [(3, .con [] (.val (.int .i64) r5) [] false true)], .cond true] ⟨[.code (bodyOf Tryd.f14)], startSt Tryd.f14 [.val t25 a0, .val (.int .i64) a1] []⟩ Tryd.f14 = some ⟨.val (.int .i64) (-1), [], [decide ((decide (r1 < 0)) = false), decide ((decide (r2 < 0)) = false), decide ((decide (r3 < 0)) = false), decide ((decide (r4 < 0)) = false), decide ((decide (r5 < 0)) = true)], [⟨69, [.val (.slice (.int .i64)) a0.1, .val (.int .i64) a1], [], .val (.int .i64) r1, []⟩, ⟨69, [.val (.slice (.int .i64)) a0.2.1, .val (.int .i64) r1], [], .val (.int .i64) r2, []⟩, ⟨69, [.val (.slice (.int .i64)) a0.2.2.1, .val (.int .i64) r2], [], .val (.int .i64) r3, []⟩, ⟨70, [.val (.slice t161) a0.2.2.2.1, .val (.int .i64) r3], [], .val (.int .i64) r4, []⟩, ⟨71, [.val (.slice (.slice (.int .i64))) a0.2.2.2.2.1, .val (.int .i64) r4], [], .val (.int .i64) r5, []⟩]⟩ := by kernel_rfl
theorem f14_e6 (a0 : S25) (a1 : Int)  (r1 : f69_R) (r2 : f69_R) (r3 : f69_R) (r4 : f70_R) (r5 : f71_R) : execEnd Tryd.prog run8 1000 [.reg 1 [] [(3, .con [] (.val (.int .i64) r1) [] false true)], .cond false, .reg 4 [] [(3, .con [] (.val (.int .i64) r2) [] false true)], .cond false, .reg 7 [] [(3, .con [] (.val (.int .i64) r3) [] false true)], .cond false, .reg 10 [] [(3, .con [] (.val (.int .i64) r4) [] false true)], .cond false, .reg 13 [] [(3, .con [] (.val (.int .i64) r5) [] false true)], .cond false] ⟨[.code (bodyOf Tryd.f14)], startSt Tryd.f14 [.val t25 a0, .val (.int .i64) a1] []⟩ Tryd.f14 = some ⟨.val (.int .i64) r5, [], [decide ((decide (r1 < 0)) = false), decide ((decide (r2 < 0)) = false), decide ((decide (r3 < 0)) = false), decide ((decide (r4 < 0)) = false), decide ((decide (r5 < 0)) = false)], [⟨69, [.val (.slice (.int .i64)) a0.1, .val (.int .i64) a1], [], .val (.int .i64) r1, []⟩, ⟨69, [.val (.slice (.int .i64)) a0.2.1, .val (.int .i64) r1], [], .val (.int .i64) r2, []⟩, ⟨69, [.val (.slice (.int .i64)) a0.2.2.1, .val (.int .i64) r2], [], .val (.int .i64) r3, []⟩, ⟨70, [.val (.slice t161) a0.2.2.2.1, .val (.int .i64) r3], [], .val (.int .i64) r4, []⟩, ⟨71, [.val (.slice (.slice (.int .i64))) a0.2.2.2.2.1, .val (.int .i64) r4], [], .val (.int .i64) r5, []⟩]⟩ := by kernel_rfl
theorem f14_go (a0 : S25) (a1 : Int) (r : f14_R) (h : ∃ r1 : f69_R, f69_H a0.1 a1 r1 ∧ ((r1 < 0 → r = (-1)) ∧ (¬(r1 < 0) → ∃ r2 : f69_R, f69_H a0.2.1 r1 r2 ∧ ((r2 < 0 → r = (-1)) ∧ (¬(r2 < 0) → ∃ r3 : f69_R, f69_H a0.2.2.1 r2 r3 ∧ ((r3 < 0 → r = (-1)) ∧ (¬(r3 < 0) → ∃ r4 : f70_R, f70_H a0.2.2.2.1 r3 r4 ∧ ((r4 < 0 → r = (-1)) ∧ (¬(r4 < 0) → ∃ r5 : f71_R, f71_H a0.2.2.2.2.1 r4 r5 ∧ ((r5 < 0 → r = (-1)) ∧ (¬(r5 < 0) → r = r5))))))))))) : f14_H a0 a1 r := by
  intro B W0 hT
  refine holds_of_ends enters Tryd.func14 rfl (by kernel_rfl) fun w S β => ?_
  show Ends (f14_C a0 a1 B W0 w S β) Tryd.f14 _ _ _
  obtain ⟨r1, h0, h⟩ := h
  rcases bcase (decide (r1 < 0)) with hb1 | hb1
  · replace h := h.1 (of_decide_eq_true hb1)
    rw [h]
    exact ends_of_exec (C := f14_C a0 a1 B W0 w S β) run8_ok mixed (f14_e1 a0 a1 r1) (all1 (decide_eq_true hb1) (all0)) (allc1 (h0 B W0 hT) (allc0))
  · replace h := h.2 (of_decide_eq_false hb1)
    obtain ⟨r2, h2, h⟩ := h
    rcases bcase (decide (r2 < 0)) with hb3 | hb3
    · replace h := h.1 (of_decide_eq_true hb3)
      rw [h]
      exact ends_of_exec (C := f14_C a0 a1 B W0 w S β) run8_ok mixed (f14_e2 a0 a1 r1 r2) (all1 (decide_eq_true hb1) (all1 (decide_eq_true hb3) (all0))) (allc1 (h0 B W0 hT) (allc1 (h2 B W0 hT) (allc0)))
    · replace h := h.2 (of_decide_eq_false hb3)
      obtain ⟨r3, h4, h⟩ := h
      rcases bcase (decide (r3 < 0)) with hb5 | hb5
      · replace h := h.1 (of_decide_eq_true hb5)
        rw [h]
        exact ends_of_exec (C := f14_C a0 a1 B W0 w S β) run8_ok mixed (f14_e3 a0 a1 r1 r2 r3) (all1 (decide_eq_true hb1) (all1 (decide_eq_true hb3) (all1 (decide_eq_true hb5) (all0)))) (allc1 (h0 B W0 hT) (allc1 (h2 B W0 hT) (allc1 (h4 B W0 hT) (allc0))))
      · replace h := h.2 (of_decide_eq_false hb5)
        obtain ⟨r4, h6, h⟩ := h
        rcases bcase (decide (r4 < 0)) with hb7 | hb7
        · replace h := h.1 (of_decide_eq_true hb7)
          rw [h]
          exact ends_of_exec (C := f14_C a0 a1 B W0 w S β) run8_ok mixed (f14_e4 a0 a1 r1 r2 r3 r4) (all1 (decide_eq_true hb1) (all1 (decide_eq_true hb3) (all1 (decide_eq_true hb5) (all1 (decide_eq_true hb7) (all0))))) (allc1 (h0 B W0 hT) (allc1 (h2 B W0 hT) (allc1 (h4 B W0 hT) (allc1 (h6 B W0 hT) (allc0)))))
        · replace h := h.2 (of_decide_eq_false hb7)
          obtain ⟨r5, h8, h⟩ := h
          rcases bcase (decide (r5 < 0)) with hb9 | hb9
          · replace h := h.1 (of_decide_eq_true hb9)
            rw [h]
            exact ends_of_exec (C := f14_C a0 a1 B W0 w S β) run8_ok mixed (f14_e5 a0 a1 r1 r2 r3 r4 r5) (all1 (decide_eq_true hb1) (all1 (decide_eq_true hb3) (all1 (decide_eq_true hb5) (all1 (decide_eq_true hb7) (all1 (decide_eq_true hb9) (all0)))))) (allc1 (h0 B W0 hT) (allc1 (h2 B W0 hT) (allc1 (h4 B W0 hT) (allc1 (h6 B W0 hT) (allc1 (h8 B W0 hT) (allc0))))))
          · replace h := h.2 (of_decide_eq_false hb9)
            rw [h]
            exact ends_of_exec (C := f14_C a0 a1 B W0 w S β) run8_ok mixed (f14_e6 a0 a1 r1 r2 r3 r4 r5) (all1 (decide_eq_true hb1) (all1 (decide_eq_true hb3) (all1 (decide_eq_true hb5) (all1 (decide_eq_true hb7) (all1 (decide_eq_true hb9) (all0)))))) (allc1 (h0 B W0 hT) (allc1 (h2 B W0 hT) (allc1 (h4 B W0 hT) (allc1 (h6 B W0 hT) (allc1 (h8 B W0 hT) (allc0))))))

/-! ### loop.example/g01094/laws.toInt64S -/
theorem f17_e1 (a0 : List Int)  : execN Tryd.prog run8 1000 [.stop [] [0, 3, 4] [(48, 0)]] ⟨[.code (bodyOf Tryd.f17)], startSt Tryd.f17 [.val (.slice (.int .i64)) a0] []⟩ = some ⟨⟨focus Tryd.f17 [.r, .r, .l, .r, .b, .h], f17_s1 a0 0 (List.replicate ((a0.length : Int).toNat) 0)⟩, [decide (0 ≤ (a0.length : Int)), decide ((a0.length : Int) ≤ (a0.length : Int)), decide ((a0.length : Int) * 8 ≤ 140737488355328)], []⟩ := by kernel_rfl
theorem f17_go (a0 : List Int) (r : f17_R) (h : ((a0.length : Int) * 8 ≤ 140737488355328) ∧ f17_L1 a0 0 (List.replicate ((a0.length : Int).toNat) 0) r) : f17_H a0 r := by
  intro B W0 hT
  refine holds_of_ends enters Tryd.func17 rfl (by kernel_rfl) fun w S β => ?_
  show Ends (f17_C a0 B W0 w S β) Tryd.f17 _ _ _
  obtain ⟨h2, h⟩ := h
  exact Ends.of_reach (exec_ok (C := f17_C a0 B W0 w S β) run8_ok mixed (f17_e1 a0) (all1 (decide_eq_true (by exact Int.natCast_nonneg _)) (all1 (decide_eq_true (by exact Int.le_refl _)) (all1 (decide_eq_true (h2)) (all0)))) (allc0)) (h B W0 hT w S β)
theorem f17_e2 (a0 : List Int) (x1_0 : Int) (x1_1 : List Int) : execN Tryd.prog run8 1000 [.go, .cond true, .stop [] [0, 3, 4] [(0, 0)]] ⟨focus Tryd.f17 [.r, .r, .l, .r, .b, .h], f17_s1 a0 x1_0 x1_1⟩ = some ⟨⟨focus Tryd.f17 [.r, .r, .l, .r, .b, .h], f17_s1 a0 (IntKind.i64.wrap (x1_0 + 1)) (List.set x1_1 x1_0.toNat (List.getD a0 x1_0.toNat 0))⟩, [decide ((decide (x1_0 < (a0.length : Int))) = true), decide (0 ≤ x1_0), decide (x1_0 < (a0.length : Int)), decide (0 ≤ x1_0), decide (x1_0 < (x1_1.length : Int)), decide (x1_0.toNat < x1_1.length)], []⟩ := by kernel_rfl
theorem f17_e3 (a0 : List Int) (x1_0 : Int) (x1_1 : List Int) : execEnd Tryd.prog run8 1000 [.go, .cond false] ⟨focus Tryd.f17 [.r, .r, .l, .r, .b, .h], f17_s1 a0 x1_0 x1_1⟩ Tryd.f17 = some ⟨.ref 0, [(0, .arr 2 (.int .i64) x1_1 false)], [decide ((decide (x1_0 < (a0.length : Int))) = false)], []⟩ := by kernel_rfl
theorem f17_at1 (a0 : List Int) (x1_0 : Int) (x1_1 : List Int) (r : f17_R) (h : ((x1_0 < (a0.length : Int) → (0 ≤ x1_0) ∧ (x1_0 < (a0.length : Int)) ∧ (x1_0 < (x1_1.length : Int)) ∧ (x1_0.toNat < x1_1.length) ∧ f17_L1 a0 (IntKind.i64.wrap (x1_0 + 1)) (List.set x1_1 x1_0.toNat (List.getD a0 x1_0.toNat 0)) r) ∧ (¬(x1_0 < (a0.length : Int)) → r = x1_1))) : f17_L1 a0 x1_0 x1_1 r := by
  intro B W0 hT w S β
  rcases bcase (decide (x1_0 < (a0.length : Int))) with hb0 | hb0
  · replace h := h.1 (of_decide_eq_true hb0)
    obtain ⟨h1, h⟩ := h
    obtain ⟨h2, h⟩ := h
    obtain ⟨h4, h⟩ := h
    obtain ⟨h5, h⟩ := h
    exact Ends.of_reach (exec_ok (C := f17_C a0 B W0 w S β) run8_ok mixed (f17_e2 a0 x1_0 x1_1) (all1 (decide_eq_true hb0) (all1 (decide_eq_true (h1)) (all1 (decide_eq_true (h2)) (all1 (decide_eq_true (h1)) (all1 (decide_eq_true (h4)) (all1 (decide_eq_true (h5)) (all0))))))) (allc0)) (h B W0 hT w S β)
  · replace h := h.2 (of_decide_eq_false hb0)
    rw [h]
    exact ends_of_exec (C := f17_C a0 B W0 w S β) run8_ok mixed (f17_e3 a0 x1_0 x1_1) (all1 (decide_eq_true hb0) (all0)) (allc0)

/-! ### loop.example/g01094/laws.toJointS -/
theorem f75_e1 (a0 : List S161)  : execN Tryd.prog run8 1000 [.stop [] [0, 3, 4] [(48, 0)]] ⟨[.code (bodyOf Tryd.f75)], startSt Tryd.f75 [.val (.slice t161) a0] []⟩ = some ⟨⟨focus Tryd.f75 [.r, .r, .l, .r, .b, .h], f75_s1 a0 0 (List.replicate ((a0.length : Int).toNat) (0, ([], ([], ()))))⟩, [decide (0 ≤ (a0.length : Int)), decide ((a0.length : Int) ≤ (a0.length : Int)), decide ((a0.length : Int) * 56 ≤ 140737488355328)], []⟩ := by kernel_rfl
theorem f75_go (a0 : List S161) (r : f75_R) (h : ((a0.length : Int) * 56 ≤ 140737488355328) ∧ f75_L1 a0 0 (List.replicate ((a0.length : Int).toNat) (0, ([], ([], ())))) r) : f75_H a0 r := by
  intro B W0 hT
  refine holds_of_ends enters Tryd.func75 rfl (by kernel_rfl) fun w S β => ?_
  show Ends (f75_C a0 B W0 w S β) Tryd.f75 _ _ _
  obtain ⟨h2, h⟩ := h
  exact Ends.of_reach (exec_ok (C := f75_C a0 B W0 w S β) run8_ok mixed (f75_e1 a0) (all1 (decide_eq_true (by exact Int.natCast_nonneg _)) (all1 (decide_eq_true (by exact Int.le_refl _)) (all1 (decide_eq_true (h2)) (all0)))) (allc0)) (h B W0 hT w S β)
theorem f75_e2 (a0 : List S161) (x1_0 : Int) (x1_1 : List S161) (r1 : f17_R) (r2 : f17_R) : execN Tryd.prog run8 1000 [.go, .cond true, .reg 5 [] [(6, .inl [] true [.adopt 1 [.cnil 16 1 2 (.int .i64), .cnil 16 2 2 (.int .i64)], .adopt 2 [.cnil 34 1 2 (.int .i64), .cnil 34 2 2 (.int .i64)], .reg 3 [] [(2, .con [] (.ref 0) [(0, .arr 2 (.int .i64) r1 false)] false true)], .reg 4 [] [(2, .con [] (.ref 0) [(0, .arr 2 (.int .i64) r2 false)] false true)]])], .stop [] [0, 3, 4] [(0, 0)]] ⟨focus Tryd.f75 [.r, .r, .l, .r, .b, .h], f75_s1 a0 x1_0 x1_1⟩ = some ⟨⟨focus Tryd.f75 [.r, .r, .l, .r, .b, .h], f75_s1 a0 (IntKind.i64.wrap (x1_0 + 1)) (List.set x1_1 x1_0.toNat ((List.getD a0 x1_0.toNat (0, ([], ([], ())))).1, (r1, (r2, ()))))⟩, [decide ((decide (x1_0 < (a0.length : Int))) = true), decide (0 ≤ x1_0), decide (x1_0 < (a0.length : Int)), decide (0 ≤ x1_0), decide (x1_0 < (x1_1.length : Int)), decide (x1_0.toNat < x1_1.length)], [⟨17, [.val (.slice (.int .i64)) (((List.getD a0 x1_0.toNat (0, ([], ([], ())))).2).1)], [], .ref 0, [(0, .arr 2 (.int .i64) r1 false)]⟩, ⟨17, [.val (.slice (.int .i64)) ((((List.getD a0 x1_0.toNat (0, ([], ([], ())))).2).2).1)], [], .ref 0, [(0, .arr 2 (.int .i64) r2 false)]⟩]⟩ := by kernel_rfl
theorem f75_e3 (a0 : List S161) (x1_0 : Int) (x1_1 : List S161) : execEnd Tryd.prog run8 1000 [.go, .cond false] ⟨focus Tryd.f75 [.r, .r, .l, .r, .b, .h], f75_s1 a0 x1_0 x1_1⟩ Tryd.f75 = some ⟨.ref 0, [(0, .arr 165 t161 x1_1 false)], [decide ((decide (x1_0 < (a0.length : Int))) = false)], []⟩ := by kernel_rfl
theorem f75_at1 (a0 : List S161) (x1_0 : Int) (x1_1 : List S161) (r : f75_R) (h : ((x1_0 < (a0.length : Int) → (0 ≤ x1_0) ∧ (x1_0 < (a0.length : Int)) ∧ ∃ r1 : f17_R, f17_H (((List.getD a0 x1_0.toNat (0, ([], ([], ())))).2).1) r1 ∧ ∃ r2 : f17_R, f17_H ((((List.getD a0 x1_0.toNat (0, ([], ([], ())))).2).2).1) r2 ∧ (x1_0 < (x1_1.length : Int)) ∧ (x1_0.toNat < x1_1.length) ∧ f75_L1 a0 (IntKind.i64.wrap (x1_0 + 1)) (List.set x1_1 x1_0.toNat ((List.getD a0 x1_0.toNat (0, ([], ([], ())))).1, (r1, (r2, ())))) r) ∧ (¬(x1_0 < (a0.length : Int)) → r = x1_1))) : f75_L1 a0 x1_0 x1_1 r := by
  intro B W0 hT w S β
  rcases bcase (decide (x1_0 < (a0.length : Int))) with hb0 | hb0
  · replace h := h.1 (of_decide_eq_true hb0)
    obtain ⟨h1, h⟩ := h
    obtain ⟨h2, h⟩ := h
    obtain ⟨r1, h3, h⟩ := h
    obtain ⟨r2, h4, h⟩ := h
    obtain ⟨h6, h⟩ := h
    obtain ⟨h7, h⟩ := h
    exact Ends.of_reach (exec_ok (C := f75_C a0 B W0 w S β) run8_ok mixed (f75_e2 a0 x1_0 x1_1 r1 r2) (all1 (decide_eq_true hb0) (all1 (decide_eq_true (h1)) (all1 (decide_eq_true (h2)) (all1 (decide_eq_true (h1)) (all1 (decide_eq_true (h6)) (all1 (decide_eq_true (h7)) (all0))))))) (allc1 (h3 B W0 hT) (allc1 (h4 B W0 hT) (allc0)))) (h B W0 hT w S β)
  · replace h := h.2 (of_decide_eq_false hb0)
    rw [h]
    exact ends_of_exec (C := f75_C a0 B W0 w S β) run8_ok mixed (f75_e3 a0 x1_0 x1_1) (all1 (decide_eq_true hb0) (all0)) (allc0)

/-! ### loop.example/g01094/laws.toInt64SS -/
theorem f76_e1 (a0 : List (List Int))  : execN Tryd.prog run8 1000 [.stop [] [0, 3, 4] [(48, 0)]] ⟨[.code (bodyOf Tryd.f76)], startSt Tryd.f76 [.val (.slice (.slice (.int .i64))) a0] []⟩ = some ⟨⟨focus Tryd.f76 [.r, .r, .l, .r, .b, .h], f76_s1 a0 0 (List.replicate ((a0.length : Int).toNat) [])⟩, [decide (0 ≤ (a0.length : Int)), decide ((a0.length : Int) ≤ (a0.length : Int)), decide ((a0.length : Int) * 24 ≤ 140737488355328)], []⟩ := by kernel_rfl
theorem f76_go (a0 : List (List Int)) (r : f76_R) (h : ((a0.length : Int) * 24 ≤ 140737488355328) ∧ f76_L1 a0 0 (List.replicate ((a0.length : Int).toNat) []) r) : f76_H a0 r := by
  intro B W0 hT
  refine holds_of_ends enters Tryd.func76 rfl (by kernel_rfl) fun w S β => ?_
  show Ends (f76_C a0 B W0 w S β) Tryd.f76 _ _ _
  obtain ⟨h2, h⟩ := h
  exact Ends.of_reach (exec_ok (C := f76_C a0 B W0 w S β) run8_ok mixed (f76_e1 a0) (all1 (decide_eq_true (by exact Int.natCast_nonneg _)) (all1 (decide_eq_true (by exact Int.le_refl _)) (all1 (decide_eq_true (h2)) (all0)))) (allc0)) (h B W0 hT w S β)
theorem f76_e2 (a0 : List (List Int)) (x1_0 : Int) (x1_1 : List (List Int)) (r1 : f17_R) : execN Tryd.prog run8 1000 [.go, .cond true, .reg 5 [] [(6, .con [] (.ref 0) [(0, .arr 2 (.int .i64) r1 false)] false true)], .stop [] [0, 3, 4] [(0, 0)]] ⟨focus Tryd.f76 [.r, .r, .l, .r, .b, .h], f76_s1 a0 x1_0 x1_1⟩ = some ⟨⟨focus Tryd.f76 [.r, .r, .l, .r, .b, .h], f76_s1 a0 (IntKind.i64.wrap (x1_0 + 1)) (List.set x1_1 x1_0.toNat r1)⟩, [decide ((decide (x1_0 < (a0.length : Int))) = true), decide (0 ≤ x1_0), decide (x1_0 < (a0.length : Int)), decide (0 ≤ x1_0), decide (x1_0 < (x1_1.length : Int)), decide (x1_0.toNat < x1_1.length)], [⟨17, [.val (.slice (.int .i64)) (List.getD a0 x1_0.toNat [])], [], .ref 0, [(0, .arr 2 (.int .i64) r1 false)]⟩]⟩ := by kernel_rfl
theorem f76_e3 (a0 : List (List Int)) (x1_0 : Int) (x1_1 : List (List Int)) : execEnd Tryd.prog run8 1000 [.go, .cond false] ⟨focus Tryd.f76 [.r, .r, .l, .r, .b, .h], f76_s1 a0 x1_0 x1_1⟩ Tryd.f76 = some ⟨.ref 0, [(0, .arr 22 (.slice (.int .i64)) x1_1 false)], [decide ((decide (x1_0 < (a0.length : Int))) = false)], []⟩ := by kernel_rfl
theorem f76_at1 (a0 : List (List Int)) (x1_0 : Int) (x1_1 : List (List Int)) (r : f76_R) (h : ((x1_0 < (a0.length : Int) → (0 ≤ x1_0) ∧ (x1_0 < (a0.length : Int)) ∧ ∃ r1 : f17_R, f17_H (List.getD a0 x1_0.toNat []) r1 ∧ (x1_0 < (x1_1.length : Int)) ∧ (x1_0.toNat < x1_1.length) ∧ f76_L1 a0 (IntKind.i64.wrap (x1_0 + 1)) (List.set x1_1 x1_0.toNat r1) r) ∧ (¬(x1_0 < (a0.length : Int)) → r = x1_1))) : f76_L1 a0 x1_0 x1_1 r := by
  intro B W0 hT w S β
  rcases bcase (decide (x1_0 < (a0.length : Int))) with hb0 | hb0
  · replace h := h.1 (of_decide_eq_true hb0)
    obtain ⟨h1, h⟩ := h
    obtain ⟨h2, h⟩ := h
    obtain ⟨r1, h3, h⟩ := h
    obtain ⟨h5, h⟩ := h
    obtain ⟨h6, h⟩ := h
    exact Ends.of_reach (exec_ok (C := f76_C a0 B W0 w S β) run8_ok mixed (f76_e2 a0 x1_0 x1_1 r1) (all1 (decide_eq_true hb0) (all1 (decide_eq_true (h1)) (all1 (decide_eq_true (h2)) (all1 (decide_eq_true (h1)) (all1 (decide_eq_true (h5)) (all1 (decide_eq_true (h6)) (all0))))))) (allc1 (h3 B W0 hT) (allc0))) (h B W0 hT w S β)
  · replace h := h.2 (of_decide_eq_false hb0)
    rw [h]
    exact ends_of_exec (C := f76_C a0 B W0 w S β) run8_ok mixed (f76_e3 a0 x1_0 x1_1) (all1 (decide_eq_true hb0) (all0)) (allc0)

/-! ### loop.example/g01094/spec.l01In -/
theorem f115_e1 (a0 : Int) (a1 : Int) (a2 : Int)  : execEnd Tryd.prog run8 1000 [.reg 1 [(4, true), (5, true), (6, true)] []] ⟨[.code (bodyOf Tryd.f115)], startSt Tryd.f115 [.val (.int .i64) a0, .val (.int .i64) a1, .val (.int .i64) a2] []⟩ Tryd.f115 = some ⟨.val .bool (if (decide (a0 ≥ a1)) = true then (decide (a0 ≤ a2)) else false), [], [decide ((decide (a0 ≥ a1)) = true), decide ((decide (a0 ≥ a1)) = true), decide ((decide (a0 ≥ a1)) = true)], []⟩ := by kernel_rfl
theorem f115_e2 (a0 : Int) (a1 : Int) (a2 : Int)  : execEnd Tryd.prog run8 1000 [.reg 1 [(4, false), (5, false), (6, false), (7, false)] []] ⟨[.code (bodyOf Tryd.f115)], startSt Tryd.f115 [.val (.int .i64) a0, .val (.int .i64) a1, .val (.int .i64) a2] []⟩ Tryd.f115 = some ⟨.val .bool false, [], [decide ((decide (a0 ≥ a1)) = false), decide ((decide (a0 ≥ a1)) = false), decide ((decide (a0 ≥ a1)) = false), decide ((decide (a0 ≥ a1)) = false)], []⟩ := by kernel_rfl
theorem f115_go (a0 : Int) (a1 : Int) (a2 : Int) (r : f115_R) (h : ((a0 ≥ a1 → r = (decide (a0 ≤ a2))) ∧ (¬(a0 ≥ a1) → r = false))) : f115_H a0 a1 a2 r := by
  intro B W0 hT
  refine holds_of_ends enters Tryd.func115 rfl (by kernel_rfl) fun w S β => ?_
  show Ends (f115_C a0 a1 a2 B W0 w S β) Tryd.f115 _ _ _
  rcases bcase (decide (a0 ≥ a1)) with hb0 | hb0
  · replace h := h.1 (of_decide_eq_true hb0)
    rw [h, show (decide (a0 ≤ a2) : f115_R) = (if (decide (a0 ≥ a1)) = true then (decide (a0 ≤ a2)) else false) from by simp only [hb0, if_true, if_false, Bool.false_eq_true, Bool.not_true, Bool.not_false, Bool.not_not]]
    exact ends_of_exec (C := f115_C a0 a1 a2 B W0 w S β) run8_ok mixed (f115_e1 a0 a1 a2) (all1 (decide_eq_true hb0) (all1 (decide_eq_true hb0) (all1 (decide_eq_true hb0) (all0)))) (allc0)
  · replace h := h.2 (of_decide_eq_false hb0)
    rw [h]
    exact ends_of_exec (C := f115_C a0 a1 a2 B W0 w S β) run8_ok mixed (f115_e2 a0 a1 a2) (all1 (decide_eq_true hb0) (all1 (decide_eq_true hb0) (all1 (decide_eq_true hb0) (all1 (decide_eq_true hb0) (all0))))) (allc0)

/-! ### loop.example/g01094/spec.l14Places -/
theorem f149_e1 (a0 : Int) (a1 : List Int)  : execN Tryd.prog run8 1000 [.stop [] [0, 1, 5] []] ⟨[.code (bodyOf Tryd.f149)], startSt Tryd.f149 [.val (.int .i64) a0, .val (.slice (.int .i64)) a1] []⟩ = some ⟨⟨focus Tryd.f149 [.r, .l, .r, .b, .h], f149_s1 a0 a1 0⟩, [], []⟩ := by kernel_rfl
theorem f149_go (a0 : Int) (a1 : List Int) (r : f149_R) (h : f149_L1 a0 a1 0 r) : f149_H a0 a1 r := by
  intro B W0 hT
  refine holds_of_ends enters Tryd.func149 rfl (by kernel_rfl) fun w S β => ?_
  show Ends (f149_C a0 a1 B W0 w S β) Tryd.f149 _ _ _
  exact Ends.of_reach (exec_ok (C := f149_C a0 a1 B W0 w S β) run8_ok mixed (f149_e1 a0 a1) (all0) (allc0)) (h B W0 hT w S β)
theorem f149_e2 (a0 : Int) (a1 : List Int) (x1_0 : Int) (r1 : f115_R) : execEnd Tryd.prog run8 1000 [.go, .cond true, .reg 4 [] [(6, .con [] (.val .bool r1) [] false true)], .cond true] ⟨focus Tryd.f149 [.r, .l, .r, .b, .h], f149_s1 a0 a1 x1_0⟩ Tryd.f149 = some ⟨.val .bool false, [], [decide ((decide (x1_0 < (a1.length : Int))) = true), decide (0 ≤ x1_0), decide (x1_0 < (a1.length : Int)), decide (0 ≤ IntKind.u64.wrap a0), decide ((!r1) = true)], [⟨115, [.val (.int .i64) (List.getD a1 x1_0.toNat 0), .val (.int .i64) (1 : Int), .val (.int .i64) (IntKind.i64.wrap ((IntKind.i64.wrap (1 * 2 ^ (min (IntKind.u64.wrap a0).toNat 64))) - 1))], [], .val .bool r1, []⟩]⟩ := by kernel_rfl
theorem f149_e3 (a0 : Int) (a1 : List Int) (x1_0 : Int) (r1 : f115_R) : execN Tryd.prog run8 1000 [.go, .cond true, .reg 4 [] [(6, .con [] (.val .bool r1) [] false true)], .cond false, .stop [] [0, 1, 5] []] ⟨focus Tryd.f149 [.r, .l, .r, .b, .h], f149_s1 a0 a1 x1_0⟩ = some ⟨⟨focus Tryd.f149 [.r, .l, .r, .b, .h], f149_s1 a0 a1 (IntKind.i64.wrap (x1_0 + 1))⟩, [decide ((decide (x1_0 < (a1.length : Int))) = true), decide (0 ≤ x1_0), decide (x1_0 < (a1.length : Int)), decide (0 ≤ IntKind.u64.wrap a0), decide ((!r1) = false)], [⟨115, [.val (.int .i64) (List.getD a1 x1_0.toNat 0), .val (.int .i64) (1 : Int), .val (.int .i64) (IntKind.i64.wrap ((IntKind.i64.wrap (1 * 2 ^ (min (IntKind.u64.wrap a0).toNat 64))) - 1))], [], .val .bool r1, []⟩]⟩ := by kernel_rfl
theorem f149_e4 (a0 : Int) (a1 : List Int) (x1_0 : Int) (r1 : f115_R) : execEnd Tryd.prog run8 1000 [.go, .cond false, .reg 6 [(3, true), (4, true), (5, true)] [(1, .con [] (.val .bool r1) [] false true)]] ⟨focus Tryd.f149 [.r, .l, .r, .b, .h], f149_s1 a0 a1 x1_0⟩ Tryd.f149 = some ⟨.val .bool (if r1 = true then (decide ((a1.length : Int) ≤ 8)) else false), [], [decide ((decide (x1_0 < (a1.length : Int))) = false), decide (r1 = true), decide (r1 = true), decide (r1 = true)], [⟨115, [.val (.int .i64) a0, .val (.int .i64) (1 : Int), .val (.int .i64) (4 : Int)], [], .val .bool r1, []⟩]⟩ := by kernel_rfl
theorem f149_e5 (a0 : Int) (a1 : List Int) (x1_0 : Int) (r1 : f115_R) : execEnd Tryd.prog run8 1000 [.go, .cond false, .reg 6 [(3, false), (4, false), (5, false), (6, false)] [(1, .con [] (.val .bool r1) [] false true)]] ⟨focus Tryd.f149 [.r, .l, .r, .b, .h], f149_s1 a0 a1 x1_0⟩ Tryd.f149 = some ⟨.val .bool false, [], [decide ((decide (x1_0 < (a1.length : Int))) = false), decide (r1 = false), decide (r1 = false), decide (r1 = false), decide (r1 = false)], [⟨115, [.val (.int .i64) a0, .val (.int .i64) (1 : Int), .val (.int .i64) (4 : Int)], [], .val .bool r1, []⟩]⟩ := by kernel_rfl
theorem f149_at1 (a0 : Int) (a1 : List Int) (x1_0 : Int) (r : f149_R) (h : ((x1_0 < (a1.length : Int) → (0 ≤ x1_0) ∧ (x1_0 < (a1.length : Int)) ∧ (0 ≤ IntKind.u64.wrap a0) ∧ ∃ r1 : f115_R, f115_H (List.getD a1 x1_0.toNat 0) 1 (IntKind.i64.wrap ((IntKind.i64.wrap (1 * 2 ^ (min (IntKind.u64.wrap a0).toNat 64))) - 1)) r1 ∧ ((r1 = false → r = false) ∧ (r1 = true → f149_L1 a0 a1 (IntKind.i64.wrap (x1_0 + 1)) r))) ∧ (¬(x1_0 < (a1.length : Int)) → ∃ r1 : f115_R, f115_H a0 1 4 r1 ∧ ((r1 = true → r = (decide ((a1.length : Int) ≤ 8))) ∧ (r1 = false → r = false))))) : f149_L1 a0 a1 x1_0 r := by
  intro B W0 hT w S β
  rcases bcase (decide (x1_0 < (a1.length : Int))) with hb0 | hb0
  · replace h := h.1 (of_decide_eq_true hb0)
    obtain ⟨h1, h⟩ := h
    obtain ⟨h2, h⟩ := h
    obtain ⟨h3, h⟩ := h
    obtain ⟨r1, h4, h⟩ := h
    rcases bcase (!r1) with hb5 | hb5
    · replace h := h.1 (by simpa using hb5)
      rw [h]
      exact ends_of_exec (C := f149_C a0 a1 B W0 w S β) run8_ok mixed (f149_e2 a0 a1 x1_0 r1) (all1 (decide_eq_true hb0) (all1 (decide_eq_true (h1)) (all1 (decide_eq_true (h2)) (all1 (decide_eq_true (h3)) (all1 (decide_eq_true hb5) (all0)))))) (allc1 (h4 B W0 hT) (allc0))
    · replace h := h.2 (by simpa using hb5)
      exact Ends.of_reach (exec_ok (C := f149_C a0 a1 B W0 w S β) run8_ok mixed (f149_e3 a0 a1 x1_0 r1) (all1 (decide_eq_true hb0) (all1 (decide_eq_true (h1)) (all1 (decide_eq_true (h2)) (all1 (decide_eq_true (h3)) (all1 (decide_eq_true hb5) (all0)))))) (allc1 (h4 B W0 hT) (allc0))) (h B W0 hT w S β)
  · replace h := h.2 (of_decide_eq_false hb0)
    obtain ⟨r1, h1, h⟩ := h
    rcases bcase (r1) with hb2 | hb2
    · replace h := h.1 (hb2)
      rw [h, show (decide ((a1.length : Int) ≤ 8) : f149_R) = (if r1 = true then (decide ((a1.length : Int) ≤ 8)) else false) from by simp only [hb0, hb2, if_true, if_false, Bool.false_eq_true, Bool.not_true, Bool.not_false, Bool.not_not]]
      exact ends_of_exec (C := f149_C a0 a1 B W0 w S β) run8_ok mixed (f149_e4 a0 a1 x1_0 r1) (all1 (decide_eq_true hb0) (all1 (decide_eq_true hb2) (all1 (decide_eq_true hb2) (all1 (decide_eq_true hb2) (all0))))) (allc1 (h1 B W0 hT) (allc0))
    · replace h := h.2 (hb2)
      rw [h]
      exact ends_of_exec (C := f149_C a0 a1 B W0 w S β) run8_ok mixed (f149_e5 a0 a1 x1_0 r1) (all1 (decide_eq_true hb0) (all1 (decide_eq_true hb2) (all1 (decide_eq_true hb2) (all1 (decide_eq_true hb2) (all1 (decide_eq_true hb2) (all0)))))) (allc1 (h1 B W0 hT) (allc0))

/-! ### loop.example/g01094/spec.l14Local -/
theorem f152_e1 (a0 : S25) (a1 : Int) (a2 : List Int)  : execN Tryd.prog run8 1000 [.stop [] [1, 2, 3, 7, 8] [(0, 0)]] ⟨[.code (bodyOf Tryd.f152)], startSt Tryd.f152 [.val t25 a0, .val (.int .i64) a1, .val (.slice (.int .i64)) a2] []⟩ = some ⟨⟨focus Tryd.f152 [.r, .r, .l, .r, .b, .h], f152_s1 a0 a1 a2 0 0⟩, [], []⟩ := by kernel_rfl
theorem f152_go (a0 : S25) (a1 : Int) (a2 : List Int) (r : f152_R) (h : f152_L1 a0 a1 a2 0 0 r) : f152_H a0 a1 a2 r := by
  intro B W0 hT
  refine holds_of_ends enters Tryd.func152 rfl (by kernel_rfl) fun w S β => ?_
  show Ends (f152_C a0 a1 a2 B W0 w S β) Tryd.f152 _ _ _
  exact Ends.of_reach (exec_ok (C := f152_C a0 a1 a2 B W0 w S β) run8_ok mixed (f152_e1 a0 a1 a2) (all0) (allc0)) (h B W0 hT w S β)
theorem f152_e2 (a0 : S25) (a1 : Int) (a2 : List Int) (x1_0 : Int) (x1_1 : Int) : execN Tryd.prog run8 1000 [.go, .cond true, .cond true, .stop [] [1, 2, 3, 7, 8] [(0, 0)]] ⟨focus Tryd.f152 [.r, .r, .l, .r, .b, .h], f152_s1 a0 a1 a2 x1_0 x1_1⟩ = some ⟨⟨focus Tryd.f152 [.r, .r, .l, .r, .b, .h], f152_s1 a0 a1 a2 x1_0 (IntKind.i64.wrap (x1_1 + 1))⟩, [decide ((decide (x1_1 < (a0.2.1.length : Int))) = true), decide (0 ≤ IntKind.u64.wrap x1_1), decide ((!((bitsK .and .i64 (Int.fdiv a1 (2 ^ (min (IntKind.u64.wrap x1_1).toNat 64))) 1) == 1)) = true)], []⟩ := by kernel_rfl
theorem f152_e3 (a0 : S25) (a1 : Int) (a2 : List Int) (x1_0 : Int) (x1_1 : Int) : execEnd Tryd.prog run8 1000 [.go, .cond true, .cond false, .reg 6 [(5, true), (6, true), (7, true), (8, true), (9, true), (10, true), (11, true), (12, true), (13, true), (14, true), (15, true), (16, true), (17, true)] []] ⟨focus Tryd.f152 [.r, .r, .l, .r, .b, .h], f152_s1 a0 a1 a2 x1_0 x1_1⟩ Tryd.f152 = some ⟨.val .bool false, [], [decide ((decide (x1_1 < (a0.2.1.length : Int))) = true), decide (0 ≤ IntKind.u64.wrap x1_1), decide ((!((bitsK .and .i64 (Int.fdiv a1 (2 ^ (min (IntKind.u64.wrap x1_1).toNat 64))) 1) == 1)) = false), decide ((x1_0 == (a2.length : Int)) = true), decide ((x1_0 == (a2.length : Int)) = true), decide ((x1_0 == (a2.length : Int)) = true), decide ((x1_0 == (a2.length : Int)) = true), decide ((x1_0 == (a2.length : Int)) = true), decide ((x1_0 == (a2.length : Int)) = true), decide ((x1_0 == (a2.length : Int)) = true), decide ((x1_0 == (a2.length : Int)) = true), decide ((x1_0 == (a2.length : Int)) = true), decide ((x1_0 == (a2.length : Int)) = true), decide ((x1_0 == (a2.length : Int)) = true), decide ((x1_0 == (a2.length : Int)) = true), decide ((x1_0 == (a2.length : Int)) = true)], []⟩ := by kernel_rfl
theorem f152_e4 (a0 : S25) (a1 : Int) (a2 : List Int) (x1_0 : Int) (x1_1 : Int) (r1 : f115_R) : execEnd Tryd.prog run8 1000 [.go, .cond true, .cond false, .reg 6 [(5, false), (6, false), (7, false), (8, false), (9, false), (10, false), (11, false), (12, false), (13, false), (14, false), (15, false), (16, false)] [(15, .con [] (.val .bool r1) [] false true)], .cond true] ⟨focus Tryd.f152 [.r, .r, .l, .r, .b, .h], f152_s1 a0 a1 a2 x1_0 x1_1⟩ Tryd.f152 = some ⟨.val .bool false, [], [decide ((decide (x1_1 < (a0.2.1.length : Int))) = true), decide (0 ≤ IntKind.u64.wrap x1_1), decide ((!((bitsK .and .i64 (Int.fdiv a1 (2 ^ (min (IntKind.u64.wrap x1_1).toNat 64))) 1) == 1)) = false), decide ((x1_0 == (a2.length : Int)) = false), decide ((x1_0 == (a2.length : Int)) = false), decide ((x1_0 == (a2.length : Int)) = false), decide (0 ≤ x1_0), decide (x1_0 < (a2.length : Int)), decide ((x1_0 == (a2.length : Int)) = false), decide ((x1_0 == (a2.length : Int)) = false), decide ((x1_0 == (a2.length : Int)) = false), decide ((x1_0 == (a2.length : Int)) = false), decide ((x1_0 == (a2.length : Int)) = false), decide (0 ≤ x1_1), decide (x1_1 < (a0.2.1.length : Int)), decide ((x1_0 == (a2.length : Int)) = false), decide ((x1_0 == (a2.length : Int)) = false), decide ((x1_0 == (a2.length : Int)) = false), decide ((x1_0 == (a2.length : Int)) = false), decide ((if (x1_0 == (a2.length : Int)) = true then true else (!r1)) = true)], [⟨115, [.val (.int .i64) (List.getD a2 x1_0.toNat 0), .val (.int .i64) (0 : Int), .val (.int .i64) (IntKind.i64.wrap ((List.getD a0.2.1 x1_1.toNat 0) - 1))], [], .val .bool r1, []⟩]⟩ := by kernel_rfl
theorem f152_e5 (a0 : S25) (a1 : Int) (a2 : List Int) (x1_0 : Int) (x1_1 : Int) (r1 : f115_R) : execN Tryd.prog run8 1000 [.go, .cond true, .cond false, .reg 6 [(5, false), (6, false), (7, false), (8, false), (9, false), (10, false), (11, false), (12, false), (13, false), (14, false), (15, false), (16, false)] [(15, .con [] (.val .bool r1) [] false true)], .cond false, .stop [] [1, 2, 3, 7, 8] [(0, 0)]] ⟨focus Tryd.f152 [.r, .r, .l, .r, .b, .h], f152_s1 a0 a1 a2 x1_0 x1_1⟩ = some ⟨⟨focus Tryd.f152 [.r, .r, .l, .r, .b, .h], f152_s1 a0 a1 a2 (IntKind.i64.wrap (x1_0 + 1)) (IntKind.i64.wrap (x1_1 + 1))⟩, [decide ((decide (x1_1 < (a0.2.1.length : Int))) = true), decide (0 ≤ IntKind.u64.wrap x1_1), decide ((!((bitsK .and .i64 (Int.fdiv a1 (2 ^ (min (IntKind.u64.wrap x1_1).toNat 64))) 1) == 1)) = false), decide ((x1_0 == (a2.length : Int)) = false), decide ((x1_0 == (a2.length : Int)) = false), decide ((x1_0 == (a2.length : Int)) = false), decide (0 ≤ x1_0), decide (x1_0 < (a2.length : Int)), decide ((x1_0 == (a2.length : Int)) = false), decide ((x1_0 == (a2.length : Int)) = false), decide ((x1_0 == (a2.length : Int)) = false), decide ((x1_0 == (a2.length : Int)) = false), decide ((x1_0 == (a2.length : Int)) = false), decide (0 ≤ x1_1), decide (x1_1 < (a0.2.1.length : Int)), decide ((x1_0 == (a2.length : Int)) = false), decide ((x1_0 == (a2.length : Int)) = false), decide ((x1_0 == (a2.length : Int)) = false), decide ((x1_0 == (a2.length : Int)) = false), decide ((if (x1_0 == (a2.length : Int)) = true then true else (!r1)) = false)], [⟨115, [.val (.int .i64) (List.getD a2 x1_0.toNat 0), .val (.int .i64) (0 : Int), .val (.int .i64) (IntKind.i64.wrap ((List.getD a0.2.1 x1_1.toNat 0) - 1))], [], .val .bool r1, []⟩]⟩ := by kernel_rfl
theorem f152_e6 (a0 : S25) (a1 : Int) (a2 : List Int) (x1_0 : Int) (x1_1 : Int) : execEnd Tryd.prog run8 1000 [.go, .cond false] ⟨focus Tryd.f152 [.r, .r, .l, .r, .b, .h], f152_s1 a0 a1 a2 x1_0 x1_1⟩ Tryd.f152 = some ⟨.val .bool (x1_0 == (a2.length : Int)), [], [decide ((decide (x1_1 < (a0.2.1.length : Int))) = false)], []⟩ := by kernel_rfl
theorem f152_at1 (a0 : S25) (a1 : Int) (a2 : List Int) (x1_0 : Int) (x1_1 : Int) (r : f152_R) (h : ((x1_1 < (a0.2.1.length : Int) → (0 ≤ IntKind.u64.wrap x1_1) ∧ ((¬((bitsK .and .i64 (Int.fdiv a1 (2 ^ (min (IntKind.u64.wrap x1_1).toNat 64))) 1) = 1) → f152_L1 a0 a1 a2 x1_0 (IntKind.i64.wrap (x1_1 + 1)) r) ∧ ((bitsK .and .i64 (Int.fdiv a1 (2 ^ (min (IntKind.u64.wrap x1_1).toNat 64))) 1) = 1 → ((x1_0 = (a2.length : Int) → r = false) ∧ (¬(x1_0 = (a2.length : Int)) → (0 ≤ x1_0) ∧ (x1_0 < (a2.length : Int)) ∧ (0 ≤ x1_1) ∧ (x1_1 < (a0.2.1.length : Int)) ∧ ∃ r1 : f115_R, f115_H (List.getD a2 x1_0.toNat 0) 0 (IntKind.i64.wrap ((List.getD a0.2.1 x1_1.toNat 0) - 1)) r1 ∧ ((r1 = false → r = false) ∧ (r1 = true → f152_L1 a0 a1 a2 (IntKind.i64.wrap (x1_0 + 1)) (IntKind.i64.wrap (x1_1 + 1)) r))))))) ∧ (¬(x1_1 < (a0.2.1.length : Int)) → r = (x1_0 == (a2.length : Int))))) : f152_L1 a0 a1 a2 x1_0 x1_1 r := by
  intro B W0 hT w S β
  rcases bcase (decide (x1_1 < (a0.2.1.length : Int))) with hb0 | hb0
  · replace h := h.1 (of_decide_eq_true hb0)
    obtain ⟨h1, h⟩ := h
    rcases bcase (!((bitsK .and .i64 (Int.fdiv a1 (2 ^ (min (IntKind.u64.wrap x1_1).toNat 64))) 1) == 1)) with hb2 | hb2
    · replace h := h.1 (by simpa using hb2)
      exact Ends.of_reach (exec_ok (C := f152_C a0 a1 a2 B W0 w S β) run8_ok mixed (f152_e2 a0 a1 a2 x1_0 x1_1) (all1 (decide_eq_true hb0) (all1 (decide_eq_true (h1)) (all1 (decide_eq_true hb2) (all0)))) (allc0)) (h B W0 hT w S β)
    · replace h := h.2 (by simpa using hb2)
      rcases bcase (x1_0 == (a2.length : Int)) with hb3 | hb3
      · replace h := h.1 (by simpa using hb3)
        rw [h]
        exact ends_of_exec (C := f152_C a0 a1 a2 B W0 w S β) run8_ok mixed (f152_e3 a0 a1 a2 x1_0 x1_1) (all1 (decide_eq_true hb0) (all1 (decide_eq_true (h1)) (all1 (decide_eq_true hb2) (all1 (decide_eq_true hb3) (all1 (decide_eq_true hb3) (all1 (decide_eq_true hb3) (all1 (decide_eq_true hb3) (all1 (decide_eq_true hb3) (all1 (decide_eq_true hb3) (all1 (decide_eq_true hb3) (all1 (decide_eq_true hb3) (all1 (decide_eq_true hb3) (all1 (decide_eq_true hb3) (all1 (decide_eq_true hb3) (all1 (decide_eq_true hb3) (all1 (decide_eq_true hb3) (all0))))))))))))))))) (allc0)
      · replace h := h.2 (by simpa using hb3)
        obtain ⟨h6, h⟩ := h
        obtain ⟨h7, h⟩ := h
        obtain ⟨h13, h⟩ := h
        obtain ⟨h14, h⟩ := h
        obtain ⟨r1, h18, h⟩ := h
        rcases bcase (if (x1_0 == (a2.length : Int)) = true then true else (!r1)) with hb20 | hb20
        · have hs20 : (!r1) = true := by simpa only [hb0, hb2, hb3, if_true, if_false, Bool.false_eq_true, Bool.not_true, Bool.not_false, Bool.not_not] using hb20
          replace h := h.1 (by simpa using hs20)
          rw [h]
          exact ends_of_exec (C := f152_C a0 a1 a2 B W0 w S β) run8_ok mixed (f152_e4 a0 a1 a2 x1_0 x1_1 r1) (all1 (decide_eq_true hb0) (all1 (decide_eq_true (h1)) (all1 (decide_eq_true hb2) (all1 (decide_eq_true hb3) (all1 (decide_eq_true hb3) (all1 (decide_eq_true hb3) (all1 (decide_eq_true (h6)) (all1 (decide_eq_true (h7)) (all1 (decide_eq_true hb3) (all1 (decide_eq_true hb3) (all1 (decide_eq_true hb3) (all1 (decide_eq_true hb3) (all1 (decide_eq_true hb3) (all1 (decide_eq_true (h13)) (all1 (decide_eq_true (h14)) (all1 (decide_eq_true hb3) (all1 (decide_eq_true hb3) (all1 (decide_eq_true hb3) (all1 (decide_eq_true hb3) (all1 (decide_eq_true hb20) (all0))))))))))))))))))))) (allc1 (h18 B W0 hT) (allc0))
        · have hs20 : (!r1) = false := by simpa only [hb0, hb2, hb3, if_true, if_false, Bool.false_eq_true, Bool.not_true, Bool.not_false, Bool.not_not] using hb20
          replace h := h.2 (by simpa using hs20)
          exact Ends.of_reach (exec_ok (C := f152_C a0 a1 a2 B W0 w S β) run8_ok mixed (f152_e5 a0 a1 a2 x1_0 x1_1 r1) (all1 (decide_eq_true hb0) (all1 (decide_eq_true (h1)) (all1 (decide_eq_true hb2) (all1 (decide_eq_true hb3) (all1 (decide_eq_true hb3) (all1 (decide_eq_true hb3) (all1 (decide_eq_true (h6)) (all1 (decide_eq_true (h7)) (all1 (decide_eq_true hb3) (all1 (decide_eq_true hb3) (all1 (decide_eq_true hb3) (all1 (decide_eq_true hb3) (all1 (decide_eq_true hb3) (all1 (decide_eq_true (h13)) (all1 (decide_eq_true (h14)) (all1 (decide_eq_true hb3) (all1 (decide_eq_true hb3) (all1 (decide_eq_true hb3) (all1 (decide_eq_true hb3) (all1 (decide_eq_true hb20) (all0))))))))))))))))))))) (allc1 (h18 B W0 hT) (allc0))) (h B W0 hT w S β)
  · replace h := h.2 (of_decide_eq_false hb0)
    rw [h]
    exact ends_of_exec (C := f152_C a0 a1 a2 B W0 w S β) run8_ok mixed (f152_e6 a0 a1 a2 x1_0 x1_1) (all1 (decide_eq_true hb0) (all0)) (allc0)

/-! ### loop.example/g01094/spec.l01Less -/
theorem f151_e1 (a0 : List Int) (a1 : List Int)  : execN Tryd.prog run8 1000 [.stop [] [0, 1, 5] []] ⟨[.code (bodyOf Tryd.f151)], startSt Tryd.f151 [.val (.slice (.int .i64)) a0, .val (.slice (.int .i64)) a1] []⟩ = some ⟨⟨focus Tryd.f151 [.r, .l, .r, .b, .h], f151_s1 a0 a1 0⟩, [], []⟩ := by kernel_rfl
theorem f151_go (a0 : List Int) (a1 : List Int) (r : f151_R) (h : f151_L1 a0 a1 0 r) : f151_H a0 a1 r := by
  intro B W0 hT
  refine holds_of_ends enters Tryd.func151 rfl (by kernel_rfl) fun w S β => ?_
  show Ends (f151_C a0 a1 B W0 w S β) Tryd.f151 _ _ _
  exact Ends.of_reach (exec_ok (C := f151_C a0 a1 B W0 w S β) run8_ok mixed (f151_e1 a0 a1) (all0) (allc0)) (h B W0 hT w S β)
theorem f151_e2 (a0 : List Int) (a1 : List Int) (x1_0 : Int) : execEnd Tryd.prog run8 1000 [.go, .reg 2 [(5, true), (6, true), (7, true), (8, true)] [], .cond true, .cond true] ⟨focus Tryd.f151 [.r, .l, .r, .b, .h], f151_s1 a0 a1 x1_0⟩ Tryd.f151 = some ⟨.val .bool (decide (List.getD a0 x1_0.toNat 0 < List.getD a1 x1_0.toNat 0)), [], [decide ((decide (x1_0 < (a0.length : Int))) = true), decide ((decide (x1_0 < (a0.length : Int))) = true), decide ((decide (x1_0 < (a0.length : Int))) = true), decide ((decide (x1_0 < (a0.length : Int))) = true), decide ((if (decide (x1_0 < (a0.length : Int))) = true then (decide (x1_0 < (a1.length : Int))) else false) = true), decide (0 ≤ x1_0), decide (x1_0 < (a0.length : Int)), decide (0 ≤ x1_0), decide (x1_0 < (a1.length : Int)), decide (((List.getD a0 x1_0.toNat 0) != (List.getD a1 x1_0.toNat 0)) = true), decide (0 ≤ x1_0), decide (x1_0 < (a0.length : Int)), decide (0 ≤ x1_0), decide (x1_0 < (a1.length : Int))], []⟩ := by kernel_rfl
theorem f151_e3 (a0 : List Int) (a1 : List Int) (x1_0 : Int) : execN Tryd.prog run8 1000 [.go, .reg 2 [(5, true), (6, true), (7, true), (8, true)] [], .cond true, .cond false, .stop [] [0, 1, 5] []] ⟨focus Tryd.f151 [.r, .l, .r, .b, .h], f151_s1 a0 a1 x1_0⟩ = some ⟨⟨focus Tryd.f151 [.r, .l, .r, .b, .h], f151_s1 a0 a1 (IntKind.i64.wrap (x1_0 + 1))⟩, [decide ((decide (x1_0 < (a0.length : Int))) = true), decide ((decide (x1_0 < (a0.length : Int))) = true), decide ((decide (x1_0 < (a0.length : Int))) = true), decide ((decide (x1_0 < (a0.length : Int))) = true), decide ((if (decide (x1_0 < (a0.length : Int))) = true then (decide (x1_0 < (a1.length : Int))) else false) = true), decide (0 ≤ x1_0), decide (x1_0 < (a0.length : Int)), decide (0 ≤ x1_0), decide (x1_0 < (a1.length : Int)), decide (((List.getD a0 x1_0.toNat 0) != (List.getD a1 x1_0.toNat 0)) = false)], []⟩ := by kernel_rfl
theorem f151_e4 (a0 : List Int) (a1 : List Int) (x1_0 : Int) : execEnd Tryd.prog run8 1000 [.go, .reg 2 [(5, true), (6, true), (7, true), (8, true)] [], .cond false] ⟨focus Tryd.f151 [.r, .l, .r, .b, .h], f151_s1 a0 a1 x1_0⟩ Tryd.f151 = some ⟨.val .bool (decide ((a0.length : Int) < (a1.length : Int))), [], [decide ((decide (x1_0 < (a0.length : Int))) = true), decide ((decide (x1_0 < (a0.length : Int))) = true), decide ((decide (x1_0 < (a0.length : Int))) = true), decide ((decide (x1_0 < (a0.length : Int))) = true), decide ((if (decide (x1_0 < (a0.length : Int))) = true then (decide (x1_0 < (a1.length : Int))) else false) = false)], []⟩ := by kernel_rfl
theorem f151_e5 (a0 : List Int) (a1 : List Int) (x1_0 : Int) : execEnd Tryd.prog run8 1000 [.go, .reg 2 [(5, false), (6, false), (7, false), (8, false), (9, false)] []] ⟨focus Tryd.f151 [.r, .l, .r, .b, .h], f151_s1 a0 a1 x1_0⟩ Tryd.f151 = some ⟨.val .bool (decide ((a0.length : Int) < (a1.length : Int))), [], [decide ((decide (x1_0 < (a0.length : Int))) = false), decide ((decide (x1_0 < (a0.length : Int))) = false), decide ((decide (x1_0 < (a0.length : Int))) = false), decide ((decide (x1_0 < (a0.length : Int))) = false), decide ((decide (x1_0 < (a0.length : Int))) = false)], []⟩ := by kernel_rfl
theorem f151_at1 (a0 : List Int) (a1 : List Int) (x1_0 : Int) (r : f151_R) (h : ((x1_0 < (a0.length : Int) → ((x1_0 < (a1.length : Int) → (0 ≤ x1_0) ∧ (x1_0 < (a0.length : Int)) ∧ (x1_0 < (a1.length : Int)) ∧ ((¬((List.getD a0 x1_0.toNat 0) = (List.getD a1 x1_0.toNat 0)) → r = (decide (List.getD a0 x1_0.toNat 0 < List.getD a1 x1_0.toNat 0))) ∧ ((List.getD a0 x1_0.toNat 0) = (List.getD a1 x1_0.toNat 0) → f151_L1 a0 a1 (IntKind.i64.wrap (x1_0 + 1)) r))) ∧ (¬(x1_0 < (a1.length : Int)) → r = (decide ((a0.length : Int) < (a1.length : Int)))))) ∧ (¬(x1_0 < (a0.length : Int)) → r = (decide ((a0.length : Int) < (a1.length : Int)))))) : f151_L1 a0 a1 x1_0 r := by
  intro B W0 hT w S β
  rcases bcase (decide (x1_0 < (a0.length : Int))) with hb0 | hb0
  · replace h := h.1 (of_decide_eq_true hb0)
    rcases bcase (if (decide (x1_0 < (a0.length : Int))) = true then (decide (x1_0 < (a1.length : Int))) else false) with hb4 | hb4
    · have hs4 : (decide (x1_0 < (a1.length : Int))) = true := by simpa only [hb0, if_true, if_false, Bool.false_eq_true, Bool.not_true, Bool.not_false, Bool.not_not] using hb4
      replace h := h.1 (of_decide_eq_true hs4)
      obtain ⟨h6, h⟩ := h
      obtain ⟨h7, h⟩ := h
      obtain ⟨h9, h⟩ := h
      rcases bcase ((List.getD a0 x1_0.toNat 0) != (List.getD a1 x1_0.toNat 0)) with hb10 | hb10
      · replace h := h.1 (by simpa using hb10)
        rw [h]
        exact ends_of_exec (C := f151_C a0 a1 B W0 w S β) run8_ok mixed (f151_e2 a0 a1 x1_0) (all1 (decide_eq_true hb0) (all1 (decide_eq_true hb0) (all1 (decide_eq_true hb0) (all1 (decide_eq_true hb0) (all1 (decide_eq_true hb4) (all1 (decide_eq_true (h6)) (all1 (decide_eq_true (h7)) (all1 (decide_eq_true (h6)) (all1 (decide_eq_true (h9)) (all1 (decide_eq_true hb10) (all1 (decide_eq_true (h6)) (all1 (decide_eq_true (h7)) (all1 (decide_eq_true (h6)) (all1 (decide_eq_true (h9)) (all0))))))))))))))) (allc0)
      · replace h := h.2 (by simpa using hb10)
        exact Ends.of_reach (exec_ok (C := f151_C a0 a1 B W0 w S β) run8_ok mixed (f151_e3 a0 a1 x1_0) (all1 (decide_eq_true hb0) (all1 (decide_eq_true hb0) (all1 (decide_eq_true hb0) (all1 (decide_eq_true hb0) (all1 (decide_eq_true hb4) (all1 (decide_eq_true (h6)) (all1 (decide_eq_true (h7)) (all1 (decide_eq_true (h6)) (all1 (decide_eq_true (h9)) (all1 (decide_eq_true hb10) (all0))))))))))) (allc0)) (h B W0 hT w S β)
    · have hs4 : (decide (x1_0 < (a1.length : Int))) = false := by simpa only [hb0, if_true, if_false, Bool.false_eq_true, Bool.not_true, Bool.not_false, Bool.not_not] using hb4
      replace h := h.2 (of_decide_eq_false hs4)
      rw [h]
      exact ends_of_exec (C := f151_C a0 a1 B W0 w S β) run8_ok mixed (f151_e4 a0 a1 x1_0) (all1 (decide_eq_true hb0) (all1 (decide_eq_true hb0) (all1 (decide_eq_true hb0) (all1 (decide_eq_true hb0) (all1 (decide_eq_true hb4) (all0)))))) (allc0)
  · replace h := h.2 (of_decide_eq_false hb0)
    rw [h]
    exact ends_of_exec (C := f151_C a0 a1 B W0 w S β) run8_ok mixed (f151_e5 a0 a1 x1_0) (all1 (decide_eq_true hb0) (all1 (decide_eq_true hb0) (all1 (decide_eq_true hb0) (all1 (decide_eq_true hb0) (all1 (decide_eq_true hb0) (all0)))))) (allc0)

end Go.Proofs.YtcbeifkfllcjoaaDoor
