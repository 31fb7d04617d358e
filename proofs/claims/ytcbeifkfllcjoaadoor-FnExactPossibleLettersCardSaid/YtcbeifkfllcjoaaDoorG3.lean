/-
  The rules of the calls and loops (printed by emitlaw.py).
-/
import Derived.Test.YtcbeifkfllcjoaaDoorG0
set_option linter.unusedVariables false
set_option linter.unusedSimpArgs false
set_option linter.unnecessarySimpa false
set_option maxRecDepth 100000
namespace Go.Proofs.YtcbeifkfllcjoaaDoor

/-! ### loop.example/g01094/spec.l01Same -/
theorem f92_e1 (a0 : List Int) (a1 : List Int)  : execEnd Tryd.prog run8 1000 [.cond true] ⟨[.code (bodyOf Tryd.f92)], startSt Tryd.f92 [.val (.slice (.int .i64)) a0, .val (.slice (.int .i64)) a1] []⟩ Tryd.f92 = some ⟨.val .bool false, [], [decide (((a0.length : Int) != (a1.length : Int)) = true)], []⟩ := by kernel_rfl
theorem f92_e2 (a0 : List Int) (a1 : List Int)  : execN Tryd.prog run8 1000 [.cond false, .stop [] [0, 1, 5] []] ⟨[.code (bodyOf Tryd.f92)], startSt Tryd.f92 [.val (.slice (.int .i64)) a0, .val (.slice (.int .i64)) a1] []⟩ = some ⟨⟨focus Tryd.f92 [.r, .r, .l, .r, .b, .h], f92_s1 a0 a1 0⟩, [decide (((a0.length : Int) != (a1.length : Int)) = false)], []⟩ := by kernel_rfl
theorem f92_go (a0 : List Int) (a1 : List Int) (r : f92_R) (h : ((¬((a0.length : Int) = (a1.length : Int)) → r = false) ∧ ((a0.length : Int) = (a1.length : Int) → f92_L1 a0 a1 0 r))) : f92_H a0 a1 r := by
  intro B W0 hT
  refine holds_of_ends enters Tryd.func92 rfl (by kernel_rfl) fun w S β => ?_
  show Ends (f92_C a0 a1 B W0 w S β) Tryd.f92 _ _ _
  rcases bcase ((a0.length : Int) != (a1.length : Int)) with hb0 | hb0
  · replace h := h.1 (by simpa using hb0)
    rw [h]
    exact ends_of_exec (C := f92_C a0 a1 B W0 w S β) run8_ok mixed (f92_e1 a0 a1) (all1 (decide_eq_true hb0) (all0)) (allc0)
  · replace h := h.2 (by simpa using hb0)
    exact Ends.of_reach (exec_ok (C := f92_C a0 a1 B W0 w S β) run8_ok mixed (f92_e2 a0 a1) (all1 (decide_eq_true hb0) (all0)) (allc0)) (h B W0 hT w S β)
theorem f92_e3 (a0 : List Int) (a1 : List Int) (x1_0 : Int) : execEnd Tryd.prog run8 1000 [.go, .cond true, .cond true] ⟨focus Tryd.f92 [.r, .r, .l, .r, .b, .h], f92_s1 a0 a1 x1_0⟩ Tryd.f92 = some ⟨.val .bool false, [], [decide ((decide (x1_0 < (a0.length : Int))) = true), decide (0 ≤ x1_0), decide (x1_0 < (a0.length : Int)), decide (0 ≤ x1_0), decide (x1_0 < (a1.length : Int)), decide (((List.getD a0 x1_0.toNat 0) != (List.getD a1 x1_0.toNat 0)) = true)], []⟩ := by kernel_rfl
theorem f92_e4 (a0 : List Int) (a1 : List Int) (x1_0 : Int) : execN Tryd.prog run8 1000 [.go, .cond true, .cond false, .stop [] [0, 1, 5] []] ⟨focus Tryd.f92 [.r, .r, .l, .r, .b, .h], f92_s1 a0 a1 x1_0⟩ = some ⟨⟨focus Tryd.f92 [.r, .r, .l, .r, .b, .h], f92_s1 a0 a1 (IntKind.i64.wrap (x1_0 + 1))⟩, [decide ((decide (x1_0 < (a0.length : Int))) = true), decide (0 ≤ x1_0), decide (x1_0 < (a0.length : Int)), decide (0 ≤ x1_0), decide (x1_0 < (a1.length : Int)), decide (((List.getD a0 x1_0.toNat 0) != (List.getD a1 x1_0.toNat 0)) = false)], []⟩ := by kernel_rfl
theorem f92_e5 (a0 : List Int) (a1 : List Int) (x1_0 : Int) : execEnd Tryd.prog run8 1000 [.go, .cond false] ⟨focus Tryd.f92 [.r, .r, .l, .r, .b, .h], f92_s1 a0 a1 x1_0⟩ Tryd.f92 = some ⟨.val .bool true, [], [decide ((decide (x1_0 < (a0.length : Int))) = false)], []⟩ := by kernel_rfl
theorem f92_at1 (a0 : List Int) (a1 : List Int) (x1_0 : Int) (r : f92_R) (h : ((x1_0 < (a0.length : Int) → (0 ≤ x1_0) ∧ (x1_0 < (a0.length : Int)) ∧ (x1_0 < (a1.length : Int)) ∧ ((¬((List.getD a0 x1_0.toNat 0) = (List.getD a1 x1_0.toNat 0)) → r = false) ∧ ((List.getD a0 x1_0.toNat 0) = (List.getD a1 x1_0.toNat 0) → f92_L1 a0 a1 (IntKind.i64.wrap (x1_0 + 1)) r))) ∧ (¬(x1_0 < (a0.length : Int)) → r = true))) : f92_L1 a0 a1 x1_0 r := by
  intro B W0 hT w S β
  rcases bcase (decide (x1_0 < (a0.length : Int))) with hb0 | hb0
  · replace h := h.1 (of_decide_eq_true hb0)
    obtain ⟨h1, h⟩ := h
    obtain ⟨h2, h⟩ := h
    obtain ⟨h4, h⟩ := h
    rcases bcase ((List.getD a0 x1_0.toNat 0) != (List.getD a1 x1_0.toNat 0)) with hb5 | hb5
    · replace h := h.1 (by simpa using hb5)
      rw [h]
      exact ends_of_exec (C := f92_C a0 a1 B W0 w S β) run8_ok mixed (f92_e3 a0 a1 x1_0) (all1 (decide_eq_true hb0) (all1 (decide_eq_true (h1)) (all1 (decide_eq_true (h2)) (all1 (decide_eq_true (h1)) (all1 (decide_eq_true (h4)) (all1 (decide_eq_true hb5) (all0))))))) (allc0)
    · replace h := h.2 (by simpa using hb5)
      exact Ends.of_reach (exec_ok (C := f92_C a0 a1 B W0 w S β) run8_ok mixed (f92_e4 a0 a1 x1_0) (all1 (decide_eq_true hb0) (all1 (decide_eq_true (h1)) (all1 (decide_eq_true (h2)) (all1 (decide_eq_true (h1)) (all1 (decide_eq_true (h4)) (all1 (decide_eq_true hb5) (all0))))))) (allc0)) (h B W0 hT w S β)
  · replace h := h.2 (of_decide_eq_false hb0)
    rw [h]
    exact ends_of_exec (C := f92_C a0 a1 B W0 w S β) run8_ok mixed (f92_e5 a0 a1 x1_0) (all1 (decide_eq_true hb0) (all0)) (allc0)

/-! ### loop.example/g01094/spec.l14Step -/
theorem f153_e1 (a0 : S25) (a1 : List Int) (a2 : Int)  (r1 : f228_R) : execN Tryd.prog run8 1000 [.reg 1 [] [(6, .con [] (.ref 0) [(0, .arr 2 (.int .i64) r1 false)] false true)], .stop [] [1, 2, 3, 8, 9] [(0, 0), (144, 1)]] ⟨[.code (bodyOf Tryd.f153)], startSt Tryd.f153 [.val t25 a0, .val (.slice (.int .i64)) a1, .val (.int .i64) a2] []⟩ = some ⟨⟨focus Tryd.f153 [.r, .r, .l, .r, .b, .h], f153_s1 a0 a1 a2 0 r1⟩, [decide (0 ≤ a2), decide (a2 < (a0.1.length : Int))], [⟨228, [.val (.slice (.int .i64)) a1, .val (.int .i64) (List.getD a0.1 a2.toNat 0)], [], .ref 0, [(0, .arr 2 (.int .i64) r1 false)]⟩]⟩ := by kernel_rfl
theorem f153_go (a0 : S25) (a1 : List Int) (a2 : Int) (r : f153_R) (h : (0 ≤ a2) ∧ (a2 < (a0.1.length : Int)) ∧ ∃ r1 : f228_R, f228_H a1 (List.getD a0.1 a2.toNat 0) r1 ∧ f153_L1 a0 a1 a2 0 r1 r) : f153_H a0 a1 a2 r := by
  intro B W0 hT
  refine holds_of_ends enters Tryd.func153 rfl (by kernel_rfl) fun w S β => ?_
  show Ends (f153_C a0 a1 a2 B W0 w S β) Tryd.f153 _ _ _
  obtain ⟨h0, h⟩ := h
  obtain ⟨h1, h⟩ := h
  obtain ⟨r1, h2, h⟩ := h
  exact Ends.of_reach (exec_ok (C := f153_C a0 a1 a2 B W0 w S β) run8_ok mixed (f153_e1 a0 a1 a2 r1) (all1 (decide_eq_true (h0)) (all1 (decide_eq_true (h1)) (all0))) (allc1 (h2 B W0 hT) (allc0))) (h B W0 hT w S β)
theorem f153_e2 (a0 : S25) (a1 : List Int) (a2 : Int) (x1_0 : Int) (x1_1 : List Int) : execN Tryd.prog run8 1000 [.go, .cond true, .reg 5 [(9, true), (10, true), (11, true), (12, true), (13, true), (14, true), (15, true), (16, true), (17, true), (18, true)] [], .stop [] [1, 2, 3, 8, 9] [(0, 0), (1, 1)]] ⟨focus Tryd.f153 [.r, .r, .l, .r, .b, .h], f153_s1 a0 a1 a2 x1_0 x1_1⟩ = some ⟨⟨focus Tryd.f153 [.r, .r, .l, .r, .b, .h], f153_s1 a0 a1 a2 (IntKind.i64.wrap (x1_0 + 1)) x1_1⟩, [decide ((decide (x1_0 < (a0.2.2.2.1.length : Int))) = true), decide (0 ≤ x1_0), decide (x1_0 < (a0.2.2.2.1.length : Int)), decide ((((List.getD a0.2.2.2.1 x1_0.toNat (0, ([], ([], ())))).1) != a2) = true), decide ((((List.getD a0.2.2.2.1 x1_0.toNat (0, ([], ([], ())))).1) != a2) = true), decide ((((List.getD a0.2.2.2.1 x1_0.toNat (0, ([], ([], ())))).1) != a2) = true), decide ((((List.getD a0.2.2.2.1 x1_0.toNat (0, ([], ([], ())))).1) != a2) = true), decide ((((List.getD a0.2.2.2.1 x1_0.toNat (0, ([], ([], ())))).1) != a2) = true), decide ((((List.getD a0.2.2.2.1 x1_0.toNat (0, ([], ([], ())))).1) != a2) = true), decide ((((List.getD a0.2.2.2.1 x1_0.toNat (0, ([], ([], ())))).1) != a2) = true), decide ((((List.getD a0.2.2.2.1 x1_0.toNat (0, ([], ([], ())))).1) != a2) = true), decide ((((List.getD a0.2.2.2.1 x1_0.toNat (0, ([], ([], ())))).1) != a2) = true), decide ((((List.getD a0.2.2.2.1 x1_0.toNat (0, ([], ([], ())))).1) != a2) = true)], []⟩ := by kernel_rfl
theorem f153_e3 (a0 : S25) (a1 : List Int) (a2 : Int) (x1_0 : Int) (x1_1 : List Int) (r1 : f92_R) : execN Tryd.prog run8 1000 [.go, .cond true, .reg 5 [(9, false), (10, false), (11, false), (12, false), (13, false), (14, false), (15, false), (16, false), (17, false)] [(16, .con [] (.val .bool r1) [] false true)], .cond true, .stop [] [1, 2, 3, 8, 9] [(0, 0), (1, 1)]] ⟨focus Tryd.f153 [.r, .r, .l, .r, .b, .h], f153_s1 a0 a1 a2 x1_0 x1_1⟩ = some ⟨⟨focus Tryd.f153 [.r, .r, .l, .r, .b, .h], f153_s1 a0 a1 a2 (IntKind.i64.wrap (x1_0 + 1)) x1_1⟩, [decide ((decide (x1_0 < (a0.2.2.2.1.length : Int))) = true), decide (0 ≤ x1_0), decide (x1_0 < (a0.2.2.2.1.length : Int)), decide ((((List.getD a0.2.2.2.1 x1_0.toNat (0, ([], ([], ())))).1) != a2) = false), decide ((((List.getD a0.2.2.2.1 x1_0.toNat (0, ([], ([], ())))).1) != a2) = false), decide ((((List.getD a0.2.2.2.1 x1_0.toNat (0, ([], ([], ())))).1) != a2) = false), decide ((((List.getD a0.2.2.2.1 x1_0.toNat (0, ([], ([], ())))).1) != a2) = false), decide (0 ≤ x1_0), decide (x1_0 < (a0.2.2.2.1.length : Int)), decide ((((List.getD a0.2.2.2.1 x1_0.toNat (0, ([], ([], ())))).1) != a2) = false), decide ((((List.getD a0.2.2.2.1 x1_0.toNat (0, ([], ([], ())))).1) != a2) = false), decide ((((List.getD a0.2.2.2.1 x1_0.toNat (0, ([], ([], ())))).1) != a2) = false), decide ((((List.getD a0.2.2.2.1 x1_0.toNat (0, ([], ([], ())))).1) != a2) = false), decide ((((List.getD a0.2.2.2.1 x1_0.toNat (0, ([], ([], ())))).1) != a2) = false), decide ((if (((List.getD a0.2.2.2.1 x1_0.toNat (0, ([], ([], ())))).1) != a2) = true then true else (!r1)) = true)], [⟨92, [.val (.slice (.int .i64)) (((List.getD a0.2.2.2.1 x1_0.toNat (0, ([], ([], ())))).2).1), .val (.slice (.int .i64)) x1_1], [], .val .bool r1, []⟩]⟩ := by kernel_rfl
theorem f153_e4 (a0 : S25) (a1 : List Int) (a2 : Int) (x1_0 : Int) (x1_1 : List Int) (r1 : f92_R) : execN Tryd.prog run8 1000 [.go, .cond true, .reg 5 [(9, false), (10, false), (11, false), (12, false), (13, false), (14, false), (15, false), (16, false), (17, false)] [(16, .con [] (.val .bool r1) [] false true)], .cond false, .stop [] [1, 2, 3, 9, 10, 11, 12] [(0, 0), (402, 1)]] ⟨focus Tryd.f153 [.r, .r, .l, .r, .b, .h], f153_s1 a0 a1 a2 x1_0 x1_1⟩ = some ⟨⟨focus Tryd.f153 [.r, .r, .l, .r, .b, .b, .r, .l, .b, .r, .r, .r, .l, .r, .b, .h], f153_s2 a0 a1 a2 x1_0 0 0 (([] : List Int) ++ a1)⟩, [decide ((decide (x1_0 < (a0.2.2.2.1.length : Int))) = true), decide (0 ≤ x1_0), decide (x1_0 < (a0.2.2.2.1.length : Int)), decide ((((List.getD a0.2.2.2.1 x1_0.toNat (0, ([], ([], ())))).1) != a2) = false), decide ((((List.getD a0.2.2.2.1 x1_0.toNat (0, ([], ([], ())))).1) != a2) = false), decide ((((List.getD a0.2.2.2.1 x1_0.toNat (0, ([], ([], ())))).1) != a2) = false), decide ((((List.getD a0.2.2.2.1 x1_0.toNat (0, ([], ([], ())))).1) != a2) = false), decide (0 ≤ x1_0), decide (x1_0 < (a0.2.2.2.1.length : Int)), decide ((((List.getD a0.2.2.2.1 x1_0.toNat (0, ([], ([], ())))).1) != a2) = false), decide ((((List.getD a0.2.2.2.1 x1_0.toNat (0, ([], ([], ())))).1) != a2) = false), decide ((((List.getD a0.2.2.2.1 x1_0.toNat (0, ([], ([], ())))).1) != a2) = false), decide ((((List.getD a0.2.2.2.1 x1_0.toNat (0, ([], ([], ())))).1) != a2) = false), decide ((((List.getD a0.2.2.2.1 x1_0.toNat (0, ([], ([], ())))).1) != a2) = false), decide ((if (((List.getD a0.2.2.2.1 x1_0.toNat (0, ([], ([], ())))).1) != a2) = true then true else (!r1)) = false), decide ((([] : List Int).length + a1.length) * 8 ≤ 140737488355328)], [⟨92, [.val (.slice (.int .i64)) (((List.getD a0.2.2.2.1 x1_0.toNat (0, ([], ([], ())))).2).1), .val (.slice (.int .i64)) x1_1], [], .val .bool r1, []⟩]⟩ := by kernel_rfl
theorem f153_e5 (a0 : S25) (a1 : List Int) (a2 : Int) (x1_0 : Int) (x1_1 : List Int) : execEnd Tryd.prog run8 1000 [.go, .cond false, .fin [.nil 6 2 (.int .i64)]] ⟨focus Tryd.f153 [.r, .r, .l, .r, .b, .h], f153_s1 a0 a1 a2 x1_0 x1_1⟩ Tryd.f153 = some ⟨.tup [.ref 0, .val .bool false], [(0, .arr 2 (.int .i64) ([] : List Int) false)], [decide ((decide (x1_0 < (a0.2.2.2.1.length : Int))) = false)], []⟩ := by kernel_rfl
theorem f153_at1 (a0 : S25) (a1 : List Int) (a2 : Int) (x1_0 : Int) (x1_1 : List Int) (r : f153_R) (h : ((x1_0 < (a0.2.2.2.1.length : Int) → (0 ≤ x1_0) ∧ (x1_0 < (a0.2.2.2.1.length : Int)) ∧ ((¬(((List.getD a0.2.2.2.1 x1_0.toNat (0, ([], ([], ())))).1) = a2) → f153_L1 a0 a1 a2 (IntKind.i64.wrap (x1_0 + 1)) x1_1 r) ∧ (((List.getD a0.2.2.2.1 x1_0.toNat (0, ([], ([], ())))).1) = a2 → ∃ r1 : f92_R, f92_H (((List.getD a0.2.2.2.1 x1_0.toNat (0, ([], ([], ())))).2).1) x1_1 r1 ∧ ((r1 = false → f153_L1 a0 a1 a2 (IntKind.i64.wrap (x1_0 + 1)) x1_1 r) ∧ (r1 = true → ((([] : List Int).length + a1.length) * 8 ≤ 140737488355328) ∧ f153_L2 a0 a1 a2 x1_0 0 0 (([] : List Int) ++ a1) r))))) ∧ (¬(x1_0 < (a0.2.2.2.1.length : Int)) → r = (false, ([] : List Int))))) : f153_L1 a0 a1 a2 x1_0 x1_1 r := by
  intro B W0 hT w S β
  rcases bcase (decide (x1_0 < (a0.2.2.2.1.length : Int))) with hb0 | hb0
  · replace h := h.1 (of_decide_eq_true hb0)
    obtain ⟨h1, h⟩ := h
    obtain ⟨h2, h⟩ := h
    rcases bcase (((List.getD a0.2.2.2.1 x1_0.toNat (0, ([], ([], ())))).1) != a2) with hb3 | hb3
    · replace h := h.1 (by simpa using hb3)
      exact Ends.of_reach (exec_ok (C := f153_C a0 a1 a2 B W0 w S β) run8_ok mixed (f153_e2 a0 a1 a2 x1_0 x1_1) (all1 (decide_eq_true hb0) (all1 (decide_eq_true (h1)) (all1 (decide_eq_true (h2)) (all1 (decide_eq_true hb3) (all1 (decide_eq_true hb3) (all1 (decide_eq_true hb3) (all1 (decide_eq_true hb3) (all1 (decide_eq_true hb3) (all1 (decide_eq_true hb3) (all1 (decide_eq_true hb3) (all1 (decide_eq_true hb3) (all1 (decide_eq_true hb3) (all1 (decide_eq_true hb3) (all0)))))))))))))) (allc0)) (h B W0 hT w S β)
    · replace h := h.2 (by simpa using hb3)
      obtain ⟨r1, h13, h⟩ := h
      rcases bcase (if (((List.getD a0.2.2.2.1 x1_0.toNat (0, ([], ([], ())))).1) != a2) = true then true else (!r1)) with hb15 | hb15
      · have hs15 : (!r1) = true := by simpa only [hb0, hb3, if_true, if_false, Bool.false_eq_true, Bool.not_true, Bool.not_false, Bool.not_not] using hb15
        replace h := h.1 (by simpa using hs15)
        exact Ends.of_reach (exec_ok (C := f153_C a0 a1 a2 B W0 w S β) run8_ok mixed (f153_e3 a0 a1 a2 x1_0 x1_1 r1) (all1 (decide_eq_true hb0) (all1 (decide_eq_true (h1)) (all1 (decide_eq_true (h2)) (all1 (decide_eq_true hb3) (all1 (decide_eq_true hb3) (all1 (decide_eq_true hb3) (all1 (decide_eq_true hb3) (all1 (decide_eq_true (h1)) (all1 (decide_eq_true (h2)) (all1 (decide_eq_true hb3) (all1 (decide_eq_true hb3) (all1 (decide_eq_true hb3) (all1 (decide_eq_true hb3) (all1 (decide_eq_true hb3) (all1 (decide_eq_true hb15) (all0)))))))))))))))) (allc1 (h13 B W0 hT) (allc0))) (h B W0 hT w S β)
      · have hs15 : (!r1) = false := by simpa only [hb0, hb3, if_true, if_false, Bool.false_eq_true, Bool.not_true, Bool.not_false, Bool.not_not] using hb15
        replace h := h.2 (by simpa using hs15)
        obtain ⟨h17, h⟩ := h
        exact Ends.of_reach (exec_ok (C := f153_C a0 a1 a2 B W0 w S β) run8_ok mixed (f153_e4 a0 a1 a2 x1_0 x1_1 r1) (all1 (decide_eq_true hb0) (all1 (decide_eq_true (h1)) (all1 (decide_eq_true (h2)) (all1 (decide_eq_true hb3) (all1 (decide_eq_true hb3) (all1 (decide_eq_true hb3) (all1 (decide_eq_true hb3) (all1 (decide_eq_true (h1)) (all1 (decide_eq_true (h2)) (all1 (decide_eq_true hb3) (all1 (decide_eq_true hb3) (all1 (decide_eq_true hb3) (all1 (decide_eq_true hb3) (all1 (decide_eq_true hb3) (all1 (decide_eq_true hb15) (all1 (decide_eq_true (h17)) (all0))))))))))))))))) (allc1 (h13 B W0 hT) (allc0))) (h B W0 hT w S β)
  · replace h := h.2 (of_decide_eq_false hb0)
    rw [h]
    exact ends_of_exec (C := f153_C a0 a1 a2 B W0 w S β) run8_ok mixed (f153_e5 a0 a1 a2 x1_0 x1_1) (all1 (decide_eq_true hb0) (all0)) (allc0)
theorem f153_e6 (a0 : S25) (a1 : List Int) (a2 : Int) (x2_0 : Int) (x2_1 : Int) (x2_2 : Int) (x2_3 : List Int) : execN Tryd.prog run8 1000 [.go, .cond true, .cond true, .stop [] [1, 2, 3, 9, 10, 11, 12] [(0, 0), (1, 1)]] ⟨focus Tryd.f153 [.r, .r, .l, .r, .b, .b, .r, .l, .b, .r, .r, .r, .l, .r, .b, .h], f153_s2 a0 a1 a2 x2_0 x2_1 x2_2 x2_3⟩ = some ⟨⟨focus Tryd.f153 [.r, .r, .l, .r, .b, .b, .r, .l, .b, .r, .r, .r, .l, .r, .b, .h], f153_s2 a0 a1 a2 x2_0 (IntKind.i64.wrap (x2_1 + 1)) (IntKind.i64.wrap (x2_2 + 1)) (List.set x2_3 x2_2.toNat (List.getD ((((List.getD a0.2.2.2.1 x2_0.toNat (0, ([], ([], ())))).2).2).1) x2_1.toNat 0))⟩, [decide ((decide (x2_2 < (a1.length : Int))) = true), decide (0 ≤ a2), decide (a2 < (a0.1.length : Int)), decide (0 ≤ IntKind.u64.wrap x2_2), decide (((bitsK .and .i64 (Int.fdiv (List.getD a0.1 a2.toNat 0) (2 ^ (min (IntKind.u64.wrap x2_2).toNat 64))) 1) == 1) = true), decide (0 ≤ x2_0), decide (x2_0 < (a0.2.2.2.1.length : Int)), decide (0 ≤ x2_1), decide (x2_1 < (((((List.getD a0.2.2.2.1 x2_0.toNat (0, ([], ([], ())))).2).2).1).length : Int)), decide (0 ≤ x2_2), decide (x2_2 < (x2_3.length : Int)), decide (x2_2.toNat < x2_3.length)], []⟩ := by kernel_rfl
theorem f153_e7 (a0 : S25) (a1 : List Int) (a2 : Int) (x2_0 : Int) (x2_1 : Int) (x2_2 : Int) (x2_3 : List Int) : execN Tryd.prog run8 1000 [.go, .cond true, .cond false, .stop [] [1, 2, 3, 9, 10, 11, 12] [(0, 0), (1, 1)]] ⟨focus Tryd.f153 [.r, .r, .l, .r, .b, .b, .r, .l, .b, .r, .r, .r, .l, .r, .b, .h], f153_s2 a0 a1 a2 x2_0 x2_1 x2_2 x2_3⟩ = some ⟨⟨focus Tryd.f153 [.r, .r, .l, .r, .b, .b, .r, .l, .b, .r, .r, .r, .l, .r, .b, .h], f153_s2 a0 a1 a2 x2_0 x2_1 (IntKind.i64.wrap (x2_2 + 1)) x2_3⟩, [decide ((decide (x2_2 < (a1.length : Int))) = true), decide (0 ≤ a2), decide (a2 < (a0.1.length : Int)), decide (0 ≤ IntKind.u64.wrap x2_2), decide (((bitsK .and .i64 (Int.fdiv (List.getD a0.1 a2.toNat 0) (2 ^ (min (IntKind.u64.wrap x2_2).toNat 64))) 1) == 1) = false)], []⟩ := by kernel_rfl
theorem f153_e8 (a0 : S25) (a1 : List Int) (a2 : Int) (x2_0 : Int) (x2_1 : Int) (x2_2 : Int) (x2_3 : List Int) : execEnd Tryd.prog run8 1000 [.go, .cond false] ⟨focus Tryd.f153 [.r, .r, .l, .r, .b, .b, .r, .l, .b, .r, .r, .r, .l, .r, .b, .h], f153_s2 a0 a1 a2 x2_0 x2_1 x2_2 x2_3⟩ Tryd.f153 = some ⟨.tup [.ref 0, .val .bool true], [(0, .arr 2 (.int .i64) x2_3 false)], [decide ((decide (x2_2 < (a1.length : Int))) = false)], []⟩ := by kernel_rfl
theorem f153_at2 (a0 : S25) (a1 : List Int) (a2 : Int) (x2_0 : Int) (x2_1 : Int) (x2_2 : Int) (x2_3 : List Int) (r : f153_R) (h : ((x2_2 < (a1.length : Int) → (0 ≤ a2) ∧ (a2 < (a0.1.length : Int)) ∧ (0 ≤ IntKind.u64.wrap x2_2) ∧ (((bitsK .and .i64 (Int.fdiv (List.getD a0.1 a2.toNat 0) (2 ^ (min (IntKind.u64.wrap x2_2).toNat 64))) 1) = 1 → (0 ≤ x2_0) ∧ (x2_0 < (a0.2.2.2.1.length : Int)) ∧ (0 ≤ x2_1) ∧ (x2_1 < (((((List.getD a0.2.2.2.1 x2_0.toNat (0, ([], ([], ())))).2).2).1).length : Int)) ∧ (0 ≤ x2_2) ∧ (x2_2 < (x2_3.length : Int)) ∧ (x2_2.toNat < x2_3.length) ∧ f153_L2 a0 a1 a2 x2_0 (IntKind.i64.wrap (x2_1 + 1)) (IntKind.i64.wrap (x2_2 + 1)) (List.set x2_3 x2_2.toNat (List.getD ((((List.getD a0.2.2.2.1 x2_0.toNat (0, ([], ([], ())))).2).2).1) x2_1.toNat 0)) r) ∧ (¬((bitsK .and .i64 (Int.fdiv (List.getD a0.1 a2.toNat 0) (2 ^ (min (IntKind.u64.wrap x2_2).toNat 64))) 1) = 1) → f153_L2 a0 a1 a2 x2_0 x2_1 (IntKind.i64.wrap (x2_2 + 1)) x2_3 r))) ∧ (¬(x2_2 < (a1.length : Int)) → r = (true, x2_3)))) : f153_L2 a0 a1 a2 x2_0 x2_1 x2_2 x2_3 r := by
  intro B W0 hT w S β
  rcases bcase (decide (x2_2 < (a1.length : Int))) with hb0 | hb0
  · replace h := h.1 (of_decide_eq_true hb0)
    obtain ⟨h1, h⟩ := h
    obtain ⟨h2, h⟩ := h
    obtain ⟨h3, h⟩ := h
    rcases bcase ((bitsK .and .i64 (Int.fdiv (List.getD a0.1 a2.toNat 0) (2 ^ (min (IntKind.u64.wrap x2_2).toNat 64))) 1) == 1) with hb4 | hb4
    · replace h := h.1 (by simpa using hb4)
      obtain ⟨h5, h⟩ := h
      obtain ⟨h6, h⟩ := h
      obtain ⟨h7, h⟩ := h
      obtain ⟨h8, h⟩ := h
      obtain ⟨h9, h⟩ := h
      obtain ⟨h10, h⟩ := h
      obtain ⟨h11, h⟩ := h
      exact Ends.of_reach (exec_ok (C := f153_C a0 a1 a2 B W0 w S β) run8_ok mixed (f153_e6 a0 a1 a2 x2_0 x2_1 x2_2 x2_3) (all1 (decide_eq_true hb0) (all1 (decide_eq_true (h1)) (all1 (decide_eq_true (h2)) (all1 (decide_eq_true (h3)) (all1 (decide_eq_true hb4) (all1 (decide_eq_true (h5)) (all1 (decide_eq_true (h6)) (all1 (decide_eq_true (h7)) (all1 (decide_eq_true (h8)) (all1 (decide_eq_true (h9)) (all1 (decide_eq_true (h10)) (all1 (decide_eq_true (h11)) (all0))))))))))))) (allc0)) (h B W0 hT w S β)
    · replace h := h.2 (by simpa using hb4)
      exact Ends.of_reach (exec_ok (C := f153_C a0 a1 a2 B W0 w S β) run8_ok mixed (f153_e7 a0 a1 a2 x2_0 x2_1 x2_2 x2_3) (all1 (decide_eq_true hb0) (all1 (decide_eq_true (h1)) (all1 (decide_eq_true (h2)) (all1 (decide_eq_true (h3)) (all1 (decide_eq_true hb4) (all0)))))) (allc0)) (h B W0 hT w S β)
  · replace h := h.2 (of_decide_eq_false hb0)
    rw [h]
    exact ends_of_exec (C := f153_C a0 a1 a2 B W0 w S β) run8_ok mixed (f153_e8 a0 a1 a2 x2_0 x2_1 x2_2 x2_3) (all1 (decide_eq_true hb0) (all0)) (allc0)

/-! ### loop.example/g01094/spec.l14Possible -/
theorem f74_e1 (a0 : S25) (a1 : List Int)  : execN Tryd.prog run8 1000 [.stop [] [1, 2, 5, 6] [(0, 0)]] ⟨[.code (bodyOf Tryd.f74)], startSt Tryd.f74 [.val t25 a0, .val (.slice (.int .i64)) a1] []⟩ = some ⟨⟨focus Tryd.f74 [.r, .r, .l, .r, .b, .h], f74_s1 a0 a1 0 0⟩, [], []⟩ := by kernel_rfl
theorem f74_go (a0 : S25) (a1 : List Int) (r : f74_R) (h : f74_L1 a0 a1 0 0 r) : f74_H a0 a1 r := by
  intro B W0 hT
  refine holds_of_ends enters Tryd.func74 rfl (by kernel_rfl) fun w S β => ?_
  show Ends (f74_C a0 a1 B W0 w S β) Tryd.f74 _ _ _
  exact Ends.of_reach (exec_ok (C := f74_C a0 a1 B W0 w S β) run8_ok mixed (f74_e1 a0 a1) (all0) (allc0)) (h B W0 hT w S β)
theorem f74_e2 (a0 : S25) (a1 : List Int) (x1_0 : Int) (x1_1 : Int) (r1 : f153_R) : execN Tryd.prog run8 1000 [.go, .cond true, .reg 5 [] [(3, .con [] (.tup [.ref 0, .val .bool r1.1]) [(0, .arr 2 (.int .i64) r1.2 false)] false true)], .cond true, .stop [] [1, 2, 5, 6] [(0, 0)]] ⟨focus Tryd.f74 [.r, .r, .l, .r, .b, .h], f74_s1 a0 a1 x1_0 x1_1⟩ = some ⟨⟨focus Tryd.f74 [.r, .r, .l, .r, .b, .h], f74_s1 a0 a1 (bitsK .or .i64 x1_0 (IntKind.i64.wrap (1 * 2 ^ (min (IntKind.u64.wrap x1_1).toNat 64)))) (IntKind.i64.wrap (x1_1 + 1))⟩, [decide ((decide (x1_1 < (a0.1.length : Int))) = true), decide (r1.1 = true), decide (0 ≤ IntKind.u64.wrap x1_1)], [⟨153, [.val t25 a0, .val (.slice (.int .i64)) a1, .val (.int .i64) x1_1], [], .tup [.ref 0, .val .bool r1.1], [(0, .arr 2 (.int .i64) r1.2 false)]⟩]⟩ := by kernel_rfl
theorem f74_e3 (a0 : S25) (a1 : List Int) (x1_0 : Int) (x1_1 : Int) (r1 : f153_R) : execN Tryd.prog run8 1000 [.go, .cond true, .reg 5 [] [(3, .con [] (.tup [.ref 0, .val .bool r1.1]) [(0, .arr 2 (.int .i64) r1.2 false)] false true)], .cond false, .stop [] [1, 2, 5, 6] [(0, 0)]] ⟨focus Tryd.f74 [.r, .r, .l, .r, .b, .h], f74_s1 a0 a1 x1_0 x1_1⟩ = some ⟨⟨focus Tryd.f74 [.r, .r, .l, .r, .b, .h], f74_s1 a0 a1 x1_0 (IntKind.i64.wrap (x1_1 + 1))⟩, [decide ((decide (x1_1 < (a0.1.length : Int))) = true), decide (r1.1 = false)], [⟨153, [.val t25 a0, .val (.slice (.int .i64)) a1, .val (.int .i64) x1_1], [], .tup [.ref 0, .val .bool r1.1], [(0, .arr 2 (.int .i64) r1.2 false)]⟩]⟩ := by kernel_rfl
theorem f74_e4 (a0 : S25) (a1 : List Int) (x1_0 : Int) (x1_1 : Int) : execEnd Tryd.prog run8 1000 [.go, .cond false] ⟨focus Tryd.f74 [.r, .r, .l, .r, .b, .h], f74_s1 a0 a1 x1_0 x1_1⟩ Tryd.f74 = some ⟨.val (.int .i64) x1_0, [], [decide ((decide (x1_1 < (a0.1.length : Int))) = false)], []⟩ := by kernel_rfl
theorem f74_at1 (a0 : S25) (a1 : List Int) (x1_0 : Int) (x1_1 : Int) (r : f74_R) (h : ((x1_1 < (a0.1.length : Int) → ∃ r1 : f153_R, f153_H a0 a1 x1_1 r1 ∧ ((r1.1 = true → (0 ≤ IntKind.u64.wrap x1_1) ∧ f74_L1 a0 a1 (bitsK .or .i64 x1_0 (IntKind.i64.wrap (1 * 2 ^ (min (IntKind.u64.wrap x1_1).toNat 64)))) (IntKind.i64.wrap (x1_1 + 1)) r) ∧ (r1.1 = false → f74_L1 a0 a1 x1_0 (IntKind.i64.wrap (x1_1 + 1)) r))) ∧ (¬(x1_1 < (a0.1.length : Int)) → r = x1_0))) : f74_L1 a0 a1 x1_0 x1_1 r := by
  intro B W0 hT w S β
  rcases bcase (decide (x1_1 < (a0.1.length : Int))) with hb0 | hb0
  · replace h := h.1 (of_decide_eq_true hb0)
    obtain ⟨r1, h1, h⟩ := h
    rcases bcase (r1.1) with hb2 | hb2
    · replace h := h.1 (hb2)
      obtain ⟨h3, h⟩ := h
      exact Ends.of_reach (exec_ok (C := f74_C a0 a1 B W0 w S β) run8_ok mixed (f74_e2 a0 a1 x1_0 x1_1 r1) (all1 (decide_eq_true hb0) (all1 (decide_eq_true hb2) (all1 (decide_eq_true (h3)) (all0)))) (allc1 (h1 B W0 hT) (allc0))) (h B W0 hT w S β)
    · replace h := h.2 (hb2)
      exact Ends.of_reach (exec_ok (C := f74_C a0 a1 B W0 w S β) run8_ok mixed (f74_e3 a0 a1 x1_0 x1_1 r1) (all1 (decide_eq_true hb0) (all1 (decide_eq_true hb2) (all0))) (allc1 (h1 B W0 hT) (allc0))) (h B W0 hT w S β)
  · replace h := h.2 (of_decide_eq_false hb0)
    rw [h]
    exact ends_of_exec (C := f74_C a0 a1 B W0 w S β) run8_ok mixed (f74_e4 a0 a1 x1_0 x1_1) (all1 (decide_eq_true hb0) (all0)) (allc0)

/-! ### loop.example/g01094/spec.PossibleLetters -/
theorem f15_e1 (a0 : S25) (a1 : List Int)  (r1 : f72_R) : execEnd Tryd.prog run8 1000 [.reg 1 [] [(1, .con [] (.val .bool r1) [] false true)], .cond true] ⟨[.code (bodyOf Tryd.f15)], startSt Tryd.f15 [.val t25 a0, .val (.slice (.int .i64)) a1] []⟩ Tryd.f15 = some ⟨.tup [.val (.int .i64) 0, .val (.int .i64) 1], [], [decide ((!r1) = true)], [⟨72, [.val t25 a0], [], .val .bool r1, []⟩]⟩ := by kernel_rfl
theorem f15_e2 (a0 : S25) (a1 : List Int)  (r1 : f72_R) (r2 : f152_R) : execEnd Tryd.prog run8 1000 [.reg 1 [] [(1, .con [] (.val .bool r1) [] false true)], .cond false, .reg 3 [] [(2, .inl [] true [.reg 1 [] [(6, .con [] (.val .bool r2) [] false true)]])], .cond true] ⟨[.code (bodyOf Tryd.f15)], startSt Tryd.f15 [.val t25 a0, .val (.slice (.int .i64)) a1] []⟩ Tryd.f15 = some ⟨.tup [.val (.int .i64) 0, .val (.int .i64) 2], [], [decide ((!r1) = false), decide (0 ≤ IntKind.u64.wrap (a0.2.1.length : Int)), decide ((!r2) = true)], [⟨72, [.val t25 a0], [], .val .bool r1, []⟩, ⟨152, [.val t25 a0, .val (.int .i64) (IntKind.i64.wrap ((IntKind.i64.wrap (1 * 2 ^ (min (IntKind.u64.wrap (a0.2.1.length : Int)).toNat 64))) - 1)), .val (.slice (.int .i64)) a1], [], .val .bool r2, []⟩]⟩ := by kernel_rfl
theorem f15_e3 (a0 : S25) (a1 : List Int)  (r1 : f72_R) (r2 : f152_R) (r3 : f74_R) : execEnd Tryd.prog run8 1000 [.reg 1 [] [(1, .con [] (.val .bool r1) [] false true)], .cond false, .reg 3 [] [(2, .inl [] true [.reg 1 [] [(6, .con [] (.val .bool r2) [] false true)]])], .cond false, .reg 5 [] [(2, .con [] (.val (.int .i64) r3) [] false true)]] ⟨[.code (bodyOf Tryd.f15)], startSt Tryd.f15 [.val t25 a0, .val (.slice (.int .i64)) a1] []⟩ Tryd.f15 = some ⟨.tup [.val (.int .i64) r3, .val (.int .i64) 0], [], [decide ((!r1) = false), decide (0 ≤ IntKind.u64.wrap (a0.2.1.length : Int)), decide ((!r2) = false)], [⟨72, [.val t25 a0], [], .val .bool r1, []⟩, ⟨152, [.val t25 a0, .val (.int .i64) (IntKind.i64.wrap ((IntKind.i64.wrap (1 * 2 ^ (min (IntKind.u64.wrap (a0.2.1.length : Int)).toNat 64))) - 1)), .val (.slice (.int .i64)) a1], [], .val .bool r2, []⟩, ⟨74, [.val t25 a0, .val (.slice (.int .i64)) a1], [], .val (.int .i64) r3, []⟩]⟩ := by kernel_rfl
theorem f15_go (a0 : S25) (a1 : List Int) (r : f15_R) (h : ∃ r1 : f72_R, f72_H a0 r1 ∧ ((r1 = false → r = (0, 1)) ∧ (r1 = true → (0 ≤ IntKind.u64.wrap (a0.2.1.length : Int)) ∧ ∃ r2 : f152_R, f152_H a0 (IntKind.i64.wrap ((IntKind.i64.wrap (1 * 2 ^ (min (IntKind.u64.wrap (a0.2.1.length : Int)).toNat 64))) - 1)) a1 r2 ∧ ((r2 = false → r = (0, 2)) ∧ (r2 = true → ∃ r3 : f74_R, f74_H a0 a1 r3 ∧ r = (r3, 0)))))) : f15_H a0 a1 r := by
  intro B W0 hT
  refine holds_of_ends enters Tryd.func15 rfl (by kernel_rfl) fun w S β => ?_
  show Ends (f15_C a0 a1 B W0 w S β) Tryd.f15 _ _ _
  obtain ⟨r1, h0, h⟩ := h
  rcases bcase (!r1) with hb1 | hb1
  · replace h := h.1 (by simpa using hb1)
    rw [h]
    exact ends_of_exec (C := f15_C a0 a1 B W0 w S β) run8_ok mixed (f15_e1 a0 a1 r1) (all1 (decide_eq_true hb1) (all0)) (allc1 (h0 B W0 hT) (allc0))
  · replace h := h.2 (by simpa using hb1)
    obtain ⟨h2, h⟩ := h
    obtain ⟨r2, h3, h⟩ := h
    rcases bcase (!r2) with hb4 | hb4
    · replace h := h.1 (by simpa using hb4)
      rw [h]
      exact ends_of_exec (C := f15_C a0 a1 B W0 w S β) run8_ok mixed (f15_e2 a0 a1 r1 r2) (all1 (decide_eq_true hb1) (all1 (decide_eq_true (h2)) (all1 (decide_eq_true hb4) (all0)))) (allc1 (h0 B W0 hT) (allc1 (h3 B W0 hT) (allc0)))
    · replace h := h.2 (by simpa using hb4)
      obtain ⟨r3, h5, h⟩ := h
      rw [h]
      exact ends_of_exec (C := f15_C a0 a1 B W0 w S β) run8_ok mixed (f15_e3 a0 a1 r1 r2 r3) (all1 (decide_eq_true hb1) (all1 (decide_eq_true (h2)) (all1 (decide_eq_true hb4) (all0)))) (allc1 (h0 B W0 hT) (allc1 (h3 B W0 hT) (allc1 (h5 B W0 hT) (allc0))))

/-! ### loop.example/g01094/impl.inRange -/
theorem f136_e1 (a0 : Int) (a1 : Int) (a2 : Int)  : execEnd Tryd.prog run8 1000 [.reg 1 [(4, true), (5, true), (6, true)] []] ⟨[.code (bodyOf Tryd.f136)], startSt Tryd.f136 [.val (.int .i64) a0, .val (.int .i64) a1, .val (.int .i64) a2] []⟩ Tryd.f136 = some ⟨.val .bool (if (decide (a1 ≤ a0)) = true then (decide (a0 ≤ a2)) else false), [], [decide ((decide (a1 ≤ a0)) = true), decide ((decide (a1 ≤ a0)) = true), decide ((decide (a1 ≤ a0)) = true)], []⟩ := by kernel_rfl
theorem f136_e2 (a0 : Int) (a1 : Int) (a2 : Int)  : execEnd Tryd.prog run8 1000 [.reg 1 [(4, false), (5, false), (6, false), (7, false)] []] ⟨[.code (bodyOf Tryd.f136)], startSt Tryd.f136 [.val (.int .i64) a0, .val (.int .i64) a1, .val (.int .i64) a2] []⟩ Tryd.f136 = some ⟨.val .bool false, [], [decide ((decide (a1 ≤ a0)) = false), decide ((decide (a1 ≤ a0)) = false), decide ((decide (a1 ≤ a0)) = false), decide ((decide (a1 ≤ a0)) = false)], []⟩ := by kernel_rfl
theorem f136_go (a0 : Int) (a1 : Int) (a2 : Int) (r : f136_R) (h : ((a1 ≤ a0 → r = (decide (a0 ≤ a2))) ∧ (¬(a1 ≤ a0) → r = false))) : f136_H a0 a1 a2 r := by
  intro B W0 hT
  refine holds_of_ends enters Tryd.func136 rfl (by kernel_rfl) fun w S β => ?_
  show Ends (f136_C a0 a1 a2 B W0 w S β) Tryd.f136 _ _ _
  rcases bcase (decide (a1 ≤ a0)) with hb0 | hb0
  · replace h := h.1 (of_decide_eq_true hb0)
    rw [h, show (decide (a0 ≤ a2) : f136_R) = (if (decide (a1 ≤ a0)) = true then (decide (a0 ≤ a2)) else false) from by simp only [hb0, if_true, if_false, Bool.false_eq_true, Bool.not_true, Bool.not_false, Bool.not_not]]
    exact ends_of_exec (C := f136_C a0 a1 a2 B W0 w S β) run8_ok mixed (f136_e1 a0 a1 a2) (all1 (decide_eq_true hb0) (all1 (decide_eq_true hb0) (all1 (decide_eq_true hb0) (all0)))) (allc0)
  · replace h := h.2 (of_decide_eq_false hb0)
    rw [h]
    exact ends_of_exec (C := f136_C a0 a1 a2 B W0 w S β) run8_ok mixed (f136_e2 a0 a1 a2) (all1 (decide_eq_true hb0) (all1 (decide_eq_true hb0) (all1 (decide_eq_true hb0) (all1 (decide_eq_true hb0) (all0))))) (allc0)

/-! ### slices.IndexFunc[[]int64,int64] -/
theorem f190_e1 (a0 : List Int) (a1 : Int) (a2 : Int)  : execN Tryd.prog run8 1000 [.stop [] [0, 1, 7, 8] []] ⟨[.code (bodyOf Tryd.f190)], startSt Tryd.f190 [.val (.slice (.int .i64)) a0, .clo 230 [.pcs [.val (.int .i64) a1] 0, .pcs [.val (.int .i64) a2] 0]] []⟩ = some ⟨⟨focus Tryd.f190 [.r, .l, .r, .b, .h], f190_s1 a0 a1 a2 (a0.length : Int) 0⟩, [], []⟩ := by kernel_rfl
theorem f190_go (a0 : List Int) (a1 : Int) (a2 : Int) (r : f190_R) (h : f190_L1 a0 a1 a2 (a0.length : Int) 0 r) : f190_H a0 a1 a2 r := by
  intro B W0 hT
  refine holds_of_ends enters Tryd.func190 rfl (by kernel_rfl) fun w S β => ?_
  show Ends (f190_C a0 a1 a2 B W0 w S β) Tryd.f190 _ _ _
  exact Ends.of_reach (exec_ok (C := f190_C a0 a1 a2 B W0 w S β) run8_ok mixed (f190_e1 a0 a1 a2) (all0) (allc0)) (h B W0 hT w S β)
theorem f190_e2 (a0 : List Int) (a1 : Int) (a2 : Int) (x1_0 : Int) (x1_1 : Int) (r1 : f136_R) : execEnd Tryd.prog run8 1000 [.go, .cond true, .reg 4 [] [(5, .inl [] true [.reg 1 [] [(3, .con [] (.val .bool r1) [] false true)]])], .cond true] ⟨focus Tryd.f190 [.r, .l, .r, .b, .h], f190_s1 a0 a1 a2 x1_0 x1_1⟩ Tryd.f190 = some ⟨.val (.int .i64) x1_1, [], [decide ((decide (x1_1 < x1_0)) = true), decide (0 ≤ x1_1), decide (x1_1 < (a0.length : Int)), decide ((!r1) = true)], [⟨136, [.val (.int .i64) (List.getD a0 x1_1.toNat 0), .val (.int .i64) a1, .val (.int .i64) a2], [], .val .bool r1, []⟩]⟩ := by kernel_rfl
theorem f190_e3 (a0 : List Int) (a1 : Int) (a2 : Int) (x1_0 : Int) (x1_1 : Int) (r1 : f136_R) : execN Tryd.prog run8 1000 [.go, .cond true, .reg 4 [] [(5, .inl [] true [.reg 1 [] [(3, .con [] (.val .bool r1) [] false true)]])], .cond false, .stop [] [0, 1, 7, 8] []] ⟨focus Tryd.f190 [.r, .l, .r, .b, .h], f190_s1 a0 a1 a2 x1_0 x1_1⟩ = some ⟨⟨focus Tryd.f190 [.r, .l, .r, .b, .h], f190_s1 a0 a1 a2 x1_0 (IntKind.i64.wrap (x1_1 + 1))⟩, [decide ((decide (x1_1 < x1_0)) = true), decide (0 ≤ x1_1), decide (x1_1 < (a0.length : Int)), decide ((!r1) = false)], [⟨136, [.val (.int .i64) (List.getD a0 x1_1.toNat 0), .val (.int .i64) a1, .val (.int .i64) a2], [], .val .bool r1, []⟩]⟩ := by kernel_rfl
theorem f190_e4 (a0 : List Int) (a1 : Int) (a2 : Int) (x1_0 : Int) (x1_1 : Int) : execEnd Tryd.prog run8 1000 [.go, .cond false] ⟨focus Tryd.f190 [.r, .l, .r, .b, .h], f190_s1 a0 a1 a2 x1_0 x1_1⟩ Tryd.f190 = some ⟨.val (.int .i64) (-1), [], [decide ((decide (x1_1 < x1_0)) = false)], []⟩ := by kernel_rfl
theorem f190_at1 (a0 : List Int) (a1 : Int) (a2 : Int) (x1_0 : Int) (x1_1 : Int) (r : f190_R) (h : ((x1_1 < x1_0 → (0 ≤ x1_1) ∧ (x1_1 < (a0.length : Int)) ∧ ∃ r1 : f136_R, f136_H (List.getD a0 x1_1.toNat 0) a1 a2 r1 ∧ ((r1 = false → r = x1_1) ∧ (r1 = true → f190_L1 a0 a1 a2 x1_0 (IntKind.i64.wrap (x1_1 + 1)) r))) ∧ (¬(x1_1 < x1_0) → r = (-1)))) : f190_L1 a0 a1 a2 x1_0 x1_1 r := by
  intro B W0 hT w S β
  rcases bcase (decide (x1_1 < x1_0)) with hb0 | hb0
  · replace h := h.1 (of_decide_eq_true hb0)
    obtain ⟨h1, h⟩ := h
    obtain ⟨h2, h⟩ := h
    obtain ⟨r1, h3, h⟩ := h
    rcases bcase (!r1) with hb4 | hb4
    · replace h := h.1 (by simpa using hb4)
      rw [h]
      exact ends_of_exec (C := f190_C a0 a1 a2 B W0 w S β) run8_ok mixed (f190_e2 a0 a1 a2 x1_0 x1_1 r1) (all1 (decide_eq_true hb0) (all1 (decide_eq_true (h1)) (all1 (decide_eq_true (h2)) (all1 (decide_eq_true hb4) (all0))))) (allc1 (h3 B W0 hT) (allc0))
    · replace h := h.2 (by simpa using hb4)
      exact Ends.of_reach (exec_ok (C := f190_C a0 a1 a2 B W0 w S β) run8_ok mixed (f190_e3 a0 a1 a2 x1_0 x1_1 r1) (all1 (decide_eq_true hb0) (all1 (decide_eq_true (h1)) (all1 (decide_eq_true (h2)) (all1 (decide_eq_true hb4) (all0))))) (allc1 (h3 B W0 hT) (allc0))) (h B W0 hT w S β)
  · replace h := h.2 (of_decide_eq_false hb0)
    rw [h]
    exact ends_of_exec (C := f190_C a0 a1 a2 B W0 w S β) run8_ok mixed (f190_e4 a0 a1 a2 x1_0 x1_1) (all1 (decide_eq_true hb0) (all0)) (allc0)

/-! ### loop.example/g01094/impl.arePlaces -/
theorem f131_e1 (a0 : Int) (a1 : List Int)  (r1 : f136_R) (r2 : f190_R) : execEnd Tryd.prog run8 1000 [.reg 1 [(3, true), (4, true), (5, true), (8, true), (9, true), (10, true), (11, true), (12, true)] [(1, .con [] (.val .bool r1) [] false true), (12, .inl [] true [.reg 1 [] [(2, .inl [] true [.reg 1 [] [(2, .con [] (.val (.int .i64) r2) [] false true)]])]])]] ⟨[.code (bodyOf Tryd.f131)], startSt Tryd.f131 [.val (.int .i64) a0, .val (.slice (.int .i64)) a1] []⟩ Tryd.f131 = some ⟨.val .bool (if (if r1 = true then (decide ((a1.length : Int) ≤ 8)) else false) = true then (!(decide (r2 ≥ 0))) else false), [], [decide (r1 = true), decide (r1 = true), decide (r1 = true), decide ((if r1 = true then (decide ((a1.length : Int) ≤ 8)) else false) = true), decide ((if r1 = true then (decide ((a1.length : Int) ≤ 8)) else false) = true), decide ((if r1 = true then (decide ((a1.length : Int) ≤ 8)) else false) = true), decide (0 ≤ a0), decide ((if r1 = true then (decide ((a1.length : Int) ≤ 8)) else false) = true), decide ((if r1 = true then (decide ((a1.length : Int) ≤ 8)) else false) = true)], [⟨136, [.val (.int .i64) a0, .val (.int .i64) (1 : Int), .val (.int .i64) (4 : Int)], [], .val .bool r1, []⟩, ⟨190, [.val (.slice (.int .i64)) a1, .clo 230 [.pcs [.val (.int .i64) (1 : Int)] 0, .pcs [.val (.int .i64) (IntKind.i64.wrap ((IntKind.i64.wrap (1 * 2 ^ (min a0.toNat 64))) - 1))] 0]], [], .val (.int .i64) r2, []⟩]⟩ := by kernel_rfl
theorem f131_e2 (a0 : Int) (a1 : List Int)  (r1 : f136_R) : execEnd Tryd.prog run8 1000 [.reg 1 [(3, true), (4, true), (5, true), (8, false), (9, false), (10, false), (11, false), (12, false), (13, false)] [(1, .con [] (.val .bool r1) [] false true)]] ⟨[.code (bodyOf Tryd.f131)], startSt Tryd.f131 [.val (.int .i64) a0, .val (.slice (.int .i64)) a1] []⟩ Tryd.f131 = some ⟨.val .bool false, [], [decide (r1 = true), decide (r1 = true), decide (r1 = true), decide ((if r1 = true then (decide ((a1.length : Int) ≤ 8)) else false) = false), decide ((if r1 = true then (decide ((a1.length : Int) ≤ 8)) else false) = false), decide ((if r1 = true then (decide ((a1.length : Int) ≤ 8)) else false) = false), decide ((if r1 = true then (decide ((a1.length : Int) ≤ 8)) else false) = false), decide ((if r1 = true then (decide ((a1.length : Int) ≤ 8)) else false) = false), decide ((if r1 = true then (decide ((a1.length : Int) ≤ 8)) else false) = false)], [⟨136, [.val (.int .i64) a0, .val (.int .i64) (1 : Int), .val (.int .i64) (4 : Int)], [], .val .bool r1, []⟩]⟩ := by kernel_rfl
theorem f131_e3 (a0 : Int) (a1 : List Int)  (r1 : f136_R) : execEnd Tryd.prog run8 1000 [.reg 1 [(3, false), (4, false), (5, false), (6, false)] [(1, .con [] (.val .bool r1) [] false true)]] ⟨[.code (bodyOf Tryd.f131)], startSt Tryd.f131 [.val (.int .i64) a0, .val (.slice (.int .i64)) a1] []⟩ Tryd.f131 = some ⟨.val .bool false, [], [decide (r1 = false), decide (r1 = false), decide (r1 = false), decide (r1 = false)], [⟨136, [.val (.int .i64) a0, .val (.int .i64) (1 : Int), .val (.int .i64) (4 : Int)], [], .val .bool r1, []⟩]⟩ := by kernel_rfl
theorem f131_go (a0 : Int) (a1 : List Int) (r : f131_R) (h : ∃ r1 : f136_R, f136_H a0 1 4 r1 ∧ ((r1 = true → (((a1.length : Int) ≤ 8 → (0 ≤ a0) ∧ ∃ r2 : f190_R, f190_H a1 1 (IntKind.i64.wrap ((IntKind.i64.wrap (1 * 2 ^ (min a0.toNat 64))) - 1)) r2 ∧ r = (!(decide (r2 ≥ 0)))) ∧ (¬((a1.length : Int) ≤ 8) → r = false))) ∧ (r1 = false → r = false))) : f131_H a0 a1 r := by
  intro B W0 hT
  refine holds_of_ends enters Tryd.func131 rfl (by kernel_rfl) fun w S β => ?_
  show Ends (f131_C a0 a1 B W0 w S β) Tryd.f131 _ _ _
  obtain ⟨r1, h0, h⟩ := h
  rcases bcase (r1) with hb1 | hb1
  · replace h := h.1 (hb1)
    rcases bcase (if r1 = true then (decide ((a1.length : Int) ≤ 8)) else false) with hb4 | hb4
    · have hs4 : (decide ((a1.length : Int) ≤ 8)) = true := by simpa only [hb1, if_true, if_false, Bool.false_eq_true, Bool.not_true, Bool.not_false, Bool.not_not] using hb4
      replace h := h.1 (of_decide_eq_true hs4)
      obtain ⟨h8, h⟩ := h
      obtain ⟨r2, h11, h⟩ := h
      rw [h, show (!(decide (r2 ≥ 0)) : f131_R) = (if (if r1 = true then (decide ((a1.length : Int) ≤ 8)) else false) = true then (!(decide (r2 ≥ 0))) else false) from by simp only [hb1, hb4, hs4, if_true, if_false, Bool.false_eq_true, Bool.not_true, Bool.not_false, Bool.not_not]]
      exact ends_of_exec (C := f131_C a0 a1 B W0 w S β) run8_ok mixed (f131_e1 a0 a1 r1 r2) (all1 (decide_eq_true hb1) (all1 (decide_eq_true hb1) (all1 (decide_eq_true hb1) (all1 (decide_eq_true hb4) (all1 (decide_eq_true hb4) (all1 (decide_eq_true hb4) (all1 (decide_eq_true (h8)) (all1 (decide_eq_true hb4) (all1 (decide_eq_true hb4) (all0)))))))))) (allc1 (h0 B W0 hT) (allc1 (h11 B W0 hT) (allc0)))
    · have hs4 : (decide ((a1.length : Int) ≤ 8)) = false := by simpa only [hb1, if_true, if_false, Bool.false_eq_true, Bool.not_true, Bool.not_false, Bool.not_not] using hb4
      replace h := h.2 (of_decide_eq_false hs4)
      rw [h]
      exact ends_of_exec (C := f131_C a0 a1 B W0 w S β) run8_ok mixed (f131_e2 a0 a1 r1) (all1 (decide_eq_true hb1) (all1 (decide_eq_true hb1) (all1 (decide_eq_true hb1) (all1 (decide_eq_true hb4) (all1 (decide_eq_true hb4) (all1 (decide_eq_true hb4) (all1 (decide_eq_true hb4) (all1 (decide_eq_true hb4) (all1 (decide_eq_true hb4) (all0)))))))))) (allc1 (h0 B W0 hT) (allc0))
  · replace h := h.2 (hb1)
    rw [h]
    exact ends_of_exec (C := f131_C a0 a1 B W0 w S β) run8_ok mixed (f131_e3 a0 a1 r1) (all1 (decide_eq_true hb1) (all1 (decide_eq_true hb1) (all1 (decide_eq_true hb1) (all1 (decide_eq_true hb1) (all0))))) (allc1 (h0 B W0 hT) (allc0))

/-! ### loop.example/g01094/impl.isGlobal -/
theorem f78_e1 (a0 : List Int) (a1 : List Int)  : execEnd Tryd.prog run8 1000 [.cond true] ⟨[.code (bodyOf Tryd.f78)], startSt Tryd.f78 [.val (.slice (.int .i64)) a0, .val (.slice (.int .i64)) a1] []⟩ Tryd.f78 = some ⟨.val .bool false, [], [decide (((a1.length : Int) != (a0.length : Int)) = true)], []⟩ := by kernel_rfl
theorem f78_e2 (a0 : List Int) (a1 : List Int)  : execN Tryd.prog run8 1000 [.cond false, .stop [] [0, 12, 13, 14] []] ⟨[.code (bodyOf Tryd.f78)], startSt Tryd.f78 [.val (.slice (.int .i64)) a0, .val (.slice (.int .i64)) a1] []⟩ = some ⟨⟨focus Tryd.f78 [.r, .r, .l, .r, .b, .h], f78_s1 a0 a1 (a1.length : Int) 0⟩, [decide (((a1.length : Int) != (a0.length : Int)) = false)], []⟩ := by kernel_rfl
theorem f78_go (a0 : List Int) (a1 : List Int) (r : f78_R) (h : ((¬((a1.length : Int) = (a0.length : Int)) → r = false) ∧ ((a1.length : Int) = (a0.length : Int) → f78_L1 a0 a1 (a1.length : Int) 0 r))) : f78_H a0 a1 r := by
  intro B W0 hT
  refine holds_of_ends enters Tryd.func78 rfl (by kernel_rfl) fun w S β => ?_
  show Ends (f78_C a0 a1 B W0 w S β) Tryd.f78 _ _ _
  rcases bcase ((a1.length : Int) != (a0.length : Int)) with hb0 | hb0
  · replace h := h.1 (by simpa using hb0)
    rw [h]
    exact ends_of_exec (C := f78_C a0 a1 B W0 w S β) run8_ok mixed (f78_e1 a0 a1) (all1 (decide_eq_true hb0) (all0)) (allc0)
  · replace h := h.2 (by simpa using hb0)
    exact Ends.of_reach (exec_ok (C := f78_C a0 a1 B W0 w S β) run8_ok mixed (f78_e2 a0 a1) (all1 (decide_eq_true hb0) (all0)) (allc0)) (h B W0 hT w S β)
theorem f78_e3 (a0 : List Int) (a1 : List Int) (x1_0 : Int) (x1_1 : Int) (r1 : f136_R) : execEnd Tryd.prog run8 1000 [.go, .cond true, .reg 6 [] [(6, .con [] (.val .bool r1) [] false true)], .cond true] ⟨focus Tryd.f78 [.r, .r, .l, .r, .b, .h], f78_s1 a0 a1 x1_0 x1_1⟩ Tryd.f78 = some ⟨.val .bool false, [], [decide ((decide (x1_1 < x1_0)) = true), decide (0 ≤ x1_1), decide (x1_1 < (a1.length : Int)), decide (0 ≤ x1_1), decide (x1_1 < (a0.length : Int)), decide ((!r1) = true)], [⟨136, [.val (.int .i64) (List.getD a1 x1_1.toNat 0), .val (.int .i64) (0 : Int), .val (.int .i64) (IntKind.i64.wrap ((List.getD a0 x1_1.toNat 0) - 1))], [], .val .bool r1, []⟩]⟩ := by kernel_rfl
theorem f78_e4 (a0 : List Int) (a1 : List Int) (x1_0 : Int) (x1_1 : Int) (r1 : f136_R) : execN Tryd.prog run8 1000 [.go, .cond true, .reg 6 [] [(6, .con [] (.val .bool r1) [] false true)], .cond false, .stop [] [0, 12, 13, 14] []] ⟨focus Tryd.f78 [.r, .r, .l, .r, .b, .h], f78_s1 a0 a1 x1_0 x1_1⟩ = some ⟨⟨focus Tryd.f78 [.r, .r, .l, .r, .b, .h], f78_s1 a0 a1 x1_0 (IntKind.i64.wrap (x1_1 + 1))⟩, [decide ((decide (x1_1 < x1_0)) = true), decide (0 ≤ x1_1), decide (x1_1 < (a1.length : Int)), decide (0 ≤ x1_1), decide (x1_1 < (a0.length : Int)), decide ((!r1) = false)], [⟨136, [.val (.int .i64) (List.getD a1 x1_1.toNat 0), .val (.int .i64) (0 : Int), .val (.int .i64) (IntKind.i64.wrap ((List.getD a0 x1_1.toNat 0) - 1))], [], .val .bool r1, []⟩]⟩ := by kernel_rfl
theorem f78_e5 (a0 : List Int) (a1 : List Int) (x1_0 : Int) (x1_1 : Int) : execEnd Tryd.prog run8 1000 [.go, .cond false] ⟨focus Tryd.f78 [.r, .r, .l, .r, .b, .h], f78_s1 a0 a1 x1_0 x1_1⟩ Tryd.f78 = some ⟨.val .bool true, [], [decide ((decide (x1_1 < x1_0)) = false)], []⟩ := by kernel_rfl
theorem f78_at1 (a0 : List Int) (a1 : List Int) (x1_0 : Int) (x1_1 : Int) (r : f78_R) (h : ((x1_1 < x1_0 → (0 ≤ x1_1) ∧ (x1_1 < (a1.length : Int)) ∧ (x1_1 < (a0.length : Int)) ∧ ∃ r1 : f136_R, f136_H (List.getD a1 x1_1.toNat 0) 0 (IntKind.i64.wrap ((List.getD a0 x1_1.toNat 0) - 1)) r1 ∧ ((r1 = false → r = false) ∧ (r1 = true → f78_L1 a0 a1 x1_0 (IntKind.i64.wrap (x1_1 + 1)) r))) ∧ (¬(x1_1 < x1_0) → r = true))) : f78_L1 a0 a1 x1_0 x1_1 r := by
  intro B W0 hT w S β
  rcases bcase (decide (x1_1 < x1_0)) with hb0 | hb0
  · replace h := h.1 (of_decide_eq_true hb0)
    obtain ⟨h1, h⟩ := h
    obtain ⟨h2, h⟩ := h
    obtain ⟨h4, h⟩ := h
    obtain ⟨r1, h5, h⟩ := h
    rcases bcase (!r1) with hb6 | hb6
    · replace h := h.1 (by simpa using hb6)
      rw [h]
      exact ends_of_exec (C := f78_C a0 a1 B W0 w S β) run8_ok mixed (f78_e3 a0 a1 x1_0 x1_1 r1) (all1 (decide_eq_true hb0) (all1 (decide_eq_true (h1)) (all1 (decide_eq_true (h2)) (all1 (decide_eq_true (h1)) (all1 (decide_eq_true (h4)) (all1 (decide_eq_true hb6) (all0))))))) (allc1 (h5 B W0 hT) (allc0))
    · replace h := h.2 (by simpa using hb6)
      exact Ends.of_reach (exec_ok (C := f78_C a0 a1 B W0 w S β) run8_ok mixed (f78_e4 a0 a1 x1_0 x1_1 r1) (all1 (decide_eq_true hb0) (all1 (decide_eq_true (h1)) (all1 (decide_eq_true (h2)) (all1 (decide_eq_true (h1)) (all1 (decide_eq_true (h4)) (all1 (decide_eq_true hb6) (all0))))))) (allc1 (h5 B W0 hT) (allc0))) (h B W0 hT w S β)
  · replace h := h.2 (of_decide_eq_false hb0)
    rw [h]
    exact ends_of_exec (C := f78_C a0 a1 B W0 w S β) run8_ok mixed (f78_e5 a0 a1 x1_0 x1_1) (all1 (decide_eq_true hb0) (all0)) (allc0)

/-! ### loop.example/g01094/impl.members -/
theorem f178_e1 (a0 : Int)  : execN Tryd.prog run8 1000 [.stop [] [0, 3] [(16, 0)]] ⟨[.code (bodyOf Tryd.f178)], startSt Tryd.f178 [.val (.int .i64) a0] []⟩ = some ⟨⟨focus Tryd.f178 [.r, .r, .l, .b, .h], f178_s1 a0 a0 ([] : List Int)⟩, [], []⟩ := by kernel_rfl
theorem f178_go (a0 : Int) (r : f178_R) (h : f178_L1 a0 a0 ([] : List Int) r) : f178_H a0 r := by
  intro B W0 hT
  refine holds_of_ends enters Tryd.func178 rfl (by kernel_rfl) fun w S β => ?_
  show Ends (f178_C a0 B W0 w S β) Tryd.f178 _ _ _
  exact Ends.of_reach (exec_ok (C := f178_C a0 B W0 w S β) run8_ok mixed (f178_e1 a0) (all0) (allc0)) (h B W0 hT w S β)
theorem f178_e2 (a0 : Int) (x1_0 : Int) (x1_1 : List Int) (r1 : f284_R) : execN Tryd.prog run8 1000 [.go, .cond true, .reg 4 [] [(2, .inl [] true [.reg 1 [] [(2, .con [] (.val (.int .i64) r1) [] false true)]])], .stop [] [0, 3] [(97, 0)]] ⟨focus Tryd.f178 [.r, .r, .l, .b, .h], f178_s1 a0 x1_0 x1_1⟩ = some ⟨⟨focus Tryd.f178 [.r, .r, .l, .b, .h], f178_s1 a0 (bitsK .and .i64 x1_0 (IntKind.i64.wrap (x1_0 - 1))) (x1_1 ++ [r1])⟩, [decide ((x1_0 != 0) = true), decide ((x1_1.length + [r1].length) * 8 ≤ 140737488355328)], [⟨284, [.val (.int .u64) (IntKind.u64.wrap x1_0)], [], .val (.int .i64) r1, []⟩]⟩ := by kernel_rfl
theorem f178_e3 (a0 : Int) (x1_0 : Int) (x1_1 : List Int) : execEnd Tryd.prog run8 1000 [.go, .cond false] ⟨focus Tryd.f178 [.r, .r, .l, .b, .h], f178_s1 a0 x1_0 x1_1⟩ Tryd.f178 = some ⟨.ref 0, [(0, .arr 2 (.int .i64) x1_1 false)], [decide ((x1_0 != 0) = false)], []⟩ := by kernel_rfl
theorem f178_at1 (a0 : Int) (x1_0 : Int) (x1_1 : List Int) (r : f178_R) (h : ((¬(x1_0 = 0) → ∃ r1 : f284_R, f284_H (IntKind.u64.wrap x1_0) r1 ∧ ((x1_1.length + [r1].length) * 8 ≤ 140737488355328) ∧ f178_L1 a0 (bitsK .and .i64 x1_0 (IntKind.i64.wrap (x1_0 - 1))) (x1_1 ++ [r1]) r) ∧ (x1_0 = 0 → r = x1_1))) : f178_L1 a0 x1_0 x1_1 r := by
  intro B W0 hT w S β
  rcases bcase (x1_0 != 0) with hb0 | hb0
  · replace h := h.1 (by simpa using hb0)
    obtain ⟨r1, h1, h⟩ := h
    obtain ⟨h2, h⟩ := h
    exact Ends.of_reach (exec_ok (C := f178_C a0 B W0 w S β) run8_ok mixed (f178_e2 a0 x1_0 x1_1 r1) (all1 (decide_eq_true hb0) (all1 (decide_eq_true (h2)) (all0))) (allc1 (h1 B W0 hT) (allc0))) (h B W0 hT w S β)
  · replace h := h.2 (by simpa using hb0)
    rw [h]
    exact ends_of_exec (C := f178_C a0 B W0 w S β) run8_ok mixed (f178_e3 a0 x1_0 x1_1) (all1 (decide_eq_true hb0) (all0)) (allc0)

/-! ### loop.example/g01094/impl.locals -/
theorem f231_e1 (a0 : List Int) (a1 : Int)  (r1 : f178_R) : execN Tryd.prog run8 1000 [.reg 2 [] [(1, .con [] (.ref 0) [(0, .arr 2 (.int .i64) r1 false)] false true)], .stop [] [0, 5, 10, 11, 12] [(16, 0), (64, 1)]] ⟨[.code (bodyOf Tryd.f231)], startSt Tryd.f231 [.val (.slice (.int .i64)) a0, .val (.int .i64) a1] []⟩ = some ⟨⟨focus Tryd.f231 [.r, .r, .l, .r, .b, .h], f231_s1 a0 a1 (r1.length : Int) 0 ([] : List Int) r1⟩, [], [⟨178, [.val (.int .i64) a1], [], .ref 0, [(0, .arr 2 (.int .i64) r1 false)]⟩]⟩ := by kernel_rfl
theorem f231_go (a0 : List Int) (a1 : Int) (r : f231_R) (h : ∃ r1 : f178_R, f178_H a1 r1 ∧ f231_L1 a0 a1 (r1.length : Int) 0 ([] : List Int) r1 r) : f231_H a0 a1 r := by
  intro B W0 hT
  refine holds_of_ends enters Tryd.func231 rfl (by kernel_rfl) fun w S β => ?_
  show Ends (f231_C a0 a1 B W0 w S β) Tryd.f231 _ _ _
  obtain ⟨r1, h0, h⟩ := h
  exact Ends.of_reach (exec_ok (C := f231_C a0 a1 B W0 w S β) run8_ok mixed (f231_e1 a0 a1 r1) (all0) (allc1 (h0 B W0 hT) (allc0))) (h B W0 hT w S β)
theorem f231_e2 (a0 : List Int) (a1 : Int) (x1_0 : Int) (x1_1 : Int) (x1_2 : List Int) (x1_3 : List Int) : execN Tryd.prog run8 1000 [.go, .cond true, .stop [] [0, 5, 10, 11, 12] [(162, 0), (1, 1)]] ⟨focus Tryd.f231 [.r, .r, .l, .r, .b, .h], f231_s1 a0 a1 x1_0 x1_1 x1_2 x1_3⟩ = some ⟨⟨focus Tryd.f231 [.r, .r, .l, .r, .b, .h], f231_s1 a0 a1 x1_0 (IntKind.i64.wrap (x1_1 + 1)) (x1_2 ++ [List.getD a0 ((List.getD x1_3 x1_1.toNat 0).toNat) 0]) x1_3⟩, [decide ((decide (x1_1 < x1_0)) = true), decide (0 ≤ x1_1), decide (x1_1 < (x1_3.length : Int)), decide (x1_1.toNat < x1_3.length), decide (0 ≤ List.getD x1_3 x1_1.toNat 0), decide (List.getD x1_3 x1_1.toNat 0 < (a0.length : Int)), decide ((x1_2.length + [List.getD a0 ((List.getD x1_3 x1_1.toNat 0).toNat) 0].length) * 8 ≤ 140737488355328)], []⟩ := by kernel_rfl
theorem f231_e3 (a0 : List Int) (a1 : Int) (x1_0 : Int) (x1_1 : Int) (x1_2 : List Int) (x1_3 : List Int) : execEnd Tryd.prog run8 1000 [.go, .cond false] ⟨focus Tryd.f231 [.r, .r, .l, .r, .b, .h], f231_s1 a0 a1 x1_0 x1_1 x1_2 x1_3⟩ Tryd.f231 = some ⟨.ref 0, [(0, .arr 2 (.int .i64) x1_2 false)], [decide ((decide (x1_1 < x1_0)) = false)], []⟩ := by kernel_rfl
theorem f231_at1 (a0 : List Int) (a1 : Int) (x1_0 : Int) (x1_1 : Int) (x1_2 : List Int) (x1_3 : List Int) (r : f231_R) (h : ((x1_1 < x1_0 → (0 ≤ x1_1) ∧ (x1_1 < (x1_3.length : Int)) ∧ (x1_1.toNat < x1_3.length) ∧ (0 ≤ List.getD x1_3 x1_1.toNat 0) ∧ (List.getD x1_3 x1_1.toNat 0 < (a0.length : Int)) ∧ ((x1_2.length + [List.getD a0 ((List.getD x1_3 x1_1.toNat 0).toNat) 0].length) * 8 ≤ 140737488355328) ∧ f231_L1 a0 a1 x1_0 (IntKind.i64.wrap (x1_1 + 1)) (x1_2 ++ [List.getD a0 ((List.getD x1_3 x1_1.toNat 0).toNat) 0]) x1_3 r) ∧ (¬(x1_1 < x1_0) → r = x1_2))) : f231_L1 a0 a1 x1_0 x1_1 x1_2 x1_3 r := by
  intro B W0 hT w S β
  rcases bcase (decide (x1_1 < x1_0)) with hb0 | hb0
  · replace h := h.1 (of_decide_eq_true hb0)
    obtain ⟨h1, h⟩ := h
    obtain ⟨h2, h⟩ := h
    obtain ⟨h3, h⟩ := h
    obtain ⟨h4, h⟩ := h
    obtain ⟨h5, h⟩ := h
    obtain ⟨h6, h⟩ := h
    exact Ends.of_reach (exec_ok (C := f231_C a0 a1 B W0 w S β) run8_ok mixed (f231_e2 a0 a1 x1_0 x1_1 x1_2 x1_3) (all1 (decide_eq_true hb0) (all1 (decide_eq_true (h1)) (all1 (decide_eq_true (h2)) (all1 (decide_eq_true (h3)) (all1 (decide_eq_true (h4)) (all1 (decide_eq_true (h5)) (all1 (decide_eq_true (h6)) (all0)))))))) (allc0)) (h B W0 hT w S β)
  · replace h := h.2 (of_decide_eq_false hb0)
    rw [h]
    exact ends_of_exec (C := f231_C a0 a1 B W0 w S β) run8_ok mixed (f231_e3 a0 a1 x1_0 x1_1 x1_2 x1_3) (all1 (decide_eq_true hb0) (all0)) (allc0)

/-! ### cmp.Compare[int64] -/
theorem f233_e1 (a0 : Int) (a1 : Int)  : execEnd Tryd.prog run8 1000 [.cond true, .cond true] ⟨[.code (bodyOf Tryd.f233)], startSt Tryd.f233 [.val (.int .i64) a0, .val (.int .i64) a1] []⟩ Tryd.f233 = some ⟨.val (.int .i64) 0, [], [decide ((a0 != a0) = true), decide ((a1 != a1) = true)], []⟩ := by kernel_rfl
theorem f233_e2 (a0 : Int) (a1 : Int)  : execEnd Tryd.prog run8 1000 [.cond true, .cond false] ⟨[.code (bodyOf Tryd.f233)], startSt Tryd.f233 [.val (.int .i64) a0, .val (.int .i64) a1] []⟩ Tryd.f233 = some ⟨.val (.int .i64) (-1), [], [decide ((a0 != a0) = true), decide ((a1 != a1) = false)], []⟩ := by kernel_rfl
theorem f233_e3 (a0 : Int) (a1 : Int)  : execEnd Tryd.prog run8 1000 [.cond false, .cond true] ⟨[.code (bodyOf Tryd.f233)], startSt Tryd.f233 [.val (.int .i64) a0, .val (.int .i64) a1] []⟩ Tryd.f233 = some ⟨.val (.int .i64) 1, [], [decide ((a0 != a0) = false), decide ((a1 != a1) = true)], []⟩ := by kernel_rfl
theorem f233_e4 (a0 : Int) (a1 : Int)  : execEnd Tryd.prog run8 1000 [.cond false, .cond false, .cond true] ⟨[.code (bodyOf Tryd.f233)], startSt Tryd.f233 [.val (.int .i64) a0, .val (.int .i64) a1] []⟩ Tryd.f233 = some ⟨.val (.int .i64) (-1), [], [decide ((a0 != a0) = false), decide ((a1 != a1) = false), decide ((decide (a0 < a1)) = true)], []⟩ := by kernel_rfl
theorem f233_e5 (a0 : Int) (a1 : Int)  : execEnd Tryd.prog run8 1000 [.cond false, .cond false, .cond false, .cond true] ⟨[.code (bodyOf Tryd.f233)], startSt Tryd.f233 [.val (.int .i64) a0, .val (.int .i64) a1] []⟩ Tryd.f233 = some ⟨.val (.int .i64) 1, [], [decide ((a0 != a0) = false), decide ((a1 != a1) = false), decide ((decide (a0 < a1)) = false), decide ((decide (a0 > a1)) = true)], []⟩ := by kernel_rfl
theorem f233_e6 (a0 : Int) (a1 : Int)  : execEnd Tryd.prog run8 1000 [.cond false, .cond false, .cond false, .cond false] ⟨[.code (bodyOf Tryd.f233)], startSt Tryd.f233 [.val (.int .i64) a0, .val (.int .i64) a1] []⟩ Tryd.f233 = some ⟨.val (.int .i64) 0, [], [decide ((a0 != a0) = false), decide ((a1 != a1) = false), decide ((decide (a0 < a1)) = false), decide ((decide (a0 > a1)) = false)], []⟩ := by kernel_rfl
theorem f233_go (a0 : Int) (a1 : Int) (r : f233_R) (h : ((¬(a0 = a0) → ((¬(a1 = a1) → r = 0) ∧ (a1 = a1 → r = (-1)))) ∧ (a0 = a0 → ((¬(a1 = a1) → r = 1) ∧ (a1 = a1 → ((a0 < a1 → r = (-1)) ∧ (¬(a0 < a1) → ((a0 > a1 → r = 1) ∧ (¬(a0 > a1) → r = 0))))))))) : f233_H a0 a1 r := by
  intro B W0 hT
  refine holds_of_ends enters Tryd.func233 rfl (by kernel_rfl) fun w S β => ?_
  show Ends (f233_C a0 a1 B W0 w S β) Tryd.f233 _ _ _
  rcases bcase (a0 != a0) with hb0 | hb0
  · replace h := h.1 (by simpa using hb0)
    rcases bcase (a1 != a1) with hb1 | hb1
    · replace h := h.1 (by simpa using hb1)
      rw [h]
      exact ends_of_exec (C := f233_C a0 a1 B W0 w S β) run8_ok mixed (f233_e1 a0 a1) (all1 (decide_eq_true hb0) (all1 (decide_eq_true hb1) (all0))) (allc0)
    · replace h := h.2 (by simpa using hb1)
      rw [h]
      exact ends_of_exec (C := f233_C a0 a1 B W0 w S β) run8_ok mixed (f233_e2 a0 a1) (all1 (decide_eq_true hb0) (all1 (decide_eq_true hb1) (all0))) (allc0)
  · replace h := h.2 (by simpa using hb0)
    rcases bcase (a1 != a1) with hb1 | hb1
    · replace h := h.1 (by simpa using hb1)
      rw [h]
      exact ends_of_exec (C := f233_C a0 a1 B W0 w S β) run8_ok mixed (f233_e3 a0 a1) (all1 (decide_eq_true hb0) (all1 (decide_eq_true hb1) (all0))) (allc0)
    · replace h := h.2 (by simpa using hb1)
      rcases bcase (decide (a0 < a1)) with hb2 | hb2
      · replace h := h.1 (of_decide_eq_true hb2)
        rw [h]
        exact ends_of_exec (C := f233_C a0 a1 B W0 w S β) run8_ok mixed (f233_e4 a0 a1) (all1 (decide_eq_true hb0) (all1 (decide_eq_true hb1) (all1 (decide_eq_true hb2) (all0)))) (allc0)
      · replace h := h.2 (of_decide_eq_false hb2)
        rcases bcase (decide (a0 > a1)) with hb3 | hb3
        · replace h := h.1 (of_decide_eq_true hb3)
          rw [h]
          exact ends_of_exec (C := f233_C a0 a1 B W0 w S β) run8_ok mixed (f233_e5 a0 a1) (all1 (decide_eq_true hb0) (all1 (decide_eq_true hb1) (all1 (decide_eq_true hb2) (all1 (decide_eq_true hb3) (all0))))) (allc0)
        · replace h := h.2 (of_decide_eq_false hb3)
          rw [h]
          exact ends_of_exec (C := f233_C a0 a1 B W0 w S β) run8_ok mixed (f233_e6 a0 a1) (all1 (decide_eq_true hb0) (all1 (decide_eq_true hb1) (all1 (decide_eq_true hb2) (all1 (decide_eq_true hb3) (all0))))) (allc0)

/-! ### slices.Compare[[]int64,int64] -/
theorem f158_e1 (a0 : List Int) (a1 : List Int)  : execN Tryd.prog run8 1000 [.stop [] [0, 1, 9, 10, 11] []] ⟨[.code (bodyOf Tryd.f158)], startSt Tryd.f158 [.val (.slice (.int .i64)) a0, .val (.slice (.int .i64)) a1] []⟩ = some ⟨⟨focus Tryd.f158 [.r, .l, .r, .b, .h], f158_s1 a0 a1 (a0.length : Int) 0⟩, [], []⟩ := by kernel_rfl
theorem f158_go (a0 : List Int) (a1 : List Int) (r : f158_R) (h : f158_L1 a0 a1 (a0.length : Int) 0 r) : f158_H a0 a1 r := by
  intro B W0 hT
  refine holds_of_ends enters Tryd.func158 rfl (by kernel_rfl) fun w S β => ?_
  show Ends (f158_C a0 a1 B W0 w S β) Tryd.f158 _ _ _
  exact Ends.of_reach (exec_ok (C := f158_C a0 a1 B W0 w S β) run8_ok mixed (f158_e1 a0 a1) (all0) (allc0)) (h B W0 hT w S β)
theorem f158_e2 (a0 : List Int) (a1 : List Int) (x1_0 : Int) (x1_1 : Int) : execEnd Tryd.prog run8 1000 [.go, .cond true, .cond true] ⟨focus Tryd.f158 [.r, .l, .r, .b, .h], f158_s1 a0 a1 x1_0 x1_1⟩ Tryd.f158 = some ⟨.val (.int .i64) 1, [], [decide ((decide (x1_1 < x1_0)) = true), decide (0 ≤ x1_1), decide (x1_1 < (a0.length : Int)), decide ((decide (x1_1 ≥ (a1.length : Int))) = true)], []⟩ := by kernel_rfl
theorem f158_e3 (a0 : List Int) (a1 : List Int) (x1_0 : Int) (x1_1 : Int) (r1 : f233_R) : execEnd Tryd.prog run8 1000 [.go, .cond true, .cond false, .reg 7 [] [(2, .con [] (.val (.int .i64) r1) [] false true)], .cond true] ⟨focus Tryd.f158 [.r, .l, .r, .b, .h], f158_s1 a0 a1 x1_0 x1_1⟩ Tryd.f158 = some ⟨.val (.int .i64) r1, [], [decide ((decide (x1_1 < x1_0)) = true), decide (0 ≤ x1_1), decide (x1_1 < (a0.length : Int)), decide ((decide (x1_1 ≥ (a1.length : Int))) = false), decide (0 ≤ x1_1), decide (x1_1 < (a1.length : Int)), decide ((r1 != 0) = true)], [⟨233, [.val (.int .i64) (List.getD a0 x1_1.toNat 0), .val (.int .i64) (List.getD a1 x1_1.toNat 0)], [], .val (.int .i64) r1, []⟩]⟩ := by kernel_rfl
theorem f158_e4 (a0 : List Int) (a1 : List Int) (x1_0 : Int) (x1_1 : Int) (r1 : f233_R) : execN Tryd.prog run8 1000 [.go, .cond true, .cond false, .reg 7 [] [(2, .con [] (.val (.int .i64) r1) [] false true)], .cond false, .stop [] [0, 1, 9, 10, 11] []] ⟨focus Tryd.f158 [.r, .l, .r, .b, .h], f158_s1 a0 a1 x1_0 x1_1⟩ = some ⟨⟨focus Tryd.f158 [.r, .l, .r, .b, .h], f158_s1 a0 a1 x1_0 (IntKind.i64.wrap (x1_1 + 1))⟩, [decide ((decide (x1_1 < x1_0)) = true), decide (0 ≤ x1_1), decide (x1_1 < (a0.length : Int)), decide ((decide (x1_1 ≥ (a1.length : Int))) = false), decide (0 ≤ x1_1), decide (x1_1 < (a1.length : Int)), decide ((r1 != 0) = false)], [⟨233, [.val (.int .i64) (List.getD a0 x1_1.toNat 0), .val (.int .i64) (List.getD a1 x1_1.toNat 0)], [], .val (.int .i64) r1, []⟩]⟩ := by kernel_rfl
theorem f158_e5 (a0 : List Int) (a1 : List Int) (x1_0 : Int) (x1_1 : Int) : execEnd Tryd.prog run8 1000 [.go, .cond false, .cond true] ⟨focus Tryd.f158 [.r, .l, .r, .b, .h], f158_s1 a0 a1 x1_0 x1_1⟩ Tryd.f158 = some ⟨.val (.int .i64) (-1), [], [decide ((decide (x1_1 < x1_0)) = false), decide ((decide ((a0.length : Int) < (a1.length : Int))) = true)], []⟩ := by kernel_rfl
theorem f158_e6 (a0 : List Int) (a1 : List Int) (x1_0 : Int) (x1_1 : Int) : execEnd Tryd.prog run8 1000 [.go, .cond false, .cond false] ⟨focus Tryd.f158 [.r, .l, .r, .b, .h], f158_s1 a0 a1 x1_0 x1_1⟩ Tryd.f158 = some ⟨.val (.int .i64) 0, [], [decide ((decide (x1_1 < x1_0)) = false), decide ((decide ((a0.length : Int) < (a1.length : Int))) = false)], []⟩ := by kernel_rfl
theorem f158_at1 (a0 : List Int) (a1 : List Int) (x1_0 : Int) (x1_1 : Int) (r : f158_R) (h : ((x1_1 < x1_0 → (0 ≤ x1_1) ∧ (x1_1 < (a0.length : Int)) ∧ ((x1_1 ≥ (a1.length : Int) → r = 1) ∧ (¬(x1_1 ≥ (a1.length : Int)) → (x1_1 < (a1.length : Int)) ∧ ∃ r1 : f233_R, f233_H (List.getD a0 x1_1.toNat 0) (List.getD a1 x1_1.toNat 0) r1 ∧ ((¬(r1 = 0) → r = r1) ∧ (r1 = 0 → f158_L1 a0 a1 x1_0 (IntKind.i64.wrap (x1_1 + 1)) r))))) ∧ (¬(x1_1 < x1_0) → (((a0.length : Int) < (a1.length : Int) → r = (-1)) ∧ (¬((a0.length : Int) < (a1.length : Int)) → r = 0))))) : f158_L1 a0 a1 x1_0 x1_1 r := by
  intro B W0 hT w S β
  rcases bcase (decide (x1_1 < x1_0)) with hb0 | hb0
  · replace h := h.1 (of_decide_eq_true hb0)
    obtain ⟨h1, h⟩ := h
    obtain ⟨h2, h⟩ := h
    rcases bcase (decide (x1_1 ≥ (a1.length : Int))) with hb3 | hb3
    · replace h := h.1 (of_decide_eq_true hb3)
      rw [h]
      exact ends_of_exec (C := f158_C a0 a1 B W0 w S β) run8_ok mixed (f158_e2 a0 a1 x1_0 x1_1) (all1 (decide_eq_true hb0) (all1 (decide_eq_true (h1)) (all1 (decide_eq_true (h2)) (all1 (decide_eq_true hb3) (all0))))) (allc0)
    · replace h := h.2 (of_decide_eq_false hb3)
      obtain ⟨h5, h⟩ := h
      obtain ⟨r1, h6, h⟩ := h
      rcases bcase (r1 != 0) with hb7 | hb7
      · replace h := h.1 (by simpa using hb7)
        rw [h]
        exact ends_of_exec (C := f158_C a0 a1 B W0 w S β) run8_ok mixed (f158_e3 a0 a1 x1_0 x1_1 r1) (all1 (decide_eq_true hb0) (all1 (decide_eq_true (h1)) (all1 (decide_eq_true (h2)) (all1 (decide_eq_true hb3) (all1 (decide_eq_true (h1)) (all1 (decide_eq_true (h5)) (all1 (decide_eq_true hb7) (all0)))))))) (allc1 (h6 B W0 hT) (allc0))
      · replace h := h.2 (by simpa using hb7)
        exact Ends.of_reach (exec_ok (C := f158_C a0 a1 B W0 w S β) run8_ok mixed (f158_e4 a0 a1 x1_0 x1_1 r1) (all1 (decide_eq_true hb0) (all1 (decide_eq_true (h1)) (all1 (decide_eq_true (h2)) (all1 (decide_eq_true hb3) (all1 (decide_eq_true (h1)) (all1 (decide_eq_true (h5)) (all1 (decide_eq_true hb7) (all0)))))))) (allc1 (h6 B W0 hT) (allc0))) (h B W0 hT w S β)
  · replace h := h.2 (of_decide_eq_false hb0)
    rcases bcase (decide ((a0.length : Int) < (a1.length : Int))) with hb1 | hb1
    · replace h := h.1 (of_decide_eq_true hb1)
      rw [h]
      exact ends_of_exec (C := f158_C a0 a1 B W0 w S β) run8_ok mixed (f158_e5 a0 a1 x1_0 x1_1) (all1 (decide_eq_true hb0) (all1 (decide_eq_true hb1) (all0))) (allc0)
    · replace h := h.2 (of_decide_eq_false hb1)
      rw [h]
      exact ends_of_exec (C := f158_C a0 a1 B W0 w S β) run8_ok mixed (f158_e6 a0 a1 x1_0 x1_1) (all1 (decide_eq_true hb0) (all1 (decide_eq_true hb1) (all0))) (allc0)

/-! ### loop.example/g01094/impl.compareJoints -/
theorem f232_e1 (a0 : S161) (a1 : S161)  : execEnd Tryd.prog run8 1000 [.cond true] ⟨[.code (bodyOf Tryd.f232)], startSt Tryd.f232 [.val t161 a0, .val t161 a1] []⟩ Tryd.f232 = some ⟨.val (.int .i64) (IntKind.i64.wrap (a0.1 - a1.1)), [], [decide ((a0.1 != a1.1) = true)], []⟩ := by kernel_rfl
theorem f232_e2 (a0 : S161) (a1 : S161)  (r1 : f158_R) : execEnd Tryd.prog run8 1000 [.cond false, .reg 3 [] [(4, .con [] (.val (.int .i64) r1) [] false true)]] ⟨[.code (bodyOf Tryd.f232)], startSt Tryd.f232 [.val t161 a0, .val t161 a1] []⟩ Tryd.f232 = some ⟨.val (.int .i64) r1, [], [decide ((a0.1 != a1.1) = false)], [⟨158, [.val (.slice (.int .i64)) a0.2.1, .val (.slice (.int .i64)) a1.2.1], [], .val (.int .i64) r1, []⟩]⟩ := by kernel_rfl
theorem f232_go (a0 : S161) (a1 : S161) (r : f232_R) (h : ((¬(a0.1 = a1.1) → r = (IntKind.i64.wrap (a0.1 - a1.1))) ∧ (a0.1 = a1.1 → ∃ r1 : f158_R, f158_H a0.2.1 a1.2.1 r1 ∧ r = r1))) : f232_H a0 a1 r := by
  intro B W0 hT
  refine holds_of_ends enters Tryd.func232 rfl (by kernel_rfl) fun w S β => ?_
  show Ends (f232_C a0 a1 B W0 w S β) Tryd.f232 _ _ _
  rcases bcase (a0.1 != a1.1) with hb0 | hb0
  · replace h := h.1 (by simpa using hb0)
    rw [h]
    exact ends_of_exec (C := f232_C a0 a1 B W0 w S β) run8_ok mixed (f232_e1 a0 a1) (all1 (decide_eq_true hb0) (all0)) (allc0)
  · replace h := h.2 (by simpa using hb0)
    obtain ⟨r1, h1, h⟩ := h
    rw [h]
    exact ends_of_exec (C := f232_C a0 a1 B W0 w S β) run8_ok mixed (f232_e2 a0 a1 r1) (all1 (decide_eq_true hb0) (all0)) (allc1 (h1 B W0 hT) (allc0))

/-! ### loop.example/g01094/impl.goodJoints -/
theorem f157_e1 (a0 : S25)  : execN Tryd.prog run8 1000 [.stop [] [1, 7, 8, 9] [(0, 0)]] ⟨[.code (bodyOf Tryd.f157)], startSt Tryd.f157 [.val t25 a0] []⟩ = some ⟨⟨focus Tryd.f157 [.r, .l, .r, .b, .h], f157_s1 a0 (a0.2.2.2.1.length : Int) 0⟩, [], []⟩ := by kernel_rfl
theorem f157_go (a0 : S25) (r : f157_R) (h : f157_L1 a0 (a0.2.2.2.1.length : Int) 0 r) : f157_H a0 r := by
  intro B W0 hT
  refine holds_of_ends enters Tryd.func157 rfl (by kernel_rfl) fun w S β => ?_
  show Ends (f157_C a0 B W0 w S β) Tryd.f157 _ _ _
  exact Ends.of_reach (exec_ok (C := f157_C a0 B W0 w S β) run8_ok mixed (f157_e1 a0) (all0) (allc0)) (h B W0 hT w S β)
theorem f157_e2 (a0 : S25) (x1_0 : Int) (x1_1 : Int) (r1 : f136_R) : execEnd Tryd.prog run8 1000 [.go, .cond true, .reg 4 [] [(6, .con [] (.val .bool r1) [] false true)], .cond true] ⟨focus Tryd.f157 [.r, .l, .r, .b, .h], f157_s1 a0 x1_0 x1_1⟩ Tryd.f157 = some ⟨.val .bool false, [], [decide ((decide (x1_1 < x1_0)) = true), decide (0 ≤ x1_1), decide (x1_1 < (a0.2.2.2.1.length : Int)), decide ((!r1) = true)], [⟨136, [.val (.int .i64) ((List.getD a0.2.2.2.1 x1_1.toNat (0, ([], ([], ())))).1), .val (.int .i64) (0 : Int), .val (.int .i64) (IntKind.i64.wrap ((a0.1.length : Int) - 1))], [], .val .bool r1, []⟩]⟩ := by kernel_rfl
theorem f157_e3 (a0 : S25) (x1_0 : Int) (x1_1 : Int) (r1 : f136_R) (r2 : f231_R) (r3 : f78_R) : execEnd Tryd.prog run8 1000 [.go, .cond true, .reg 4 [] [(6, .con [] (.val .bool r1) [] false true)], .cond false, .reg 6 [] [(8, .con [] (.ref 0) [(0, .arr 2 (.int .i64) r2 false)] false true)], .reg 7 [(6, true), (7, true), (8, true), (9, true), (10, true), (11, true)] [(3, .con [] (.val .bool r3) [] false true)]] ⟨focus Tryd.f157 [.r, .l, .r, .b, .h], f157_s1 a0 x1_0 x1_1⟩ Tryd.f157 = some ⟨.val .bool false, [], [decide ((decide (x1_1 < x1_0)) = true), decide (0 ≤ x1_1), decide (x1_1 < (a0.2.2.2.1.length : Int)), decide ((!r1) = false), decide (0 ≤ (List.getD a0.2.2.2.1 x1_1.toNat (0, ([], ([], ())))).1), decide ((List.getD a0.2.2.2.1 x1_1.toNat (0, ([], ([], ())))).1 < (a0.1.length : Int)), decide ((!r3) = true), decide ((!r3) = true), decide ((!r3) = true), decide ((!r3) = true), decide ((!r3) = true), decide ((!r3) = true)], [⟨136, [.val (.int .i64) ((List.getD a0.2.2.2.1 x1_1.toNat (0, ([], ([], ())))).1), .val (.int .i64) (0 : Int), .val (.int .i64) (IntKind.i64.wrap ((a0.1.length : Int) - 1))], [], .val .bool r1, []⟩, ⟨231, [.val (.slice (.int .i64)) a0.2.1, .val (.int .i64) (List.getD a0.1 (((List.getD a0.2.2.2.1 x1_1.toNat (0, ([], ([], ())))).1).toNat) 0)], [], .ref 0, [(0, .arr 2 (.int .i64) r2 false)]⟩, ⟨78, [.val (.slice (.int .i64)) r2, .val (.slice (.int .i64)) (((List.getD a0.2.2.2.1 x1_1.toNat (0, ([], ([], ())))).2).1)], [], .val .bool r3, []⟩]⟩ := by kernel_rfl
theorem f157_e4 (a0 : S25) (x1_0 : Int) (x1_1 : Int) (r1 : f136_R) (r2 : f231_R) (r3 : f78_R) (r4 : f78_R) : execEnd Tryd.prog run8 1000 [.go, .cond true, .reg 4 [] [(6, .con [] (.val .bool r1) [] false true)], .cond false, .reg 6 [] [(8, .con [] (.ref 0) [(0, .arr 2 (.int .i64) r2 false)] false true)], .reg 7 [(6, false), (7, false), (8, false), (9, false), (10, false), (13, true), (14, true), (15, true), (25, true), (26, true)] [(3, .con [] (.val .bool r3) [] false true), (9, .con [] (.val .bool r4) [] false true)]] ⟨focus Tryd.f157 [.r, .l, .r, .b, .h], f157_s1 a0 x1_0 x1_1⟩ Tryd.f157 = some ⟨.val .bool false, [], [decide ((decide (x1_1 < x1_0)) = true), decide (0 ≤ x1_1), decide (x1_1 < (a0.2.2.2.1.length : Int)), decide ((!r1) = false), decide (0 ≤ (List.getD a0.2.2.2.1 x1_1.toNat (0, ([], ([], ())))).1), decide ((List.getD a0.2.2.2.1 x1_1.toNat (0, ([], ([], ())))).1 < (a0.1.length : Int)), decide ((!r3) = false), decide ((!r3) = false), decide ((!r3) = false), decide ((!r3) = false), decide ((!r3) = false), decide ((if (!r3) = true then true else (!r4)) = true), decide ((if (!r3) = true then true else (!r4)) = true), decide ((if (!r3) = true then true else (!r4)) = true), decide ((if (!r3) = true then true else (!r4)) = true), decide ((if (!r3) = true then true else (!r4)) = true)], [⟨136, [.val (.int .i64) ((List.getD a0.2.2.2.1 x1_1.toNat (0, ([], ([], ())))).1), .val (.int .i64) (0 : Int), .val (.int .i64) (IntKind.i64.wrap ((a0.1.length : Int) - 1))], [], .val .bool r1, []⟩, ⟨231, [.val (.slice (.int .i64)) a0.2.1, .val (.int .i64) (List.getD a0.1 (((List.getD a0.2.2.2.1 x1_1.toNat (0, ([], ([], ())))).1).toNat) 0)], [], .ref 0, [(0, .arr 2 (.int .i64) r2 false)]⟩, ⟨78, [.val (.slice (.int .i64)) r2, .val (.slice (.int .i64)) (((List.getD a0.2.2.2.1 x1_1.toNat (0, ([], ([], ())))).2).1)], [], .val .bool r3, []⟩, ⟨78, [.val (.slice (.int .i64)) r2, .val (.slice (.int .i64)) ((((List.getD a0.2.2.2.1 x1_1.toNat (0, ([], ([], ())))).2).2).1)], [], .val .bool r4, []⟩]⟩ := by kernel_rfl
theorem f157_e5 (a0 : S25) (x1_0 : Int) (x1_1 : Int) (r1 : f136_R) (r2 : f231_R) (r3 : f78_R) (r4 : f78_R) (r5 : f232_R) : execEnd Tryd.prog run8 1000 [.go, .cond true, .reg 4 [] [(6, .con [] (.val .bool r1) [] false true)], .cond false, .reg 6 [] [(8, .con [] (.ref 0) [(0, .arr 2 (.int .i64) r2 false)] false true)], .reg 7 [(6, false), (7, false), (8, false), (9, false), (10, false), (13, false), (14, false), (15, false), (16, true), (17, true), (18, true), (19, true), (20, true), (21, true), (22, true), (23, true), (24, true), (25, false)] [(3, .con [] (.val .bool r3) [] false true), (9, .con [] (.val .bool r4) [] false true), (23, .con [] (.val (.int .i64) r5) [] false true)], .cond true] ⟨focus Tryd.f157 [.r, .l, .r, .b, .h], f157_s1 a0 x1_0 x1_1⟩ Tryd.f157 = some ⟨.val .bool false, [], [decide ((decide (x1_1 < x1_0)) = true), decide (0 ≤ x1_1), decide (x1_1 < (a0.2.2.2.1.length : Int)), decide ((!r1) = false), decide (0 ≤ (List.getD a0.2.2.2.1 x1_1.toNat (0, ([], ([], ())))).1), decide ((List.getD a0.2.2.2.1 x1_1.toNat (0, ([], ([], ())))).1 < (a0.1.length : Int)), decide ((!r3) = false), decide ((!r3) = false), decide ((!r3) = false), decide ((!r3) = false), decide ((!r3) = false), decide ((if (!r3) = true then true else (!r4)) = false), decide ((if (!r3) = true then true else (!r4)) = false), decide ((if (!r3) = true then true else (!r4)) = false), decide ((decide (x1_1 > 0)) = true), decide ((decide (x1_1 > 0)) = true), decide ((decide (x1_1 > 0)) = true), decide ((decide (x1_1 > 0)) = true), decide ((decide (x1_1 > 0)) = true), decide (0 ≤ IntKind.i64.wrap (x1_1 - 1)), decide (IntKind.i64.wrap (x1_1 - 1) < (a0.2.2.2.1.length : Int)), decide ((decide (x1_1 > 0)) = true), decide ((decide (x1_1 > 0)) = true), decide ((decide (x1_1 > 0)) = true), decide ((decide (x1_1 > 0)) = true), decide ((if (!r3) = true then true else (!r4)) = false), decide ((if (if (!r3) = true then true else (!r4)) = true then true else (if (decide (x1_1 > 0)) = true then (decide (r5 ≥ 0)) else false)) = true)], [⟨136, [.val (.int .i64) ((List.getD a0.2.2.2.1 x1_1.toNat (0, ([], ([], ())))).1), .val (.int .i64) (0 : Int), .val (.int .i64) (IntKind.i64.wrap ((a0.1.length : Int) - 1))], [], .val .bool r1, []⟩, ⟨231, [.val (.slice (.int .i64)) a0.2.1, .val (.int .i64) (List.getD a0.1 (((List.getD a0.2.2.2.1 x1_1.toNat (0, ([], ([], ())))).1).toNat) 0)], [], .ref 0, [(0, .arr 2 (.int .i64) r2 false)]⟩, ⟨78, [.val (.slice (.int .i64)) r2, .val (.slice (.int .i64)) (((List.getD a0.2.2.2.1 x1_1.toNat (0, ([], ([], ())))).2).1)], [], .val .bool r3, []⟩, ⟨78, [.val (.slice (.int .i64)) r2, .val (.slice (.int .i64)) ((((List.getD a0.2.2.2.1 x1_1.toNat (0, ([], ([], ())))).2).2).1)], [], .val .bool r4, []⟩, ⟨232, [.val t161 (List.getD a0.2.2.2.1 ((IntKind.i64.wrap (x1_1 - 1)).toNat) (0, ([], ([], ())))), .val t161 ((List.getD a0.2.2.2.1 x1_1.toNat (0, ([], ([], ())))).1, (((List.getD a0.2.2.2.1 x1_1.toNat (0, ([], ([], ())))).2).1, (((List.getD a0.2.2.2.1 x1_1.toNat (0, ([], ([], ())))).2).2)))], [], .val (.int .i64) r5, []⟩]⟩ := by kernel_rfl
theorem f157_e6 (a0 : S25) (x1_0 : Int) (x1_1 : Int) (r1 : f136_R) (r2 : f231_R) (r3 : f78_R) (r4 : f78_R) (r5 : f232_R) : execN Tryd.prog run8 1000 [.go, .cond true, .reg 4 [] [(6, .con [] (.val .bool r1) [] false true)], .cond false, .reg 6 [] [(8, .con [] (.ref 0) [(0, .arr 2 (.int .i64) r2 false)] false true)], .reg 7 [(6, false), (7, false), (8, false), (9, false), (10, false), (13, false), (14, false), (15, false), (16, true), (17, true), (18, true), (19, true), (20, true), (21, true), (22, true), (23, true), (24, true), (25, false)] [(3, .con [] (.val .bool r3) [] false true), (9, .con [] (.val .bool r4) [] false true), (23, .con [] (.val (.int .i64) r5) [] false true)], .cond false, .stop [] [1, 7, 8, 9] [(0, 0)]] ⟨focus Tryd.f157 [.r, .l, .r, .b, .h], f157_s1 a0 x1_0 x1_1⟩ = some ⟨⟨focus Tryd.f157 [.r, .l, .r, .b, .h], f157_s1 a0 x1_0 (IntKind.i64.wrap (x1_1 + 1))⟩, [decide ((decide (x1_1 < x1_0)) = true), decide (0 ≤ x1_1), decide (x1_1 < (a0.2.2.2.1.length : Int)), decide ((!r1) = false), decide (0 ≤ (List.getD a0.2.2.2.1 x1_1.toNat (0, ([], ([], ())))).1), decide ((List.getD a0.2.2.2.1 x1_1.toNat (0, ([], ([], ())))).1 < (a0.1.length : Int)), decide ((!r3) = false), decide ((!r3) = false), decide ((!r3) = false), decide ((!r3) = false), decide ((!r3) = false), decide ((if (!r3) = true then true else (!r4)) = false), decide ((if (!r3) = true then true else (!r4)) = false), decide ((if (!r3) = true then true else (!r4)) = false), decide ((decide (x1_1 > 0)) = true), decide ((decide (x1_1 > 0)) = true), decide ((decide (x1_1 > 0)) = true), decide ((decide (x1_1 > 0)) = true), decide ((decide (x1_1 > 0)) = true), decide (0 ≤ IntKind.i64.wrap (x1_1 - 1)), decide (IntKind.i64.wrap (x1_1 - 1) < (a0.2.2.2.1.length : Int)), decide ((decide (x1_1 > 0)) = true), decide ((decide (x1_1 > 0)) = true), decide ((decide (x1_1 > 0)) = true), decide ((decide (x1_1 > 0)) = true), decide ((if (!r3) = true then true else (!r4)) = false), decide ((if (if (!r3) = true then true else (!r4)) = true then true else (if (decide (x1_1 > 0)) = true then (decide (r5 ≥ 0)) else false)) = false)], [⟨136, [.val (.int .i64) ((List.getD a0.2.2.2.1 x1_1.toNat (0, ([], ([], ())))).1), .val (.int .i64) (0 : Int), .val (.int .i64) (IntKind.i64.wrap ((a0.1.length : Int) - 1))], [], .val .bool r1, []⟩, ⟨231, [.val (.slice (.int .i64)) a0.2.1, .val (.int .i64) (List.getD a0.1 (((List.getD a0.2.2.2.1 x1_1.toNat (0, ([], ([], ())))).1).toNat) 0)], [], .ref 0, [(0, .arr 2 (.int .i64) r2 false)]⟩, ⟨78, [.val (.slice (.int .i64)) r2, .val (.slice (.int .i64)) (((List.getD a0.2.2.2.1 x1_1.toNat (0, ([], ([], ())))).2).1)], [], .val .bool r3, []⟩, ⟨78, [.val (.slice (.int .i64)) r2, .val (.slice (.int .i64)) ((((List.getD a0.2.2.2.1 x1_1.toNat (0, ([], ([], ())))).2).2).1)], [], .val .bool r4, []⟩, ⟨232, [.val t161 (List.getD a0.2.2.2.1 ((IntKind.i64.wrap (x1_1 - 1)).toNat) (0, ([], ([], ())))), .val t161 ((List.getD a0.2.2.2.1 x1_1.toNat (0, ([], ([], ())))).1, (((List.getD a0.2.2.2.1 x1_1.toNat (0, ([], ([], ())))).2).1, (((List.getD a0.2.2.2.1 x1_1.toNat (0, ([], ([], ())))).2).2)))], [], .val (.int .i64) r5, []⟩]⟩ := by kernel_rfl
theorem f157_e7 (a0 : S25) (x1_0 : Int) (x1_1 : Int) (r1 : f136_R) (r2 : f231_R) (r3 : f78_R) (r4 : f78_R) : execN Tryd.prog run8 1000 [.go, .cond true, .reg 4 [] [(6, .con [] (.val .bool r1) [] false true)], .cond false, .reg 6 [] [(8, .con [] (.ref 0) [(0, .arr 2 (.int .i64) r2 false)] false true)], .reg 7 [(6, false), (7, false), (8, false), (9, false), (10, false), (13, false), (14, false), (15, false), (16, false), (17, false), (18, false), (19, false), (20, false), (21, false), (22, false), (23, false), (24, false), (25, false), (25, false)] [(3, .con [] (.val .bool r3) [] false true), (9, .con [] (.val .bool r4) [] false true)], .cond false, .stop [] [1, 7, 8, 9] [(0, 0)]] ⟨focus Tryd.f157 [.r, .l, .r, .b, .h], f157_s1 a0 x1_0 x1_1⟩ = some ⟨⟨focus Tryd.f157 [.r, .l, .r, .b, .h], f157_s1 a0 x1_0 (IntKind.i64.wrap (x1_1 + 1))⟩, [decide ((decide (x1_1 < x1_0)) = true), decide (0 ≤ x1_1), decide (x1_1 < (a0.2.2.2.1.length : Int)), decide ((!r1) = false), decide (0 ≤ (List.getD a0.2.2.2.1 x1_1.toNat (0, ([], ([], ())))).1), decide ((List.getD a0.2.2.2.1 x1_1.toNat (0, ([], ([], ())))).1 < (a0.1.length : Int)), decide ((!r3) = false), decide ((!r3) = false), decide ((!r3) = false), decide ((!r3) = false), decide ((!r3) = false), decide ((if (!r3) = true then true else (!r4)) = false), decide ((if (!r3) = true then true else (!r4)) = false), decide ((if (!r3) = true then true else (!r4)) = false), decide ((decide (x1_1 > 0)) = false), decide ((decide (x1_1 > 0)) = false), decide ((decide (x1_1 > 0)) = false), decide ((decide (x1_1 > 0)) = false), decide ((decide (x1_1 > 0)) = false), decide ((decide (x1_1 > 0)) = false), decide ((decide (x1_1 > 0)) = false), decide ((decide (x1_1 > 0)) = false), decide ((decide (x1_1 > 0)) = false), decide ((if (!r3) = true then true else (!r4)) = false), decide ((decide (x1_1 > 0)) = false), decide ((if (if (!r3) = true then true else (!r4)) = true then true else false) = false)], [⟨136, [.val (.int .i64) ((List.getD a0.2.2.2.1 x1_1.toNat (0, ([], ([], ())))).1), .val (.int .i64) (0 : Int), .val (.int .i64) (IntKind.i64.wrap ((a0.1.length : Int) - 1))], [], .val .bool r1, []⟩, ⟨231, [.val (.slice (.int .i64)) a0.2.1, .val (.int .i64) (List.getD a0.1 (((List.getD a0.2.2.2.1 x1_1.toNat (0, ([], ([], ())))).1).toNat) 0)], [], .ref 0, [(0, .arr 2 (.int .i64) r2 false)]⟩, ⟨78, [.val (.slice (.int .i64)) r2, .val (.slice (.int .i64)) (((List.getD a0.2.2.2.1 x1_1.toNat (0, ([], ([], ())))).2).1)], [], .val .bool r3, []⟩, ⟨78, [.val (.slice (.int .i64)) r2, .val (.slice (.int .i64)) ((((List.getD a0.2.2.2.1 x1_1.toNat (0, ([], ([], ())))).2).2).1)], [], .val .bool r4, []⟩]⟩ := by kernel_rfl
theorem f157_e8 (a0 : S25) (x1_0 : Int) (x1_1 : Int) : execEnd Tryd.prog run8 1000 [.go, .cond false] ⟨focus Tryd.f157 [.r, .l, .r, .b, .h], f157_s1 a0 x1_0 x1_1⟩ Tryd.f157 = some ⟨.val .bool (decide ((a0.2.2.2.1.length : Int) ≤ 64)), [], [decide ((decide (x1_1 < x1_0)) = false)], []⟩ := by kernel_rfl
theorem f157_at1 (a0 : S25) (x1_0 : Int) (x1_1 : Int) (r : f157_R) (h : ((x1_1 < x1_0 → (0 ≤ x1_1) ∧ (x1_1 < (a0.2.2.2.1.length : Int)) ∧ ∃ r1 : f136_R, f136_H ((List.getD a0.2.2.2.1 x1_1.toNat (0, ([], ([], ())))).1) 0 (IntKind.i64.wrap ((a0.1.length : Int) - 1)) r1 ∧ ((r1 = false → r = false) ∧ (r1 = true → (0 ≤ (List.getD a0.2.2.2.1 x1_1.toNat (0, ([], ([], ())))).1) ∧ ((List.getD a0.2.2.2.1 x1_1.toNat (0, ([], ([], ())))).1 < (a0.1.length : Int)) ∧ ∃ r2 : f231_R, f231_H a0.2.1 (List.getD a0.1 (((List.getD a0.2.2.2.1 x1_1.toNat (0, ([], ([], ())))).1).toNat) 0) r2 ∧ ∃ r3 : f78_R, f78_H r2 (((List.getD a0.2.2.2.1 x1_1.toNat (0, ([], ([], ())))).2).1) r3 ∧ ((r3 = false → r = false) ∧ (r3 = true → ∃ r4 : f78_R, f78_H r2 ((((List.getD a0.2.2.2.1 x1_1.toNat (0, ([], ([], ())))).2).2).1) r4 ∧ ((r4 = false → r = false) ∧ (r4 = true → ((x1_1 > 0 → (0 ≤ IntKind.i64.wrap (x1_1 - 1)) ∧ (IntKind.i64.wrap (x1_1 - 1) < (a0.2.2.2.1.length : Int)) ∧ ∃ r5 : f232_R, f232_H (List.getD a0.2.2.2.1 ((IntKind.i64.wrap (x1_1 - 1)).toNat) (0, ([], ([], ())))) ((List.getD a0.2.2.2.1 x1_1.toNat (0, ([], ([], ())))).1, (((List.getD a0.2.2.2.1 x1_1.toNat (0, ([], ([], ())))).2).1, (((List.getD a0.2.2.2.1 x1_1.toNat (0, ([], ([], ())))).2).2))) r5 ∧ ((r5 ≥ 0 → r = false) ∧ (¬(r5 ≥ 0) → f157_L1 a0 x1_0 (IntKind.i64.wrap (x1_1 + 1)) r))) ∧ (¬(x1_1 > 0) → f157_L1 a0 x1_0 (IntKind.i64.wrap (x1_1 + 1)) r))))))))) ∧ (¬(x1_1 < x1_0) → r = (decide ((a0.2.2.2.1.length : Int) ≤ 64))))) : f157_L1 a0 x1_0 x1_1 r := by
  intro B W0 hT w S β
  rcases bcase (decide (x1_1 < x1_0)) with hb0 | hb0
  · replace h := h.1 (of_decide_eq_true hb0)
    obtain ⟨h1, h⟩ := h
    obtain ⟨h2, h⟩ := h
    obtain ⟨r1, h3, h⟩ := h
    rcases bcase (!r1) with hb4 | hb4
    · replace h := h.1 (by simpa using hb4)
      rw [h]
      exact ends_of_exec (C := f157_C a0 B W0 w S β) run8_ok mixed (f157_e2 a0 x1_0 x1_1 r1) (all1 (decide_eq_true hb0) (all1 (decide_eq_true (h1)) (all1 (decide_eq_true (h2)) (all1 (decide_eq_true hb4) (all0))))) (allc1 (h3 B W0 hT) (allc0))
    · replace h := h.2 (by simpa using hb4)
      obtain ⟨h5, h⟩ := h
      obtain ⟨h6, h⟩ := h
      obtain ⟨r2, h7, h⟩ := h
      obtain ⟨r3, h8, h⟩ := h
      rcases bcase (!r3) with hb9 | hb9
      · replace h := h.1 (by simpa using hb9)
        rw [h]
        exact ends_of_exec (C := f157_C a0 B W0 w S β) run8_ok mixed (f157_e3 a0 x1_0 x1_1 r1 r2 r3) (all1 (decide_eq_true hb0) (all1 (decide_eq_true (h1)) (all1 (decide_eq_true (h2)) (all1 (decide_eq_true hb4) (all1 (decide_eq_true (h5)) (all1 (decide_eq_true (h6)) (all1 (decide_eq_true hb9) (all1 (decide_eq_true hb9) (all1 (decide_eq_true hb9) (all1 (decide_eq_true hb9) (all1 (decide_eq_true hb9) (all1 (decide_eq_true hb9) (all0))))))))))))) (allc1 (h3 B W0 hT) (allc1 (h7 B W0 hT) (allc1 (h8 B W0 hT) (allc0))))
      · replace h := h.2 (by simpa using hb9)
        obtain ⟨r4, h13, h⟩ := h
        rcases bcase (if (!r3) = true then true else (!r4)) with hb15 | hb15
        · have hs15 : (!r4) = true := by simpa only [hb0, hb4, hb9, if_true, if_false, Bool.false_eq_true, Bool.not_true, Bool.not_false, Bool.not_not] using hb15
          replace h := h.1 (by simpa using hs15)
          rw [h]
          exact ends_of_exec (C := f157_C a0 B W0 w S β) run8_ok mixed (f157_e4 a0 x1_0 x1_1 r1 r2 r3 r4) (all1 (decide_eq_true hb0) (all1 (decide_eq_true (h1)) (all1 (decide_eq_true (h2)) (all1 (decide_eq_true hb4) (all1 (decide_eq_true (h5)) (all1 (decide_eq_true (h6)) (all1 (decide_eq_true hb9) (all1 (decide_eq_true hb9) (all1 (decide_eq_true hb9) (all1 (decide_eq_true hb9) (all1 (decide_eq_true hb9) (all1 (decide_eq_true hb15) (all1 (decide_eq_true hb15) (all1 (decide_eq_true hb15) (all1 (decide_eq_true hb15) (all1 (decide_eq_true hb15) (all0))))))))))))))))) (allc1 (h3 B W0 hT) (allc1 (h7 B W0 hT) (allc1 (h8 B W0 hT) (allc1 (h13 B W0 hT) (allc0)))))
        · have hs15 : (!r4) = false := by simpa only [hb0, hb4, hb9, if_true, if_false, Bool.false_eq_true, Bool.not_true, Bool.not_false, Bool.not_not] using hb15
          replace h := h.2 (by simpa using hs15)
          rcases bcase (decide (x1_1 > 0)) with hb19 | hb19
          · replace h := h.1 (of_decide_eq_true hb19)
            obtain ⟨h24, h⟩ := h
            obtain ⟨h25, h⟩ := h
            obtain ⟨r5, h29, h⟩ := h
            rcases bcase (if (if (!r3) = true then true else (!r4)) = true then true else (if (decide (x1_1 > 0)) = true then (decide (r5 ≥ 0)) else false)) with hb32 | hb32
            · have hs32 : (decide (r5 ≥ 0)) = true := by simpa only [hb0, hb4, hb9, hb15, hs15, hb19, if_true, if_false, Bool.false_eq_true, Bool.not_true, Bool.not_false, Bool.not_not] using hb32
              replace h := h.1 (of_decide_eq_true hs32)
              rw [h]
              exact ends_of_exec (C := f157_C a0 B W0 w S β) run8_ok mixed (f157_e5 a0 x1_0 x1_1 r1 r2 r3 r4 r5) (all1 (decide_eq_true hb0) (all1 (decide_eq_true (h1)) (all1 (decide_eq_true (h2)) (all1 (decide_eq_true hb4) (all1 (decide_eq_true (h5)) (all1 (decide_eq_true (h6)) (all1 (decide_eq_true hb9) (all1 (decide_eq_true hb9) (all1 (decide_eq_true hb9) (all1 (decide_eq_true hb9) (all1 (decide_eq_true hb9) (all1 (decide_eq_true hb15) (all1 (decide_eq_true hb15) (all1 (decide_eq_true hb15) (all1 (decide_eq_true hb19) (all1 (decide_eq_true hb19) (all1 (decide_eq_true hb19) (all1 (decide_eq_true hb19) (all1 (decide_eq_true hb19) (all1 (decide_eq_true (h24)) (all1 (decide_eq_true (h25)) (all1 (decide_eq_true hb19) (all1 (decide_eq_true hb19) (all1 (decide_eq_true hb19) (all1 (decide_eq_true hb19) (all1 (decide_eq_true hb15) (all1 (decide_eq_true hb32) (all0)))))))))))))))))))))))))))) (allc1 (h3 B W0 hT) (allc1 (h7 B W0 hT) (allc1 (h8 B W0 hT) (allc1 (h13 B W0 hT) (allc1 (h29 B W0 hT) (allc0))))))
            · have hs32 : (decide (r5 ≥ 0)) = false := by simpa only [hb0, hb4, hb9, hb15, hs15, hb19, if_true, if_false, Bool.false_eq_true, Bool.not_true, Bool.not_false, Bool.not_not] using hb32
              replace h := h.2 (of_decide_eq_false hs32)
              exact Ends.of_reach (exec_ok (C := f157_C a0 B W0 w S β) run8_ok mixed (f157_e6 a0 x1_0 x1_1 r1 r2 r3 r4 r5) (all1 (decide_eq_true hb0) (all1 (decide_eq_true (h1)) (all1 (decide_eq_true (h2)) (all1 (decide_eq_true hb4) (all1 (decide_eq_true (h5)) (all1 (decide_eq_true (h6)) (all1 (decide_eq_true hb9) (all1 (decide_eq_true hb9) (all1 (decide_eq_true hb9) (all1 (decide_eq_true hb9) (all1 (decide_eq_true hb9) (all1 (decide_eq_true hb15) (all1 (decide_eq_true hb15) (all1 (decide_eq_true hb15) (all1 (decide_eq_true hb19) (all1 (decide_eq_true hb19) (all1 (decide_eq_true hb19) (all1 (decide_eq_true hb19) (all1 (decide_eq_true hb19) (all1 (decide_eq_true (h24)) (all1 (decide_eq_true (h25)) (all1 (decide_eq_true hb19) (all1 (decide_eq_true hb19) (all1 (decide_eq_true hb19) (all1 (decide_eq_true hb19) (all1 (decide_eq_true hb15) (all1 (decide_eq_true hb32) (all0)))))))))))))))))))))))))))) (allc1 (h3 B W0 hT) (allc1 (h7 B W0 hT) (allc1 (h8 B W0 hT) (allc1 (h13 B W0 hT) (allc1 (h29 B W0 hT) (allc0))))))) (h B W0 hT w S β)
          · replace h := h.2 (of_decide_eq_false hb19)
            have hb30 : (if (if (!r3) = true then true else (!r4)) = true then true else false) = false := by simp only [hb0, hb4, hb9, hb15, hs15, hb19, if_true, if_false, Bool.false_eq_true, Bool.not_true, Bool.not_false, Bool.not_not, eq_self]
            exact Ends.of_reach (exec_ok (C := f157_C a0 B W0 w S β) run8_ok mixed (f157_e7 a0 x1_0 x1_1 r1 r2 r3 r4) (all1 (decide_eq_true hb0) (all1 (decide_eq_true (h1)) (all1 (decide_eq_true (h2)) (all1 (decide_eq_true hb4) (all1 (decide_eq_true (h5)) (all1 (decide_eq_true (h6)) (all1 (decide_eq_true hb9) (all1 (decide_eq_true hb9) (all1 (decide_eq_true hb9) (all1 (decide_eq_true hb9) (all1 (decide_eq_true hb9) (all1 (decide_eq_true hb15) (all1 (decide_eq_true hb15) (all1 (decide_eq_true hb15) (all1 (decide_eq_true hb19) (all1 (decide_eq_true hb19) (all1 (decide_eq_true hb19) (all1 (decide_eq_true hb19) (all1 (decide_eq_true hb19) (all1 (decide_eq_true hb19) (all1 (decide_eq_true hb19) (all1 (decide_eq_true hb19) (all1 (decide_eq_true hb19) (all1 (decide_eq_true hb15) (all1 (decide_eq_true hb19) (all1 (decide_eq_true hb30) (all0))))))))))))))))))))))))))) (allc1 (h3 B W0 hT) (allc1 (h7 B W0 hT) (allc1 (h8 B W0 hT) (allc1 (h13 B W0 hT) (allc0)))))) (h B W0 hT w S β)
  · replace h := h.2 (of_decide_eq_false hb0)
    rw [h]
    exact ends_of_exec (C := f157_C a0 B W0 w S β) run8_ok mixed (f157_e8 a0 x1_0 x1_1) (all1 (decide_eq_true hb0) (all0)) (allc0)

end Go.Proofs.YtcbeifkfllcjoaaDoor
