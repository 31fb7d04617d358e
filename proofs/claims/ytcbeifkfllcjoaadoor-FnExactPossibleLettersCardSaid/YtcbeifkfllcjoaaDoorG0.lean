/-
  The calls that the law reaches: relations and the states at loops' heads (printed by emitlaw.py).
-/
import Derived.Test.YtcbeifkfllcjoaaDoorRY
set_option linter.unusedVariables false
set_option linter.unusedSimpArgs false
set_option linter.unnecessarySimpa false
set_option maxRecDepth 100000
namespace Go.Proofs.YtcbeifkfllcjoaaDoor

abbrev t38 : Ty := (.pair (.int .i64) (.pair (.slice (.int .i64)) .unit))
abbrev S38 : Type := Int × (List Int) × Unit

abbrev t104 : Ty := (.pair (.slice (.int .i64)) (.pair (.slice (.int .i64)) .unit))
abbrev S104 : Type := (List Int) × (List Int) × Unit

abbrev t161 : Ty := (.pair (.int .i64) t104)
abbrev S161 : Type := Int × S104

abbrev t25 : Ty := (.pair (.slice (.int .i64)) (.pair (.slice (.int .i64)) (.pair (.slice (.int .i64)) (.pair (.slice t161) (.pair (.slice (.slice (.int .i64))) .unit)))))
abbrev S25 : Type := (List Int) × (List Int) × (List Int) × (List S161) × (List (List Int)) × Unit

/-- loop.example/g01094/laws.szInt64S -/
abbrev f69_R : Type := Int
@[reducible] def f69_res (r : f69_R) : A := .val (.int .i64) r
@[reducible] def f69_fin (r : f69_R) : List (Nat × O) := []
def f69_H (a0 : List Int) (a1 : Int) (r : f69_R) : Prop := Has ⟨69, [.val (.slice (.int .i64)) a0, .val (.int .i64) a1], [], f69_res r, f69_fin r⟩
@[reducible] noncomputable def f69_C (a0 : List Int) (a1 : Int) (B : Nat) (W0 : Nat → Option Obj) (w : World) (S : Nat → Prop) (β : Nat → Value) : Ctx := ⟨Tryd.prog, B, W0, w, S, β, lookO (numbered 0 []), 0, 12⟩

/-- loop.example/g01094/laws.szJoint -/
abbrev f148_R : Type := Int
@[reducible] def f148_res (r : f148_R) : A := .val (.int .i64) r
@[reducible] def f148_fin (r : f148_R) : List (Nat × O) := []
def f148_H (a0 : S161) (a1 : Int) (r : f148_R) : Prop := Has ⟨148, [.val t161 a0, .val (.int .i64) a1], [], f148_res r, f148_fin r⟩
@[reducible] noncomputable def f148_C (a0 : S161) (a1 : Int) (B : Nat) (W0 : Nat → Option Obj) (w : World) (S : Nat → Prop) (β : Nat → Value) : Ctx := ⟨Tryd.prog, B, W0, w, S, β, lookO (numbered 0 []), 0, 18⟩

/-- loop.example/g01094/laws.szJointS -/
abbrev f70_R : Type := Int
@[reducible] def f70_res (r : f70_R) : A := .val (.int .i64) r
@[reducible] def f70_fin (r : f70_R) : List (Nat × O) := []
def f70_H (a0 : List S161) (a1 : Int) (r : f70_R) : Prop := Has ⟨70, [.val (.slice t161) a0, .val (.int .i64) a1], [], f70_res r, f70_fin r⟩
@[reducible] noncomputable def f70_C (a0 : List S161) (a1 : Int) (B : Nat) (W0 : Nat → Option Obj) (w : World) (S : Nat → Prop) (β : Nat → Value) : Ctx := ⟨Tryd.prog, B, W0, w, S, β, lookO (numbered 0 []), 0, 27⟩
def f70_s1 (a0 : List S161) (a1 : Int) (x1_0 : Int) (x1_1 : Int) : St := ⟨[.val (.slice t161) a0, .val (.int .i64) x1_0, U, U, U, .val (.int .i64) x1_1] ++ List.replicate 21 U, [], 0, 0⟩
def f70_L1 (a0 : List S161) (a1 : Int) (x1_0 : Int) (x1_1 : Int) (r : f70_R) : Prop := At (fun B W0 w S β => Ends (f70_C a0 a1 B W0 w S β) Tryd.f70 ⟨focus Tryd.f70 [.r, .r, .r, .l, .r, .b, .h], f70_s1 a0 a1 x1_0 x1_1⟩ (f70_res r) (f70_fin r))

/-- loop.example/g01094/laws.szInt64SS -/
abbrev f71_R : Type := Int
@[reducible] def f71_res (r : f71_R) : A := .val (.int .i64) r
@[reducible] def f71_fin (r : f71_R) : List (Nat × O) := []
def f71_H (a0 : List (List Int)) (a1 : Int) (r : f71_R) : Prop := Has ⟨71, [.val (.slice (.slice (.int .i64))) a0, .val (.int .i64) a1], [], f71_res r, f71_fin r⟩
@[reducible] noncomputable def f71_C (a0 : List (List Int)) (a1 : Int) (B : Nat) (W0 : Nat → Option Obj) (w : World) (S : Nat → Prop) (β : Nat → Value) : Ctx := ⟨Tryd.prog, B, W0, w, S, β, lookO (numbered 0 []), 0, 27⟩
def f71_s1 (a0 : List (List Int)) (a1 : Int) (x1_0 : Int) (x1_1 : Int) : St := ⟨[.val (.slice (.slice (.int .i64))) a0, .val (.int .i64) x1_0, U, U, U, .val (.int .i64) x1_1] ++ List.replicate 21 U, [], 0, 0⟩
def f71_L1 (a0 : List (List Int)) (a1 : Int) (x1_0 : Int) (x1_1 : Int) (r : f71_R) : Prop := At (fun B W0 w S β => Ends (f71_C a0 a1 B W0 w S β) Tryd.f71 ⟨focus Tryd.f71 [.r, .r, .r, .l, .r, .b, .h], f71_s1 a0 a1 x1_0 x1_1⟩ (f71_res r) (f71_fin r))

/-- loop.example/g01094/laws.szAsynchronous -/
abbrev f14_R : Type := Int
@[reducible] def f14_res (r : f14_R) : A := .val (.int .i64) r
@[reducible] def f14_fin (r : f14_R) : List (Nat × O) := []
def f14_H (a0 : S25) (a1 : Int) (r : f14_R) : Prop := Has ⟨14, [.val t25 a0, .val (.int .i64) a1], [], f14_res r, f14_fin r⟩
@[reducible] noncomputable def f14_C (a0 : S25) (a1 : Int) (B : Nat) (W0 : Nat → Option Obj) (w : World) (S : Nat → Prop) (β : Nat → Value) : Ctx := ⟨Tryd.prog, B, W0, w, S, β, lookO (numbered 0 []), 0, 36⟩

/-- loop.example/g01094/laws.toInt64S -/
abbrev f17_R : Type := List Int
@[reducible] def f17_res (r : f17_R) : A := .ref 0
@[reducible] def f17_fin (r : f17_R) : List (Nat × O) := [(0, .arr 2 (.int .i64) r false)]
def f17_H (a0 : List Int) (r : f17_R) : Prop := Has ⟨17, [.val (.slice (.int .i64)) a0], [], f17_res r, f17_fin r⟩
@[reducible] noncomputable def f17_C (a0 : List Int) (B : Nat) (W0 : Nat → Option Obj) (w : World) (S : Nat → Prop) (β : Nat → Value) : Ctx := ⟨Tryd.prog, B, W0, w, S, β, lookO (numbered 0 []), 0, 22⟩
def f17_s1 (a0 : List Int) (x1_0 : Int) (x1_1 : List Int) : St := ⟨[.val (.slice (.int .i64)) a0, U, U, .ref 0, .val (.int .i64) x1_0] ++ List.replicate 17 U, [(0, .arr 2 (.int .i64) x1_1 false)], 1, 0⟩
def f17_L1 (a0 : List Int) (x1_0 : Int) (x1_1 : List Int) (r : f17_R) : Prop := At (fun B W0 w S β => Ends (f17_C a0 B W0 w S β) Tryd.f17 ⟨focus Tryd.f17 [.r, .r, .l, .r, .b, .h], f17_s1 a0 x1_0 x1_1⟩ (f17_res r) (f17_fin r))

/-- loop.example/g01094/laws.toJointS -/
abbrev f75_R : Type := List S161
@[reducible] def f75_res (r : f75_R) : A := .ref 0
@[reducible] def f75_fin (r : f75_R) : List (Nat × O) := [(0, .arr 165 t161 r false)]
def f75_H (a0 : List S161) (r : f75_R) : Prop := Has ⟨75, [.val (.slice t161) a0], [], f75_res r, f75_fin r⟩
@[reducible] noncomputable def f75_C (a0 : List S161) (B : Nat) (W0 : Nat → Option Obj) (w : World) (S : Nat → Prop) (β : Nat → Value) : Ctx := ⟨Tryd.prog, B, W0, w, S, β, lookO (numbered 0 []), 0, 23⟩
def f75_s1 (a0 : List S161) (x1_0 : Int) (x1_1 : List S161) : St := ⟨[.val (.slice t161) a0, U, U, .ref 0, .val (.int .i64) x1_0] ++ List.replicate 18 U, [(0, .arr 165 t161 x1_1 false)], 1, 0⟩
def f75_L1 (a0 : List S161) (x1_0 : Int) (x1_1 : List S161) (r : f75_R) : Prop := At (fun B W0 w S β => Ends (f75_C a0 B W0 w S β) Tryd.f75 ⟨focus Tryd.f75 [.r, .r, .l, .r, .b, .h], f75_s1 a0 x1_0 x1_1⟩ (f75_res r) (f75_fin r))

/-- loop.example/g01094/laws.toInt64SS -/
abbrev f76_R : Type := List (List Int)
@[reducible] def f76_res (r : f76_R) : A := .ref 0
@[reducible] def f76_fin (r : f76_R) : List (Nat × O) := [(0, .arr 22 (.slice (.int .i64)) r false)]
def f76_H (a0 : List (List Int)) (r : f76_R) : Prop := Has ⟨76, [.val (.slice (.slice (.int .i64))) a0], [], f76_res r, f76_fin r⟩
@[reducible] noncomputable def f76_C (a0 : List (List Int)) (B : Nat) (W0 : Nat → Option Obj) (w : World) (S : Nat → Prop) (β : Nat → Value) : Ctx := ⟨Tryd.prog, B, W0, w, S, β, lookO (numbered 0 []), 0, 23⟩
def f76_s1 (a0 : List (List Int)) (x1_0 : Int) (x1_1 : List (List Int)) : St := ⟨[.val (.slice (.slice (.int .i64))) a0, U, U, .ref 0, .val (.int .i64) x1_0] ++ List.replicate 18 U, [(0, .arr 22 (.slice (.int .i64)) x1_1 false)], 1, 0⟩
def f76_L1 (a0 : List (List Int)) (x1_0 : Int) (x1_1 : List (List Int)) (r : f76_R) : Prop := At (fun B W0 w S β => Ends (f76_C a0 B W0 w S β) Tryd.f76 ⟨focus Tryd.f76 [.r, .r, .l, .r, .b, .h], f76_s1 a0 x1_0 x1_1⟩ (f76_res r) (f76_fin r))

/-- loop.example/g01094/spec.l01In -/
abbrev f115_R : Type := Bool
@[reducible] def f115_res (r : f115_R) : A := .val .bool r
@[reducible] def f115_fin (r : f115_R) : List (Nat × O) := []
def f115_H (a0 : Int) (a1 : Int) (a2 : Int) (r : f115_R) : Prop := Has ⟨115, [.val (.int .i64) a0, .val (.int .i64) a1, .val (.int .i64) a2], [], f115_res r, f115_fin r⟩
@[reducible] noncomputable def f115_C (a0 : Int) (a1 : Int) (a2 : Int) (B : Nat) (W0 : Nat → Option Obj) (w : World) (S : Nat → Prop) (β : Nat → Value) : Ctx := ⟨Tryd.prog, B, W0, w, S, β, lookO (numbered 0 []), 0, 15⟩

/-- loop.example/g01094/spec.l14Places -/
abbrev f149_R : Type := Bool
@[reducible] def f149_res (r : f149_R) : A := .val .bool r
@[reducible] def f149_fin (r : f149_R) : List (Nat × O) := []
def f149_H (a0 : Int) (a1 : List Int) (r : f149_R) : Prop := Has ⟨149, [.val (.int .i64) a0, .val (.slice (.int .i64)) a1], [], f149_res r, f149_fin r⟩
@[reducible] noncomputable def f149_C (a0 : Int) (a1 : List Int) (B : Nat) (W0 : Nat → Option Obj) (w : World) (S : Nat → Prop) (β : Nat → Value) : Ctx := ⟨Tryd.prog, B, W0, w, S, β, lookO (numbered 0 []), 0, 27⟩
def f149_s1 (a0 : Int) (a1 : List Int) (x1_0 : Int) : St := ⟨[.val (.int .i64) a0, .val (.slice (.int .i64)) a1, U, U, U, .val (.int .i64) x1_0] ++ List.replicate 21 U, [], 0, 0⟩
def f149_L1 (a0 : Int) (a1 : List Int) (x1_0 : Int) (r : f149_R) : Prop := At (fun B W0 w S β => Ends (f149_C a0 a1 B W0 w S β) Tryd.f149 ⟨focus Tryd.f149 [.r, .l, .r, .b, .h], f149_s1 a0 a1 x1_0⟩ (f149_res r) (f149_fin r))

/-- loop.example/g01094/spec.l14Local -/
abbrev f152_R : Type := Bool
@[reducible] def f152_res (r : f152_R) : A := .val .bool r
@[reducible] def f152_fin (r : f152_R) : List (Nat × O) := []
def f152_H (a0 : S25) (a1 : Int) (a2 : List Int) (r : f152_R) : Prop := Has ⟨152, [.val t25 a0, .val (.int .i64) a1, .val (.slice (.int .i64)) a2], [], f152_res r, f152_fin r⟩
@[reducible] noncomputable def f152_C (a0 : S25) (a1 : Int) (a2 : List Int) (B : Nat) (W0 : Nat → Option Obj) (w : World) (S : Nat → Prop) (β : Nat → Value) : Ctx := ⟨Tryd.prog, B, W0, w, S, β, lookO (numbered 0 []), 0, 44⟩
def f152_s1 (a0 : S25) (a1 : Int) (a2 : List Int) (x1_0 : Int) (x1_1 : Int) : St := ⟨[U, .val (.int .i64) a1, .val (.slice (.int .i64)) a2, .pbox 0 0, U, U, U, .val (.int .i64) x1_0, .val (.int .i64) x1_1] ++ List.replicate 35 U, [(0, .box 32 [.val (.slice (.int .i64)) a0.1, .val (.slice (.int .i64)) a0.2.1, .val (.slice (.int .i64)) a0.2.2.1, .val (.slice t161) a0.2.2.2.1, .val (.slice (.slice (.int .i64))) a0.2.2.2.2.1] false)], 1, 0⟩
def f152_L1 (a0 : S25) (a1 : Int) (a2 : List Int) (x1_0 : Int) (x1_1 : Int) (r : f152_R) : Prop := At (fun B W0 w S β => Ends (f152_C a0 a1 a2 B W0 w S β) Tryd.f152 ⟨focus Tryd.f152 [.r, .r, .l, .r, .b, .h], f152_s1 a0 a1 a2 x1_0 x1_1⟩ (f152_res r) (f152_fin r))

/-- loop.example/g01094/spec.l01Less -/
abbrev f151_R : Type := Bool
@[reducible] def f151_res (r : f151_R) : A := .val .bool r
@[reducible] def f151_fin (r : f151_R) : List (Nat × O) := []
def f151_H (a0 : List Int) (a1 : List Int) (r : f151_R) : Prop := Has ⟨151, [.val (.slice (.int .i64)) a0, .val (.slice (.int .i64)) a1], [], f151_res r, f151_fin r⟩
@[reducible] noncomputable def f151_C (a0 : List Int) (a1 : List Int) (B : Nat) (W0 : Nat → Option Obj) (w : World) (S : Nat → Prop) (β : Nat → Value) : Ctx := ⟨Tryd.prog, B, W0, w, S, β, lookO (numbered 0 []), 0, 41⟩
def f151_s1 (a0 : List Int) (a1 : List Int) (x1_0 : Int) : St := ⟨[.val (.slice (.int .i64)) a0, .val (.slice (.int .i64)) a1, U, U, U, .val (.int .i64) x1_0] ++ List.replicate 35 U, [], 0, 0⟩
def f151_L1 (a0 : List Int) (a1 : List Int) (x1_0 : Int) (r : f151_R) : Prop := At (fun B W0 w S β => Ends (f151_C a0 a1 B W0 w S β) Tryd.f151 ⟨focus Tryd.f151 [.r, .l, .r, .b, .h], f151_s1 a0 a1 x1_0⟩ (f151_res r) (f151_fin r))

/-- loop.example/g01094/spec.l14Joints -/
abbrev f150_R : Type := Bool
@[reducible] def f150_res (r : f150_R) : A := .val .bool r
@[reducible] def f150_fin (r : f150_R) : List (Nat × O) := []
def f150_H (a0 : S25) (r : f150_R) : Prop := Has ⟨150, [.val t25 a0], [], f150_res r, f150_fin r⟩
@[reducible] noncomputable def f150_C (a0 : S25) (B : Nat) (W0 : Nat → Option Obj) (w : World) (S : Nat → Prop) (β : Nat → Value) : Ctx := ⟨Tryd.prog, B, W0, w, S, β, lookO (numbered 0 []), 0, 94⟩
def f150_s1 (a0 : S25) (x1_0 : Int) : St := ⟨[U, .pbox 0 0, U, .val (.int .i64) x1_0] ++ List.replicate 90 U, [(0, .box 32 [.val (.slice (.int .i64)) a0.1, .val (.slice (.int .i64)) a0.2.1, .val (.slice (.int .i64)) a0.2.2.1, .val (.slice t161) a0.2.2.2.1, .val (.slice (.slice (.int .i64))) a0.2.2.2.2.1] false)], 1, 0⟩
def f150_L1 (a0 : S25) (x1_0 : Int) (r : f150_R) : Prop := At (fun B W0 w S β => Ends (f150_C a0 B W0 w S β) Tryd.f150 ⟨focus Tryd.f150 [.r, .l, .r, .b, .h], f150_s1 a0 x1_0⟩ (f150_res r) (f150_fin r))

/-- loop.example/g01094/spec.IsAsynchronous -/
abbrev f72_R : Type := Bool
@[reducible] def f72_res (r : f72_R) : A := .val .bool r
@[reducible] def f72_fin (r : f72_R) : List (Nat × O) := []
def f72_H (a0 : S25) (r : f72_R) : Prop := Has ⟨72, [.val t25 a0], [], f72_res r, f72_fin r⟩
@[reducible] noncomputable def f72_C (a0 : S25) (B : Nat) (W0 : Nat → Option Obj) (w : World) (S : Nat → Prop) (β : Nat → Value) : Ctx := ⟨Tryd.prog, B, W0, w, S, β, lookO (numbered 0 []), 0, 74⟩
def f72_s1 (a0 : S25) (x1_0 : Int) : St := ⟨[U, .pbox 0 0, U, .val (.int .i64) x1_0] ++ List.replicate 70 U, [(0, .box 32 [.val (.slice (.int .i64)) a0.1, .val (.slice (.int .i64)) a0.2.1, .val (.slice (.int .i64)) a0.2.2.1, .val (.slice t161) a0.2.2.2.1, .val (.slice (.slice (.int .i64))) a0.2.2.2.2.1] false)], 1, 0⟩
def f72_L1 (a0 : S25) (x1_0 : Int) (r : f72_R) : Prop := At (fun B W0 w S β => Ends (f72_C a0 B W0 w S β) Tryd.f72 ⟨focus Tryd.f72 [.r, .r, .l, .r, .b, .h], f72_s1 a0 x1_0⟩ (f72_res r) (f72_fin r))
def f72_s2 (a0 : S25) (x2_0 : Int) : St := ⟨[U, .pbox 0 0, U, U, .val (.int .i64) x2_0] ++ List.replicate 69 U, [(0, .box 32 [.val (.slice (.int .i64)) a0.1, .val (.slice (.int .i64)) a0.2.1, .val (.slice (.int .i64)) a0.2.2.1, .val (.slice t161) a0.2.2.2.1, .val (.slice (.slice (.int .i64))) a0.2.2.2.2.1] false)], 1, 0⟩
def f72_L2 (a0 : S25) (x2_0 : Int) (r : f72_R) : Prop := At (fun B W0 w S β => Ends (f72_C a0 B W0 w S β) Tryd.f72 ⟨focus Tryd.f72 [.r, .r, .r, .r, .l, .r, .b, .h], f72_s2 a0 x2_0⟩ (f72_res r) (f72_fin r))

/-- loop.example/g01094/spec.l14Part -/
abbrev f228_R : Type := List Int
@[reducible] def f228_res (r : f228_R) : A := .ref 0
@[reducible] def f228_fin (r : f228_R) : List (Nat × O) := [(0, .arr 2 (.int .i64) r false)]
def f228_H (a0 : List Int) (a1 : Int) (r : f228_R) : Prop := Has ⟨228, [.val (.slice (.int .i64)) a0, .val (.int .i64) a1], [], f228_res r, f228_fin r⟩
@[reducible] noncomputable def f228_C (a0 : List Int) (a1 : Int) (B : Nat) (W0 : Nat → Option Obj) (w : World) (S : Nat → Prop) (β : Nat → Value) : Ctx := ⟨Tryd.prog, B, W0, w, S, β, lookO (numbered 0 []), 0, 25⟩
def f228_s1 (a0 : List Int) (a1 : Int) (x1_0 : Int) (x1_1 : List Int) : St := ⟨[.val (.slice (.int .i64)) a0, .val (.int .i64) a1, U, U, U, .ref 0, .val (.int .i64) x1_0] ++ List.replicate 18 U, [(0, .arr 2 (.int .i64) x1_1 false)], 1, 0⟩
def f228_L1 (a0 : List Int) (a1 : Int) (x1_0 : Int) (x1_1 : List Int) (r : f228_R) : Prop := At (fun B W0 w S β => Ends (f228_C a0 a1 B W0 w S β) Tryd.f228 ⟨focus Tryd.f228 [.r, .r, .l, .r, .b, .h], f228_s1 a0 a1 x1_0 x1_1⟩ (f228_res r) (f228_fin r))

/-- loop.example/g01094/spec.l01Same -/
abbrev f92_R : Type := Bool
@[reducible] def f92_res (r : f92_R) : A := .val .bool r
@[reducible] def f92_fin (r : f92_R) : List (Nat × O) := []
def f92_H (a0 : List Int) (a1 : List Int) (r : f92_R) : Prop := Has ⟨92, [.val (.slice (.int .i64)) a0, .val (.slice (.int .i64)) a1], [], f92_res r, f92_fin r⟩
@[reducible] noncomputable def f92_C (a0 : List Int) (a1 : List Int) (B : Nat) (W0 : Nat → Option Obj) (w : World) (S : Nat → Prop) (β : Nat → Value) : Ctx := ⟨Tryd.prog, B, W0, w, S, β, lookO (numbered 0 []), 0, 26⟩
def f92_s1 (a0 : List Int) (a1 : List Int) (x1_0 : Int) : St := ⟨[.val (.slice (.int .i64)) a0, .val (.slice (.int .i64)) a1, U, U, U, .val (.int .i64) x1_0] ++ List.replicate 20 U, [], 0, 0⟩
def f92_L1 (a0 : List Int) (a1 : List Int) (x1_0 : Int) (r : f92_R) : Prop := At (fun B W0 w S β => Ends (f92_C a0 a1 B W0 w S β) Tryd.f92 ⟨focus Tryd.f92 [.r, .r, .l, .r, .b, .h], f92_s1 a0 a1 x1_0⟩ (f92_res r) (f92_fin r))

/-- loop.example/g01094/spec.l14Step -/
abbrev f153_R : Type := Bool × List Int
@[reducible] def f153_res (r : f153_R) : A := .tup [.ref 0, .val .bool r.1]
@[reducible] def f153_fin (r : f153_R) : List (Nat × O) := [(0, .arr 2 (.int .i64) r.2 false)]
def f153_H (a0 : S25) (a1 : List Int) (a2 : Int) (r : f153_R) : Prop := Has ⟨153, [.val t25 a0, .val (.slice (.int .i64)) a1, .val (.int .i64) a2], [], f153_res r, f153_fin r⟩
@[reducible] noncomputable def f153_C (a0 : S25) (a1 : List Int) (a2 : Int) (B : Nat) (W0 : Nat → Option Obj) (w : World) (S : Nat → Prop) (β : Nat → Value) : Ctx := ⟨Tryd.prog, B, W0, w, S, β, lookO (numbered 0 []), 0, 76⟩
def f153_s1 (a0 : S25) (a1 : List Int) (a2 : Int) (x1_0 : Int) (x1_1 : List Int) : St := ⟨[U, .val (.slice (.int .i64)) a1, .val (.int .i64) a2, .pbox 0 0, U, U, U, U, .ref 1, .val (.int .i64) x1_0] ++ List.replicate 66 U, [(0, .box 32 [.val (.slice (.int .i64)) a0.1, .val (.slice (.int .i64)) a0.2.1, .val (.slice (.int .i64)) a0.2.2.1, .val (.slice t161) a0.2.2.2.1, .val (.slice (.slice (.int .i64))) a0.2.2.2.2.1] false), (1, .arr 2 (.int .i64) x1_1 false)], 2, 0⟩
def f153_L1 (a0 : S25) (a1 : List Int) (a2 : Int) (x1_0 : Int) (x1_1 : List Int) (r : f153_R) : Prop := At (fun B W0 w S β => Ends (f153_C a0 a1 a2 B W0 w S β) Tryd.f153 ⟨focus Tryd.f153 [.r, .r, .l, .r, .b, .h], f153_s1 a0 a1 a2 x1_0 x1_1⟩ (f153_res r) (f153_fin r))
def f153_s2 (a0 : S25) (a1 : List Int) (a2 : Int) (x2_0 : Int) (x2_1 : Int) (x2_2 : Int) (x2_3 : List Int) : St := ⟨[U, .val (.slice (.int .i64)) a1, .val (.int .i64) a2, .pbox 0 0, U, U, U, U, U, .val (.int .i64) x2_0, .ref 1, .val (.int .i64) x2_1, .val (.int .i64) x2_2] ++ List.replicate 63 U, [(0, .box 32 [.val (.slice (.int .i64)) a0.1, .val (.slice (.int .i64)) a0.2.1, .val (.slice (.int .i64)) a0.2.2.1, .val (.slice t161) a0.2.2.2.1, .val (.slice (.slice (.int .i64))) a0.2.2.2.2.1] false), (1, .arr 2 (.int .i64) x2_3 false)], 2, 0⟩
def f153_L2 (a0 : S25) (a1 : List Int) (a2 : Int) (x2_0 : Int) (x2_1 : Int) (x2_2 : Int) (x2_3 : List Int) (r : f153_R) : Prop := At (fun B W0 w S β => Ends (f153_C a0 a1 a2 B W0 w S β) Tryd.f153 ⟨focus Tryd.f153 [.r, .r, .l, .r, .b, .b, .r, .l, .b, .r, .r, .r, .l, .r, .b, .h], f153_s2 a0 a1 a2 x2_0 x2_1 x2_2 x2_3⟩ (f153_res r) (f153_fin r))

/-- loop.example/g01094/spec.l14Possible -/
abbrev f74_R : Type := Int
@[reducible] def f74_res (r : f74_R) : A := .val (.int .i64) r
@[reducible] def f74_fin (r : f74_R) : List (Nat × O) := []
def f74_H (a0 : S25) (a1 : List Int) (r : f74_R) : Prop := Has ⟨74, [.val t25 a0, .val (.slice (.int .i64)) a1], [], f74_res r, f74_fin r⟩
@[reducible] noncomputable def f74_C (a0 : S25) (a1 : List Int) (B : Nat) (W0 : Nat → Option Obj) (w : World) (S : Nat → Prop) (β : Nat → Value) : Ctx := ⟨Tryd.prog, B, W0, w, S, β, lookO (numbered 0 []), 0, 29⟩
def f74_s1 (a0 : S25) (a1 : List Int) (x1_0 : Int) (x1_1 : Int) : St := ⟨[U, .val (.slice (.int .i64)) a1, .pbox 0 0, U, U, .val (.int .i64) x1_0, .val (.int .i64) x1_1] ++ List.replicate 22 U, [(0, .box 32 [.val (.slice (.int .i64)) a0.1, .val (.slice (.int .i64)) a0.2.1, .val (.slice (.int .i64)) a0.2.2.1, .val (.slice t161) a0.2.2.2.1, .val (.slice (.slice (.int .i64))) a0.2.2.2.2.1] false)], 1, 0⟩
def f74_L1 (a0 : S25) (a1 : List Int) (x1_0 : Int) (x1_1 : Int) (r : f74_R) : Prop := At (fun B W0 w S β => Ends (f74_C a0 a1 B W0 w S β) Tryd.f74 ⟨focus Tryd.f74 [.r, .r, .l, .r, .b, .h], f74_s1 a0 a1 x1_0 x1_1⟩ (f74_res r) (f74_fin r))

/-- loop.example/g01094/spec.PossibleLetters -/
abbrev f15_R : Type := Int × Int
@[reducible] def f15_res (r : f15_R) : A := .tup [.val (.int .i64) r.1, .val (.int .i64) r.2]
@[reducible] def f15_fin (r : f15_R) : List (Nat × O) := []
def f15_H (a0 : S25) (a1 : List Int) (r : f15_R) : Prop := Has ⟨15, [.val t25 a0, .val (.slice (.int .i64)) a1], [], f15_res r, f15_fin r⟩
@[reducible] noncomputable def f15_C (a0 : S25) (a1 : List Int) (B : Nat) (W0 : Nat → Option Obj) (w : World) (S : Nat → Prop) (β : Nat → Value) : Ctx := ⟨Tryd.prog, B, W0, w, S, β, lookO (numbered 0 []), 0, 18⟩

/-- loop.example/g01094/impl.inRange -/
abbrev f136_R : Type := Bool
@[reducible] def f136_res (r : f136_R) : A := .val .bool r
@[reducible] def f136_fin (r : f136_R) : List (Nat × O) := []
def f136_H (a0 : Int) (a1 : Int) (a2 : Int) (r : f136_R) : Prop := Has ⟨136, [.val (.int .i64) a0, .val (.int .i64) a1, .val (.int .i64) a2], [], f136_res r, f136_fin r⟩
@[reducible] noncomputable def f136_C (a0 : Int) (a1 : Int) (a2 : Int) (B : Nat) (W0 : Nat → Option Obj) (w : World) (S : Nat → Prop) (β : Nat → Value) : Ctx := ⟨Tryd.prog, B, W0, w, S, β, lookO (numbered 0 []), 0, 15⟩

/-- slices.IndexFunc[[]int64,int64] -/
abbrev f190_R : Type := Int
@[reducible] def f190_res (r : f190_R) : A := .val (.int .i64) r
@[reducible] def f190_fin (r : f190_R) : List (Nat × O) := []
def f190_H (a0 : List Int) (a1 : Int) (a2 : Int) (r : f190_R) : Prop := Has ⟨190, [.val (.slice (.int .i64)) a0, .clo 230 [.pcs [.val (.int .i64) a1] 0, .pcs [.val (.int .i64) a2] 0]], [], f190_res r, f190_fin r⟩
@[reducible] noncomputable def f190_C (a0 : List Int) (a1 : Int) (a2 : Int) (B : Nat) (W0 : Nat → Option Obj) (w : World) (S : Nat → Prop) (β : Nat → Value) : Ctx := ⟨Tryd.prog, B, W0, w, S, β, lookO (numbered 0 []), 0, 19⟩
def f190_s1 (a0 : List Int) (a1 : Int) (a2 : Int) (x1_0 : Int) (x1_1 : Int) : St := ⟨[.val (.slice (.int .i64)) a0, .clo 230 [.pcs [.val (.int .i64) a1] 0, .pcs [.val (.int .i64) a2] 0], U, U, U, U, U, .val (.int .i64) x1_0, .val (.int .i64) x1_1] ++ List.replicate 10 U, [], 0, 0⟩
def f190_L1 (a0 : List Int) (a1 : Int) (a2 : Int) (x1_0 : Int) (x1_1 : Int) (r : f190_R) : Prop := At (fun B W0 w S β => Ends (f190_C a0 a1 a2 B W0 w S β) Tryd.f190 ⟨focus Tryd.f190 [.r, .l, .r, .b, .h], f190_s1 a0 a1 a2 x1_0 x1_1⟩ (f190_res r) (f190_fin r))

/-- loop.example/g01094/impl.arePlaces -/
abbrev f131_R : Type := Bool
@[reducible] def f131_res (r : f131_R) : A := .val .bool r
@[reducible] def f131_fin (r : f131_R) : List (Nat × O) := []
def f131_H (a0 : Int) (a1 : List Int) (r : f131_R) : Prop := Has ⟨131, [.val (.int .i64) a0, .val (.slice (.int .i64)) a1], [], f131_res r, f131_fin r⟩
@[reducible] noncomputable def f131_C (a0 : Int) (a1 : List Int) (B : Nat) (W0 : Nat → Option Obj) (w : World) (S : Nat → Prop) (β : Nat → Value) : Ctx := ⟨Tryd.prog, B, W0, w, S, β, lookO (numbered 0 []), 0, 19⟩

/-- loop.example/g01094/impl.isGlobal -/
abbrev f78_R : Type := Bool
@[reducible] def f78_res (r : f78_R) : A := .val .bool r
@[reducible] def f78_fin (r : f78_R) : List (Nat × O) := []
def f78_H (a0 : List Int) (a1 : List Int) (r : f78_R) : Prop := Has ⟨78, [.val (.slice (.int .i64)) a0, .val (.slice (.int .i64)) a1], [], f78_res r, f78_fin r⟩
@[reducible] noncomputable def f78_C (a0 : List Int) (a1 : List Int) (B : Nat) (W0 : Nat → Option Obj) (w : World) (S : Nat → Prop) (β : Nat → Value) : Ctx := ⟨Tryd.prog, B, W0, w, S, β, lookO (numbered 0 []), 0, 28⟩
def f78_s1 (a0 : List Int) (a1 : List Int) (x1_0 : Int) (x1_1 : Int) : St := ⟨[.val (.slice (.int .i64)) a0, U, U, U, U, U, U, U, U, U, U, U, .val (.slice (.int .i64)) a1, .val (.int .i64) x1_0, .val (.int .i64) x1_1] ++ List.replicate 13 U, [], 0, 0⟩
def f78_L1 (a0 : List Int) (a1 : List Int) (x1_0 : Int) (x1_1 : Int) (r : f78_R) : Prop := At (fun B W0 w S β => Ends (f78_C a0 a1 B W0 w S β) Tryd.f78 ⟨focus Tryd.f78 [.r, .r, .l, .r, .b, .h], f78_s1 a0 a1 x1_0 x1_1⟩ (f78_res r) (f78_fin r))

/-- math/bits.TrailingZeros64 -/
abbrev f284_R : Type := Int
@[reducible] def f284_res (r : f284_R) : A := .val (.int .i64) r
@[reducible] def f284_fin (r : f284_R) : List (Nat × O) := []
def f284_H (a0 : Int) (r : f284_R) : Prop := Has ⟨284, [.val (.int .u64) a0], [], f284_res r, f284_fin r⟩

/-- loop.example/g01094/impl.members -/
abbrev f178_R : Type := List Int
@[reducible] def f178_res (r : f178_R) : A := .ref 0
@[reducible] def f178_fin (r : f178_R) : List (Nat × O) := [(0, .arr 2 (.int .i64) r false)]
def f178_H (a0 : Int) (r : f178_R) : Prop := Has ⟨178, [.val (.int .i64) a0], [], f178_res r, f178_fin r⟩
@[reducible] noncomputable def f178_C (a0 : Int) (B : Nat) (W0 : Nat → Option Obj) (w : World) (S : Nat → Prop) (β : Nat → Value) : Ctx := ⟨Tryd.prog, B, W0, w, S, β, lookO (numbered 0 []), 0, 17⟩
def f178_s1 (a0 : Int) (x1_0 : Int) (x1_1 : List Int) : St := ⟨[.val (.int .i64) x1_0, U, U, .ref 0] ++ List.replicate 13 U, [(0, .arr 2 (.int .i64) x1_1 false)], 1, 0⟩
def f178_L1 (a0 : Int) (x1_0 : Int) (x1_1 : List Int) (r : f178_R) : Prop := At (fun B W0 w S β => Ends (f178_C a0 B W0 w S β) Tryd.f178 ⟨focus Tryd.f178 [.r, .r, .l, .b, .h], f178_s1 a0 x1_0 x1_1⟩ (f178_res r) (f178_fin r))

/-- loop.example/g01094/impl.locals -/
abbrev f231_R : Type := List Int
@[reducible] def f231_res (r : f231_R) : A := .ref 0
@[reducible] def f231_fin (r : f231_R) : List (Nat × O) := [(0, .arr 2 (.int .i64) r false)]
def f231_H (a0 : List Int) (a1 : Int) (r : f231_R) : Prop := Has ⟨231, [.val (.slice (.int .i64)) a0, .val (.int .i64) a1], [], f231_res r, f231_fin r⟩
@[reducible] noncomputable def f231_C (a0 : List Int) (a1 : Int) (B : Nat) (W0 : Nat → Option Obj) (w : World) (S : Nat → Prop) (β : Nat → Value) : Ctx := ⟨Tryd.prog, B, W0, w, S, β, lookO (numbered 0 []), 0, 25⟩
def f231_s1 (a0 : List Int) (a1 : Int) (x1_0 : Int) (x1_1 : Int) (x1_2 : List Int) (x1_3 : List Int) : St := ⟨[.val (.slice (.int .i64)) a0, U, U, U, U, .ref 0, U, U, U, U, .ref 1, .val (.int .i64) x1_0, .val (.int .i64) x1_1] ++ List.replicate 12 U, [(0, .arr 2 (.int .i64) x1_2 false), (1, .arr 2 (.int .i64) x1_3 false)], 2, 0⟩
def f231_L1 (a0 : List Int) (a1 : Int) (x1_0 : Int) (x1_1 : Int) (x1_2 : List Int) (x1_3 : List Int) (r : f231_R) : Prop := At (fun B W0 w S β => Ends (f231_C a0 a1 B W0 w S β) Tryd.f231 ⟨focus Tryd.f231 [.r, .r, .l, .r, .b, .h], f231_s1 a0 a1 x1_0 x1_1 x1_2 x1_3⟩ (f231_res r) (f231_fin r))

/-- cmp.Compare[int64] -/
abbrev f233_R : Type := Int
@[reducible] def f233_res (r : f233_R) : A := .val (.int .i64) r
@[reducible] def f233_fin (r : f233_R) : List (Nat × O) := []
def f233_H (a0 : Int) (a1 : Int) (r : f233_R) : Prop := Has ⟨233, [.val (.int .i64) a0, .val (.int .i64) a1], [], f233_res r, f233_fin r⟩
@[reducible] noncomputable def f233_C (a0 : Int) (a1 : Int) (B : Nat) (W0 : Nat → Option Obj) (w : World) (S : Nat → Prop) (β : Nat → Value) : Ctx := ⟨Tryd.prog, B, W0, w, S, β, lookO (numbered 0 []), 0, 20⟩

/-- slices.Compare[[]int64,int64] -/
abbrev f158_R : Type := Int
@[reducible] def f158_res (r : f158_R) : A := .val (.int .i64) r
@[reducible] def f158_fin (r : f158_R) : List (Nat × O) := []
def f158_H (a0 : List Int) (a1 : List Int) (r : f158_R) : Prop := Has ⟨158, [.val (.slice (.int .i64)) a0, .val (.slice (.int .i64)) a1], [], f158_res r, f158_fin r⟩
@[reducible] noncomputable def f158_C (a0 : List Int) (a1 : List Int) (B : Nat) (W0 : Nat → Option Obj) (w : World) (S : Nat → Prop) (β : Nat → Value) : Ctx := ⟨Tryd.prog, B, W0, w, S, β, lookO (numbered 0 []), 0, 36⟩
def f158_s1 (a0 : List Int) (a1 : List Int) (x1_0 : Int) (x1_1 : Int) : St := ⟨[.val (.slice (.int .i64)) a0, .val (.slice (.int .i64)) a1, U, U, U, U, U, U, U, .val (.slice (.int .i64)) a0, .val (.int .i64) x1_0, .val (.int .i64) x1_1] ++ List.replicate 24 U, [], 0, 0⟩
def f158_L1 (a0 : List Int) (a1 : List Int) (x1_0 : Int) (x1_1 : Int) (r : f158_R) : Prop := At (fun B W0 w S β => Ends (f158_C a0 a1 B W0 w S β) Tryd.f158 ⟨focus Tryd.f158 [.r, .l, .r, .b, .h], f158_s1 a0 a1 x1_0 x1_1⟩ (f158_res r) (f158_fin r))

/-- loop.example/g01094/impl.compareJoints -/
abbrev f232_R : Type := Int
@[reducible] def f232_res (r : f232_R) : A := .val (.int .i64) r
@[reducible] def f232_fin (r : f232_R) : List (Nat × O) := []
def f232_H (a0 : S161) (a1 : S161) (r : f232_R) : Prop := Has ⟨232, [.val t161 a0, .val t161 a1], [], f232_res r, f232_fin r⟩
@[reducible] noncomputable def f232_C (a0 : S161) (a1 : S161) (B : Nat) (W0 : Nat → Option Obj) (w : World) (S : Nat → Prop) (β : Nat → Value) : Ctx := ⟨Tryd.prog, B, W0, w, S, β, lookO (numbered 0 []), 0, 20⟩

/-- loop.example/g01094/impl.goodJoints -/
abbrev f157_R : Type := Bool
@[reducible] def f157_res (r : f157_R) : A := .val .bool r
@[reducible] def f157_fin (r : f157_R) : List (Nat × O) := []
def f157_H (a0 : S25) (r : f157_R) : Prop := Has ⟨157, [.val t25 a0], [], f157_res r, f157_fin r⟩
@[reducible] noncomputable def f157_C (a0 : S25) (B : Nat) (W0 : Nat → Option Obj) (w : World) (S : Nat → Prop) (β : Nat → Value) : Ctx := ⟨Tryd.prog, B, W0, w, S, β, lookO (numbered 0 []), 0, 63⟩
def f157_s1 (a0 : S25) (x1_0 : Int) (x1_1 : Int) : St := ⟨[U, .pbox 0 0, U, U, U, U, U, .val (.slice t161) a0.2.2.2.1, .val (.int .i64) x1_0, .val (.int .i64) x1_1] ++ List.replicate 53 U, [(0, .box 32 [.val (.slice (.int .i64)) a0.1, .val (.slice (.int .i64)) a0.2.1, .val (.slice (.int .i64)) a0.2.2.1, .val (.slice t161) a0.2.2.2.1, .val (.slice (.slice (.int .i64))) a0.2.2.2.2.1] false)], 1, 0⟩
def f157_L1 (a0 : S25) (x1_0 : Int) (x1_1 : Int) (r : f157_R) : Prop := At (fun B W0 w S β => Ends (f157_C a0 B W0 w S β) Tryd.f157 ⟨focus Tryd.f157 [.r, .l, .r, .b, .h], f157_s1 a0 x1_0 x1_1⟩ (f157_res r) (f157_fin r))

/-- loop.example/g01094/impl.IsAsynchronous -/
abbrev f77_R : Type := Bool
@[reducible] def f77_res (r : f77_R) : A := .val .bool r
@[reducible] def f77_fin (r : f77_R) : List (Nat × O) := []
def f77_H (a0 : S25) (r : f77_R) : Prop := Has ⟨77, [.val t25 a0], [], f77_res r, f77_fin r⟩
@[reducible] noncomputable def f77_C (a0 : S25) (B : Nat) (W0 : Nat → Option Obj) (w : World) (S : Nat → Prop) (β : Nat → Value) : Ctx := ⟨Tryd.prog, B, W0, w, S, β, lookO (numbered 0 []), 0, 66⟩
def f77_s1 (a0 : S25) (x1_0 : Int) (x1_1 : Int) : St := ⟨[U, .pbox 0 0, U, U, U, U, U, U, U, U, U, U, U, U, U, U, U, U, U, U, U, U, U, U, U, U, U, U, U, U, U, U, U, U, U, U, U, U, .val (.slice (.slice (.int .i64))) a0.2.2.2.2.1, .val (.int .i64) x1_0, .val (.int .i64) x1_1] ++ List.replicate 25 U, [(0, .box 32 [.val (.slice (.int .i64)) a0.1, .val (.slice (.int .i64)) a0.2.1, .val (.slice (.int .i64)) a0.2.2.1, .val (.slice t161) a0.2.2.2.1, .val (.slice (.slice (.int .i64))) a0.2.2.2.2.1] false)], 1, 0⟩
def f77_L1 (a0 : S25) (x1_0 : Int) (x1_1 : Int) (r : f77_R) : Prop := At (fun B W0 w S β => Ends (f77_C a0 B W0 w S β) Tryd.f77 ⟨focus Tryd.f77 [.r, .r, .l, .r, .b, .h], f77_s1 a0 x1_0 x1_1⟩ (f77_res r) (f77_fin r))

/-- slices.BinarySearchFunc[[]loop.example/g01094/impl.Joint,loop.example/g01094/impl.Joint,loop.example/g01094/impl.Joint] -/
abbrev f234_R : Type := Int × Bool
@[reducible] def f234_res (r : f234_R) : A := .tup [.val (.int .i64) r.1, .val .bool r.2]
@[reducible] def f234_fin (r : f234_R) : List (Nat × O) := []
def f234_H (a0 : List S161) (a1 : S161) (r : f234_R) : Prop := Has ⟨234, [.val (.slice t161) a0, .val t161 a1, .clo 232 []], [], f234_res r, f234_fin r⟩
@[reducible] noncomputable def f234_C (a0 : List S161) (a1 : S161) (B : Nat) (W0 : Nat → Option Obj) (w : World) (S : Nat → Prop) (β : Nat → Value) : Ctx := ⟨Tryd.prog, B, W0, w, S, β, lookO (numbered 0 []), 0, 49⟩
def f234_s1 (a0 : List S161) (a1 : S161) (x1_0 : Int) (x1_1 : Int) (x1_2 : Int) : St := ⟨[.val (.slice t161) a0, U, .clo 232 [], U, .pbox 0 0, U, U, U, .val (.int .i64) x1_0, .val (.int .i64) x1_1, .val (.int .i64) x1_2] ++ List.replicate 38 U, [(0, .box 165 [.val (.int .i64) a1.1, .val (.slice (.int .i64)) a1.2.1, .val (.slice (.int .i64)) a1.2.2.1] false)], 1, 0⟩
def f234_L1 (a0 : List S161) (a1 : S161) (x1_0 : Int) (x1_1 : Int) (x1_2 : Int) (r : f234_R) : Prop := At (fun B W0 w S β => Ends (f234_C a0 a1 B W0 w S β) Tryd.f234 ⟨focus Tryd.f234 [.r, .r, .r, .l, .b, .h], f234_s1 a0 a1 x1_0 x1_1 x1_2⟩ (f234_res r) (f234_fin r))

/-- slices.Clone[[]int64,int64] -/
abbrev f213_R : Type := List Int
@[reducible] def f213_res (r : f213_R) : A := .ref 0
@[reducible] def f213_fin (r : f213_R) : List (Nat × O) := [(0, .arr 2 (.int .i64) r false)]
def f213_H (a0 : List Int) (r : f213_R) : Prop := Has ⟨213, [.val (.slice (.int .i64)) a0], [], f213_res r, f213_fin r⟩

/-- (loop.example/g01094/impl.Asynchronous).move -/
abbrev f159_R : Type := Bool × List Int
@[reducible] def f159_res (r : f159_R) : A := .tup [.ref 0, .val .bool r.1]
@[reducible] def f159_fin (r : f159_R) : List (Nat × O) := [(0, .arr 2 (.int .i64) r.2 false)]
def f159_H (a0 : S25) (a1 : List Int) (a2 : Int) (r : f159_R) : Prop := Has ⟨159, [.val t25 a0, .val (.slice (.int .i64)) a1, .val (.int .i64) a2], [], f159_res r, f159_fin r⟩
@[reducible] noncomputable def f159_C (a0 : S25) (a1 : List Int) (a2 : Int) (B : Nat) (W0 : Nat → Option Obj) (w : World) (S : Nat → Prop) (β : Nat → Value) : Ctx := ⟨Tryd.prog, B, W0, w, S, β, lookO (numbered 0 []), 0, 60⟩
def f159_s1 (a0 : S25) (a1 : List Int) (a2 : Int) (x1_0 : Int) (x1_1 : Int) (x1_2 : Int) (x1_3 : List Int) (x1_4 : List Int) : St := ⟨[U, U, U, .pbox 0 0, U, U, U, U, U, .val (.int .i64) x1_0, U, .ref 1, U, U, U, U, U, U, U, U, U, U, U, U, U, U, U, U, U, U, U, U, U, U, U, U, U, U, U, .ref 2, .val (.int .i64) x1_1, .val (.int .i64) x1_2] ++ List.replicate 18 U, [(0, .box 32 [.val (.slice (.int .i64)) a0.1, .val (.slice (.int .i64)) a0.2.1, .val (.slice (.int .i64)) a0.2.2.1, .val (.slice t161) a0.2.2.2.1, .val (.slice (.slice (.int .i64))) a0.2.2.2.2.1] false), (1, .arr 2 (.int .i64) x1_3 false), (2, .arr 2 (.int .i64) x1_4 false)], 3, 0⟩
def f159_L1 (a0 : S25) (a1 : List Int) (a2 : Int) (x1_0 : Int) (x1_1 : Int) (x1_2 : Int) (x1_3 : List Int) (x1_4 : List Int) (r : f159_R) : Prop := At (fun B W0 w S β => Ends (f159_C a0 a1 a2 B W0 w S β) Tryd.f159 ⟨focus Tryd.f159 [.r, .r, .r, .r, .r, .l, .r, .b, .h], f159_s1 a0 a1 a2 x1_0 x1_1 x1_2 x1_3 x1_4⟩ (f159_res r) (f159_fin r))

/-- (loop.example/g01094/impl.Asynchronous).possible -/
abbrev f79_R : Type := Int
@[reducible] def f79_res (r : f79_R) : A := .val (.int .i64) r
@[reducible] def f79_fin (r : f79_R) : List (Nat × O) := []
def f79_H (a0 : S25) (a1 : List Int) (r : f79_R) : Prop := Has ⟨79, [.val t25 a0, .val (.slice (.int .i64)) a1], [], f79_res r, f79_fin r⟩
@[reducible] noncomputable def f79_C (a0 : S25) (a1 : List Int) (B : Nat) (W0 : Nat → Option Obj) (w : World) (S : Nat → Prop) (β : Nat → Value) : Ctx := ⟨Tryd.prog, B, W0, w, S, β, lookO (numbered 0 []), 0, 29⟩
def f79_s1 (a0 : S25) (a1 : List Int) (x1_0 : Int) (x1_1 : Int) (x1_2 : Int) : St := ⟨[U, .val (.slice (.int .i64)) a1, .pbox 0 0, U, U, .val (.int .i64) x1_0, U, U, U, U, U, .val (.int .i64) x1_1, .val (.int .i64) x1_2] ++ List.replicate 16 U, [(0, .box 32 [.val (.slice (.int .i64)) a0.1, .val (.slice (.int .i64)) a0.2.1, .val (.slice (.int .i64)) a0.2.2.1, .val (.slice t161) a0.2.2.2.1, .val (.slice (.slice (.int .i64))) a0.2.2.2.2.1] false)], 1, 0⟩
def f79_L1 (a0 : S25) (a1 : List Int) (x1_0 : Int) (x1_1 : Int) (x1_2 : Int) (r : f79_R) : Prop := At (fun B W0 w S β => Ends (f79_C a0 a1 B W0 w S β) Tryd.f79 ⟨focus Tryd.f79 [.r, .r, .l, .r, .b, .h], f79_s1 a0 a1 x1_0 x1_1 x1_2⟩ (f79_res r) (f79_fin r))

/-- loop.example/g01094/impl.PossibleLetters -/
abbrev f18_R : Type := Int × Int
@[reducible] def f18_res (r : f18_R) : A := .tup [.val (.int .i64) r.1, .val (.int .i64) r.2]
@[reducible] def f18_fin (r : f18_R) : List (Nat × O) := []
def f18_H (a0 : S25) (a1 : List Int) (r : f18_R) : Prop := Has ⟨18, [.val t25 a0, .val (.slice (.int .i64)) a1], [], f18_res r, f18_fin r⟩
@[reducible] noncomputable def f18_C (a0 : S25) (a1 : List Int) (B : Nat) (W0 : Nat → Option Obj) (w : World) (S : Nat → Prop) (β : Nat → Value) : Ctx := ⟨Tryd.prog, B, W0, w, S, β, lookO (numbered 0 []), 0, 19⟩

/-- loop.example/g01094/laws.eqInt64S -/
abbrev f20_R : Type := Bool
@[reducible] def f20_res (r : f20_R) : A := .val .bool r
@[reducible] def f20_fin (r : f20_R) : List (Nat × O) := []
def f20_H (a0 : List Int) (a1 : List Int) (r : f20_R) : Prop := Has ⟨20, [.val (.slice (.int .i64)) a0, .val (.slice (.int .i64)) a1], [], f20_res r, f20_fin r⟩
@[reducible] noncomputable def f20_C (a0 : List Int) (a1 : List Int) (B : Nat) (W0 : Nat → Option Obj) (w : World) (S : Nat → Prop) (β : Nat → Value) : Ctx := ⟨Tryd.prog, B, W0, w, S, β, lookO (numbered 0 []), 0, 26⟩
def f20_s1 (a0 : List Int) (a1 : List Int) (x1_0 : Int) : St := ⟨[.val (.slice (.int .i64)) a0, .val (.slice (.int .i64)) a1, U, U, U, .val (.int .i64) x1_0] ++ List.replicate 20 U, [], 0, 0⟩
def f20_L1 (a0 : List Int) (a1 : List Int) (x1_0 : Int) (r : f20_R) : Prop := At (fun B W0 w S β => Ends (f20_C a0 a1 B W0 w S β) Tryd.f20 ⟨focus Tryd.f20 [.r, .r, .l, .r, .b, .h], f20_s1 a0 a1 x1_0⟩ (f20_res r) (f20_fin r))

/-- loop.example/g01094/laws.eqJoint -/
abbrev f161_R : Type := Bool
@[reducible] def f161_res (r : f161_R) : A := .val .bool r
@[reducible] def f161_fin (r : f161_R) : List (Nat × O) := []
def f161_H (a0 : S161) (a1 : S161) (r : f161_R) : Prop := Has ⟨161, [.val t161 a0, .val t161 a1], [], f161_res r, f161_fin r⟩
@[reducible] noncomputable def f161_C (a0 : S161) (a1 : S161) (B : Nat) (W0 : Nat → Option Obj) (w : World) (S : Nat → Prop) (β : Nat → Value) : Ctx := ⟨Tryd.prog, B, W0, w, S, β, lookO (numbered 0 []), 0, 22⟩

/-- loop.example/g01094/laws.eqJointS -/
abbrev f80_R : Type := Bool
@[reducible] def f80_res (r : f80_R) : A := .val .bool r
@[reducible] def f80_fin (r : f80_R) : List (Nat × O) := []
def f80_H (a0 : List S161) (a1 : List S161) (r : f80_R) : Prop := Has ⟨80, [.val (.slice t161) a0, .val (.slice t161) a1], [], f80_res r, f80_fin r⟩
@[reducible] noncomputable def f80_C (a0 : List S161) (a1 : List S161) (B : Nat) (W0 : Nat → Option Obj) (w : World) (S : Nat → Prop) (β : Nat → Value) : Ctx := ⟨Tryd.prog, B, W0, w, S, β, lookO (numbered 0 []), 0, 27⟩
def f80_s1 (a0 : List S161) (a1 : List S161) (x1_0 : Int) : St := ⟨[.val (.slice t161) a0, .val (.slice t161) a1, U, U, U, .val (.int .i64) x1_0] ++ List.replicate 21 U, [], 0, 0⟩
def f80_L1 (a0 : List S161) (a1 : List S161) (x1_0 : Int) (r : f80_R) : Prop := At (fun B W0 w S β => Ends (f80_C a0 a1 B W0 w S β) Tryd.f80 ⟨focus Tryd.f80 [.r, .r, .l, .r, .b, .h], f80_s1 a0 a1 x1_0⟩ (f80_res r) (f80_fin r))

/-- loop.example/g01094/laws.eqInt64SS -/
abbrev f30_R : Type := Bool
@[reducible] def f30_res (r : f30_R) : A := .val .bool r
@[reducible] def f30_fin (r : f30_R) : List (Nat × O) := []
def f30_H (a0 : List (List Int)) (a1 : List (List Int)) (r : f30_R) : Prop := Has ⟨30, [.val (.slice (.slice (.int .i64))) a0, .val (.slice (.slice (.int .i64))) a1], [], f30_res r, f30_fin r⟩
@[reducible] noncomputable def f30_C (a0 : List (List Int)) (a1 : List (List Int)) (B : Nat) (W0 : Nat → Option Obj) (w : World) (S : Nat → Prop) (β : Nat → Value) : Ctx := ⟨Tryd.prog, B, W0, w, S, β, lookO (numbered 0 []), 0, 27⟩
def f30_s1 (a0 : List (List Int)) (a1 : List (List Int)) (x1_0 : Int) : St := ⟨[.val (.slice (.slice (.int .i64))) a0, .val (.slice (.slice (.int .i64))) a1, U, U, U, .val (.int .i64) x1_0] ++ List.replicate 21 U, [], 0, 0⟩
def f30_L1 (a0 : List (List Int)) (a1 : List (List Int)) (x1_0 : Int) (r : f30_R) : Prop := At (fun B W0 w S β => Ends (f30_C a0 a1 B W0 w S β) Tryd.f30 ⟨focus Tryd.f30 [.r, .r, .l, .r, .b, .h], f30_s1 a0 a1 x1_0⟩ (f30_res r) (f30_fin r))

/-- loop.example/g01094/laws.eqAsynchronous -/
abbrev f19_R : Type := Bool
@[reducible] def f19_res (r : f19_R) : A := .val .bool r
@[reducible] def f19_fin (r : f19_R) : List (Nat × O) := []
def f19_H (a0 : S25) (a1 : S25) (r : f19_R) : Prop := Has ⟨19, [.val t25 a0, .val t25 a1], [], f19_res r, f19_fin r⟩
@[reducible] noncomputable def f19_C (a0 : S25) (a1 : S25) (B : Nat) (W0 : Nat → Option Obj) (w : World) (S : Nat → Prop) (β : Nat → Value) : Ctx := ⟨Tryd.prog, B, W0, w, S, β, lookO (numbered 0 []), 0, 35⟩

/-- loop.example/g01094/laws.FnExactPossibleLetters -/
abbrev f3_R : Type := Bool
@[reducible] def f3_res (r : f3_R) : A := .val .bool r
@[reducible] def f3_fin (r : f3_R) : List (Nat × O) := []
def f3_H (a0 : S25) (a1 : List Int) (r : f3_R) : Prop := Has ⟨3, [.val t25 a0, .val (.slice (.int .i64)) a1], [], f3_res r, f3_fin r⟩
@[reducible] noncomputable def f3_C (a0 : S25) (a1 : List Int) (B : Nat) (W0 : Nat → Option Obj) (w : World) (S : Nat → Prop) (β : Nat → Value) : Ctx := ⟨Tryd.prog, B, W0, w, S, β, lookO (numbered 0 []), 0, 56⟩

/-- loop.example/g01094/laws.szAlphabet -/
abbrev f21_R : Type := Int
@[reducible] def f21_res (r : f21_R) : A := .val (.int .i64) r
@[reducible] def f21_fin (r : f21_R) : List (Nat × O) := []
def f21_H (a0 : S38) (a1 : Int) (r : f21_R) : Prop := Has ⟨21, [.val t38 a0, .val (.int .i64) a1], [], f21_res r, f21_fin r⟩
@[reducible] noncomputable def f21_C (a0 : S38) (a1 : Int) (B : Nat) (W0 : Nat → Option Obj) (w : World) (S : Nat → Prop) (β : Nat → Value) : Ctx := ⟨Tryd.prog, B, W0, w, S, β, lookO (numbered 0 []), 0, 12⟩

/-- loop.example/g01094/spec.l01Masks -/
abbrev f235_R : Type := Bool
@[reducible] def f235_res (r : f235_R) : A := .val .bool r
@[reducible] def f235_fin (r : f235_R) : List (Nat × O) := []
def f235_H (a0 : Int) (a1 : List Int) (r : f235_R) : Prop := Has ⟨235, [.val (.int .i64) a0, .val (.slice (.int .i64)) a1], [], f235_res r, f235_fin r⟩
@[reducible] noncomputable def f235_C (a0 : Int) (a1 : List Int) (B : Nat) (W0 : Nat → Option Obj) (w : World) (S : Nat → Prop) (β : Nat → Value) : Ctx := ⟨Tryd.prog, B, W0, w, S, β, lookO (numbered 0 []), 0, 20⟩
def f235_s1 (a0 : Int) (a1 : List Int) (x1_0 : Int) : St := ⟨[.val (.int .i64) a0, .val (.slice (.int .i64)) a1, U, U, U, .val (.int .i64) x1_0] ++ List.replicate 14 U, [], 0, 0⟩
def f235_L1 (a0 : Int) (a1 : List Int) (x1_0 : Int) (r : f235_R) : Prop := At (fun B W0 w S β => Ends (f235_C a0 a1 B W0 w S β) Tryd.f235 ⟨focus Tryd.f235 [.r, .l, .r, .b, .h], f235_s1 a0 a1 x1_0⟩ (f235_res r) (f235_fin r))

/-- loop.example/g01094/spec.l02Is -/
abbrev f162_R : Type := Bool
@[reducible] def f162_res (r : f162_R) : A := .val .bool r
@[reducible] def f162_fin (r : f162_R) : List (Nat × O) := []
def f162_H (a0 : S38) (r : f162_R) : Prop := Has ⟨162, [.val t38 a0], [], f162_res r, f162_fin r⟩
@[reducible] noncomputable def f162_C (a0 : S38) (B : Nat) (W0 : Nat → Option Obj) (w : World) (S : Nat → Prop) (β : Nat → Value) : Ctx := ⟨Tryd.prog, B, W0, w, S, β, lookO (numbered 0 []), 0, 60⟩
def f162_s1 (a0 : S38) (x1_0 : Int) : St := ⟨[U, .pbox 0 0, U, .val (.int .i64) x1_0] ++ List.replicate 56 U, [(0, .box 43 [.val (.int .i64) a0.1, .val (.slice (.int .i64)) a0.2.1] false)], 1, 0⟩
def f162_L1 (a0 : S38) (x1_0 : Int) (r : f162_R) : Prop := At (fun B W0 w S β => Ends (f162_C a0 B W0 w S β) Tryd.f162 ⟨focus Tryd.f162 [.r, .r, .l, .r, .b, .h], f162_s1 a0 x1_0⟩ (f162_res r) (f162_fin r))
def f162_s2 (a0 : S38) (x2_0 : Int) (x2_1 : Int) : St := ⟨[U, .pbox 0 0, U, .val (.int .i64) x2_0, .val (.int .i64) x2_1] ++ List.replicate 55 U, [(0, .box 43 [.val (.int .i64) a0.1, .val (.slice (.int .i64)) a0.2.1] false)], 1, 0⟩
def f162_L2 (a0 : S38) (x2_0 : Int) (x2_1 : Int) (r : f162_R) : Prop := At (fun B W0 w S β => Ends (f162_C a0 B W0 w S β) Tryd.f162 ⟨focus Tryd.f162 [.r, .r, .l, .r, .b, .b, .r, .l, .b, .r, .r, .b, .h], f162_s2 a0 x2_0 x2_1⟩ (f162_res r) (f162_fin r))

/-- loop.example/g01094/spec.l09Word -/
abbrev f163_R : Type := Bool
@[reducible] def f163_res (r : f163_R) : A := .val .bool r
@[reducible] def f163_fin (r : f163_R) : List (Nat × O) := []
def f163_H (a0 : Int) (a1 : List Int) (r : f163_R) : Prop := Has ⟨163, [.val (.int .i64) a0, .val (.slice (.int .i64)) a1], [], f163_res r, f163_fin r⟩
@[reducible] noncomputable def f163_C (a0 : Int) (a1 : List Int) (B : Nat) (W0 : Nat → Option Obj) (w : World) (S : Nat → Prop) (β : Nat → Value) : Ctx := ⟨Tryd.prog, B, W0, w, S, β, lookO (numbered 0 []), 0, 31⟩
def f163_s1 (a0 : Int) (a1 : List Int) (x1_0 : Int) : St := ⟨[.val (.int .i64) a0, .val (.slice (.int .i64)) a1, U, U, U, .val (.int .i64) x1_0] ++ List.replicate 25 U, [], 0, 0⟩
def f163_L1 (a0 : Int) (a1 : List Int) (x1_0 : Int) (r : f163_R) : Prop := At (fun B W0 w S β => Ends (f163_C a0 a1 B W0 w S β) Tryd.f163 ⟨focus Tryd.f163 [.r, .r, .l, .r, .b, .h], f163_s1 a0 a1 x1_0⟩ (f163_res r) (f163_fin r))

/-- loop.example/g01094/spec.l09Code -/
abbrev f81_R : Type := Int
@[reducible] def f81_res (r : f81_R) : A := .val (.int .i64) r
@[reducible] def f81_fin (r : f81_R) : List (Nat × O) := []
def f81_H (a0 : S38) (a1 : List Int) (a2 : List Int) (r : f81_R) : Prop := Has ⟨81, [.val t38 a0, .val (.slice (.int .i64)) a1, .val (.slice (.int .i64)) a2], [], f81_res r, f81_fin r⟩
@[reducible] noncomputable def f81_C (a0 : S38) (a1 : List Int) (a2 : List Int) (B : Nat) (W0 : Nat → Option Obj) (w : World) (S : Nat → Prop) (β : Nat → Value) : Ctx := ⟨Tryd.prog, B, W0, w, S, β, lookO (numbered 0 []), 0, 22⟩

/-- loop.example/g01094/spec.l09Double -/
abbrev f82_R : Type := Int × List Int
@[reducible] def f82_res (r : f82_R) : A := .agg [.val (.int .i64) r.1, .ref 0]
@[reducible] def f82_fin (r : f82_R) : List (Nat × O) := [(0, .arr 2 (.int .i64) r.2 false)]
def f82_H (a0 : S38) (r : f82_R) : Prop := Has ⟨82, [.val t38 a0], [], f82_res r, f82_fin r⟩
@[reducible] noncomputable def f82_C (a0 : S38) (B : Nat) (W0 : Nat → Option Obj) (w : World) (S : Nat → Prop) (β : Nat → Value) : Ctx := ⟨Tryd.prog, B, W0, w, S, β, lookO (numbered 0 []), 0, 43⟩
def f82_s1 (a0 : S38) (x1_0 : Int) (x1_1 : Int) (x1_2 : List Int) (x1_3 : Int) (x1_4 : List Int) : St := ⟨[U, .pbox 0 0, .pbox 1 0, .pbox 3 0, .val (.int .i64) x1_0] ++ List.replicate 38 U, [(0, .box 43 [.val (.int .i64) a0.1, .val (.slice (.int .i64)) a0.2.1] false), (1, .box 43 [.val (.int .i64) x1_1, .ref 2] false), (2, .arr 2 (.int .i64) x1_2 false), (3, .box 43 [.val (.int .i64) x1_3, .ref 4] false), (4, .arr 2 (.int .i64) x1_4 false)], 5, 0⟩
def f82_L1 (a0 : S38) (x1_0 : Int) (x1_1 : Int) (x1_2 : List Int) (x1_3 : Int) (x1_4 : List Int) (r : f82_R) : Prop := At (fun B W0 w S β => Ends (f82_C a0 B W0 w S β) Tryd.f82 ⟨focus Tryd.f82 [.r, .r, .l, .r, .b, .h], f82_s1 a0 x1_0 x1_1 x1_2 x1_3 x1_4⟩ (f82_res r) (f82_fin r))
def f82_s2 (a0 : S38) (x2_0 : Int) (x2_1 : Int) (x2_2 : Int) (x2_3 : Int) (x2_4 : List Int) (x2_5 : Int) (x2_6 : List Int) : St := ⟨[U, .pbox 0 0, .pbox 1 0, .pbox 3 0, .val (.int .i64) x2_0, .val (.int .i64) x2_1, .val (.int .i64) x2_2] ++ List.replicate 36 U, [(0, .box 43 [.val (.int .i64) a0.1, .val (.slice (.int .i64)) a0.2.1] false), (1, .box 43 [.val (.int .i64) x2_3, .ref 2] false), (2, .arr 2 (.int .i64) x2_4 false), (3, .box 43 [.val (.int .i64) x2_5, .ref 4] false), (4, .arr 2 (.int .i64) x2_6 false)], 5, 0⟩
def f82_L2 (a0 : S38) (x2_0 : Int) (x2_1 : Int) (x2_2 : Int) (x2_3 : Int) (x2_4 : List Int) (x2_5 : Int) (x2_6 : List Int) (r : f82_R) : Prop := At (fun B W0 w S β => Ends (f82_C a0 B W0 w S β) Tryd.f82 ⟨focus Tryd.f82 [.r, .r, .l, .r, .b, .b, .r, .l, .b, .r, .l, .r, .b, .h], f82_s2 a0 x2_0 x2_1 x2_2 x2_3 x2_4 x2_5 x2_6⟩ (f82_res r) (f82_fin r))

/-- loop.example/g01094/spec.l09In -/
abbrev f85_R : Type := List Int
@[reducible] def f85_res (r : f85_R) : A := .ref 0
@[reducible] def f85_fin (r : f85_R) : List (Nat × O) := [(0, .arr 2 (.int .i64) r false)]
def f85_H (a0 : List Int) (r : f85_R) : Prop := Has ⟨85, [.val (.slice (.int .i64)) a0], [], f85_res r, f85_fin r⟩
@[reducible] noncomputable def f85_C (a0 : List Int) (B : Nat) (W0 : Nat → Option Obj) (w : World) (S : Nat → Prop) (β : Nat → Value) : Ctx := ⟨Tryd.prog, B, W0, w, S, β, lookO (numbered 0 []), 0, 36⟩
def f85_s1 (a0 : List Int) (x1_0 : Int) (x1_1 : List Int) : St := ⟨[.val (.slice (.int .i64)) a0, U, U, .ref 0, .val (.int .i64) x1_0] ++ List.replicate 31 U, [(0, .arr 2 (.int .i64) x1_1 false)], 1, 0⟩
def f85_L1 (a0 : List Int) (x1_0 : Int) (x1_1 : List Int) (r : f85_R) : Prop := At (fun B W0 w S β => Ends (f85_C a0 B W0 w S β) Tryd.f85 ⟨focus Tryd.f85 [.r, .r, .l, .r, .b, .h], f85_s1 a0 x1_0 x1_1⟩ (f85_res r) (f85_fin r))

/-- loop.example/g01094/spec.l03First -/
abbrev f165_R : Type := Int
@[reducible] def f165_res (r : f165_R) : A := .val (.int .i64) r
@[reducible] def f165_fin (r : f165_R) : List (Nat × O) := []
def f165_H (a0 : S38) (a1 : List Int) (a2 : Int) (r : f165_R) : Prop := Has ⟨165, [.val t38 a0, .val (.slice (.int .i64)) a1, .val (.int .i64) a2], [], f165_res r, f165_fin r⟩
@[reducible] noncomputable def f165_C (a0 : S38) (a1 : List Int) (a2 : Int) (B : Nat) (W0 : Nat → Option Obj) (w : World) (S : Nat → Prop) (β : Nat → Value) : Ctx := ⟨Tryd.prog, B, W0, w, S, β, lookO (numbered 0 []), 0, 28⟩
def f165_s1 (a0 : S38) (a1 : List Int) (a2 : Int) (x1_0 : Int) : St := ⟨[U, .val (.slice (.int .i64)) a1, .val (.int .i64) a2, .pbox 0 0, U, U, U, .val (.int .i64) x1_0] ++ List.replicate 20 U, [(0, .box 43 [.val (.int .i64) a0.1, .val (.slice (.int .i64)) a0.2.1] false)], 1, 0⟩
def f165_L1 (a0 : S38) (a1 : List Int) (a2 : Int) (x1_0 : Int) (r : f165_R) : Prop := At (fun B W0 w S β => Ends (f165_C a0 a1 a2 B W0 w S β) Tryd.f165 ⟨focus Tryd.f165 [.r, .l, .r, .b, .h], f165_s1 a0 a1 a2 x1_0⟩ (f165_res r) (f165_fin r))

/-- loop.example/g01094/spec.l03Normal -/
abbrev f169_R : Type := List Int
@[reducible] def f169_res (r : f169_R) : A := .ref 0
@[reducible] def f169_fin (r : f169_R) : List (Nat × O) := [(0, .arr 2 (.int .i64) r false)]
def f169_H (a0 : S38) (a1 : List Int) (r : f169_R) : Prop := Has ⟨169, [.val t38 a0, .val (.slice (.int .i64)) a1], [], f169_res r, f169_fin r⟩
@[reducible] noncomputable def f169_C (a0 : S38) (a1 : List Int) (B : Nat) (W0 : Nat → Option Obj) (w : World) (S : Nat → Prop) (β : Nat → Value) : Ctx := ⟨Tryd.prog, B, W0, w, S, β, lookO (numbered 0 []), 0, 35⟩
def f169_s1 (a0 : S38) (a1 : List Int) (x1_0 : List Int) (x1_1 : List Int) : St := ⟨[U, U, .pbox 0 0, U, U, .ref 1, .ref 2] ++ List.replicate 28 U, [(0, .box 43 [.val (.int .i64) a0.1, .val (.slice (.int .i64)) a0.2.1] false), (1, .arr 2 (.int .i64) x1_0 false), (2, .arr 2 (.int .i64) x1_1 false)], 3, 0⟩
def f169_L1 (a0 : S38) (a1 : List Int) (x1_0 : List Int) (x1_1 : List Int) (r : f169_R) : Prop := At (fun B W0 w S β => Ends (f169_C a0 a1 B W0 w S β) Tryd.f169 ⟨focus Tryd.f169 [.r, .r, .l, .b, .h], f169_s1 a0 a1 x1_0 x1_1⟩ (f169_res r) (f169_fin r))
def f169_s2 (a0 : S38) (a1 : List Int) (x2_0 : Int) (x2_1 : List Int) (x2_2 : List Int) : St := ⟨[U, U, .pbox 0 0, U, U, .ref 1, .ref 2, .val (.int .i64) x2_0] ++ List.replicate 27 U, [(0, .box 43 [.val (.int .i64) a0.1, .val (.slice (.int .i64)) a0.2.1] false), (1, .arr 2 (.int .i64) x2_1 false), (2, .arr 2 (.int .i64) x2_2 false)], 3, 0⟩
def f169_L2 (a0 : S38) (a1 : List Int) (x2_0 : Int) (x2_1 : List Int) (x2_2 : List Int) (r : f169_R) : Prop := At (fun B W0 w S β => Ends (f169_C a0 a1 B W0 w S β) Tryd.f169 ⟨focus Tryd.f169 [.r, .r, .l, .b, .b, .r, .b, .r, .b, .h], f169_s2 a0 a1 x2_0 x2_1 x2_2⟩ (f169_res r) (f169_fin r))

/-- loop.example/g01094/spec.l09Reduce -/
abbrev f84_R : Type := List Int
@[reducible] def f84_res (r : f84_R) : A := .ref 0
@[reducible] def f84_fin (r : f84_R) : List (Nat × O) := [(0, .arr 2 (.int .i64) r false)]
def f84_H (a0 : S38) (a1 : List Int) (r : f84_R) : Prop := Has ⟨84, [.val t38 a0, .val (.slice (.int .i64)) a1], [], f84_res r, f84_fin r⟩
@[reducible] noncomputable def f84_C (a0 : S38) (a1 : List Int) (B : Nat) (W0 : Nat → Option Obj) (w : World) (S : Nat → Prop) (β : Nat → Value) : Ctx := ⟨Tryd.prog, B, W0, w, S, β, lookO (numbered 0 []), 0, 52⟩
def f84_s1 (a0 : S38) (a1 : List Int) (x1_0 : Int) (x1_1 : List Int) : St := ⟨[U, U, .pbox 0 0, U, U, .ref 1, .val (.int .i64) x1_0] ++ List.replicate 45 U, [(0, .box 43 [.val (.int .i64) a0.1, .val (.slice (.int .i64)) a0.2.1] false), (1, .arr 2 (.int .i64) x1_1 false)], 2, 0⟩
def f84_L1 (a0 : S38) (a1 : List Int) (x1_0 : Int) (x1_1 : List Int) (r : f84_R) : Prop := At (fun B W0 w S β => Ends (f84_C a0 a1 B W0 w S β) Tryd.f84 ⟨focus Tryd.f84 [.r, .r, .l, .r, .b, .h], f84_s1 a0 a1 x1_0 x1_1⟩ (f84_res r) (f84_fin r))
def f84_s2 (a0 : S38) (a1 : List Int) (x2_0 : Int) (x2_1 : Int) (x2_2 : List Int) : St := ⟨[U, U, .pbox 0 0, U, U, .ref 1, .val (.int .i64) x2_0, .val (.int .i64) x2_1] ++ List.replicate 44 U, [(0, .box 43 [.val (.int .i64) a0.1, .val (.slice (.int .i64)) a0.2.1] false), (1, .arr 2 (.int .i64) x2_2 false)], 2, 0⟩
def f84_L2 (a0 : S38) (a1 : List Int) (x2_0 : Int) (x2_1 : Int) (x2_2 : List Int) (r : f84_R) : Prop := At (fun B W0 w S β => Ends (f84_C a0 a1 B W0 w S β) Tryd.f84 ⟨focus Tryd.f84 [.r, .r, .l, .r, .b, .b, .r, .l, .b, .r, .b, .h], f84_s2 a0 a1 x2_0 x2_1 x2_2⟩ (f84_res r) (f84_fin r))

/-- loop.example/g01094/spec.l03Back -/
abbrev f167_R : Type := List Int
@[reducible] def f167_res (r : f167_R) : A := .ref 0
@[reducible] def f167_fin (r : f167_R) : List (Nat × O) := [(0, .arr 2 (.int .i64) r false)]
def f167_H (a0 : List Int) (r : f167_R) : Prop := Has ⟨167, [.val (.slice (.int .i64)) a0], [], f167_res r, f167_fin r⟩
@[reducible] noncomputable def f167_C (a0 : List Int) (B : Nat) (W0 : Nat → Option Obj) (w : World) (S : Nat → Prop) (β : Nat → Value) : Ctx := ⟨Tryd.prog, B, W0, w, S, β, lookO (numbered 0 []), 0, 21⟩
def f167_s1 (a0 : List Int) (x1_0 : Int) (x1_1 : List Int) : St := ⟨[.val (.slice (.int .i64)) a0, U, U, .ref 0, .val (.int .i64) x1_0] ++ List.replicate 16 U, [(0, .arr 2 (.int .i64) x1_1 false)], 1, 0⟩
def f167_L1 (a0 : List Int) (x1_0 : Int) (x1_1 : List Int) (r : f167_R) : Prop := At (fun B W0 w S β => Ends (f167_C a0 B W0 w S β) Tryd.f167 ⟨focus Tryd.f167 [.r, .r, .l, .r, .b, .h], f167_s1 a0 x1_0 x1_1⟩ (f167_res r) (f167_fin r))

/-- loop.example/g01094/spec.l09Core -/
abbrev f83_R : Type := (List Int) × List Int
@[reducible] def f83_res (r : f83_R) : A := .tup [.ref 0, .ref 1]
@[reducible] def f83_fin (r : f83_R) : List (Nat × O) := [(0, .arr 2 (.int .i64) r.1 false), (1, .arr 2 (.int .i64) r.2 false)]
def f83_H (a0 : S38) (a1 : List Int) (r : f83_R) : Prop := Has ⟨83, [.val t38 a0, .val (.slice (.int .i64)) a1], [], f83_res r, f83_fin r⟩
@[reducible] noncomputable def f83_C (a0 : S38) (a1 : List Int) (B : Nat) (W0 : Nat → Option Obj) (w : World) (S : Nat → Prop) (β : Nat → Value) : Ctx := ⟨Tryd.prog, B, W0, w, S, β, lookO (numbered 0 []), 0, 60⟩
def f83_s1 (a0 : S38) (a1 : List Int) (x1_0 : List Int) (x1_1 : Bool) (x1_2 : List Int) : St := ⟨[U, U, .pbox 0 0, U, U, U, .val (.slice (.int .i64)) x1_0, .ref 1, .val .bool x1_1] ++ List.replicate 51 U, [(0, .box 43 [.val (.int .i64) a0.1, .val (.slice (.int .i64)) a0.2.1] false), (1, .arr 2 (.int .i64) x1_2 false)], 2, 0⟩
def f83_L1 (a0 : S38) (a1 : List Int) (x1_0 : List Int) (x1_1 : Bool) (x1_2 : List Int) (r : f83_R) : Prop := At (fun B W0 w S β => Ends (f83_C a0 a1 B W0 w S β) Tryd.f83 ⟨focus Tryd.f83 [.r, .r, .l, .r, .b, .h], f83_s1 a0 a1 x1_0 x1_1 x1_2⟩ (f83_res r) (f83_fin r))
def f83_s2 (a0 : S38) (a1 : List Int) (x2_0 : List Int) (x2_1 : Bool) (x2_2 : Int) (x2_3 : List Int) : St := ⟨[U, U, .pbox 0 0, U, U, U, .val (.slice (.int .i64)) x2_0, .ref 1, .val .bool x2_1, .val (.int .i64) x2_2] ++ List.replicate 50 U, [(0, .box 43 [.val (.int .i64) a0.1, .val (.slice (.int .i64)) a0.2.1] false), (1, .arr 2 (.int .i64) x2_3 false)], 2, 0⟩
def f83_L2 (a0 : S38) (a1 : List Int) (x2_0 : List Int) (x2_1 : Bool) (x2_2 : Int) (x2_3 : List Int) (r : f83_R) : Prop := At (fun B W0 w S β => Ends (f83_C a0 a1 B W0 w S β) Tryd.f83 ⟨focus Tryd.f83 [.r, .r, .l, .r, .b, .b, .r, .b, .r, .r, .b, .h], f83_s2 a0 a1 x2_0 x2_1 x2_2 x2_3⟩ (f83_res r) (f83_fin r))

/-- loop.example/g01094/spec.l07Rotate -/
abbrev f96_R : Type := Bool × List Int
@[reducible] def f96_res (r : f96_R) : A := .tup [.ref 0, .val .bool r.1]
@[reducible] def f96_fin (r : f96_R) : List (Nat × O) := [(0, .arr 2 (.int .i64) r.2 false)]
def f96_H (a0 : S38) (a1 : List Int) (a2 : Int) (r : f96_R) : Prop := Has ⟨96, [.val t38 a0, .val (.slice (.int .i64)) a1, .val (.int .i64) a2], [], f96_res r, f96_fin r⟩
@[reducible] noncomputable def f96_C (a0 : S38) (a1 : List Int) (a2 : Int) (B : Nat) (W0 : Nat → Option Obj) (w : World) (S : Nat → Prop) (β : Nat → Value) : Ctx := ⟨Tryd.prog, B, W0, w, S, β, lookO (numbered 0 []), 0, 23⟩

/-- loop.example/g01094/spec.l07Find -/
abbrev f87_R : Type := Int
@[reducible] def f87_res (r : f87_R) : A := .val (.int .i64) r
@[reducible] def f87_fin (r : f87_R) : List (Nat × O) := []
def f87_H (a0 : List (List Int)) (a1 : List Int) (r : f87_R) : Prop := Has ⟨87, [.val (.slice (.slice (.int .i64))) a0, .val (.slice (.int .i64)) a1], [], f87_res r, f87_fin r⟩
@[reducible] noncomputable def f87_C (a0 : List (List Int)) (a1 : List Int) (B : Nat) (W0 : Nat → Option Obj) (w : World) (S : Nat → Prop) (β : Nat → Value) : Ctx := ⟨Tryd.prog, B, W0, w, S, β, lookO (numbered 0 []), 0, 19⟩
def f87_s1 (a0 : List (List Int)) (a1 : List Int) (x1_0 : Int) : St := ⟨[.val (.slice (.slice (.int .i64))) a0, .val (.slice (.int .i64)) a1, U, U, U, .val (.int .i64) x1_0] ++ List.replicate 13 U, [], 0, 0⟩
def f87_L1 (a0 : List (List Int)) (a1 : List Int) (x1_0 : Int) (r : f87_R) : Prop := At (fun B W0 w S β => Ends (f87_C a0 a1 B W0 w S β) Tryd.f87 ⟨focus Tryd.f87 [.r, .l, .r, .b, .h], f87_s1 a0 a1 x1_0⟩ (f87_res r) (f87_fin r))

/-- loop.example/g01094/spec.l07Class -/
abbrev f86_R : Type := Bool × (List (List Int)) × List Int
@[reducible] def f86_res (r : f86_R) : A := .tup [.ref 0, .ref 1, .val .bool r.1]
@[reducible] def f86_fin (r : f86_R) : List (Nat × O) := [(0, .arr 22 (.slice (.int .i64)) r.2.1 false), (1, .arr 2 (.int .i64) r.2.2 false)]
def f86_H (a0 : S38) (a1 : List Int) (r : f86_R) : Prop := Has ⟨86, [.val t38 a0, .val (.slice (.int .i64)) a1], [], f86_res r, f86_fin r⟩
@[reducible] noncomputable def f86_C (a0 : S38) (a1 : List Int) (B : Nat) (W0 : Nat → Option Obj) (w : World) (S : Nat → Prop) (β : Nat → Value) : Ctx := ⟨Tryd.prog, B, W0, w, S, β, lookO (numbered 0 []), 0, 64⟩
def f86_s1 (a0 : S38) (a1 : List Int) (x1_0 : Int) (x1_1 : List (List Int)) (x1_2 : List Int) : St := ⟨[U, U, .pbox 0 0, U, U, U, U, .ref 1, .ref 2, .val (.int .i64) x1_0] ++ List.replicate 54 U, [(0, .box 43 [.val (.int .i64) a0.1, .val (.slice (.int .i64)) a0.2.1] false), (1, .arr 22 (.slice (.int .i64)) x1_1 false), (2, .arr 2 (.int .i64) x1_2 false)], 3, 0⟩
def f86_L1 (a0 : S38) (a1 : List Int) (x1_0 : Int) (x1_1 : List (List Int)) (x1_2 : List Int) (r : f86_R) : Prop := At (fun B W0 w S β => Ends (f86_C a0 a1 B W0 w S β) Tryd.f86 ⟨focus Tryd.f86 [.r, .r, .l, .r, .b, .h], f86_s1 a0 a1 x1_0 x1_1 x1_2⟩ (f86_res r) (f86_fin r))
def f86_s2 (a0 : S38) (a1 : List Int) (x2_0 : Int) (x2_1 : Int) (x2_2 : List (List Int)) (x2_3 : List Int) : St := ⟨[U, U, .pbox 0 0, U, U, U, U, .ref 1, .ref 2, .val (.int .i64) x2_0, .val (.int .i64) x2_1] ++ List.replicate 53 U, [(0, .box 43 [.val (.int .i64) a0.1, .val (.slice (.int .i64)) a0.2.1] false), (1, .arr 22 (.slice (.int .i64)) x2_2 false), (2, .arr 2 (.int .i64) x2_3 false)], 3, 0⟩
def f86_L2 (a0 : S38) (a1 : List Int) (x2_0 : Int) (x2_1 : Int) (x2_2 : List (List Int)) (x2_3 : List Int) (r : f86_R) : Prop := At (fun B W0 w S β => Ends (f86_C a0 a1 B W0 w S β) Tryd.f86 ⟨focus Tryd.f86 [.r, .r, .l, .r, .b, .b, .r, .l, .b, .r, .b, .h], f86_s2 a0 a1 x2_0 x2_1 x2_2 x2_3⟩ (f86_res r) (f86_fin r))

/-- loop.example/g01094/spec.AreGroupConjugate -/
abbrev f22_R : Type := Bool × Int
@[reducible] def f22_res (r : f22_R) : A := .tup [.val .bool r.1, .val (.int .i64) r.2]
@[reducible] def f22_fin (r : f22_R) : List (Nat × O) := []
def f22_H (a0 : S38) (a1 : List Int) (a2 : List Int) (r : f22_R) : Prop := Has ⟨22, [.val t38 a0, .val (.slice (.int .i64)) a1, .val (.slice (.int .i64)) a2], [], f22_res r, f22_fin r⟩
@[reducible] noncomputable def f22_C (a0 : S38) (a1 : List Int) (a2 : List Int) (B : Nat) (W0 : Nat → Option Obj) (w : World) (S : Nat → Prop) (β : Nat → Value) : Ctx := ⟨Tryd.prog, B, W0, w, S, β, lookO (numbered 0 []), 0, 57⟩

/-- loop.example/g01094/impl.IsRelation -/
abbrev f246_R : Type := Bool
@[reducible] def f246_res (r : f246_R) : A := .val .bool r
@[reducible] def f246_fin (r : f246_R) : List (Nat × O) := []
def f246_H (a0 : List Int) (r : f246_R) : Prop := Has ⟨246, [.val (.slice (.int .i64)) a0], [], f246_res r, f246_fin r⟩
@[reducible] noncomputable def f246_C (a0 : List Int) (B : Nat) (W0 : Nat → Option Obj) (w : World) (S : Nat → Prop) (β : Nat → Value) : Ctx := ⟨Tryd.prog, B, W0, w, S, β, lookO (numbered 0 []), 0, 14⟩

/-- loop.example/g01094/impl.converse -/
abbrev f247_R : Type := List Int
@[reducible] def f247_res (r : f247_R) : A := .ref 0
@[reducible] def f247_fin (r : f247_R) : List (Nat × O) := [(0, .arr 2 (.int .i64) r false)]
def f247_H (a0 : List Int) (r : f247_R) : Prop := Has ⟨247, [.val (.slice (.int .i64)) a0], [], f247_res r, f247_fin r⟩
@[reducible] noncomputable def f247_C (a0 : List Int) (B : Nat) (W0 : Nat → Option Obj) (w : World) (S : Nat → Prop) (β : Nat → Value) : Ctx := ⟨Tryd.prog, B, W0, w, S, β, lookO (numbered 0 []), 0, 36⟩
def f247_s1 (a0 : List Int) (x1_0 : Int) (x1_1 : Int) (x1_2 : List Int) : St := ⟨[U, U, U, .ref 0, U, U, U, U, U, U, U, .val (.slice (.int .i64)) a0, .val (.int .i64) x1_0, .val (.int .i64) x1_1] ++ List.replicate 22 U, [(0, .arr 2 (.int .i64) x1_2 false)], 1, 0⟩
def f247_L1 (a0 : List Int) (x1_0 : Int) (x1_1 : Int) (x1_2 : List Int) (r : f247_R) : Prop := At (fun B W0 w S β => Ends (f247_C a0 B W0 w S β) Tryd.f247 ⟨focus Tryd.f247 [.r, .r, .l, .r, .b, .h], f247_s1 a0 x1_0 x1_1 x1_2⟩ (f247_res r) (f247_fin r))
def f247_s2 (a0 : List Int) (x2_0 : Int) (x2_1 : Int) (x2_2 : Int) (x2_3 : Int) (x2_4 : Int) (x2_5 : List Int) (x2_6 : List Int) : St := ⟨[U, U, U, .ref 0, .val (.int .i64) x2_0, U, U, U, U, U, U, .val (.slice (.int .i64)) a0, .val (.int .i64) x2_1, .val (.int .i64) x2_2, U, U, U, U, U, .ref 1, .val (.int .i64) x2_3, .val (.int .i64) x2_4] ++ List.replicate 14 U, [(0, .arr 2 (.int .i64) x2_5 false), (1, .arr 2 (.int .i64) x2_6 false)], 2, 0⟩
def f247_L2 (a0 : List Int) (x2_0 : Int) (x2_1 : Int) (x2_2 : Int) (x2_3 : Int) (x2_4 : Int) (x2_5 : List Int) (x2_6 : List Int) (r : f247_R) : Prop := At (fun B W0 w S β => Ends (f247_C a0 B W0 w S β) Tryd.f247 ⟨focus Tryd.f247 [.r, .r, .l, .r, .b, .b, .r, .r, .l, .b, .r, .r, .b, .h], f247_s2 a0 x2_0 x2_1 x2_2 x2_3 x2_4 x2_5 x2_6⟩ (f247_res r) (f247_fin r))

/-- loop.example/g01094/impl.IsAlphabet -/
abbrev f185_R : Type := Bool
@[reducible] def f185_res (r : f185_R) : A := .val .bool r
@[reducible] def f185_fin (r : f185_R) : List (Nat × O) := []
def f185_H (a0 : S38) (r : f185_R) : Prop := Has ⟨185, [.val t38 a0], [], f185_res r, f185_fin r⟩
@[reducible] noncomputable def f185_C (a0 : S38) (B : Nat) (W0 : Nat → Option Obj) (w : World) (S : Nat → Prop) (β : Nat → Value) : Ctx := ⟨Tryd.prog, B, W0, w, S, β, lookO (numbered 0 []), 0, 46⟩
def f185_s1 (a0 : S38) (x1_0 : Int) (x1_1 : Int) (x1_2 : List Int) : St := ⟨[U, .pbox 0 0, U, U, U, U, U, U, U, U, U, U, U, U, U, U, U, U, U, U, U, U, U, U, U, .ref 1, .val (.int .i64) x1_0, .val (.int .i64) x1_1] ++ List.replicate 18 U, [(0, .box 43 [.val (.int .i64) a0.1, .val (.slice (.int .i64)) a0.2.1] false), (1, .arr 2 (.int .i64) x1_2 false)], 2, 0⟩
def f185_L1 (a0 : S38) (x1_0 : Int) (x1_1 : Int) (x1_2 : List Int) (r : f185_R) : Prop := At (fun B W0 w S β => Ends (f185_C a0 B W0 w S β) Tryd.f185 ⟨focus Tryd.f185 [.r, .r, .l, .r, .b, .h], f185_s1 a0 x1_0 x1_1 x1_2⟩ (f185_res r) (f185_fin r))

/-- slices.Index[[]int64,int64] -/
abbrev f250_R : Type := Int
@[reducible] def f250_res (r : f250_R) : A := .val (.int .i64) r
@[reducible] def f250_fin (r : f250_R) : List (Nat × O) := []
def f250_H (a0 : List Int) (a1 : Int) (r : f250_R) : Prop := Has ⟨250, [.val (.slice (.int .i64)) a0, .val (.int .i64) a1], [], f250_res r, f250_fin r⟩
@[reducible] noncomputable def f250_C (a0 : List Int) (a1 : Int) (B : Nat) (W0 : Nat → Option Obj) (w : World) (S : Nat → Prop) (β : Nat → Value) : Ctx := ⟨Tryd.prog, B, W0, w, S, β, lookO (numbered 0 []), 0, 19⟩
def f250_s1 (a0 : List Int) (a1 : Int) (x1_0 : Int) (x1_1 : Int) : St := ⟨[.val (.slice (.int .i64)) a0, .val (.int .i64) a1, U, U, U, U, U, .val (.int .i64) x1_0, .val (.int .i64) x1_1] ++ List.replicate 10 U, [], 0, 0⟩
def f250_L1 (a0 : List Int) (a1 : Int) (x1_0 : Int) (x1_1 : Int) (r : f250_R) : Prop := At (fun B W0 w S β => Ends (f250_C a0 a1 B W0 w S β) Tryd.f250 ⟨focus Tryd.f250 [.r, .l, .r, .b, .h], f250_s1 a0 a1 x1_0 x1_1⟩ (f250_res r) (f250_fin r))

/-- loop.example/g01094/impl.isSigned -/
abbrev f188_R : Type := Bool
@[reducible] def f188_res (r : f188_R) : A := .val .bool r
@[reducible] def f188_fin (r : f188_R) : List (Nat × O) := []
def f188_H (a0 : S38) (a1 : List Int) (r : f188_R) : Prop := Has ⟨188, [.val t38 a0, .val (.slice (.int .i64)) a1], [], f188_res r, f188_fin r⟩
@[reducible] noncomputable def f188_C (a0 : S38) (a1 : List Int) (B : Nat) (W0 : Nat → Option Obj) (w : World) (S : Nat → Prop) (β : Nat → Value) : Ctx := ⟨Tryd.prog, B, W0, w, S, β, lookO (numbered 0 []), 0, 22⟩

/-- slices.IndexFunc[[][]int64,[]int64] -/
abbrev f248_R : Type := Int
@[reducible] def f248_res (r : f248_R) : A := .val (.int .i64) r
@[reducible] def f248_fin (r : f248_R) : List (Nat × O) := []
def f248_H (a0 : List (List Int)) (a1 : Int) (a2 : List Int) (r : f248_R) : Prop := Has ⟨248, [.val (.slice (.slice (.int .i64))) a0, .clo 187 [.pcs [.val (.int .i64) a1, .val (.slice (.int .i64)) a2] 0]], [], f248_res r, f248_fin r⟩
@[reducible] noncomputable def f248_C (a0 : List (List Int)) (a1 : Int) (a2 : List Int) (B : Nat) (W0 : Nat → Option Obj) (w : World) (S : Nat → Prop) (β : Nat → Value) : Ctx := ⟨Tryd.prog, B, W0, w, S, β, lookO (numbered 0 []), 0, 19⟩
def f248_s1 (a0 : List (List Int)) (a1 : Int) (a2 : List Int) (x1_0 : Int) (x1_1 : Int) : St := ⟨[.val (.slice (.slice (.int .i64))) a0, .clo 187 [.pcs [.val (.int .i64) a1, .val (.slice (.int .i64)) a2] 0], U, U, U, U, U, .val (.int .i64) x1_0, .val (.int .i64) x1_1] ++ List.replicate 10 U, [], 0, 0⟩
def f248_L1 (a0 : List (List Int)) (a1 : Int) (a2 : List Int) (x1_0 : Int) (x1_1 : Int) (r : f248_R) : Prop := At (fun B W0 w S β => Ends (f248_C a0 a1 a2 B W0 w S β) Tryd.f248 ⟨focus Tryd.f248 [.r, .l, .r, .b, .h], f248_s1 a0 a1 a2 x1_0 x1_1⟩ (f248_res r) (f248_fin r))

/-- loop.example/g01094/impl.checkSigned -/
abbrev f103_R : Type := Int
@[reducible] def f103_res (r : f103_R) : A := .val (.int .i64) r
@[reducible] def f103_fin (r : f103_R) : List (Nat × O) := []
def f103_H (a0 : S38) (a1 : List (List Int)) (r : f103_R) : Prop := Has ⟨103, [.val t38 a0, .val (.slice (.slice (.int .i64))) a1], [], f103_res r, f103_fin r⟩
@[reducible] noncomputable def f103_C (a0 : S38) (a1 : List (List Int)) (B : Nat) (W0 : Nat → Option Obj) (w : World) (S : Nat → Prop) (β : Nat → Value) : Ctx := ⟨Tryd.prog, B, W0, w, S, β, lookO (numbered 0 []), 0, 11⟩

/-- loop.example/g01094/impl.signedTies -/
abbrev f98_R : Type := List Int
@[reducible] def f98_res (r : f98_R) : A := .ref 0
@[reducible] def f98_fin (r : f98_R) : List (Nat × O) := [(0, .arr 2 (.int .i64) r false)]
def f98_H (a0 : S38) (r : f98_R) : Prop := Has ⟨98, [.val t38 a0], [], f98_res r, f98_fin r⟩
@[reducible] noncomputable def f98_C (a0 : S38) (B : Nat) (W0 : Nat → Option Obj) (w : World) (S : Nat → Prop) (β : Nat → Value) : Ctx := ⟨Tryd.prog, B, W0, w, S, β, lookO (numbered 0 []), 0, 37⟩
def f98_s1 (a0 : S38) (x1_0 : Int) (x1_1 : Int) (x1_2 : List Int) : St := ⟨[U, U, U, .ref 0, U, U, U, U, U, U, U, .val (.slice (.int .i64)) a0.2.1, .val (.int .i64) x1_0, .val (.int .i64) x1_1] ++ List.replicate 23 U, [(0, .arr 2 (.int .i64) x1_2 false)], 1, 0⟩
def f98_L1 (a0 : S38) (x1_0 : Int) (x1_1 : Int) (x1_2 : List Int) (r : f98_R) : Prop := At (fun B W0 w S β => Ends (f98_C a0 B W0 w S β) Tryd.f98 ⟨focus Tryd.f98 [.r, .r, .l, .r, .b, .h], f98_s1 a0 x1_0 x1_1 x1_2⟩ (f98_res r) (f98_fin r))
def f98_s2 (a0 : S38) (x2_0 : Int) (x2_1 : Int) (x2_2 : Int) (x2_3 : Int) (x2_4 : Int) (x2_5 : List Int) (x2_6 : List Int) : St := ⟨[U, U, U, .ref 0, U, U, .val (.int .i64) x2_0, U, U, U, U, .val (.slice (.int .i64)) a0.2.1, .val (.int .i64) x2_1, .val (.int .i64) x2_2, U, U, U, U, .ref 1, .val (.int .i64) x2_3, .val (.int .i64) x2_4] ++ List.replicate 16 U, [(0, .arr 2 (.int .i64) x2_5 false), (1, .arr 2 (.int .i64) x2_6 false)], 2, 0⟩
def f98_L2 (a0 : S38) (x2_0 : Int) (x2_1 : Int) (x2_2 : Int) (x2_3 : Int) (x2_4 : Int) (x2_5 : List Int) (x2_6 : List Int) (r : f98_R) : Prop := At (fun B W0 w S β => Ends (f98_C a0 B W0 w S β) Tryd.f98 ⟨focus Tryd.f98 [.r, .r, .l, .r, .b, .b, .r, .r, .l, .b, .r, .r, .l, .r, .b, .h], f98_s2 a0 x2_0 x2_1 x2_2 x2_3 x2_4 x2_5 x2_6⟩ (f98_res r) (f98_fin r))

/-- loop.example/g01094/impl.codeOf -/
abbrev f195_R : Type := Int
@[reducible] def f195_res (r : f195_R) : A := .val (.int .i64) r
@[reducible] def f195_fin (r : f195_R) : List (Nat × O) := []
def f195_H (a0 : Int) (r : f195_R) : Prop := Has ⟨195, [.val (.int .i64) a0], [], f195_res r, f195_fin r⟩
@[reducible] noncomputable def f195_C (a0 : Int) (B : Nat) (W0 : Nat → Option Obj) (w : World) (S : Nat → Prop) (β : Nat → Value) : Ctx := ⟨Tryd.prog, B, W0, w, S, β, lookO (numbered 0 []), 0, 11⟩

/-- loop.example/g01094/impl.codesOf -/
abbrev f105_R : Type := List Int
@[reducible] def f105_res (r : f105_R) : A := .ref 0
@[reducible] def f105_fin (r : f105_R) : List (Nat × O) := [(0, .arr 2 (.int .i64) r false)]
def f105_H (a0 : List Int) (r : f105_R) : Prop := Has ⟨105, [.val (.slice (.int .i64)) a0], [], f105_res r, f105_fin r⟩
@[reducible] noncomputable def f105_C (a0 : List Int) (B : Nat) (W0 : Nat → Option Obj) (w : World) (S : Nat → Prop) (β : Nat → Value) : Ctx := ⟨Tryd.prog, B, W0, w, S, β, lookO (numbered 0 []), 0, 22⟩
def f105_s1 (a0 : List Int) (x1_0 : Int) (x1_1 : Int) (x1_2 : List Int) : St := ⟨[U, U, U, .ref 0, U, U, U, U, U, .val (.slice (.int .i64)) a0, .val (.int .i64) x1_0, .val (.int .i64) x1_1] ++ List.replicate 10 U, [(0, .arr 2 (.int .i64) x1_2 false)], 1, 0⟩
def f105_L1 (a0 : List Int) (x1_0 : Int) (x1_1 : Int) (x1_2 : List Int) (r : f105_R) : Prop := At (fun B W0 w S β => Ends (f105_C a0 B W0 w S β) Tryd.f105 ⟨focus Tryd.f105 [.r, .r, .l, .r, .b, .h], f105_s1 a0 x1_0 x1_1 x1_2⟩ (f105_res r) (f105_fin r))

/-- (loop.example/g01094/impl.ties).firsts -/
abbrev f191_R : Type := Int
@[reducible] def f191_res (r : f191_R) : A := .val (.int .i64) r
@[reducible] def f191_fin (r : f191_R) : List (Nat × O) := []
def f191_H (a0 : List Int) (a1 : List Int) (r : f191_R) : Prop := Has ⟨191, [.val (.slice (.int .i64)) a0, .val (.slice (.int .i64)) a1], [], f191_res r, f191_fin r⟩
@[reducible] noncomputable def f191_C (a0 : List Int) (a1 : List Int) (B : Nat) (W0 : Nat → Option Obj) (w : World) (S : Nat → Prop) (β : Nat → Value) : Ctx := ⟨Tryd.prog, B, W0, w, S, β, lookO (numbered 0 []), 0, 31⟩
def f191_s1 (a0 : List Int) (a1 : List Int) (x1_0 : Int) (x1_1 : Int) (x1_2 : Int) (x1_3 : Int) : St := ⟨[.val (.slice (.int .i64)) a0, U, U, U, U, .val (.int .i64) x1_0, .val (.int .i64) x1_1, U, U, .val (.slice (.int .i64)) a1, .val (.int .i64) x1_2, .val (.int .i64) x1_3] ++ List.replicate 19 U, [], 0, 0⟩
def f191_L1 (a0 : List Int) (a1 : List Int) (x1_0 : Int) (x1_1 : Int) (x1_2 : Int) (x1_3 : Int) (r : f191_R) : Prop := At (fun B W0 w S β => Ends (f191_C a0 a1 B W0 w S β) Tryd.f191 ⟨focus Tryd.f191 [.r, .r, .l, .r, .b, .h], f191_s1 a0 a1 x1_0 x1_1 x1_2 x1_3⟩ (f191_res r) (f191_fin r))

/-- slices.Grow[[]int64,int64] -/
abbrev f181_R : Type := List Int
@[reducible] def f181_res (r : f181_R) : A := .ref 0
@[reducible] def f181_fin (r : f181_R) : List (Nat × O) := [(0, .arr 2 (.int .i64) r false)]
def f181_H (a0 : Int) (r : f181_R) : Prop := Has ⟨181, [.nil, .val (.int .i64) a0], [], f181_res r, f181_fin r⟩
@[reducible] noncomputable def f181_C (a0 : Int) (B : Nat) (W0 : Nat → Option Obj) (w : World) (S : Nat → Prop) (β : Nat → Value) : Ctx := ⟨Tryd.prog, B, W0, w, S, β, lookO (numbered 0 []), 0, 27⟩

/-- slices.Concat[[]int64,int64] -/
abbrev f100_R : Type := List Int
@[reducible] def f100_res (r : f100_R) : A := .ref 0
@[reducible] def f100_fin (r : f100_R) : List (Nat × O) := [(0, .arr 2 (.int .i64) r false)]
def f100_H (a0 : List (List Int)) (r : f100_R) : Prop := Has ⟨100, [.val (.slice (.slice (.int .i64))) a0], [], f100_res r, f100_fin r⟩
@[reducible] noncomputable def f100_C (a0 : List (List Int)) (B : Nat) (W0 : Nat → Option Obj) (w : World) (S : Nat → Prop) (β : Nat → Value) : Ctx := ⟨Tryd.prog, B, W0, w, S, β, lookO (numbered 0 []), 0, 36⟩
def f100_s1 (a0 : List (List Int)) (x1_0 : Int) (x1_1 : Int) (x1_2 : Int) : St := ⟨[.val (.slice (.slice (.int .i64))) a0, U, U, .val (.int .i64) x1_0, U, U, U, U, U, .val (.slice (.slice (.int .i64))) a0, .val (.int .i64) x1_1, .val (.int .i64) x1_2] ++ List.replicate 24 U, [], 0, 0⟩
def f100_L1 (a0 : List (List Int)) (x1_0 : Int) (x1_1 : Int) (x1_2 : Int) (r : f100_R) : Prop := At (fun B W0 w S β => Ends (f100_C a0 B W0 w S β) Tryd.f100 ⟨focus Tryd.f100 [.r, .r, .l, .r, .b, .h], f100_s1 a0 x1_0 x1_1 x1_2⟩ (f100_res r) (f100_fin r))
def f100_s2 (a0 : List (List Int)) (x2_0 : Int) (x2_1 : Int) (x2_2 : List Int) : St := ⟨[U, U, U, U, U, U, .ref 0, U, U, U, U, U, U, U, U, U, U, U, U, U, U, U, U, U, U, .val (.slice (.slice (.int .i64))) a0, .val (.int .i64) x2_0, .val (.int .i64) x2_1] ++ List.replicate 8 U, [(0, .arr 2 (.int .i64) x2_2 false)], 1, 0⟩
def f100_L2 (a0 : List (List Int)) (x2_0 : Int) (x2_1 : Int) (x2_2 : List Int) (r : f100_R) : Prop := At (fun B W0 w S β => Ends (f100_C a0 B W0 w S β) Tryd.f100 ⟨focus Tryd.f100 [.r, .r, .r, .r, .l, .r, .b, .h], f100_s2 a0 x2_0 x2_1 x2_2⟩ (f100_res r) (f100_fin r))

/-- (loop.example/g01094/impl.ties).normal -/
abbrev f180_R : Type := List Int
@[reducible] def f180_res (r : f180_R) : A := .ref 0
@[reducible] def f180_fin (r : f180_R) : List (Nat × O) := [(0, .arr 2 (.int .i64) r false)]
def f180_H (a0 : List Int) (a1 : List Int) (r : f180_R) : Prop := Has ⟨180, [.val (.slice (.int .i64)) a0, .val (.slice (.int .i64)) a1], [], f180_res r, f180_fin r⟩
@[reducible] noncomputable def f180_C (a0 : List Int) (a1 : List Int) (B : Nat) (W0 : Nat → Option Obj) (w : World) (S : Nat → Prop) (β : Nat → Value) : Ctx := ⟨Tryd.prog, B, W0, w, S, β, lookO (numbered 0 []), 0, 27⟩
def f180_s1 (a0 : List Int) (a1 : List Int) (x1_0 : List Int) (x1_1 : List Int) : St := ⟨[.val (.slice (.int .i64)) a0, U, U, U, U, .ref 0, .val (.slice (.int .i64)) x1_0] ++ List.replicate 20 U, [(0, .arr 2 (.int .i64) x1_1 false)], 1, 0⟩
def f180_L1 (a0 : List Int) (a1 : List Int) (x1_0 : List Int) (x1_1 : List Int) (r : f180_R) : Prop := At (fun B W0 w S β => Ends (f180_C a0 a1 B W0 w S β) Tryd.f180 ⟨focus Tryd.f180 [.r, .r, .l, .b, .h], f180_s1 a0 a1 x1_0 x1_1⟩ (f180_res r) (f180_fin r))

/-- slices.Delete[[]int64,int64] -/
abbrev f179_R : Type := List Int
@[reducible] def f179_res (r : f179_R) : A := .ref 1
@[reducible] def f179_fin (r : f179_R) : List (Nat × O) := [(1, .arr 2 (.int .i64) r false)]
def f179_H (a0 : Int) (a1 : Int) (a2 : List Int) (r : f179_R) : Prop := Has ⟨179, [.ref 0, .val (.int .i64) a0, .val (.int .i64) a1], [.arr 2 (.int .i64) a2 false], f179_res r, f179_fin r⟩

/-- (loop.example/g01094/impl.ties).group -/
abbrev f99_R : Type := List Int
@[reducible] def f99_res (r : f99_R) : A := .ref 0
@[reducible] def f99_fin (r : f99_R) : List (Nat × O) := [(0, .arr 2 (.int .i64) r false)]
def f99_H (a0 : List Int) (a1 : List Int) (r : f99_R) : Prop := Has ⟨99, [.val (.slice (.int .i64)) a0, .val (.slice (.int .i64)) a1], [], f99_res r, f99_fin r⟩
@[reducible] noncomputable def f99_C (a0 : List Int) (a1 : List Int) (B : Nat) (W0 : Nat → Option Obj) (w : World) (S : Nat → Prop) (β : Nat → Value) : Ctx := ⟨Tryd.prog, B, W0, w, S, β, lookO (numbered 0 []), 0, 59⟩
def f99_s1 (a0 : List Int) (a1 : List Int) (x1_0 : Int) (x1_1 : Int) (x1_2 : List Int) : St := ⟨[.val (.slice (.int .i64)) a0, U, U, U, U, .ref 0, U, U, U, U, .val (.slice (.int .i64)) a1, .val (.int .i64) x1_0, .val (.int .i64) x1_1] ++ List.replicate 46 U, [(0, .arr 2 (.int .i64) x1_2 false)], 1, 0⟩
def f99_L1 (a0 : List Int) (a1 : List Int) (x1_0 : Int) (x1_1 : Int) (x1_2 : List Int) (r : f99_R) : Prop := At (fun B W0 w S β => Ends (f99_C a0 a1 B W0 w S β) Tryd.f99 ⟨focus Tryd.f99 [.r, .r, .l, .r, .b, .h], f99_s1 a0 a1 x1_0 x1_1 x1_2⟩ (f99_res r) (f99_fin r))
def f99_s2 (a0 : List Int) (a1 : List Int) (x2_0 : Int) (x2_1 : Int) (x2_2 : Int) (x2_3 : Int) (x2_4 : List Int) : St := ⟨[.val (.slice (.int .i64)) a0, U, U, U, U, .ref 0, U, .val (.int .i64) x2_0, .val (.int .i64) x2_1, U, .val (.slice (.int .i64)) a1, .val (.int .i64) x2_2, .val (.int .i64) x2_3] ++ List.replicate 46 U, [(0, .arr 2 (.int .i64) x2_4 false)], 1, 0⟩
def f99_L2 (a0 : List Int) (a1 : List Int) (x2_0 : Int) (x2_1 : Int) (x2_2 : Int) (x2_3 : Int) (x2_4 : List Int) (r : f99_R) : Prop := At (fun B W0 w S β => Ends (f99_C a0 a1 B W0 w S β) Tryd.f99 ⟨focus Tryd.f99 [.r, .r, .l, .r, .b, .b, .r, .r, .l, .b, .r, .r, .l, .b, .h], f99_s2 a0 a1 x2_0 x2_1 x2_2 x2_3 x2_4⟩ (f99_res r) (f99_fin r))

/-- slices.Reverse[[]int64,int64] -/
abbrev f245_R : Type := List Int
@[reducible] def f245_res (r : f245_R) : A := .tup []
@[reducible] def f245_fin (r : f245_R) : List (Nat × O) := [(0, .arr 2 (.int .i64) r false)]
def f245_H (a0 : List Int) (r : f245_R) : Prop := Has ⟨245, [.ref 0], [.arr 2 (.int .i64) a0 false], f245_res r, f245_fin r⟩
@[reducible] noncomputable def f245_C (a0 : List Int) (B : Nat) (W0 : Nat → Option Obj) (w : World) (S : Nat → Prop) (β : Nat → Value) : Ctx := ⟨Tryd.prog, B, W0, w, S, β, lookO (numbered 0 [.arr 2 (.int .i64) a0 false]), 1, 28⟩
def f245_s1 (a0 : List Int) (x1_0 : Int) (x1_1 : Int) (x1_2 : List Int) : St := ⟨[.ref 0, U, .val (.int .i64) x1_0, .val (.int .i64) x1_1] ++ List.replicate 24 U, [(0, .arr 2 (.int .i64) x1_2 false)], 1, 1⟩
def f245_L1 (a0 : List Int) (x1_0 : Int) (x1_1 : Int) (x1_2 : List Int) (r : f245_R) : Prop := At (fun B W0 w S β => Ends (f245_C a0 B W0 w S β) Tryd.f245 ⟨focus Tryd.f245 [.r, .b, .h], f245_s1 a0 x1_0 x1_1 x1_2⟩ (f245_res r) (f245_fin r))

/-- slices.IndexFunc[[]int64,int64] -/
abbrev f190b_R : Type := Int
@[reducible] def f190b_res (r : f190b_R) : A := .val (.int .i64) r
@[reducible] def f190b_fin (r : f190b_R) : List (Nat × O) := []
def f190b_H (a0 : List Int) (a1 : Int) (r : f190b_R) : Prop := Has ⟨190, [.val (.slice (.int .i64)) a0, .clo 192 [.pcs [.val (.int .i64) a1] 0]], [], f190b_res r, f190b_fin r⟩
@[reducible] noncomputable def f190b_C (a0 : List Int) (a1 : Int) (B : Nat) (W0 : Nat → Option Obj) (w : World) (S : Nat → Prop) (β : Nat → Value) : Ctx := ⟨Tryd.prog, B, W0, w, S, β, lookO (numbered 0 []), 0, 19⟩
def f190b_s1 (a0 : List Int) (a1 : Int) (x1_0 : Int) (x1_1 : Int) : St := ⟨[.val (.slice (.int .i64)) a0, .clo 192 [.pcs [.val (.int .i64) a1] 0], U, U, U, U, U, .val (.int .i64) x1_0, .val (.int .i64) x1_1] ++ List.replicate 10 U, [], 0, 0⟩
def f190b_L1 (a0 : List Int) (a1 : Int) (x1_0 : Int) (x1_1 : Int) (r : f190b_R) : Prop := At (fun B W0 w S β => Ends (f190b_C a0 a1 B W0 w S β) Tryd.f190 ⟨focus Tryd.f190 [.r, .l, .r, .b, .h], f190b_s1 a0 a1 x1_0 x1_1⟩ (f190b_res r) (f190b_fin r))

/-- (loop.example/g01094/impl.ties).cyclic -/
abbrev f104_R : Type := (List Int) × List Int
@[reducible] def f104_res (r : f104_R) : A := .tup [.ref 0, .ref 1]
@[reducible] def f104_fin (r : f104_R) : List (Nat × O) := [(0, .arr 2 (.int .i64) r.1 false), (1, .arr 2 (.int .i64) r.2 false)]
def f104_H (a0 : List Int) (a1 : List Int) (r : f104_R) : Prop := Has ⟨104, [.val (.slice (.int .i64)) a0, .val (.slice (.int .i64)) a1], [], f104_res r, f104_fin r⟩
@[reducible] noncomputable def f104_C (a0 : List Int) (a1 : List Int) (B : Nat) (W0 : Nat → Option Obj) (w : World) (S : Nat → Prop) (β : Nat → Value) : Ctx := ⟨Tryd.prog, B, W0, w, S, β, lookO (numbered 0 []), 0, 49⟩
def f104_s1 (a0 : List Int) (a1 : List Int) (x1_0 : List Int) (x1_1 : List Int) : St := ⟨[.val (.slice (.int .i64)) a0, U, U, U, U, U, .ref 0, .ref 1] ++ List.replicate 41 U, [(0, .arr 2 (.int .i64) x1_0 false), (1, .arr 2 (.int .i64) x1_1 false)], 2, 0⟩
def f104_L1 (a0 : List Int) (a1 : List Int) (x1_0 : List Int) (x1_1 : List Int) (r : f104_R) : Prop := At (fun B W0 w S β => Ends (f104_C a0 a1 B W0 w S β) Tryd.f104 ⟨focus Tryd.f104 [.r, .r, .b, .h], f104_s1 a0 a1 x1_0 x1_1⟩ (f104_res r) (f104_fin r))

/-- loop.example/g01094/impl.wordKey -/
abbrev f236_R : Type := ByteArray
@[reducible] def f236_res (r : f236_R) : A := .val .str r
@[reducible] def f236_fin (r : f236_R) : List (Nat × O) := []
def f236_H (a0 : List Int) (r : f236_R) : Prop := Has ⟨236, [.val (.slice (.int .i64)) a0], [], f236_res r, f236_fin r⟩
@[reducible] noncomputable def f236_C (a0 : List Int) (B : Nat) (W0 : Nat → Option Obj) (w : World) (S : Nat → Prop) (β : Nat → Value) : Ctx := ⟨Tryd.prog, B, W0, w, S, β, lookO (numbered 0 []), 0, 24⟩
def f236_s1 (a0 : List Int) (x1_0 : Int) (x1_1 : Int) (x1_2 : List Int) : St := ⟨[U, U, U, .ref 0, U, U, U, U, U, .val (.slice (.int .i64)) a0, .val (.int .i64) x1_0, .val (.int .i64) x1_1] ++ List.replicate 12 U, [(0, .arr 5 (.int .u8) x1_2 false)], 1, 0⟩
def f236_L1 (a0 : List Int) (x1_0 : Int) (x1_1 : Int) (x1_2 : List Int) (r : f236_R) : Prop := At (fun B W0 w S β => Ends (f236_C a0 B W0 w S β) Tryd.f236 ⟨focus Tryd.f236 [.r, .r, .l, .r, .b, .h], f236_s1 a0 x1_0 x1_1 x1_2⟩ (f236_res r) (f236_fin r))

/-- (loop.example/g01094/impl.ties).conjugates -/
abbrev f170_R : Type := List S104
@[reducible] def f170_res (r : f170_R) : A := .ref 0
@[reducible] def f170_fin (r : f170_R) : List (Nat × O) := [(0, .arr 225 t104 r false)]
def f170_H (a0 : List Int) (a1 : List Int) (r : f170_R) : Prop := Has ⟨170, [.val (.slice (.int .i64)) a0, .val (.slice (.int .i64)) a1], [], f170_res r, f170_fin r⟩
@[reducible] noncomputable def f170_C (a0 : List Int) (a1 : List Int) (B : Nat) (W0 : Nat → Option Obj) (w : World) (S : Nat → Prop) (β : Nat → Value) : Ctx := ⟨Tryd.prog, B, W0, w, S, β, lookO (numbered 0 []), 0, 79⟩
def f170_s1 (a0 : List Int) (a1 : List Int) (x1_0 : Int) (x1_1 : List S104) (x1_2 : List (ByteArray × Bool)) : St := ⟨[.val (.slice (.int .i64)) a0, U, U, U, U, .ref 0, .mapr 1, .val (.int .i64) x1_0] ++ List.replicate 71 U, [(0, .arr 225 t104 x1_1 false), (1, .map .str .bool x1_2)], 2, 0⟩
def f170_L1 (a0 : List Int) (a1 : List Int) (x1_0 : Int) (x1_1 : List S104) (x1_2 : List (ByteArray × Bool)) (r : f170_R) : Prop := At (fun B W0 w S β => Ends (f170_C a0 a1 B W0 w S β) Tryd.f170 ⟨focus Tryd.f170 [.r, .r, .r, .l, .r, .b, .h], f170_s1 a0 a1 x1_0 x1_1 x1_2⟩ (f170_res r) (f170_fin r))
def f170_s2 (a0 : List Int) (a1 : List Int) (x2_0 : Int) (x2_1 : Int) (x2_2 : Int) (x2_3 : List S104) (x2_4 : List (ByteArray × Bool)) (x2_5 : List Int) : St := ⟨[.val (.slice (.int .i64)) a0, U, U, U, U, .ref 0, .mapr 1, .val (.int .i64) x2_0, U, U, U, U, U, U, U, U, U, U, U, U, U, U, U, U, U, U, U, U, U, U, U, U, U, U, U, U, U, .ref 2, .val (.int .i64) x2_1, .val (.int .i64) x2_2] ++ List.replicate 39 U, [(0, .arr 225 t104 x2_3 false), (1, .map .str .bool x2_4), (2, .arr 2 (.int .i64) x2_5 false)], 3, 0⟩
def f170_L2 (a0 : List Int) (a1 : List Int) (x2_0 : Int) (x2_1 : Int) (x2_2 : Int) (x2_3 : List S104) (x2_4 : List (ByteArray × Bool)) (x2_5 : List Int) (r : f170_R) : Prop := At (fun B W0 w S β => Ends (f170_C a0 a1 B W0 w S β) Tryd.f170 ⟨focus Tryd.f170 [.r, .r, .r, .l, .r, .b, .b, .r, .l, .b, .r, .b, .h], f170_s2 a0 a1 x2_0 x2_1 x2_2 x2_3 x2_4 x2_5⟩ (f170_res r) (f170_fin r))

/-- slices.Equal[[]int64,int64] -/
abbrev f240_R : Type := Bool
@[reducible] def f240_res (r : f240_R) : A := .val .bool r
@[reducible] def f240_fin (r : f240_R) : List (Nat × O) := []
def f240_H (a0 : List Int) (a1 : List Int) (r : f240_R) : Prop := Has ⟨240, [.val (.slice (.int .i64)) a0, .val (.slice (.int .i64)) a1], [], f240_res r, f240_fin r⟩
@[reducible] noncomputable def f240_C (a0 : List Int) (a1 : List Int) (B : Nat) (W0 : Nat → Option Obj) (w : World) (S : Nat → Prop) (β : Nat → Value) : Ctx := ⟨Tryd.prog, B, W0, w, S, β, lookO (numbered 0 []), 0, 26⟩
def f240_s1 (a0 : List Int) (a1 : List Int) (x1_0 : Int) (x1_1 : Int) : St := ⟨[.val (.slice (.int .i64)) a0, .val (.slice (.int .i64)) a1, U, U, U, U, U, U, U, U, U, U, .val (.int .i64) x1_0, .val (.int .i64) x1_1] ++ List.replicate 12 U, [], 0, 0⟩
def f240_L1 (a0 : List Int) (a1 : List Int) (x1_0 : Int) (x1_1 : Int) (r : f240_R) : Prop := At (fun B W0 w S β => Ends (f240_C a0 a1 B W0 w S β) Tryd.f240 ⟨focus Tryd.f240 [.r, .r, .l, .r, .b, .h], f240_s1 a0 a1 x1_0 x1_1⟩ (f240_res r) (f240_fin r))

/-- slices.IndexFunc[[]loop.example/g01094/impl.turned,loop.example/g01094/impl.turned] -/
abbrev f238_R : Type := Int
@[reducible] def f238_res (r : f238_R) : A := .val (.int .i64) r
@[reducible] def f238_fin (r : f238_R) : List (Nat × O) := []
def f238_H (a0 : List S104) (a1 : List Int) (r : f238_R) : Prop := Has ⟨238, [.val (.slice t104) a0, .clo 239 [.pcs [.val (.slice (.int .i64)) a1] 0]], [], f238_res r, f238_fin r⟩
@[reducible] noncomputable def f238_C (a0 : List S104) (a1 : List Int) (B : Nat) (W0 : Nat → Option Obj) (w : World) (S : Nat → Prop) (β : Nat → Value) : Ctx := ⟨Tryd.prog, B, W0, w, S, β, lookO (numbered 0 []), 0, 19⟩
def f238_s1 (a0 : List S104) (a1 : List Int) (x1_0 : Int) (x1_1 : Int) : St := ⟨[.val (.slice t104) a0, .clo 239 [.pcs [.val (.slice (.int .i64)) a1] 0], U, U, U, U, U, .val (.int .i64) x1_0, .val (.int .i64) x1_1] ++ List.replicate 10 U, [], 0, 0⟩
def f238_L1 (a0 : List S104) (a1 : List Int) (x1_0 : Int) (x1_1 : Int) (r : f238_R) : Prop := At (fun B W0 w S β => Ends (f238_C a0 a1 B W0 w S β) Tryd.f238 ⟨focus Tryd.f238 [.r, .l, .r, .b, .h], f238_s1 a0 a1 x1_0 x1_1⟩ (f238_res r) (f238_fin r))

/-- loop.example/g01094/impl.conjugator -/
abbrev f171_R : Type := (List Int) × Bool
@[reducible] def f171_res (r : f171_R) : A := .tup [.val (.slice (.int .i64)) r.1, .val .bool r.2]
@[reducible] def f171_fin (r : f171_R) : List (Nat × O) := []
def f171_H (a0 : List S104) (a1 : List Int) (r : f171_R) : Prop := Has ⟨171, [.val (.slice t104) a0, .val (.slice (.int .i64)) a1], [], f171_res r, f171_fin r⟩
@[reducible] noncomputable def f171_C (a0 : List S104) (a1 : List Int) (B : Nat) (W0 : Nat → Option Obj) (w : World) (S : Nat → Prop) (β : Nat → Value) : Ctx := ⟨Tryd.prog, B, W0, w, S, β, lookO (numbered 0 []), 0, 17⟩

/-- loop.example/g01094/impl.conjugation -/
inductive f88_R where
  | s0 (y0 : List Int) (y1 : Bool) (y2 : S104) (y3 : Int)
  | s1 (y0 : List Int) (y1 : Bool) (y2 : Int) (y3 : List Int) (y4 : List Int)
@[reducible] def f88_res : f88_R → A
  | .s0 y0 y1 y2 y3 => .tup [.val (.slice (.int .i64)) y0, .val .bool y1, .val t104 y2, .val (.int .i64) y3]
  | .s1 y0 y1 y2 y3 y4 => .tup [.val (.slice (.int .i64)) y0, .val .bool y1, .agg [.ref 0, .ref 1], .val (.int .i64) y2]
@[reducible] def f88_fin : f88_R → List (Nat × O)
  | .s0 y0 y1 y2 y3 => []
  | .s1 y0 y1 y2 y3 y4 => [(0, .arr 2 (.int .i64) y3 false), (1, .arr 2 (.int .i64) y4 false)]
def f88_H (a0 : S38) (a1 : List Int) (a2 : List Int) (r : f88_R) : Prop := Has ⟨88, [.val t38 a0, .val (.slice (.int .i64)) a1, .val (.slice (.int .i64)) a2], [], f88_res r, f88_fin r⟩
@[reducible] noncomputable def f88_C (a0 : S38) (a1 : List Int) (a2 : List Int) (B : Nat) (W0 : Nat → Option Obj) (w : World) (S : Nat → Prop) (β : Nat → Value) : Ctx := ⟨Tryd.prog, B, W0, w, S, β, lookO (numbered 0 []), 0, 64⟩

/-- loop.example/g01094/laws.eqAlphabet -/
abbrev f25_R : Type := Bool
@[reducible] def f25_res (r : f25_R) : A := .val .bool r
@[reducible] def f25_fin (r : f25_R) : List (Nat × O) := []
def f25_H (a0 : S38) (a1 : S38) (r : f25_R) : Prop := Has ⟨25, [.val t38 a0, .val t38 a1], [], f25_res r, f25_fin r⟩
@[reducible] noncomputable def f25_C (a0 : S38) (a1 : S38) (B : Nat) (W0 : Nat → Option Obj) (w : World) (S : Nat → Prop) (β : Nat → Value) : Ctx := ⟨Tryd.prog, B, W0, w, S, β, lookO (numbered 0 []), 0, 16⟩

/-- loop.example/g01094/laws.FnExactAreGroupConjugate -/
abbrev f4_R : Type := Bool
@[reducible] def f4_res (r : f4_R) : A := .val .bool r
@[reducible] def f4_fin (r : f4_R) : List (Nat × O) := []
def f4_H (a0 : S38) (a1 : List Int) (a2 : List Int) (r : f4_R) : Prop := Has ⟨4, [.val t38 a0, .val (.slice (.int .i64)) a1, .val (.slice (.int .i64)) a2], [], f4_res r, f4_fin r⟩
@[reducible] noncomputable def f4_C (a0 : S38) (a1 : List Int) (a2 : List Int) (B : Nat) (W0 : Nat → Option Obj) (w : World) (S : Nat → Prop) (β : Nat → Value) : Ctx := ⟨Tryd.prog, B, W0, w, S, β, lookO (numbered 0 []), 0, 72⟩

/-- loop.example/g01094/spec.l03Content -/
abbrev f183_R : Type := List Int
@[reducible] def f183_res (r : f183_R) : A := .ref 0
@[reducible] def f183_fin (r : f183_R) : List (Nat × O) := [(0, .arr 2 (.int .i64) r false)]
def f183_H (a0 : S38) (a1 : List Int) (r : f183_R) : Prop := Has ⟨183, [.val t38 a0, .val (.slice (.int .i64)) a1], [], f183_res r, f183_fin r⟩
@[reducible] noncomputable def f183_C (a0 : S38) (a1 : List Int) (B : Nat) (W0 : Nat → Option Obj) (w : World) (S : Nat → Prop) (β : Nat → Value) : Ctx := ⟨Tryd.prog, B, W0, w, S, β, lookO (numbered 0 []), 0, 26⟩
def f183_s1 (a0 : S38) (a1 : List Int) (x1_0 : Int) (x1_1 : List Int) : St := ⟨[U, .val (.slice (.int .i64)) a1, U, U, U, .ref 0, .val (.int .i64) x1_0] ++ List.replicate 19 U, [(0, .arr 2 (.int .i64) x1_1 false)], 1, 0⟩
def f183_L1 (a0 : S38) (a1 : List Int) (x1_0 : Int) (x1_1 : List Int) (r : f183_R) : Prop := At (fun B W0 w S β => Ends (f183_C a0 a1 B W0 w S β) Tryd.f183 ⟨focus Tryd.f183 [.r, .r, .l, .r, .b, .h], f183_s1 a0 a1 x1_0 x1_1⟩ (f183_res r) (f183_fin r))

/-- loop.example/g01094/spec.l07Power -/
abbrev f146_R : Type := List Int
@[reducible] def f146_res (r : f146_R) : A := .ref 0
@[reducible] def f146_fin (r : f146_R) : List (Nat × O) := [(0, .arr 2 (.int .i64) r false)]
def f146_H (a0 : List Int) (a1 : Int) (r : f146_R) : Prop := Has ⟨146, [.val (.slice (.int .i64)) a0, .val (.int .i64) a1], [], f146_res r, f146_fin r⟩
@[reducible] noncomputable def f146_C (a0 : List Int) (a1 : Int) (B : Nat) (W0 : Nat → Option Obj) (w : World) (S : Nat → Prop) (β : Nat → Value) : Ctx := ⟨Tryd.prog, B, W0, w, S, β, lookO (numbered 0 []), 0, 15⟩
def f146_s1 (a0 : List Int) (a1 : Int) (x1_0 : Int) (x1_1 : List Int) : St := ⟨[.val (.slice (.int .i64)) a0, .val (.int .i64) x1_0, U, U, U, .ref 0] ++ List.replicate 9 U, [(0, .arr 2 (.int .i64) x1_1 false)], 1, 0⟩
def f146_L1 (a0 : List Int) (a1 : Int) (x1_0 : Int) (x1_1 : List Int) (r : f146_R) : Prop := At (fun B W0 w S β => Ends (f146_C a0 a1 B W0 w S β) Tryd.f146 ⟨focus Tryd.f146 [.r, .r, .l, .b, .h], f146_s1 a0 a1 x1_0 x1_1⟩ (f146_res r) (f146_fin r))

/-- loop.example/g01094/spec.l03Same -/
abbrev f184_R : Type := Bool
@[reducible] def f184_res (r : f184_R) : A := .val .bool r
@[reducible] def f184_fin (r : f184_R) : List (Nat × O) := []
def f184_H (a0 : S38) (a1 : List Int) (a2 : List Int) (r : f184_R) : Prop := Has ⟨184, [.val t38 a0, .val (.slice (.int .i64)) a1, .val (.slice (.int .i64)) a2], [], f184_res r, f184_fin r⟩
@[reducible] noncomputable def f184_C (a0 : S38) (a1 : List Int) (a2 : List Int) (B : Nat) (W0 : Nat → Option Obj) (w : World) (S : Nat → Prop) (β : Nat → Value) : Ctx := ⟨Tryd.prog, B, W0, w, S, β, lookO (numbered 0 []), 0, 33⟩
def f184_s1 (a0 : S38) (a1 : List Int) (a2 : List Int) (x1_0 : Int) (x1_1 : List Int) : St := ⟨[U, .val (.slice (.int .i64)) a1, U, .pbox 0 0, U, U, U, .ref 1, .val (.int .i64) x1_0] ++ List.replicate 24 U, [(0, .box 43 [.val (.int .i64) a0.1, .val (.slice (.int .i64)) a0.2.1] false), (1, .arr 2 (.int .i64) x1_1 false)], 2, 0⟩
def f184_L1 (a0 : S38) (a1 : List Int) (a2 : List Int) (x1_0 : Int) (x1_1 : List Int) (r : f184_R) : Prop := At (fun B W0 w S β => Ends (f184_C a0 a1 a2 B W0 w S β) Tryd.f184 ⟨focus Tryd.f184 [.r, .r, .l, .r, .b, .h], f184_s1 a0 a1 a2 x1_0 x1_1⟩ (f184_res r) (f184_fin r))

/-- loop.example/g01094/spec.l07Root -/
abbrev f102_R : Type := Int × List Int
@[reducible] def f102_res (r : f102_R) : A := .tup [.ref 0, .val (.int .i64) r.1]
@[reducible] def f102_fin (r : f102_R) : List (Nat × O) := [(0, .arr 2 (.int .i64) r.2 false)]
def f102_H (a0 : S38) (a1 : List Int) (r : f102_R) : Prop := Has ⟨102, [.val t38 a0, .val (.slice (.int .i64)) a1], [], f102_res r, f102_fin r⟩
@[reducible] noncomputable def f102_C (a0 : S38) (a1 : List Int) (B : Nat) (W0 : Nat → Option Obj) (w : World) (S : Nat → Prop) (β : Nat → Value) : Ctx := ⟨Tryd.prog, B, W0, w, S, β, lookO (numbered 0 []), 0, 96⟩
def f102_s1 (a0 : S38) (a1 : List Int) (x1_0 : Int) (x1_1 : List Int) : St := ⟨[U, .val (.slice (.int .i64)) a1, .pbox 0 0, U, U, U, .ref 1, .val (.int .i64) x1_0] ++ List.replicate 88 U, [(0, .box 43 [.val (.int .i64) a0.1, .val (.slice (.int .i64)) a0.2.1] false), (1, .arr 2 (.int .i64) x1_1 false)], 2, 0⟩
def f102_L1 (a0 : S38) (a1 : List Int) (x1_0 : Int) (x1_1 : List Int) (r : f102_R) : Prop := At (fun B W0 w S β => Ends (f102_C a0 a1 B W0 w S β) Tryd.f102 ⟨focus Tryd.f102 [.r, .r, .l, .r, .b, .h], f102_s1 a0 a1 x1_0 x1_1⟩ (f102_res r) (f102_fin r))
def f102_s2 (a0 : S38) (a1 : List Int) (x2_0 : Int) (x2_1 : Bool) (x2_2 : Int) (x2_3 : List Int) : St := ⟨[U, .val (.slice (.int .i64)) a1, .pbox 0 0, U, U, U, .ref 1, .val (.int .i64) x2_0, .val .bool x2_1, .val (.int .i64) x2_2] ++ List.replicate 86 U, [(0, .box 43 [.val (.int .i64) a0.1, .val (.slice (.int .i64)) a0.2.1] false), (1, .arr 2 (.int .i64) x2_3 false)], 2, 0⟩
def f102_L2 (a0 : S38) (a1 : List Int) (x2_0 : Int) (x2_1 : Bool) (x2_2 : Int) (x2_3 : List Int) (r : f102_R) : Prop := At (fun B W0 w S β => Ends (f102_C a0 a1 B W0 w S β) Tryd.f102 ⟨focus Tryd.f102 [.r, .r, .l, .r, .b, .b, .r, .l, .b, .r, .l, .r, .b, .h], f102_s2 a0 a1 x2_0 x2_1 x2_2 x2_3⟩ (f102_res r) (f102_fin r))
def f102_s3 (a0 : S38) (a1 : List Int) (x3_0 : Int) (x3_1 : Int) (x3_2 : List Int) (x3_3 : List Int) (x3_4 : List Int) : St := ⟨[U, .val (.slice (.int .i64)) a1, .pbox 0 0, U, U, U, .ref 1, .val (.int .i64) x3_0, U, U, .ref 2, .ref 3, .val (.int .i64) x3_1] ++ List.replicate 83 U, [(0, .box 43 [.val (.int .i64) a0.1, .val (.slice (.int .i64)) a0.2.1] false), (1, .arr 2 (.int .i64) x3_2 false), (2, .arr 2 (.int .i64) x3_3 false), (3, .arr 2 (.int .i64) x3_4 false)], 4, 0⟩
def f102_L3 (a0 : S38) (a1 : List Int) (x3_0 : Int) (x3_1 : Int) (x3_2 : List Int) (x3_3 : List Int) (x3_4 : List Int) (r : f102_R) : Prop := At (fun B W0 w S β => Ends (f102_C a0 a1 B W0 w S β) Tryd.f102 ⟨focus Tryd.f102 [.r, .r, .l, .r, .b, .b, .r, .l, .b, .r, .r, .r, .r, .l, .r, .b, .h], f102_s3 a0 a1 x3_0 x3_1 x3_2 x3_3 x3_4⟩ (f102_res r) (f102_fin r))

/-- loop.example/g01094/spec.l09Back -/
abbrev f94_R : Type := List Int
@[reducible] def f94_res (r : f94_R) : A := .ref 0
@[reducible] def f94_fin (r : f94_R) : List (Nat × O) := [(0, .arr 2 (.int .i64) r false)]
def f94_H (a0 : List Int) (r : f94_R) : Prop := Has ⟨94, [.val (.slice (.int .i64)) a0], [], f94_res r, f94_fin r⟩
@[reducible] noncomputable def f94_C (a0 : List Int) (B : Nat) (W0 : Nat → Option Obj) (w : World) (S : Nat → Prop) (β : Nat → Value) : Ctx := ⟨Tryd.prog, B, W0, w, S, β, lookO (numbered 0 []), 0, 22⟩
def f94_s1 (a0 : List Int) (x1_0 : Int) (x1_1 : List Int) : St := ⟨[.val (.slice (.int .i64)) a0, U, U, .ref 0, .val (.int .i64) x1_0] ++ List.replicate 17 U, [(0, .arr 2 (.int .i64) x1_1 false)], 1, 0⟩
def f94_L1 (a0 : List Int) (x1_0 : Int) (x1_1 : List Int) (r : f94_R) : Prop := At (fun B W0 w S β => Ends (f94_C a0 B W0 w S β) Tryd.f94 ⟨focus Tryd.f94 [.r, .r, .l, .r, .b, .h], f94_s1 a0 x1_0 x1_1⟩ (f94_res r) (f94_fin r))

/-- loop.example/g01094/spec.l09Out -/
abbrev f95_R : Type := List Int
@[reducible] def f95_res (r : f95_R) : A := .ref 0
@[reducible] def f95_fin (r : f95_R) : List (Nat × O) := [(0, .arr 2 (.int .i64) r false)]
def f95_H (a0 : List Int) (r : f95_R) : Prop := Has ⟨95, [.val (.slice (.int .i64)) a0], [], f95_res r, f95_fin r⟩
@[reducible] noncomputable def f95_C (a0 : List Int) (B : Nat) (W0 : Nat → Option Obj) (w : World) (S : Nat → Prop) (β : Nat → Value) : Ctx := ⟨Tryd.prog, B, W0, w, S, β, lookO (numbered 0 []), 0, 38⟩
def f95_s1 (a0 : List Int) (x1_0 : Int) (x1_1 : List Int) : St := ⟨[.val (.slice (.int .i64)) a0, U, U, .ref 0, .val (.int .i64) x1_0] ++ List.replicate 33 U, [(0, .arr 2 (.int .i64) x1_1 false)], 1, 0⟩
def f95_L1 (a0 : List Int) (x1_0 : Int) (x1_1 : List Int) (r : f95_R) : Prop := At (fun B W0 w S β => Ends (f95_C a0 B W0 w S β) Tryd.f95 ⟨focus Tryd.f95 [.r, .r, .l, .r, .b, .h], f95_s1 a0 x1_0 x1_1⟩ (f95_res r) (f95_fin r))

/-- loop.example/g01094/spec.GroupRoot -/
abbrev f40_R : Type := Int × Int × List Int
@[reducible] def f40_res (r : f40_R) : A := .tup [.ref 0, .val (.int .i64) r.1, .val (.int .i64) r.2.1]
@[reducible] def f40_fin (r : f40_R) : List (Nat × O) := [(0, .arr 2 (.int .i64) r.2.2 false)]
def f40_H (a0 : S38) (a1 : List Int) (r : f40_R) : Prop := Has ⟨40, [.val t38 a0, .val (.slice (.int .i64)) a1], [], f40_res r, f40_fin r⟩
@[reducible] noncomputable def f40_C (a0 : S38) (a1 : List Int) (B : Nat) (W0 : Nat → Option Obj) (w : World) (S : Nat → Prop) (β : Nat → Value) : Ctx := ⟨Tryd.prog, B, W0, w, S, β, lookO (numbered 0 []), 0, 51⟩

/-- loop.example/g01094/impl.firstsOf -/
abbrev f196_R : Type := List Int
@[reducible] def f196_res (r : f196_R) : A := .ref 0
@[reducible] def f196_fin (r : f196_R) : List (Nat × O) := [(0, .arr 2 (.int .i64) r false)]
def f196_H (a0 : List Int) (a1 : Int) (r : f196_R) : Prop := Has ⟨196, [.val (.slice (.int .i64)) a0, .val (.int .i64) a1], [], f196_res r, f196_fin r⟩
@[reducible] noncomputable def f196_C (a0 : List Int) (a1 : Int) (B : Nat) (W0 : Nat → Option Obj) (w : World) (S : Nat → Prop) (β : Nat → Value) : Ctx := ⟨Tryd.prog, B, W0, w, S, β, lookO (numbered 0 []), 0, 51⟩
def f196_s1 (a0 : List Int) (a1 : Int) (x1_0 : Int) (x1_1 : Int) (x1_2 : List (Int × Int)) (x1_3 : List Int) : St := ⟨[.val (.slice (.int .i64)) a0, .val (.int .i64) a1, U, U, U, .mapr 0, .ref 1, U, U, U, U, U, U, U, .val (.slice (.int .i64)) a0, .val (.int .i64) x1_0, .val (.int .i64) x1_1] ++ List.replicate 34 U, [(0, .map (.int .i64) (.int .i64) x1_2), (1, .arr 2 (.int .i64) x1_3 false)], 2, 0⟩
def f196_L1 (a0 : List Int) (a1 : Int) (x1_0 : Int) (x1_1 : Int) (x1_2 : List (Int × Int)) (x1_3 : List Int) (r : f196_R) : Prop := At (fun B W0 w S β => Ends (f196_C a0 a1 B W0 w S β) Tryd.f196 ⟨focus Tryd.f196 [.r, .r, .l, .r, .b, .h], f196_s1 a0 a1 x1_0 x1_1 x1_2 x1_3⟩ (f196_res r) (f196_fin r))
def f196_s2 (a0 : List Int) (a1 : Int) (x2_0 : Int) (x2_1 : Int) (x2_2 : List (Int × Int)) (x2_3 : List Int) (x2_4 : List (Int × Int)) : St := ⟨[U, .val (.int .i64) a1, U, U, U, .mapr 0, .ref 1, U, U, .mapr 2, U, U, U, U, U, U, U, U, U, U, U, U, U, U, U, U, .val (.slice (.int .i64)) a0, .val (.int .i64) x2_0, .val (.int .i64) x2_1] ++ List.replicate 22 U, [(0, .map (.int .i64) (.int .i64) x2_2), (1, .arr 2 (.int .i64) x2_3 false), (2, .map (.int .i64) (.int .i64) x2_4)], 3, 0⟩
def f196_L2 (a0 : List Int) (a1 : Int) (x2_0 : Int) (x2_1 : Int) (x2_2 : List (Int × Int)) (x2_3 : List Int) (x2_4 : List (Int × Int)) (r : f196_R) : Prop := At (fun B W0 w S β => Ends (f196_C a0 a1 B W0 w S β) Tryd.f196 ⟨focus Tryd.f196 [.r, .r, .r, .r, .l, .r, .b, .h], f196_s2 a0 a1 x2_0 x2_1 x2_2 x2_3 x2_4⟩ (f196_res r) (f196_fin r))

/-- slices.Repeat[[]int64,int64] -/
abbrev f147_R : Type := List Int
@[reducible] def f147_res (r : f147_R) : A := .ref 0
@[reducible] def f147_fin (r : f147_R) : List (Nat × O) := [(0, .arr 2 (.int .i64) r false)]
def f147_H (a0 : List Int) (a1 : Int) (r : f147_R) : Prop := Has ⟨147, [.val (.slice (.int .i64)) a0, .val (.int .i64) a1], [], f147_res r, f147_fin r⟩

/-- (loop.example/g01094/impl.ties).root -/
abbrev f106_R : Type := Int × List Int
@[reducible] def f106_res (r : f106_R) : A := .tup [.ref 0, .val (.int .i64) r.1]
@[reducible] def f106_fin (r : f106_R) : List (Nat × O) := [(0, .arr 2 (.int .i64) r.2 false)]
def f106_H (a0 : List Int) (a1 : List Int) (r : f106_R) : Prop := Has ⟨106, [.val (.slice (.int .i64)) a0, .val (.slice (.int .i64)) a1], [], f106_res r, f106_fin r⟩
@[reducible] noncomputable def f106_C (a0 : List Int) (a1 : List Int) (B : Nat) (W0 : Nat → Option Obj) (w : World) (S : Nat → Prop) (β : Nat → Value) : Ctx := ⟨Tryd.prog, B, W0, w, S, β, lookO (numbered 0 []), 0, 39⟩
def f106_s1 (a0 : List Int) (a1 : List Int) (x1_0 : Int) : St := ⟨[.val (.slice (.int .i64)) a0, .val (.slice (.int .i64)) a1, U, U, U, U, .val (.int .i64) x1_0] ++ List.replicate 32 U, [], 0, 0⟩
def f106_L1 (a0 : List Int) (a1 : List Int) (x1_0 : Int) (r : f106_R) : Prop := At (fun B W0 w S β => Ends (f106_C a0 a1 B W0 w S β) Tryd.f106 ⟨focus Tryd.f106 [.r, .l, .r, .b, .h], f106_s1 a0 a1 x1_0⟩ (f106_res r) (f106_fin r))

/-- loop.example/g01094/impl.inverted -/
abbrev f101_R : Type := List Int
@[reducible] def f101_res (r : f101_R) : A := .ref 0
@[reducible] def f101_fin (r : f101_R) : List (Nat × O) := [(0, .arr 2 (.int .i64) r false)]
def f101_H (a0 : List Int) (r : f101_R) : Prop := Has ⟨101, [.val (.slice (.int .i64)) a0], [], f101_res r, f101_fin r⟩
@[reducible] noncomputable def f101_C (a0 : List Int) (B : Nat) (W0 : Nat → Option Obj) (w : World) (S : Nat → Prop) (β : Nat → Value) : Ctx := ⟨Tryd.prog, B, W0, w, S, β, lookO (numbered 0 []), 0, 20⟩
def f101_s1 (a0 : List Int) (x1_0 : Int) (x1_1 : Int) (x1_2 : List Int) : St := ⟨[U, U, U, .ref 0, U, U, U, U, .val (.int .i64) x1_0, .val (.int .i64) x1_1] ++ List.replicate 10 U, [(0, .arr 2 (.int .i64) x1_2 false)], 1, 0⟩
def f101_L1 (a0 : List Int) (x1_0 : Int) (x1_1 : Int) (x1_2 : List Int) (r : f101_R) : Prop := At (fun B W0 w S β => Ends (f101_C a0 B W0 w S β) Tryd.f101 ⟨focus Tryd.f101 [.r, .r, .l, .r, .b, .h], f101_s1 a0 x1_0 x1_1 x1_2⟩ (f101_res r) (f101_fin r))

/-- loop.example/g01094/impl.signOf -/
abbrev f243_R : Type := Int
@[reducible] def f243_res (r : f243_R) : A := .val (.int .i64) r
@[reducible] def f243_fin (r : f243_R) : List (Nat × O) := []
def f243_H (a0 : Int) (r : f243_R) : Prop := Has ⟨243, [.val (.int .i64) a0], [], f243_res r, f243_fin r⟩
@[reducible] noncomputable def f243_C (a0 : Int) (B : Nat) (W0 : Nat → Option Obj) (w : World) (S : Nat → Prop) (β : Nat → Value) : Ctx := ⟨Tryd.prog, B, W0, w, S, β, lookO (numbered 0 []), 0, 13⟩

/-- loop.example/g01094/impl.signsOf -/
abbrev f177_R : Type := List Int
@[reducible] def f177_res (r : f177_R) : A := .ref 0
@[reducible] def f177_fin (r : f177_R) : List (Nat × O) := [(0, .arr 2 (.int .i64) r false)]
def f177_H (a0 : List Int) (r : f177_R) : Prop := Has ⟨177, [.val (.slice (.int .i64)) a0], [], f177_res r, f177_fin r⟩
@[reducible] noncomputable def f177_C (a0 : List Int) (B : Nat) (W0 : Nat → Option Obj) (w : World) (S : Nat → Prop) (β : Nat → Value) : Ctx := ⟨Tryd.prog, B, W0, w, S, β, lookO (numbered 0 []), 0, 22⟩
def f177_s1 (a0 : List Int) (x1_0 : Int) (x1_1 : Int) (x1_2 : List Int) : St := ⟨[U, U, U, .ref 0, U, U, U, U, U, .val (.slice (.int .i64)) a0, .val (.int .i64) x1_0, .val (.int .i64) x1_1] ++ List.replicate 10 U, [(0, .arr 2 (.int .i64) x1_2 false)], 1, 0⟩
def f177_L1 (a0 : List Int) (x1_0 : Int) (x1_1 : Int) (x1_2 : List Int) (r : f177_R) : Prop := At (fun B W0 w S β => Ends (f177_C a0 B W0 w S β) Tryd.f177 ⟨focus Tryd.f177 [.r, .r, .l, .r, .b, .h], f177_s1 a0 x1_0 x1_1 x1_2⟩ (f177_res r) (f177_fin r))

/-- loop.example/g01094/impl.element -/
abbrev f97_R : Type := Int × List Int
@[reducible] def f97_res (r : f97_R) : A := .tup [.ref 0, .val (.int .i64) r.1]
@[reducible] def f97_fin (r : f97_R) : List (Nat × O) := [(0, .arr 2 (.int .i64) r.2 false)]
def f97_H (a0 : List Int) (r : f97_R) : Prop := Has ⟨97, [.val (.slice (.int .i64)) a0], [], f97_res r, f97_fin r⟩
@[reducible] noncomputable def f97_C (a0 : List Int) (B : Nat) (W0 : Nat → Option Obj) (w : World) (S : Nat → Prop) (β : Nat → Value) : Ctx := ⟨Tryd.prog, B, W0, w, S, β, lookO (numbered 0 []), 0, 9⟩

/-- loop.example/g01094/impl.GroupRoot -/
abbrev f41_R : Type := Int × Int × List Int
@[reducible] def f41_res (r : f41_R) : A := .tup [.ref 0, .val (.int .i64) r.1, .val (.int .i64) r.2.1]
@[reducible] def f41_fin (r : f41_R) : List (Nat × O) := [(0, .arr 2 (.int .i64) r.2.2 false)]
def f41_H (a0 : S38) (a1 : List Int) (r : f41_R) : Prop := Has ⟨41, [.val t38 a0, .val (.slice (.int .i64)) a1], [], f41_res r, f41_fin r⟩
@[reducible] noncomputable def f41_C (a0 : S38) (a1 : List Int) (B : Nat) (W0 : Nat → Option Obj) (w : World) (S : Nat → Prop) (β : Nat → Value) : Ctx := ⟨Tryd.prog, B, W0, w, S, β, lookO (numbered 0 []), 0, 57⟩

/-- loop.example/g01094/laws.markInt64S -/
abbrev f38_R : Type := Int × List Int
@[reducible] def f38_res (r : f38_R) : A := .val (.int .i64) r.1
@[reducible] def f38_fin (r : f38_R) : List (Nat × O) := [(0, .arr 2 (.int .i64) r.2 false)]
def f38_H (a0 : Int) (a1 : List Int) (r : f38_R) : Prop := Has ⟨38, [.ref 0, .val (.int .i64) a0], [.arr 2 (.int .i64) a1 false], f38_res r, f38_fin r⟩
@[reducible] noncomputable def f38_C (a0 : Int) (a1 : List Int) (B : Nat) (W0 : Nat → Option Obj) (w : World) (S : Nat → Prop) (β : Nat → Value) : Ctx := ⟨Tryd.prog, B, W0, w, S, β, lookO (numbered 0 [.arr 2 (.int .i64) a1 false]), 1, 19⟩
def f38_s1 (a0 : Int) (a1 : List Int) (x1_0 : Int) (x1_1 : Int) (x1_2 : List Int) : St := ⟨[.ref 0, .val (.int .i64) x1_0, U, U, U, .val (.int .i64) x1_1] ++ List.replicate 13 U, [(0, .arr 2 (.int .i64) x1_2 false)], 1, 1⟩
def f38_L1 (a0 : Int) (a1 : List Int) (x1_0 : Int) (x1_1 : Int) (x1_2 : List Int) (r : f38_R) : Prop := At (fun B W0 w S β => Ends (f38_C a0 a1 B W0 w S β) Tryd.f38 ⟨focus Tryd.f38 [.r, .l, .r, .b, .h], f38_s1 a0 a1 x1_0 x1_1 x1_2⟩ (f38_res r) (f38_fin r))

/-- loop.example/g01094/laws.heldInt64S -/
abbrev f39_R : Type := Int
@[reducible] def f39_res (r : f39_R) : A := .val (.int .i64) r
@[reducible] def f39_fin (r : f39_R) : List (Nat × O) := []
def f39_H (a0 : List Int) (a1 : Int) (r : f39_R) : Prop := Has ⟨39, [.val (.slice (.int .i64)) a0, .val (.int .i64) a1], [], f39_res r, f39_fin r⟩
@[reducible] noncomputable def f39_C (a0 : List Int) (a1 : Int) (B : Nat) (W0 : Nat → Option Obj) (w : World) (S : Nat → Prop) (β : Nat → Value) : Ctx := ⟨Tryd.prog, B, W0, w, S, β, lookO (numbered 0 []), 0, 21⟩
def f39_s1 (a0 : List Int) (a1 : Int) (x1_0 : Int) (x1_1 : Int) : St := ⟨[.val (.slice (.int .i64)) a0, .val (.int .i64) x1_0, U, U, U, .val (.int .i64) x1_1] ++ List.replicate 15 U, [], 0, 0⟩
def f39_L1 (a0 : List Int) (a1 : Int) (x1_0 : Int) (x1_1 : Int) (r : f39_R) : Prop := At (fun B W0 w S β => Ends (f39_C a0 a1 B W0 w S β) Tryd.f39 ⟨focus Tryd.f39 [.r, .l, .r, .b, .h], f39_s1 a0 a1 x1_0 x1_1⟩ (f39_res r) (f39_fin r))

/-- loop.example/g01094/laws.FnExactGroupRoot -/
abbrev f7_R : Type := Bool
@[reducible] def f7_res (r : f7_R) : A := .val .bool r
@[reducible] def f7_fin (r : f7_R) : List (Nat × O) := []
def f7_H (a0 : S38) (a1 : List Int) (r : f7_R) : Prop := Has ⟨7, [.val t38 a0, .val (.slice (.int .i64)) a1], [], f7_res r, f7_fin r⟩
@[reducible] noncomputable def f7_C (a0 : S38) (a1 : List Int) (B : Nat) (W0 : Nat → Option Obj) (w : World) (S : Nat → Prop) (β : Nat → Value) : Ctx := ⟨Tryd.prog, B, W0, w, S, β, lookO (numbered 0 []), 0, 138⟩

/-- loop.example/g01094/spec.l01From -/
abbrev f112_R : Type := (List Int) × Int × Int
@[reducible] def f112_res (r : f112_R) : A := .pbox 0 0
@[reducible] def f112_fin (r : f112_R) : List (Nat × O) := [(0, .box 197 [.val (.slice (.int .u8)) r.1, .val (.int .i64) r.2.1, .val (.int .u64) r.2.2] false)]
def f112_H (a0 : List Int) (r : f112_R) : Prop := Has ⟨112, [.val (.slice (.int .u8)) a0], [], f112_res r, f112_fin r⟩
@[reducible] noncomputable def f112_C (a0 : List Int) (B : Nat) (W0 : Nat → Option Obj) (w : World) (S : Nat → Prop) (β : Nat → Value) : Ctx := ⟨Tryd.prog, B, W0, w, S, β, lookO (numbered 0 []), 0, 38⟩
def f112_s1 (a0 : List Int) (x1_0 : Int) (x1_1 : Int) (x1_2 : Int) : St := ⟨[.val (.slice (.int .u8)) a0, U, U, .pbox 0 0, .val (.int .i64) x1_0] ++ List.replicate 33 U, [(0, .box 197 [.val (.slice (.int .u8)) a0, .val (.int .i64) x1_1, .val (.int .u64) x1_2] false)], 1, 0⟩
def f112_L1 (a0 : List Int) (x1_0 : Int) (x1_1 : Int) (x1_2 : Int) (r : f112_R) : Prop := At (fun B W0 w S β => Ends (f112_C a0 B W0 w S β) Tryd.f112 ⟨focus Tryd.f112 [.r, .r, .l, .r, .b, .h], f112_s1 a0 x1_0 x1_1 x1_2⟩ (f112_res r) (f112_fin r))

/-- loop.example/g01094/spec.l01Next -/
abbrev f113_R : Type := Int × (List Int) × Int × Int
@[reducible] def f113_res (r : f113_R) : A := .val (.int .i64) r.1
@[reducible] def f113_fin (r : f113_R) : List (Nat × O) := [(0, .box 197 [.val (.slice (.int .u8)) r.2.1, .val (.int .i64) r.2.2.1, .val (.int .u64) r.2.2.2] false)]
def f113_H (a0 : Int) (a1 : List Int) (a2 : Int) (a3 : Int) (r : f113_R) : Prop := Has ⟨113, [.pbox 0 0, .val (.int .i64) a0], [.box 197 [.val (.slice (.int .u8)) a1, .val (.int .i64) a2, .val (.int .u64) a3] false], f113_res r, f113_fin r⟩
@[reducible] noncomputable def f113_C (a0 : Int) (a1 : List Int) (a2 : Int) (a3 : Int) (B : Nat) (W0 : Nat → Option Obj) (w : World) (S : Nat → Prop) (β : Nat → Value) : Ctx := ⟨Tryd.prog, B, W0, w, S, β, lookO (numbered 0 [.box 197 [.val (.slice (.int .u8)) a1, .val (.int .i64) a2, .val (.int .u64) a3] false]), 1, 58⟩

/-- loop.example/g01094/spec.l02Free -/
abbrev f252_R : Type := Int × List Int
@[reducible] def f252_res (r : f252_R) : A := .agg [.val (.int .i64) r.1, .ref 0]
@[reducible] def f252_fin (r : f252_R) : List (Nat × O) := [(0, .arr 2 (.int .i64) r.2 false)]
def f252_H (a0 : Int) (r : f252_R) : Prop := Has ⟨252, [.val (.int .i64) a0], [], f252_res r, f252_fin r⟩
@[reducible] noncomputable def f252_C (a0 : Int) (B : Nat) (W0 : Nat → Option Obj) (w : World) (S : Nat → Prop) (β : Nat → Value) : Ctx := ⟨Tryd.prog, B, W0, w, S, β, lookO (numbered 0 []), 0, 21⟩
def f252_s1 (a0 : Int) (x1_0 : Int) (x1_1 : Int) (x1_2 : List Int) (x1_3 : List Int) : St := ⟨[.val (.int .i64) a0, U, .pbox 0 0, .pbox 2 0, .val (.int .i64) x1_0] ++ List.replicate 16 U, [(0, .box 43 [.val (.int .i64) x1_1, .ref 1] false), (1, .arr 2 (.int .i64) x1_2 false), (2, .box 43 [.val (.int .i64) a0, .ref 3] false), (3, .arr 2 (.int .i64) x1_3 false)], 4, 0⟩
def f252_L1 (a0 : Int) (x1_0 : Int) (x1_1 : Int) (x1_2 : List Int) (x1_3 : List Int) (r : f252_R) : Prop := At (fun B W0 w S β => Ends (f252_C a0 B W0 w S β) Tryd.f252 ⟨focus Tryd.f252 [.r, .r, .l, .r, .b, .h], f252_s1 a0 x1_0 x1_1 x1_2 x1_3⟩ (f252_res r) (f252_fin r))

/-- loop.example/g01094/spec.l02Draw -/
abbrev f201_R : Type := Int × (List Int) × Int × Int × List Int
@[reducible] def f201_res (r : f201_R) : A := .agg [.val (.int .i64) r.1, .ref 1]
@[reducible] def f201_fin (r : f201_R) : List (Nat × O) := [(0, .box 197 [.val (.slice (.int .u8)) r.2.1, .val (.int .i64) r.2.2.1, .val (.int .u64) r.2.2.2.1] false), (1, .arr 2 (.int .i64) r.2.2.2.2 false)]
def f201_H (a0 : Int) (a1 : List Int) (a2 : Int) (a3 : Int) (r : f201_R) : Prop := Has ⟨201, [.pbox 0 0, .val (.int .i64) a0], [.box 197 [.val (.slice (.int .u8)) a1, .val (.int .i64) a2, .val (.int .u64) a3] false], f201_res r, f201_fin r⟩
@[reducible] noncomputable def f201_C (a0 : Int) (a1 : List Int) (a2 : Int) (a3 : Int) (B : Nat) (W0 : Nat → Option Obj) (w : World) (S : Nat → Prop) (β : Nat → Value) : Ctx := ⟨Tryd.prog, B, W0, w, S, β, lookO (numbered 0 [.box 197 [.val (.slice (.int .u8)) a1, .val (.int .i64) a2, .val (.int .u64) a3] false]), 1, 53⟩
def f201_s1 (a0 : Int) (a1 : List Int) (a2 : Int) (a3 : Int) (x1_0 : Int) (x1_1 : Int) (x1_2 : Int) (x1_3 : List Int) (x1_4 : Int) (x1_5 : Int) (x1_6 : Int) (x1_7 : List Int) (x1_8 : Int) (x1_9 : List Int) : St := ⟨[.pbox 0 0, U, U, U, .pbox 1 0, .val (.int .i64) x1_0, .pbox 3 0, .val (.int .i64) x1_1, .val (.int .i64) x1_2] ++ List.replicate 44 U, [(0, .box 197 [.val (.slice (.int .u8)) x1_3, .val (.int .i64) x1_4, .val (.int .u64) x1_5] false), (1, .box 43 [.val (.int .i64) x1_6, .ref 2] false), (2, .arr 2 (.int .i64) x1_7 false), (3, .box 43 [.val (.int .i64) x1_8, .ref 4] false), (4, .arr 2 (.int .i64) x1_9 false)], 5, 1⟩
def f201_L1 (a0 : Int) (a1 : List Int) (a2 : Int) (a3 : Int) (x1_0 : Int) (x1_1 : Int) (x1_2 : Int) (x1_3 : List Int) (x1_4 : Int) (x1_5 : Int) (x1_6 : Int) (x1_7 : List Int) (x1_8 : Int) (x1_9 : List Int) (r : f201_R) : Prop := At (fun B W0 w S β => Ends (f201_C a0 a1 a2 a3 B W0 w S β) Tryd.f201 ⟨focus Tryd.f201 [.r, .r, .r, .r, .r, .l, .r, .b, .h], f201_s1 a0 a1 a2 a3 x1_0 x1_1 x1_2 x1_3 x1_4 x1_5 x1_6 x1_7 x1_8 x1_9⟩ (f201_res r) (f201_fin r))
def f201_s2 (a0 : Int) (a1 : List Int) (a2 : Int) (a3 : Int) (x2_0 : Int) (x2_1 : Int) (x2_2 : Int) (x2_3 : Int) (x2_4 : List Int) (x2_5 : Int) (x2_6 : Int) (x2_7 : Int) (x2_8 : List Int) (x2_9 : Int) (x2_10 : List Int) : St := ⟨[.pbox 0 0, U, U, U, .pbox 1 0, .val (.int .i64) x2_0, .pbox 3 0, .val (.int .i64) x2_1, .val (.int .i64) x2_2, .val (.int .i64) x2_3] ++ List.replicate 43 U, [(0, .box 197 [.val (.slice (.int .u8)) x2_4, .val (.int .i64) x2_5, .val (.int .u64) x2_6] false), (1, .box 43 [.val (.int .i64) x2_7, .ref 2] false), (2, .arr 2 (.int .i64) x2_8 false), (3, .box 43 [.val (.int .i64) x2_9, .ref 4] false), (4, .arr 2 (.int .i64) x2_10 false)], 5, 1⟩
def f201_L2 (a0 : Int) (a1 : List Int) (a2 : Int) (a3 : Int) (x2_0 : Int) (x2_1 : Int) (x2_2 : Int) (x2_3 : Int) (x2_4 : List Int) (x2_5 : Int) (x2_6 : Int) (x2_7 : Int) (x2_8 : List Int) (x2_9 : Int) (x2_10 : List Int) (r : f201_R) : Prop := At (fun B W0 w S β => Ends (f201_C a0 a1 a2 a3 B W0 w S β) Tryd.f201 ⟨focus Tryd.f201 [.r, .r, .r, .r, .r, .l, .r, .b, .b, .r, .l, .b, .r, .b, .h], f201_s2 a0 a1 a2 a3 x2_0 x2_1 x2_2 x2_3 x2_4 x2_5 x2_6 x2_7 x2_8 x2_9 x2_10⟩ (f201_res r) (f201_fin r))

/-- loop.example/g01094/spec.l02Spoil -/
abbrev f225_R : Type := Int × (List Int) × Int × Int × List Int
@[reducible] def f225_res (r : f225_R) : A := .agg [.val (.int .i64) r.1, .ref 1]
@[reducible] def f225_fin (r : f225_R) : List (Nat × O) := [(0, .box 197 [.val (.slice (.int .u8)) r.2.1, .val (.int .i64) r.2.2.1, .val (.int .u64) r.2.2.2.1] false), (1, .arr 2 (.int .i64) r.2.2.2.2 false)]
def f225_H (a0 : Int) (a1 : List Int) (a2 : Int) (a3 : Int) (r : f225_R) : Prop := Has ⟨225, [.pbox 0 0, .val (.int .i64) a0], [.box 197 [.val (.slice (.int .u8)) a1, .val (.int .i64) a2, .val (.int .u64) a3] false], f225_res r, f225_fin r⟩
@[reducible] noncomputable def f225_C (a0 : Int) (a1 : List Int) (a2 : Int) (a3 : Int) (B : Nat) (W0 : Nat → Option Obj) (w : World) (S : Nat → Prop) (β : Nat → Value) : Ctx := ⟨Tryd.prog, B, W0, w, S, β, lookO (numbered 0 [.box 197 [.val (.slice (.int .u8)) a1, .val (.int .i64) a2, .val (.int .u64) a3] false]), 1, 72⟩

/-- loop.example/g01094/spec.l09Draw -/
abbrev f145_R : Type := (List Int) × Int × Int × List Int
@[reducible] def f145_res (r : f145_R) : A := .ref 1
@[reducible] def f145_fin (r : f145_R) : List (Nat × O) := [(0, .box 197 [.val (.slice (.int .u8)) r.1, .val (.int .i64) r.2.1, .val (.int .u64) r.2.2.1] false), (1, .arr 2 (.int .i64) r.2.2.2 false)]
def f145_H (a0 : S38) (a1 : Int) (a2 : List Int) (a3 : Int) (a4 : Int) (r : f145_R) : Prop := Has ⟨145, [.pbox 0 0, .val t38 a0, .val (.int .i64) a1], [.box 197 [.val (.slice (.int .u8)) a2, .val (.int .i64) a3, .val (.int .u64) a4] false], f145_res r, f145_fin r⟩
@[reducible] noncomputable def f145_C (a0 : S38) (a1 : Int) (a2 : List Int) (a3 : Int) (a4 : Int) (B : Nat) (W0 : Nat → Option Obj) (w : World) (S : Nat → Prop) (β : Nat → Value) : Ctx := ⟨Tryd.prog, B, W0, w, S, β, lookO (numbered 0 [.box 197 [.val (.slice (.int .u8)) a2, .val (.int .i64) a3, .val (.int .u64) a4] false]), 1, 58⟩
def f145_s1 (a0 : S38) (a1 : Int) (a2 : List Int) (a3 : Int) (a4 : Int) (x1_0 : Int) (x1_1 : List Int) (x1_2 : Int) (x1_3 : Int) (x1_4 : List Int) : St := ⟨[.pbox 0 0, U, U, U, .pbox 1 0, U, U, .ref 2, .val (.int .i64) x1_0] ++ List.replicate 49 U, [(0, .box 197 [.val (.slice (.int .u8)) x1_1, .val (.int .i64) x1_2, .val (.int .u64) x1_3] false), (1, .box 43 [.val (.int .i64) a0.1, .val (.slice (.int .i64)) a0.2.1] false), (2, .arr 2 (.int .i64) x1_4 false)], 3, 1⟩
def f145_L1 (a0 : S38) (a1 : Int) (a2 : List Int) (a3 : Int) (a4 : Int) (x1_0 : Int) (x1_1 : List Int) (x1_2 : Int) (x1_3 : Int) (x1_4 : List Int) (r : f145_R) : Prop := At (fun B W0 w S β => Ends (f145_C a0 a1 a2 a3 a4 B W0 w S β) Tryd.f145 ⟨focus Tryd.f145 [.r, .r, .r, .l, .r, .b, .h], f145_s1 a0 a1 a2 a3 a4 x1_0 x1_1 x1_2 x1_3 x1_4⟩ (f145_res r) (f145_fin r))

/-- loop.example/g01094/spec.l09Spoil -/
abbrev f226_R : Type := (List Int) × Int × Int × List Int
@[reducible] def f226_res (r : f226_R) : A := .ref 1
@[reducible] def f226_fin (r : f226_R) : List (Nat × O) := [(0, .box 197 [.val (.slice (.int .u8)) r.1, .val (.int .i64) r.2.1, .val (.int .u64) r.2.2.1] false), (1, .arr 2 (.int .i64) r.2.2.2 false)]
def f226_H (a0 : S38) (a1 : Int) (a2 : List Int) (a3 : Int) (a4 : Int) (r : f226_R) : Prop := Has ⟨226, [.pbox 0 0, .val t38 a0, .val (.int .i64) a1], [.box 197 [.val (.slice (.int .u8)) a2, .val (.int .i64) a3, .val (.int .u64) a4] false], f226_res r, f226_fin r⟩
@[reducible] noncomputable def f226_C (a0 : S38) (a1 : Int) (a2 : List Int) (a3 : Int) (a4 : Int) (B : Nat) (W0 : Nat → Option Obj) (w : World) (S : Nat → Prop) (β : Nat → Value) : Ctx := ⟨Tryd.prog, B, W0, w, S, β, lookO (numbered 0 [.box 197 [.val (.slice (.int .u8)) a2, .val (.int .i64) a3, .val (.int .u64) a4] false]), 1, 52⟩
def f226_s1 (a0 : S38) (a1 : Int) (a2 : List Int) (a3 : Int) (a4 : Int) (x1_0 : List Int) (x1_1 : Int) (x1_2 : Int) (x1_3 : List Int) : St := ⟨[.pbox 0 0, U, U, U, .pbox 1 0, U, U, .ref 2] ++ List.replicate 44 U, [(0, .box 197 [.val (.slice (.int .u8)) x1_0, .val (.int .i64) x1_1, .val (.int .u64) x1_2] false), (1, .box 43 [.val (.int .i64) a0.1, .val (.slice (.int .i64)) a0.2.1] false), (2, .arr 2 (.int .i64) x1_3 false)], 3, 1⟩
def f226_L1 (a0 : S38) (a1 : Int) (a2 : List Int) (a3 : Int) (a4 : Int) (x1_0 : List Int) (x1_1 : Int) (x1_2 : Int) (x1_3 : List Int) (r : f226_R) : Prop := At (fun B W0 w S β => Ends (f226_C a0 a1 a2 a3 a4 B W0 w S β) Tryd.f226 ⟨focus Tryd.f226 [.r, .r, .r, .l, .r, .b, .r, .e, .r, .t, .b, .h], f226_s1 a0 a1 a2 a3 a4 x1_0 x1_1 x1_2 x1_3⟩ (f226_res r) (f226_fin r))

/-- loop.example/g01094/spec.l09Pair -/
abbrev f143_R : Type := Int × (List Int) × Int × Int × (List Int) × List Int
@[reducible] def f143_res (r : f143_R) : A := .tup [.pbox 0 0, .agg [.val (.int .i64) r.1, .ref 1], .ref 2]
@[reducible] def f143_fin (r : f143_R) : List (Nat × O) := [(0, .box 197 [.val (.slice (.int .u8)) r.2.1, .val (.int .i64) r.2.2.1, .val (.int .u64) r.2.2.2.1] false), (1, .arr 2 (.int .i64) r.2.2.2.2.1 true), (2, .arr 2 (.int .i64) r.2.2.2.2.2 false)]
def f143_H (a0 : List Int) (a1 : Int) (a2 : Int) (r : f143_R) : Prop := Has ⟨143, [.val (.slice (.int .u8)) a0, .val (.int .i64) a1, .val (.int .i64) a2], [], f143_res r, f143_fin r⟩
@[reducible] noncomputable def f143_C (a0 : List Int) (a1 : Int) (a2 : Int) (B : Nat) (W0 : Nat → Option Obj) (w : World) (S : Nat → Prop) (β : Nat → Value) : Ctx := ⟨Tryd.prog, B, W0, w, S, β, lookO (numbered 0 []), 0, 28⟩

/-- loop.example/g01094/spec.l09Is -/
abbrev f144_R : Type := Bool
@[reducible] def f144_res (r : f144_R) : A := .val .bool r
@[reducible] def f144_fin (r : f144_R) : List (Nat × O) := []
def f144_H (a0 : S38) (a1 : List Int) (r : f144_R) : Prop := Has ⟨144, [.val t38 a0, .val (.slice (.int .i64)) a1], [], f144_res r, f144_fin r⟩
@[reducible] noncomputable def f144_C (a0 : S38) (a1 : List Int) (B : Nat) (W0 : Nat → Option Obj) (w : World) (S : Nat → Prop) (β : Nat → Value) : Ctx := ⟨Tryd.prog, B, W0, w, S, β, lookO (numbered 0 []), 0, 13⟩

/-- loop.example/g01094/spec.DrawGroupRoot -/
abbrev f64_R : Type := Int × (List Int) × List Int
@[reducible] def f64_res (r : f64_R) : A := .tup [.agg [.val (.int .i64) r.1, .ref 0], .ref 1]
@[reducible] def f64_fin (r : f64_R) : List (Nat × O) := [(0, .arr 2 (.int .i64) r.2.1 true), (1, .arr 2 (.int .i64) r.2.2 false)]
def f64_H (a0 : List Int) (r : f64_R) : Prop := Has ⟨64, [.val (.slice (.int .u8)) a0], [], f64_res r, f64_fin r⟩
@[reducible] noncomputable def f64_C (a0 : List Int) (B : Nat) (W0 : Nat → Option Obj) (w : World) (S : Nat → Prop) (β : Nat → Value) : Ctx := ⟨Tryd.prog, B, W0, w, S, β, lookO (numbered 0 []), 0, 46⟩

/-- loop.example/g01094/laws.likeInts -/
abbrev f60_R : Type := Bool
@[reducible] def f60_res (r : f60_R) : A := .val .bool r
@[reducible] def f60_fin (r : f60_R) : List (Nat × O) := []
def f60_H (a0 : List Int) (a1 : List Int) (r : f60_R) : Prop := Has ⟨60, [.val (.slice (.int .i64)) a0, .val (.slice (.int .i64)) a1], [], f60_res r, f60_fin r⟩
@[reducible] noncomputable def f60_C (a0 : List Int) (a1 : List Int) (B : Nat) (W0 : Nat → Option Obj) (w : World) (S : Nat → Prop) (β : Nat → Value) : Ctx := ⟨Tryd.prog, B, W0, w, S, β, lookO (numbered 0 []), 0, 26⟩
def f60_s1 (a0 : List Int) (a1 : List Int) (x1_0 : Int) : St := ⟨[.val (.slice (.int .i64)) a0, .val (.slice (.int .i64)) a1, U, U, U, .val (.int .i64) x1_0] ++ List.replicate 20 U, [], 0, 0⟩
def f60_L1 (a0 : List Int) (a1 : List Int) (x1_0 : Int) (r : f60_R) : Prop := At (fun B W0 w S β => Ends (f60_C a0 a1 B W0 w S β) Tryd.f60 ⟨focus Tryd.f60 [.r, .r, .l, .r, .b, .h], f60_s1 a0 a1 x1_0⟩ (f60_res r) (f60_fin r))

/-- loop.example/g01094/impl.GroupPower -/
abbrev f65_R : Type := Int × List Int
@[reducible] def f65_res (r : f65_R) : A := .tup [.ref 0, .val (.int .i64) r.1]
@[reducible] def f65_fin (r : f65_R) : List (Nat × O) := [(0, .arr 2 (.int .i64) r.2 false)]
def f65_H (a0 : S38) (a1 : List Int) (a2 : Int) (r : f65_R) : Prop := Has ⟨65, [.val t38 a0, .val (.slice (.int .i64)) a1, .val (.int .i64) a2], [], f65_res r, f65_fin r⟩
@[reducible] noncomputable def f65_C (a0 : S38) (a1 : List Int) (a2 : Int) (B : Nat) (W0 : Nat → Option Obj) (w : World) (S : Nat → Prop) (β : Nat → Value) : Ctx := ⟨Tryd.prog, B, W0, w, S, β, lookO (numbered 0 []), 0, 37⟩

/-- loop.example/g01094/impl.GroupForm -/
abbrev f66_R : Type := Int × List Int
@[reducible] def f66_res (r : f66_R) : A := .tup [.ref 0, .val (.int .i64) r.1]
@[reducible] def f66_fin (r : f66_R) : List (Nat × O) := [(0, .arr 2 (.int .i64) r.2 false)]
def f66_H (a0 : S38) (a1 : List Int) (r : f66_R) : Prop := Has ⟨66, [.val t38 a0, .val (.slice (.int .i64)) a1], [], f66_res r, f66_fin r⟩
@[reducible] noncomputable def f66_C (a0 : S38) (a1 : List Int) (B : Nat) (W0 : Nat → Option Obj) (w : World) (S : Nat → Prop) (β : Nat → Value) : Ctx := ⟨Tryd.prog, B, W0, w, S, β, lookO (numbered 0 []), 0, 22⟩

/-- loop.example/g01094/impl.GroupProduct -/
abbrev f67_R : Type := Int × List Int
@[reducible] def f67_res (r : f67_R) : A := .tup [.ref 0, .val (.int .i64) r.1]
@[reducible] def f67_fin (r : f67_R) : List (Nat × O) := [(0, .arr 2 (.int .i64) r.2 false)]
def f67_H (a0 : S38) (a1 : List Int) (a2 : List Int) (r : f67_R) : Prop := Has ⟨67, [.val t38 a0, .val (.slice (.int .i64)) a1, .val (.slice (.int .i64)) a2], [], f67_res r, f67_fin r⟩
@[reducible] noncomputable def f67_C (a0 : S38) (a1 : List Int) (a2 : List Int) (B : Nat) (W0 : Nat → Option Obj) (w : World) (S : Nat → Prop) (β : Nat → Value) : Ctx := ⟨Tryd.prog, B, W0, w, S, β, lookO (numbered 0 []), 0, 29⟩

/-- loop.example/g01094/impl.GroupInverse -/
abbrev f68_R : Type := Int × List Int
@[reducible] def f68_res (r : f68_R) : A := .tup [.ref 0, .val (.int .i64) r.1]
@[reducible] def f68_fin (r : f68_R) : List (Nat × O) := [(0, .arr 2 (.int .i64) r.2 false)]
def f68_H (a0 : S38) (a1 : List Int) (r : f68_R) : Prop := Has ⟨68, [.val t38 a0, .val (.slice (.int .i64)) a1], [], f68_res r, f68_fin r⟩
@[reducible] noncomputable def f68_C (a0 : S38) (a1 : List Int) (B : Nat) (W0 : Nat → Option Obj) (w : World) (S : Nat → Prop) (β : Nat → Value) : Ctx := ⟨Tryd.prog, B, W0, w, S, β, lookO (numbered 0 []), 0, 23⟩

/-- loop.example/g01094/laws.FnGroupPowers -/
abbrev f13_R : Type := Bool
@[reducible] def f13_res (r : f13_R) : A := .val .bool r
@[reducible] def f13_fin (r : f13_R) : List (Nat × O) := []
def f13_H (a0 : List Int) (r : f13_R) : Prop := Has ⟨13, [.val (.slice (.int .u8)) a0], [], f13_res r, f13_fin r⟩
@[reducible] noncomputable def f13_C (a0 : List Int) (B : Nat) (W0 : Nat → Option Obj) (w : World) (S : Nat → Prop) (β : Nat → Value) : Ctx := ⟨Tryd.prog, B, W0, w, S, β, lookO (numbered 0 []), 0, 167⟩

end Go.Proofs.YtcbeifkfllcjoaaDoor
