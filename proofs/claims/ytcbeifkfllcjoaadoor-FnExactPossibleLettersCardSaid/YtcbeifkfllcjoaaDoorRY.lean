/-
  What the printed texts use: the program's facts, contexts, lists of checks.
-/
import Derived.Test.YtcbeifkfllcjoaaDoorRX
import Derived.Test.YtcbeifkfllcjoaaDoorChecked
import Derived.Lib.TrailingZeros
set_option linter.unusedVariables false
namespace Go.Proofs.YtcbeifkfllcjoaaDoor

theorem mixed : Tryd.prog.follows .mixedOrders = true := by kernel_rfl
theorem enters : Enters Tryd.prog := by
  have h : Tryd.prog.funcs.toList.all (fun fn => !fn.body.isSome || !(fn.name == "runtime.NumGoroutine")) = true := by kernel_rfl
  intro f fn hf hb hn
  have := List.all_eq_true.1 h fn (by rw [← Array.getElem?_toList] at hf; exact List.mem_of_getElem? hf)
  rw [hb, hn] at this
  simp at this
def bodyOf (fn : Func) : Code := match fn.body with | some c => c | none => .skip
noncomputable def run8 : Runner := runD Tryd.prog 8
set_option maxRecDepth 100000 in
theorem run8_ok {B : Nat} {W0 : Nat → Option Obj} : RunOk Tryd.prog B W0 run8 := runD_ok enters mixed 8
abbrev U : A := .undef

/-- the library's table lies where it lay when the call began -/
def Tab (B : Nat) (W0 : Nat → Option Obj) : Prop := 0 < B ∧ ∃ cur t, W0 0 = some (.cells cur t (0, 0)) ∧ ∀ i, i < 64 → cur[i]? = some (.int .u8 (Lib.deBruijn64tab.getD i 0 : Nat))

/-- what a call does, whatever the world -/
def Has (c : CallOb) : Prop := ∀ B W0, Tab B W0 → CallOb.Holds Tryd.prog B W0 c
def At (F : Nat → (Nat → Option Obj) → World → (Nat → Prop) → (Nat → Value) → Prop) : Prop := ∀ B W0, Tab B W0 → ∀ w S β, F B W0 w S β

theorem all0 : ∀ b ∈ ([] : List Bool), b = true := fun b h => by cases h
theorem all1 {b : Bool} {l : List Bool} (h : b = true) (hl : ∀ b ∈ l, b = true) : ∀ x ∈ b :: l, x = true := List.forall_mem_cons.2 ⟨h, hl⟩
theorem allc0 {P : Program} {B : Nat} {W0 : Nat → Option Obj} : ∀ c ∈ ([] : List CallOb), CallOb.Holds P B W0 c := fun c h => by cases h
theorem allc1 {P : Program} {B : Nat} {W0 : Nat → Option Obj} {c : CallOb} {l : List CallOb} (h : CallOb.Holds P B W0 c) (hl : ∀ c ∈ l, CallOb.Holds P B W0 c) : ∀ x ∈ c :: l, CallOb.Holds P B W0 x := List.forall_mem_cons.2 ⟨h, hl⟩
theorem bcase (b : Bool) : b = true ∨ b = false := by cases b <;> simp

end Go.Proofs.YtcbeifkfllcjoaaDoor
