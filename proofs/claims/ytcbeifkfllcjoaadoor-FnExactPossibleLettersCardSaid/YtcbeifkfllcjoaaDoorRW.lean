/-
  From a body to a contract; running callees.
-/
import Derived.Test.YtcbeifkfllcjoaaDoorRV
set_option linter.unusedVariables false
set_option linter.unusedSimpArgs false
namespace Go.Proofs.YtcbeifkfllcjoaaDoor

theorem results_ok {P : Program} {B W0 w S β} {st : St} {a : Act} (g : Good B W0 w S β st.fs.2) (he : ∀ t, RepA w S β (st.fs.1 t) (a.tmps.getD t undef)) {fn : Func} {res : A} (h : resultsK P fn st = some res) :
    ∃ v, (results fn a.tmps).run P w = .ok v w ∧ RepA w S β res v := by
  have run : ∀ {l : List A}, resK P st fn.results.toList = some l → ∃ vs : List Value, RepL w S β l vs ∧ (results fn a.tmps).run P w = .ok (if h : vs.toArray.size = 1 then vs.toArray[0] else .tuple vs.toArray) w := by
    intro l hl
    obtain ⟨vs, h1, h2⟩ := resK_ok g he hl
    refine ⟨vs, h1, ?_⟩
    have e : results fn a.tmps = (fn.results.mapM (fun | ResultVar.tmp t => (pure (a.tmps.getD t undef) : Sem Value) | .cell x t => do loadVar t (← asAddr (a.tmps.getD x undef)))) >>= fun vs => pure (if h : vs.size = 1 then vs[0] else .tuple vs) := rfl
    rw [e, Array.mapM_eq_mapM_toList]
    rw [map_eq_pure_bind, Sem.run_bind, Sem.run_bind]
    erw [h2]
    rfl
  unfold resultsK at h
  split at h
  · rename_i x hx
    injection h with h
    subst h
    obtain ⟨vs, h1, h2⟩ := run hx
    obtain ⟨v, vs', rfl, h3, h4⟩ := h1.uncons
    obtain rfl := h4.of_nil
    exact ⟨v, by simpa using h2, h3⟩
  · rename_i l hne hx
    injection h with h
    subst h
    obtain ⟨vs, h1, h2⟩ := run hx
    have hlen : vs.length ≠ 1 := fun h => by
      rw [h1.1] at h
      match l, h, hne with
      | [x], _, hne => exact hne x rfl
    exact ⟨.tuple vs.toArray, by rw [h2, dif_neg (by simpa using hlen)], .tup h1.1 h1.2⟩
  · cases h

theorem end_ok {C : Ctx} {fn : Func} {st : St} {res : A} {fin : List (Nat × O)} (h : endK C.P fn st = some (res, fin)) (hi : Inv C st) {a : Act} {w : World} (hst : StR C st.fs a w) :
    ∃ v, (results fn a.tmps).run C.P w = .ok v w ∧ ∃ S β, RepA w S β res v ∧ Good C.B C.W0 w S β (lookO fin) ∧ Mov C.w0 C.S0 C.β0 C.H0 w S β (lookO fin) ∧ ∀ o, o < C.np → β o = C.β0 o := by
  unfold endK at h
  split at h
  · cases h
  · rename_i r hr
    simp only at h
    split at h
    · rename_i st' hc
      simp only [Option.some.injEq, Prod.mk.injEq] at h
      obtain ⟨rfl, rfl⟩ := h
      obtain ⟨S, β, hg, he, _⟩ := id hst
      obtain ⟨v, hv, _⟩ := results_ok hg he hr
      refine ⟨v, hv, ?_⟩
      refine ((canon_ok hc hi).2 a w hst).2 r v fun S β hg he => ?_
      obtain ⟨v', hv', hr'⟩ := results_ok hg he hr
      rw [hv] at hv'
      injection hv' with hv'
      rw [hv']
      exact hr'
    · cases h

theorem below_ok {m : Nat} {l : List Nat} (h : below m l = true) : ∀ k ∈ l, k < m := by
  intro k hk
  have := List.all_eq_true.1 h k hk
  simpa using this

theorem inv_start {C : Ctx} {fn : Func} {args : List A} {objs : List O} (hs : startOk args objs = true) (hN : C.N = args.length + (fn.ntmps - args.length)) (hnp : C.np = objs.length) : Inv C (startSt fn args objs) := by
  simp only [startOk, Bool.and_eq_true] at hs
  refine ⟨by simp [startSt, hN], hnp.symm, by rw [hnp]; exact Nat.le_refl _, ?_⟩
  rintro k (⟨t, ht⟩ | hk | ⟨o, y, hy, hk⟩)
  · simp only [St.fs, startSt, List.getD_eq_getElem?_getD] at ht
    by_cases hlt : t < args.length
    · rw [List.getElem?_append_left hlt, List.getElem?_eq_getElem hlt, Option.getD_some] at ht
      exact below_ok hs.1 k (mem_idsL hlt ht)
    · rw [List.getElem?_append_right (by omega), List.getElem?_replicate] at ht
      split at ht <;> simp [A.ids] at ht
  · simp only [St.fs, startSt, lookO_numbered] at hk
    rw [if_pos (Nat.zero_le _), Nat.sub_zero] at hk
    simp only [startSt]
    rcases Nat.lt_or_ge k objs.length with h | h
    · exact h
    · exact absurd (List.getElem?_eq_none h) hk
  · simp only [St.fs, startSt, lookO_numbered] at hy
    rw [if_pos (Nat.zero_le _)] at hy
    exact below_ok (List.all_eq_true.1 hs.2 y (List.mem_of_getElem? hy)) k hk

/-- the functions of the program can be entered -/
def Enters (P : Program) : Prop := ∀ (f : Nat) (fn : Func), P.funcs[f]? = some fn → fn.body.isSome = true → ¬ fn.name = "runtime.NumGoroutine"

theorem run_callFunc {P : Program} (hE : Enters P) {f : Nat} {fn : Func} {c : Code} (hf : P.funcs[f]? = some fn) (hb : fn.body = some c) (args : Array Value) (w : World) : (callFunc f args).run P w = .ok (.enter f args) w := by
  have hn := hE f fn hf (by rw [hb]; rfl)
  simp [callFunc, hf, hn, hb]

/-- from here the body ends, with this result and these objects -/
def Ends (C : Ctx) (fn : Func) (c : Cfg) (res : A) (fin : List (Nat × O)) : Prop := ∃ todo st, Reach C c ⟨todo, st⟩ ∧ ends todo = true ∧ endK C.P fn st = some (res, fin)

theorem Ends.of_reach {C : Ctx} {fn : Func} {c c' : Cfg} {res : A} {fin : List (Nat × O)} (h : Reach C c c') (h' : Ends C fn c' res fin) : Ends C fn c res fin := by
  obtain ⟨todo, st, h1, h2, h3⟩ := h'
  exact ⟨todo, st, h.trans h1, h2, h3⟩

def execEnd (P : Program) (run : Runner) (n : Nat) (s : List Scr) (c : Cfg) (fn : Func) : Option RunOut :=
  match execN P run n s c with
  | none => none
  | some r => if ends r.cfg.todo then match endK P fn r.cfg.st with
    | some (res, fin) => some ⟨res, fin, r.props, r.calls⟩
    | none => none
    else none

theorem ends_of_exec {C : Ctx} {run : Runner} (hrun : RunOk C.P C.B C.W0 run) (hm : C.P.follows .mixedOrders = true) {n : Nat} {s : List Scr} {c : Cfg} {fn : Func} {r : RunOut} (h : execEnd C.P run n s c fn = some r) (hp : ∀ p ∈ r.props, p) (hc : ∀ c ∈ r.calls, CallOb.Holds C.P C.B C.W0 c) : Ends C fn c r.res r.fin := by
  unfold execEnd at h
  split at h
  · cases h
  · rename_i x hx
    split at h
    · rename_i he
      split at h
      · rename_i res fin hr
        injection h with h
        subst h
        exact ⟨_, _, exec_ok hrun hm hx hp hc, he, hr⟩
      · cases h
    · cases h

theorem holds_of_ends {P : Program} {B : Nat} {W0 : Nat → Option Obj} (hE : Enters P) {f : Nat} {fn : Func} {c : Code} {args : List A} {objs : List O} {res : A} {fin : List (Nat × O)} (hf : P.funcs[f]? = some fn) (hb : fn.body = some c) (hs : startOk args objs = true)
    (h : ∀ w S β, Ends ⟨P, B, W0, w, S, β, lookO (numbered 0 objs), objs.length, args.length + (fn.ntmps - args.length)⟩ fn ⟨[.code c], startSt fn args objs⟩ res fin) : CallOb.Holds P B W0 ⟨f, args, objs, res, fin⟩ := by
  intro w S β vs hg hargs
  rw [run_callFunc hE hf hb]
  refine calls_of_wp hf hb ?_
  obtain ⟨todo, st, hre, he, hr⟩ := h w S β
  obtain ⟨hi, hreach⟩ := hre (inv_start hs rfl rfl)
  have hvl : vs.length = args.length := hargs.1
  have hst : StR ⟨P, B, W0, w, S, β, lookO (numbered 0 objs), objs.length, args.length + (fn.ntmps - args.length)⟩ (startSt fn args objs).fs { tmps := vs.toArray ++ Array.replicate (fn.ntmps - vs.toArray.size) undef, defers := [] } w := by
    refine ⟨S, β, hg, fun t => ?_, rfl, by simp [hvl], Mov.refl _ _ _ _, fun _ _ => rfl⟩
    simp only [St.fs, startSt, List.getD_eq_getElem?_getD, Array.getD_eq_getD_getElem?]
    by_cases hlt : t < args.length
    · rw [List.getElem?_append_left hlt, List.getElem?_eq_getElem hlt, Option.getD_some, Array.getElem?_append_left (by simpa [hvl] using hlt)]
      have hlt' : t < vs.length := by omega
      simp only [List.getElem?_toArray, List.getElem?_eq_getElem hlt', Option.getD_some]
      exact hargs.2 t hlt hlt'
    · rw [List.getElem?_append_right (by omega), List.getElem?_replicate]
      split <;> exact .undef _
  intro b k cs
  obtain ⟨a', w', hst', s⟩ := hreach _ w hst b k cs
  obtain ⟨v, hv, hrest⟩ := end_ok hr hi hst'
  have hd : a'.defers = [] := by obtain ⟨_, _, _, _, hd, _⟩ := hst'; exact hd
  have s0 := (nrm_steps P [.code c] k { tmps := vs.toArray ++ Array.replicate (fn.ntmps - vs.toArray.size) undef, defers := [] } w b cs).trans s
  unfold ends at he
  split at he
  · exact ⟨.normal, a', w', ⟨hd, v, hv, hrest⟩, s0⟩
  · rename_i k'
    exact ⟨.ret, a', w', ⟨hd, v, hv, hrest⟩, ⟨_, s0.trans (.one step_ret)⟩⟩
  · cases he

theorem holds_of_reach {P : Program} {B : Nat} {W0 : Nat → Option Obj} (hE : Enters P) {f : Nat} {fn : Func} {c : Code} {args : List A} {objs : List O} {res : A} {fin : List (Nat × O)} (hf : P.funcs[f]? = some fn) (hb : fn.body = some c) (hs : startOk args objs = true)
    {todo : List Item} {st : St} (h : ∀ w S β, Reach ⟨P, B, W0, w, S, β, lookO (numbered 0 objs), objs.length, args.length + (fn.ntmps - args.length)⟩ ⟨[.code c], startSt fn args objs⟩ ⟨todo, st⟩)
    (he : ends todo = true) (hr : endK P fn st = some (res, fin)) : CallOb.Holds P B W0 ⟨f, args, objs, res, fin⟩ :=
  holds_of_ends hE hf hb hs fun w S β => ⟨todo, st, h w S β, he, hr⟩

theorem runD_ok {P : Program} {B : Nat} {W0 : Nat → Option Obj} (hE : Enters P) (hm : P.follows .mixedOrders = true) : ∀ d, RunOk P B W0 (runD P d) := by
  intro d
  induction d with
  | zero => intro f args objs scr r h; simp [runD] at h
  | succ d ih =>
    intro f args objs scr r h hp hc
    simp only [runD] at h
    split at h
    · cases h
    · rename_i fn hf
      split at h
      · cases h
      · rename_i c hb
        split at h
        · rename_i hs
          split at h
          · cases h
          · rename_i x hx
            split at h
            · rename_i he
              split at h
              · rename_i res fin hr
                injection h with h
                subst h
                exact holds_of_reach hE hf hb hs (fun w S β => exec_ok (C := ⟨P, B, W0, w, S, β, lookO (numbered 0 objs), objs.length, args.length + (fn.ntmps - args.length)⟩) ih hm hx hp hc) he hr
              · cases h
            · cases h
        · cases h

end Go.Proofs.YtcbeifkfllcjoaaDoor
