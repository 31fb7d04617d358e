/-
  Regions as wholes; renaming; running code.
-/
import Derived.Test.YtcbeifkfllcjoaaDoorRT
set_option linter.unusedVariables false
set_option linter.unusedSimpArgs false
namespace Go.Proofs.YtcbeifkfllcjoaaDoor

theorem rep_heap {w w' : World} (h : w'.heap = w.heap) {S : Nat → Prop} {β : Nat → Value} {a : A} {v : Value} (hr : RepA w S β a v) : RepA w' S β a v :=
  hr.mono (fun _ h => h) (fun b _ => by rw [h]) fun _ _ => rfl

theorem good_heap {w w' : World} (h : w'.heap = w.heap) {B W0 S β H} (g : Good B W0 w S β H) : Good B W0 w' S β H where
  rep hx := (g.rep hx).keep (fun _ h => h) (fun b _ => by rw [h]) (fun b _ => by rw [h]) fun _ _ => rfl
  excl := g.excl
  froz := g.froz
  apart := g.apart
  low b hb := by rw [h]; exact g.low b hb
  glob b hb := by rw [h]; exact g.glob b hb
  base := by rw [h]; exact g.base

theorem str_drawn {C : Ctx} {s : FS} {a : Act} {w : World} (h : StR C s a w) : StR C s a { w with drawn := w.drawn + 1 } := by
  obtain ⟨S, β, hg, he, hd, hsz, hm, hβ⟩ := h
  exact ⟨S, β, good_heap (w := w) (w' := { w with drawn := w.drawn + 1 }) rfl hg, fun t => rep_heap (w := w) (w' := { w with drawn := w.drawn + 1 }) rfl (he t), hd, hsz, ⟨hm.hS, hm.heap, hm.size, hm.os, hm.tape, hm.output, hm.own, hm.st⟩, hβ⟩

theorem trace_used {C : Ctx} {ops : Array Oper} {base : Nat} : ∀ {i : Nat} {l : List Oper} {s s' : FS} {rs : List (Rec × FP)}, Trace C ops base i l s rs s' → (∀ k, usedF s k → k < base + 16 * i) → ∀ k, usedF s' k → k < base + 16 * (i + l.length) := by
  intro i l s s' rs ht
  induction ht with
  | nil i s => intro hu k hk; have := hu k hk; simp only [List.length_nil]; omega
  | @cons i o l s s' r fp rs hd hdst ht ih =>
    intro hu k hk
    have := ih (fun k hk => by
      rcases (hd.2.2 s (fun _ _ => rfl) (fun _ _ => rfl) fun k h1 h2 h3 => by have := hu k h3; omega).1 k hk with h | h
      · have := hu k h; omega
      · omega) k hk
    simp only [List.length_cons]
    omega

structure Inv (C : Ctx) (st : St) : Prop where
  len : st.env.length = C.N
  np : st.np = C.np
  le : C.np ≤ st.next
  used : ∀ k, usedF st.fs k → k < st.next

theorem region_ok {C : Ctx} {run : Runner} (hrun : RunOk C.P C.B C.W0 run) (hm : C.P.follows .mixedOrders = true) {id : Nat} {ops : Array Oper} {draw : Bool} {scr : RegScr} {st : St} {r : RegOut} (h : regionK C.P run scr ops draw st = some r)
    (hp : ∀ p ∈ r.props, p) (hc : ∀ c ∈ r.calls, CallOb.Holds C.P C.B C.W0 c) (hi : Inv C st) :
    (∀ a w, StR C st.fs a w → (Code.region id ops draw).wp C.P (fun e a w => e = .normal ∧ StR C r.st.fs a w) a w) ∧ Inv C r.st := by
  unfold regionK at h
  split at h
  · cases h
  · rename_i r1 hr
    split at h
    · rename_i hcond
      injection h with h
      subst h
      obtain ⟨rs, ht, hf, hN, hnx, hnp⟩ := regGo_trace hrun hi.le hr hp hc hi.len
      have hu0 : ∀ k, usedF st.fs k → k < st.next + 16 * 0 := fun k hk => by have := hi.used k hk; omega
      refine ⟨fun a w hst => ?_, ⟨hN, hnp.trans hi.np, by have := hi.le; simp only; omega, fun k hk => ?_⟩⟩
      · cases draw with
        | false =>
          exact wp_region_list (seq_ok ht hst hu0 fun a w h => ⟨rfl, h⟩).1
        | true =>
          simp only [Bool.not_true, Bool.false_or, Bool.and_eq_true] at hcond
          rw [← hf] at hcond
          have hnil : ∀ j, (Array.replicate ops.size false).getD j false = false := by
            intro j
            simp only [Array.getD_eq_getD_getElem?]
            cases hq : (Array.replicate ops.size false)[j]? with
            | none => rfl
            | some b =>
              rw [Array.getElem?_replicate] at hq
              split at hq
              · injection hq with hq
                simp [← hq]
              · cases hq
          have hf0 : foldD C.N (fun j => (Array.replicate ops.size false).getD j false) 0 rs st.fs = st.fs := by
            have : ∀ (rs : List (Rec × FP)) (i : Nat) (s : FS), foldD C.N (fun j => (Array.replicate ops.size false).getD j false) i rs s = s := by
              intro rs
              induction rs with
              | nil => intro i s; rfl
              | cons p rs ih =>
                intro i s
                simp only [foldD]
                rw [if_neg (by rw [hnil]; simp)]
                exact ih _ _
            exact this rs 0 st.fs
          refine wp_region_any hm (any_ok ht hcond.1 hcond.2 (fun k hk => hi.used k hk) (fun a w h => ⟨rfl, h⟩) ops.size (Array.replicate ops.size false) (List.range ops.size) a _ (by simp) ?_ (fun i hi _ => List.mem_range.2 hi) (by simp) (by rw [hf0]; exact str_drawn hst) ?_)
          · intro j o _ hj
            simp only [hnil] at hj
            cases hj
          · intro k hk
            rw [hf0] at hk
            exact .inl (hi.used k hk)
      · have := trace_used ht hu0 k hk
        simpa using this
    · cases h

/-! ### Renaming -/
theorem lookI_some {l : List (Nat × Nat)} {o j : Nat} (h : lookI l o = some j) : (o, j) ∈ l := by
  induction l with
  | nil => simp [lookI] at h
  | cons p l ih =>
    obtain ⟨a, b⟩ := p
    simp only [lookI] at h
    split at h
    · rename_i ha
      injection h with h
      subst ha h
      simp
    · exact List.mem_cons_of_mem _ (ih h)

theorem nodup_fst {l : List (Nat × Nat)} (h : nodupN (l.map (·.1)) = true) {o j j' : Nat} (h1 : (o, j) ∈ l) (h2 : (o, j') ∈ l) : j = j' := by
  induction l with
  | nil => simp at h1
  | cons p l ih =>
    rw [List.map_cons] at h
    obtain ⟨hn, hl⟩ := nodupN_cons h
    rcases List.mem_cons.1 h1 with e1 | h1 <;> rcases List.mem_cons.1 h2 with e2 | h2
    · rw [← e1] at e2; exact (Prod.mk.inj e2).2.symm
    · exact absurd (List.mem_map.2 ⟨_, h2, by rw [← e1]⟩) hn
    · exact absurd (List.mem_map.2 ⟨_, h1, by rw [← e2]⟩) hn
    · exact ih hl h1 h2

theorem nodup_snd {l : List (Nat × Nat)} (h : nodupN (l.map (·.2)) = true) {o o' j : Nat} (h1 : (o, j) ∈ l) (h2 : (o', j) ∈ l) : o = o' := by
  induction l with
  | nil => simp at h1
  | cons p l ih =>
    rw [List.map_cons] at h
    obtain ⟨hn, hl⟩ := nodupN_cons h
    rcases List.mem_cons.1 h1 with e1 | h1 <;> rcases List.mem_cons.1 h2 with e2 | h2
    · rw [← e1] at e2; exact (Prod.mk.inj e2).1.symm
    · exact absurd (List.mem_map.2 ⟨_, h2, by rw [← e1]⟩) hn
    · exact absurd (List.mem_map.2 ⟨_, h1, by rw [← e2]⟩) hn
    · exact ih hl h1 h2

theorem maxN_le : ∀ {l : List (Nat × Nat)} {m : Nat}, m ≤ maxN l m ∧ ∀ o j, (o, j) ∈ l → j < maxN l m := by
  intro l
  induction l with
  | nil => intro m; exact ⟨Nat.le_refl _, fun o j h => by simp at h⟩
  | cons p l ih =>
    intro m
    obtain ⟨a, b⟩ := p
    simp only [maxN]
    by_cases hc : m ≤ b
    · rw [if_pos hc]
      obtain ⟨h1, h2⟩ := ih (m := b + 1)
      refine ⟨by omega, fun o j h => ?_⟩
      rcases List.mem_cons.1 h with e | h
      · injection e with e1 e2
        omega
      · exact h2 o j h
    · rw [if_neg hc]
      obtain ⟨h1, h2⟩ := ih (m := m)
      refine ⟨h1, fun o j h => ?_⟩
      rcases List.mem_cons.1 h with e | h
      · injection e with e1 e2
        omega
      · exact h2 o j h

theorem keepE_get {live : List Nat} {objs : List (Nat × Nat)} : ∀ {l : List A} {t i : Nat}, (keepE live objs i l).getD t .undef = .undef ∨ (keepE live objs i l).getD t .undef = renA (lookI objs) (l.getD t .undef) := by
  intro l
  induction l with
  | nil => intro t i; left; simp [keepE]
  | cons a l ih =>
    intro t i
    simp only [keepE]
    cases t with
    | zero =>
      simp only [List.getD_cons_zero]
      split
      · exact .inr rfl
      · exact .inl rfl
    | succ t => simp only [List.getD_cons_succ]; exact ih

theorem keepE_len {live : List Nat} {objs : List (Nat × Nat)} : ∀ {l : List A} {i : Nat}, (keepE live objs i l).length = l.length := by
  intro l
  induction l with
  | nil => intro i; rfl
  | cons a l ih => intro i; simp [keepE, ih]

theorem keepO_get {look : Nat → Option O} {all : List (Nat × Nat)} : ∀ {l : List (Nat × Nat)} {os : List (Nat × O)}, keepO look all l = some os → ∀ {j x}, lookO os j = some x → ∃ o y, (o, j) ∈ l ∧ look o = some y ∧ x = renO (lookI all) y := by
  intro l
  induction l with
  | nil => intro os h j x hx; simp only [keepO, Option.some.injEq] at h; subst h; simp [lookO] at hx
  | cons p l ih =>
    intro os h j x hx
    obtain ⟨a, b⟩ := p
    simp only [keepO] at h
    split at h
    · rename_i y r hy hr
      injection h with h
      subst h
      simp only [lookO] at hx
      split at hx
      · rename_i hb
        injection hx with hx
        subst hb
        exact ⟨a, y, by simp, hy, hx.symm⟩
      · obtain ⟨o, y', h1, h2, h3⟩ := ih hr hx
        exact ⟨o, y', by simp [h1], h2, h3⟩
    · cases h

theorem renA_ids {f : Nat → Option Nat} : ∀ {a : A} {k : Nat}, k ∈ (renA f a).ids → ∃ o, o ∈ a.ids ∧ f o = some k := by
  have key : ∀ (n : Nat) (a : A), SizeOf.sizeOf a ≤ n → ∀ k, k ∈ (renA f a).ids → ∃ o, o ∈ a.ids ∧ f o = some k := by
    intro n
    induction n with
    | zero => intro a h; cases a <;> simp at h
    | succ n ih =>
      have lst : ∀ (l : List A), SizeOf.sizeOf l ≤ n → ∀ k, k ∈ idsL (renL f l) → ∃ o, o ∈ idsL l ∧ f o = some k := by
        intro l
        induction l with
        | nil => intro _ k h; simp [renL, idsL] at h
        | cons a l ihl =>
          intro hs k hk
          simp only [List.cons.sizeOf_spec] at hs
          simp only [renL, idsL, List.mem_append] at hk
          rcases hk with hk | hk
          · obtain ⟨o, h1, h2⟩ := ih a (by omega) k hk
            exact ⟨o, by simp [idsL, h1], h2⟩
          · obtain ⟨o, h1, h2⟩ := ihl (by omega) k hk
            exact ⟨o, by simp [idsL, h1], h2⟩
      intro a hs k hk
      cases a with
      | ref o | mapr o =>
        simp only [renA] at hk
        split at hk
        · rename_i j hj
          simp only [A.ids, List.mem_singleton] at hk
          subst hk
          exact ⟨o, by simp [A.ids], hj⟩
        · simp [A.ids] at hk
      | pel o i sz off =>
        simp only [renA] at hk
        split at hk
        · rename_i j hj
          simp only [A.ids, List.mem_singleton] at hk
          subst hk
          exact ⟨o, by simp [A.ids], hj⟩
        · simp [A.ids] at hk
      | pbox o off =>
        simp only [renA] at hk
        split at hk
        · rename_i j hj
          simp only [A.ids, List.mem_singleton] at hk
          subst hk
          exact ⟨o, by simp [A.ids], hj⟩
        · simp [A.ids] at hk
      | pcs cs off => simp only [renA, A.ids] at hk ⊢; exact lst cs (by simp at hs; omega) k hk
      | clo g cs => simp only [renA, A.ids] at hk ⊢; exact lst cs (by simp at hs; omega) k hk
      | agg cs => simp only [renA, A.ids] at hk ⊢; exact lst cs (by simp at hs; omega) k hk
      | tup cs => simp only [renA, A.ids] at hk ⊢; exact lst cs (by simp at hs; omega) k hk
      | _ => simp [renA, A.ids] at hk
  intro a k h
  exact key (SizeOf.sizeOf a) a (Nat.le_refl _) k h

theorem renL_ids {f : Nat → Option Nat} : ∀ {l : List A} {k : Nat}, k ∈ idsL (renL f l) → ∃ o, o ∈ idsL l ∧ f o = some k := by
  intro l
  induction l with
  | nil => intro k h; simp [renL, idsL] at h
  | cons a l ih =>
    intro k hk
    simp only [renL, idsL, List.mem_append] at hk
    rcases hk with hk | hk
    · obtain ⟨o, h1, h2⟩ := renA_ids hk
      exact ⟨o, by simp [idsL, h1], h2⟩
    · obtain ⟨o, h1, h2⟩ := ih hk
      exact ⟨o, by simp [idsL, h1], h2⟩

theorem canon_ok {C : Ctx} {live : List Nat} {objs : List (Nat × Nat)} {st st' : St} (h : canonSt live objs st = some st') (hi : Inv C st) :
    Inv C st' ∧ ∀ a w, StR C st.fs a w → StR C st'.fs a w ∧ ∀ x v, (∀ S β, Good C.B C.W0 w S β st.fs.2 → (∀ t, RepA w S β (st.fs.1 t) (a.tmps.getD t undef)) → RepA w S β x v) →
      ∃ S β, RepA w S β (renA (lookI objs) x) v ∧ Good C.B C.W0 w S β st'.fs.2 ∧ Mov C.w0 C.S0 C.β0 C.H0 w S β st'.fs.2 ∧ ∀ o, o < C.np → β o = C.β0 o := by
  unfold canonSt at h
  split at h
  · rename_i hcond
    simp only [Bool.and_eq_true, List.all_eq_true, Bool.or_eq_true, decide_eq_true_eq] at hcond
    obtain ⟨⟨hn1, hn2⟩, hall⟩ := hcond
    split at h
    · rename_i os hos
      injection h with h
      subst h
      obtain ⟨hmx, hmj⟩ := maxN_le (l := objs) (m := st.np)
      have hnp := hi.np
      refine ⟨⟨keepE_len.trans hi.len, hi.np, by rw [← hnp]; exact hmx, ?_⟩, fun a w hst => ?_⟩
      · have hren : ∀ {x : A} {k}, k ∈ (renA (lookI objs) x).ids → k < maxN objs st.np := fun hk => by
          obtain ⟨o, _, ho⟩ := renA_ids hk
          exact hmj o _ (lookI_some ho)
        rintro k (⟨t, ht⟩ | hk | ⟨o, y, hy, hk⟩)
        · simp only [St.fs] at ht
          rcases keepE_get (live := live) (objs := objs) (l := st.env) (t := t) (i := 0) with e | e
          · rw [e] at ht; simp [A.ids] at ht
          · rw [e] at ht; exact hren ht
        · simp only [St.fs] at hk
          cases hq : lookO os k with
          | none => exact absurd hq hk
          | some y =>
            obtain ⟨o, z, h1, _, _⟩ := keepO_get hos hq
            exact hmj o k h1
        · obtain ⟨o', z, h1, h2, rfl⟩ := keepO_get hos hy
          cases z with
          | box t cs f =>
            obtain ⟨q, _, hq⟩ := renL_ids (show k ∈ idsL (renL (lookI objs) cs) from hk)
            exact hmj q _ (lookI_some hq)
          | arr e τ xs f => simp [renO, O.ids] at hk
          | map κ ν es => simp [renO, O.ids] at hk
          | row e n sz cs =>
            obtain ⟨q, _, hq⟩ := renL_ids (show k ∈ idsL (renL (lookI objs) cs) from hk)
            exact hmj q _ (lookI_some hq)
      · obtain ⟨S, β, hg, he, hd, hsz, hm, hβ⟩ := hst
        -- heads under the new numbers
        let β' : Nat → Value := fun j => match objs.find? (fun p => decide (p.2 = j)) with | some p => β p.1 | none => β j
        have hβ' : ∀ {o j}, (o, j) ∈ objs → β' j = β o := by
          intro o j hm
          simp only [β']
          cases hf : objs.find? (fun p => decide (p.2 = j)) with
          | none => exact absurd (List.find?_eq_none.1 hf _ hm) (by simp)
          | some p =>
            have h1 := List.mem_of_find?_eq_some hf
            have h2 := List.find?_some hf
            simp only [decide_eq_true_eq] at h2
            obtain ⟨a, b⟩ := p
            simp only at h2
            subst h2
            rw [nodup_snd hn2 h1 hm]
        have hren : ∀ o j, lookI objs o = some j → β' j = β o := fun o j h => hβ' (lookI_some h)
        have hlow : ∀ o, o < C.np → β' o = β o := by
          intro o ho
          simp only [β']
          cases hf : objs.find? (fun p => decide (p.2 = o)) with
          | none => rfl
          | some p =>
            have h1 := List.mem_of_find?_eq_some hf
            have h2 := List.find?_some hf
            simp only [decide_eq_true_eq] at h2
            rcases hall p h1 with h3 | h3
            · show β p.1 = β o
              rw [h3, h2]
            · omega
        have hobj : ∀ {j x}, lookO os j = some x → ∃ o y, (o, j) ∈ objs ∧ lookO st.objs o = some y ∧ x = renO (lookI objs) y ∧ β' j = β o := fun hx => by
          obtain ⟨o, y, h1, h2, h3⟩ := keepO_get hos hx
          exact ⟨o, y, h1, h2, h3, hβ' h1⟩
        have hg' : Good C.B C.W0 w S β' (lookO os) := by
          refine ⟨?_, ?_, ?_, ?_, hg.low, hg.glob, hg.base⟩
          · intro j x hx
            obtain ⟨o, y, h1, h2, rfl, hb⟩ := hobj hx
            rw [hb]
            exact renO_ok (hg.rep h2) fun q k _ hk => hren q k hk
          · intro j x b hx hf hb
            obtain ⟨o, y, h1, h2, rfl, hbo⟩ := hobj hx
            rw [hbo] at hb
            rw [renO_frz] at hf
            exact hg.excl h2 hf hb
          · intro j x b hx hf hb
            obtain ⟨o, y, h1, h2, rfl, hbo⟩ := hobj hx
            rw [hbo] at hb
            rw [renO_frz] at hf
            exact hg.froz h2 hf hb
          · intro j j' x x' b hne hx hx' hf hf' hb hb'
            obtain ⟨o, y, h1, h2, rfl, hbo⟩ := hobj hx
            obtain ⟨o', y', h1', h2', rfl, hbo'⟩ := hobj hx'
            rw [hbo] at hb
            rw [hbo'] at hb'
            rw [renO_frz] at hf hf'
            exact hg.apart (fun e : o = o' => hne (nodup_fst hn1 h1 (by rw [e]; exact h1'))) h2 h2' hf hf' hb hb'
        have hm' : Mov C.w0 C.S0 C.β0 C.H0 w S β' (lookO os) := ⟨hm.hS, hm.heap, hm.size, hm.os, hm.tape, hm.output, fun b hb => by
          obtain ⟨j, x, hx, hf, hb⟩ := hb
          obtain ⟨o, y, h1, h2, rfl, hbo⟩ := hobj hx
          rw [hbo] at hb
          rw [renO_frz] at hf
          exact hm.own b ⟨o, y, h2, hf, hb⟩, hm.st⟩
        refine ⟨⟨S, β', hg', fun t => ?_, hd, hsz, hm', fun o ho => (hlow o ho).trans (hβ o ho)⟩, fun x v hx => ⟨S, β', renA_ok (hx S β hg he) fun q k _ hk => hren q k hk, hg', hm', fun o ho => (hlow o ho).trans (hβ o ho)⟩⟩
        simp only [St.fs]
        rcases keepE_get (live := live) (objs := objs) (l := st.env) (t := t) (i := 0) with e | e
        · rw [e]; exact .undef _
        · rw [e]; exact renA_ok (he t) fun q k _ hk => hren q k hk
    · cases h
  · cases h

end Go.Proofs.YtcbeifkfllcjoaaDoor
