/-
  Packing of cells into data, and the three ways in which an operation turns the call's own objects.
-/
import Derived.Test.YtcbeifkfllcjoaaDoorRC
set_option linter.unusedVariables false
set_option linter.unusedSimpArgs false
namespace Go.Proofs.YtcbeifkfllcjoaaDoor

theorem arr_val {B : Nat} {w : World} {S : Nat → Prop} {β : Nat → Value} {v : Value} {e : TypeId} {τ : Ty} {xs : List τ.Den} {fz : Bool}
    (h : RepO B w S β v (.arr e τ xs fz)) (hS : ∀ b, blk v = some b → S b) : RepV w S (.slice τ) xs v := by
  obtain ⟨vs, h1, h2, h3⟩ := h
  have hlen := h1.1
  rcases h1.2 with ⟨a, rfl, h0⟩ | ⟨g, cap, cur, rfl, hb', hg, hn, _, hcs, htake⟩
  · refine ⟨⟨a, 0, ?_, by omega, .inl ⟨h0, fun _ => rfl⟩⟩, rfl, by simp [Ty.isAgg]⟩
    rw [h0]
    rfl
  · rcases Nat.eq_zero_or_pos cap with hc0 | hc0
    · refine ⟨⟨some ⟨g, 0, none⟩, cap, rfl, hn, .inl ⟨by omega, fun h => by cases h⟩⟩, rfl, by simp [Ty.isAgg]⟩
    refine ⟨⟨some ⟨g, 0, none⟩, cap, rfl, hn, .inr ⟨g, 0, rfl, hS g (blk_slice hc0), fun j hj => (h3 j hj).congr fun i hi => ?_⟩⟩, rfl, by simp [Ty.isAgg]⟩
    rw [cell_of_row w g _ cur e (0, 0) hg, ← htake, List.getElem?_take, if_pos, Array.getElem?_toList, Nat.zero_add]
    have : (j + 1) * τ.size ≤ xs.length * τ.size := Nat.mul_le_mul_right _ hj
    rw [Nat.add_mul, Nat.one_mul] at this
    omega

theorem oneVal_ok {w : World} {S : Nat → Prop} {β : Nat → Value} {look : Nat → Option O} {τ : Ty} {a : A} {x : τ.Den} {f : List Nat} {v : Value}
    (h : oneVal look τ a = some (x, f)) (ha : RepA w S β a v)
    (hf : ∀ o, o ∈ f → ∀ e τ' xs fz, look o = some (.arr e τ' xs fz) → RepV w S (.slice τ') xs (β o)) : RepV w S τ x v := by
  cases a with
  | val τ' y =>
    simp only [oneVal] at h
    cases hc : castDen (τ' := τ) y with
    | none => rw [hc] at h; cases h
    | some z =>
      rw [hc] at h
      simp only [Option.map_some, Option.some.injEq, Prod.mk.injEq] at h
      obtain ⟨rfl, rfl⟩ := h
      obtain ⟨rfl, rfl⟩ := castDen_some hc
      cases ha with
      | val h => exact h
  | nil =>
    cases τ with
    | slice e =>
      simp only [oneVal, Option.some.injEq, Prod.mk.injEq] at h
      obtain ⟨rfl, rfl⟩ := h
      cases ha
      exact ⟨⟨none, 0, rfl, Nat.le_refl _, .inl ⟨rfl, fun _ => rfl⟩⟩, rfl, by simp [Ty.isAgg]⟩
    | _ => simp [oneVal] at h
  | emp =>
    cases τ with
    | slice e =>
      simp only [oneVal, Option.some.injEq, Prod.mk.injEq] at h
      obtain ⟨rfl, rfl⟩ := h
      cases ha with
      | @emp a c => exact ⟨⟨some a, c, rfl, Nat.zero_le _, .inl ⟨rfl, fun h => by cases h⟩⟩, rfl, by simp [Ty.isAgg]⟩
    | _ => simp [oneVal] at h
  | ref o =>
    cases τ with
    | slice e =>
      simp only [oneVal] at h
      cases hl : look o with
      | none => rw [hl] at h; cases h
      | some y =>
        rw [hl] at h
        cases y with
        | arr e' τ' xs fz =>
          simp only at h
          cases hc : castDen (τ := .slice τ') (τ' := .slice e) xs with
          | none => rw [hc] at h; cases h
          | some z =>
            rw [hc] at h
            simp only [Option.map_some, Option.some.injEq, Prod.mk.injEq] at h
            obtain ⟨rfl, rfl⟩ := h
            obtain ⟨e1, rfl⟩ := castDen_some hc
            injection e1 with e1
            subst e1
            cases ha
            exact hf o (by simp) e' _ xs fz hl
        | _ => cases h
    | _ => simp [oneVal] at h
  | _ => simp [oneVal] at h

theorem oneVal_one {look : Nat → Option O} {τ : Ty} {a : A} {x : τ.Den} {f : List Nat} {w S β v} (h : oneVal look τ a = some (x, f)) (hτ : τ.isAgg = false) (ha : RepA w S β a v)
    (hf : ∀ o, o ∈ f → ∀ e τ' xs fz, look o = some (.arr e τ' xs fz) → RepV w S (.slice τ') xs (β o)) : Rep w S τ x (fun i => if i = 0 then some v else none) :=
  ((oneVal_ok h ha hf).one hτ).2.2

theorem pack_ok {w : World} {S : Nat → Prop} {β : Nat → Value} {look : Nat → Option O} : ∀ {τ : Ty} {l : List A} {x : τ.Den} {l' : List A} {f : List Nat} {vs : List Value},
    pack look τ l = some (x, l', f) → RepL w S β l vs → (∀ o, o ∈ f → ∀ e τ' xs fz, look o = some (.arr e τ' xs fz) → RepV w S (.slice τ') xs (β o)) →
    ∃ us ws, vs = us ++ ws ∧ us.length = τ.size ∧ Rep w S τ x (fun i => us[i]?) ∧ RepL w S β l' ws := by
  have one : ∀ {τ : Ty} {a : A} {l : List A} {x : τ.Den} {l' : List A} {f : List Nat} {vs : List Value}, τ.isAgg = false →
      ((oneVal look τ a).map fun (x, f) => (x, l, f)) = some (x, l', f) → RepL w S β (a :: l) vs → (∀ o, o ∈ f → ∀ e τ' xs fz, look o = some (.arr e τ' xs fz) → RepV w S (.slice τ') xs (β o)) →
      ∃ us ws, vs = us ++ ws ∧ us.length = τ.size ∧ Rep w S τ x (fun i => us[i]?) ∧ RepL w S β l' ws := by
    intro τ a l x l' f vs hτ h hl hf
    cases ho : oneVal look τ a with
    | none => rw [ho] at h; cases h
    | some p =>
      obtain ⟨y, g⟩ := p
      rw [ho] at h
      simp only [Option.map_some, Option.some.injEq, Prod.mk.injEq] at h
      obtain ⟨rfl, rfl, rfl⟩ := h
      obtain ⟨v, vs, rfl, h1, h2⟩ := hl.uncons
      refine ⟨[v], vs, rfl, by simp [Ty.size_pos hτ], (oneVal_one ho hτ h1 hf).congr fun i hi => ?_, h2⟩
      rw [Ty.size_pos hτ] at hi
      obtain rfl : i = 0 := by omega
      simp
  intro τ
  induction τ with
  | unit =>
    intro l x l' f vs h hl hf
    simp only [pack, Option.some.injEq, Prod.mk.injEq] at h
    obtain ⟨_, rfl, rfl⟩ := h
    exact ⟨[], vs, rfl, rfl, trivial, hl⟩
  | pair a b iha ihb =>
    intro l x l' f vs h hl hf
    simp only [pack] at h
    cases h1 : pack look a l with
    | none => rw [h1] at h; cases h
    | some p =>
      obtain ⟨y, l1, f1⟩ := p
      rw [h1] at h
      simp only at h
      cases h2 : pack look b l1 with
      | none => rw [h2] at h; cases h
      | some q =>
        obtain ⟨z, l2, f2⟩ := q
        rw [h2] at h
        simp only [Option.some.injEq, Prod.mk.injEq] at h
        obtain ⟨rfl, rfl, rfl⟩ := h
        obtain ⟨us, ws, rfl, hu, hr, hl1⟩ := iha h1 hl fun o ho => hf o (by simp [ho])
        obtain ⟨us', ws', rfl, hu', hr', hl2⟩ := ihb h2 hl1 fun o ho => hf o (by simp [ho])
        refine ⟨us ++ us', ws', by simp, by simp [hu, hu', Ty.size], ⟨hr.congr fun i hi => ?_, hr'.congr fun i hi => ?_⟩, hl2⟩
        · rw [List.getElem?_append_left (by omega)]
        · show us'[i]? = (us ++ us')[a.size + i]?
          rw [List.getElem?_append_right (by omega), hu, Nat.add_sub_cancel_left]
  | int k => intro l x l' f vs h hl hf; cases l with
    | nil => simp [pack] at h
    | cons a l => exact one rfl h hl hf
  | bool => intro l x l' f vs h hl hf; cases l with
    | nil => simp [pack] at h
    | cons a l => exact one rfl h hl hf
  | str => intro l x l' f vs h hl hf; cases l with
    | nil => simp [pack] at h
    | cons a l => exact one rfl h hl hf
  | slice e => intro l x l' f vs h hl hf; cases l with
    | nil => simp [pack] at h
    | cons a l => exact one rfl h hl hf

theorem toVal_ok {w : World} {S : Nat → Prop} {β : Nat → Value} {look : Nat → Option O} {τ : Ty} {a : A} {x : τ.Den} {f : List Nat} {v : Value}
    (h : toVal look τ a = some (x, f)) (ha : RepA w S β a v)
    (hf : ∀ o, o ∈ f → ∀ e τ' xs fz, look o = some (.arr e τ' xs fz) → RepV w S (.slice τ') xs (β o)) : RepV w S τ x v := by
  cases a with
  | val τ' y => exact oneVal_ok (look := look) (a := .val τ' y) h ha hf
  | agg cs =>
    simp only [toVal] at h
    split at h
    · rename_i x' f' hp
      split at h
      · rename_i hτ
        simp only [Option.some.injEq, Prod.mk.injEq] at h
        obtain ⟨rfl, rfl⟩ := h
        cases ha with
        | @agg _ vs hl h1 h2 =>
          obtain ⟨us, ws, rfl, hu, hr, hl'⟩ := pack_ok hp ⟨hl, h2⟩ hf
          obtain rfl := hl'.of_nil
          refine ⟨hr.congr fun i hi => by simp [Value.cells], by simp [Value.cells, hu], ?_⟩
          simp only [hτ, true_iff]
          exact ⟨_, rfl⟩
      · cases h
    · cases h
  | undef => exact oneVal_ok (look := look) (a := .undef) h ha hf
  | nil => exact oneVal_ok (look := look) (a := .nil) h ha hf
  | emp => exact oneVal_ok (look := look) (a := .emp) h ha hf
  | ref o => exact oneVal_ok (look := look) (a := .ref o) h ha hf
  | pel o i sz off => exact oneVal_ok (look := look) (a := .pel o i sz off) h ha hf
  | pst τ' y off => exact oneVal_ok (look := look) (a := .pst τ' y off) h ha hf
  | pcs cs off => exact oneVal_ok (look := look) (a := .pcs cs off) h ha hf
  | pbox o off => exact oneVal_ok (look := look) (a := .pbox o off) h ha hf
  | mapr o => exact oneVal_ok (look := look) (a := .mapr o) h ha hf
  | glob g => exact oneVal_ok (look := look) (a := .glob g) h ha hf
  | clo g cs => exact oneVal_ok (look := look) (a := .clo g cs) h ha hf
  | tup cs => exact oneVal_ok (look := look) (a := .tup cs) h ha hf

theorem ofCells_ok {w : World} {S : Nat → Prop} {β : Nat → Value} {agg : Bool} {τ : Option Ty} {cs : List A} {a : A} {vs : List Value}
    (h : ofCells agg τ cs = some a) (hl : RepL w S β cs vs) (h1 : ∀ u ∈ vs, u.oneCell' = true) :
    (agg = true → RepA w S β a (.agg vs.toArray)) ∧ (agg = false → ∃ v, vs = [v] ∧ RepA w S β a v) := by
  cases agg with
  | true =>
    refine ⟨fun _ => ?_, (fun h => by cases h)⟩
    have hagg : RepA w S β (.agg cs) (.agg vs.toArray) := .agg hl.1 h1 hl.2
    simp only [ofCells, if_true] at h
    cases τ with
    | none =>
      simp only [Option.some.injEq] at h
      subst h
      exact hagg
    | some τ =>
      simp only at h
      split at h
      · rename_i x hp
        split at h
        · rename_i hτ
          simp only [Option.some.injEq] at h
          subst h
          obtain ⟨us, ws, rfl, hu, hr, hl'⟩ := pack_ok hp hl (fun o ho => by simp at ho)
          obtain rfl := hl'.of_nil
          refine .val ⟨hr.congr fun i hi => by simp [Value.cells], by simp [Value.cells, hu], ?_⟩
          simp only [hτ, true_iff]
          exact ⟨_, rfl⟩
        · simp only [Option.some.injEq] at h
          subst h
          exact hagg
      · simp only [Option.some.injEq] at h
        subst h
        exact hagg
  | false =>
    refine ⟨(fun h => by cases h), fun _ => ?_⟩
    simp only [ofCells] at h
    match cs, h, hl with
    | [b], h, hl =>
      simp only [Bool.false_eq_true, if_false, Option.some.injEq] at h
      subst h
      obtain ⟨v, vs, rfl, h2, h3⟩ := hl.uncons
      obtain rfl := h3.of_nil
      exact ⟨v, rfl, h2⟩
    | [], h, hl => simp at h
    | _ :: _ :: _, h, hl => simp at h

end Go.Proofs.YtcbeifkfllcjoaaDoor
