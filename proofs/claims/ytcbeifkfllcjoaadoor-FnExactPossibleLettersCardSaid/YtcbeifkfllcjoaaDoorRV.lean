/-
  Running code; calls as wholes.
-/
import Derived.Test.YtcbeifkfllcjoaaDoorRU
set_option linter.unusedVariables false
set_option linter.unusedSimpArgs false
namespace Go.Proofs.YtcbeifkfllcjoaaDoor

/-- at a loop's head: one step on -/
def nrm : List Item → List Item
  | .inLoop c :: k => .code c :: .inLoop c :: k
  | .code (.loop c) :: k => .code c :: .inLoop c :: k
  | t => t

theorem nrm_steps (P : Program) (t k : List Item) (a : Act) (w : World) (b : Frame) (cs : List Frame) : Steps P (lone (b.at a (t ++ k)) cs w) (lone (b.at a (nrm t ++ k)) cs w) := by
  unfold nrm
  split
  · exact .one step_inLoop
  · exact .one step_loop
  · exact .refl _ _

/-- from one place of a body and one state to another -/
def Reach (C : Ctx) (c c' : Cfg) : Prop :=
  Inv C c.st → Inv C c'.st ∧ ∀ a w, StR C c.st.fs a w → ∀ (b : Frame) (k : List Item) (cs : List Frame), ∃ a' w', StR C c'.st.fs a' w' ∧ Steps C.P (lone (b.at a (nrm c.todo ++ k)) cs w) (lone (b.at a' (nrm c'.todo ++ k)) cs w')

theorem Reach.refl (C : Ctx) (c : Cfg) : Reach C c c := fun hi => ⟨hi, fun a w hst b k cs => ⟨a, w, hst, Steps.refl _ _⟩⟩

theorem Reach.trans {C : Ctx} {c c' c'' : Cfg} (h : Reach C c c') (h' : Reach C c' c'') : Reach C c c'' := fun hi => by
  obtain ⟨hi1, h1⟩ := h hi
  obtain ⟨hi2, h2⟩ := h' hi1
  refine ⟨hi2, fun a w hst b k cs => ?_⟩
  obtain ⟨a1, w1, hst1, s1⟩ := h1 a w hst b k cs
  obtain ⟨a2, w2, hst2, s2⟩ := h2 a1 w1 hst1 b k cs
  exact ⟨a2, w2, hst2, s1.trans s2⟩

theorem Reach.step {C : Ctx} {c c' : Cfg} {todo : List Item} (h : ∀ a w (b : Frame) k cs, StR C c.st.fs a w → step C.P (lone (b.at a (nrm c.todo ++ k)) cs w) = .next (lone (b.at a (todo ++ k)) cs w)) (h' : Reach C ⟨todo, c.st⟩ c') : Reach C c c' := fun hi => by
  obtain ⟨hi1, h1⟩ := h' hi
  refine ⟨hi1, fun a w hst b k cs => ?_⟩
  obtain ⟨a1, w1, hst1, s1⟩ := h1 a w hst b k cs
  exact ⟨a1, w1, hst1, .head (h a w b k cs hst) ((nrm_steps _ _ _ _ _ _ _).trans s1)⟩

theorem exitTo_append {id : Nat} : ∀ {t t' : List Item} (k : List Item), exitTo id t = some t' → exitTo id (t ++ k) = some (t' ++ k) := by
  intro t
  induction t with
  | nil => intro t' k h; simp [exitTo] at h
  | cons x t ih =>
    intro t' k h
    cases x with
    | inBlock i =>
      simp only [exitTo, List.cons_append] at h ⊢
      split at h
      · rename_i hc
        injection h with h
        subst h
        rw [if_pos hc]
      · rename_i hc
        rw [if_neg hc]
        exact ih k h
    | _ => simp only [exitTo, List.cons_append] at h ⊢; exact ih k h

theorem inLoop_reach {C : Ctx} {c : Code} {k : List Item} {st : St} {c' : Cfg} (h : Reach C ⟨.code c :: .inLoop c :: k, st⟩ c') : Reach C ⟨.inLoop c :: k, st⟩ c' := fun hi => by
  obtain ⟨hi1, h1⟩ := h hi
  refine ⟨hi1, fun a w hst b kk cs => ?_⟩
  obtain ⟨a1, w1, hst1, s1⟩ := h1 a w hst b kk cs
  exact ⟨a1, w1, hst1, (nrm_steps C.P (.code c :: .inLoop c :: k) kk a w b cs).trans s1⟩

theorem adopt_ok {C : Ctx} : ∀ {nils : List (Nat × TypeId × Ty)} {st st' : St}, adoptSt nils st = some st' → Inv C st → Inv C st' ∧ ∀ a w, StR C st.fs a w → StR C st'.fs a w := by
  intro nils
  induction nils with
  | nil => intro st st' h hi; simp only [adoptSt, Option.some.injEq] at h; subst h; exact ⟨hi, fun a w h => h⟩
  | cons p nils ih =>
    intro st st' h hi
    obtain ⟨t, e, τ⟩ := p
    simp only [adoptSt] at h
    split at h
    · rename_i hnil
      split at h
      · rename_i hpos
        have hget : ∀ q, (st.env.set t (.ref st.next)).getD q .undef = if q = t ∧ t < st.env.length then .ref st.next else st.env.getD q .undef := by
          intro q
          rw [List.getD_eq_getElem?_getD, List.getElem?_set, List.getD_eq_getElem?_getD]
          by_cases hq : t = q
          · subst hq
            by_cases hlt : t < st.env.length
            · rw [if_pos rfl, if_pos hlt, if_pos ⟨rfl, hlt⟩]; rfl
            · rw [if_pos rfl, if_neg hlt, if_neg (fun h => hlt h.2), List.getElem?_eq_none (by omega)]
          · rw [if_neg hq, if_neg (fun h => hq h.1.symm)]
        have hlook : ∀ k, lookO ((st.next, .arr e τ [] false) :: st.objs) k = if st.next = k then some (.arr e τ [] false) else lookO st.objs k := fun k => rfl
        have hfree : lookO st.objs st.next = none := by
          cases hq : lookO st.objs st.next with
          | none => rfl
          | some y => exact absurd (hi.used st.next (.inr (.inl (by simp [St.fs, hq])))) (Nat.lt_irrefl _)
        have hi1 : Inv C { st with env := st.env.set t (.ref st.next), objs := (st.next, .arr e τ [] false) :: st.objs, next := st.next + 1 } := by
          refine ⟨by simp [hi.len], hi.np, by have := hi.le; simp only; omega, ?_⟩
          rintro k (⟨q, hq⟩ | hk | ⟨o, y, hy, hk⟩)
          · simp only [St.fs, hget] at hq
            split at hq
            · simp only [A.ids, List.mem_singleton] at hq
              simp only
              omega
            · have := hi.used k (.inl ⟨q, hq⟩)
              simp only
              omega
          · simp only [St.fs, hlook] at hk
            split at hk
            · simp only
              omega
            · have := hi.used k (.inr (.inl hk))
              simp only
              omega
          · simp only [St.fs, hlook] at hy
            split at hy
            · injection hy with hy
              subst hy
              simp [O.ids] at hk
            · have := hi.used k (.inr (.inr ⟨o, y, hy, hk⟩))
              simp only
              omega
        obtain ⟨hi2, h2⟩ := ih h hi1
        refine ⟨hi2, fun a w hst => h2 a w ?_⟩
        obtain ⟨S, β, hg, he, hd, hsz, hm, hβ⟩ := hst
        have hx : RepO C.B w S (newβ β st.next (.slice none 0 0)) (.slice none 0 0) (.arr e τ [] false) := ⟨[], rowAt_of_owns (World.ownsRow_nil w C.B e τ.size), hpos, fun j h => by simp at h⟩
        have hnot : ∀ o y, lookO st.objs o = some y → st.next ∉ y.ids := fun o y hy hm => absurd (hi.used st.next (.inr (.inr ⟨o, y, hy, hm⟩))) (Nat.lt_irrefl _)
        obtain ⟨g', c'⟩ := hg.new (w' := w) (fid := st.next) (k := none) (v := .slice none 0 0) (x := .arr e τ [] false) (Nat.le_refl _) rfl rfl rfl (fun _ _ _ => rfl) (fun o h => by cases h) hfree hnot hx rfl (fun b hb => by cases hb)
        have hH : (St.fs { st with env := st.env.set t (.ref st.next), objs := (st.next, .arr e τ [] false) :: st.objs, next := st.next + 1 }).2 = newH st.fs.2 none st.next (.arr e τ [] false) := by
          funext k
          simp only [St.fs, hlook, newH]
          by_cases hk : k = st.next
          · rw [if_pos hk.symm, if_pos hk]
          · rw [if_neg (fun e => hk e.symm), if_neg hk]
            simp
        refine ⟨S, newβ β st.next (.slice none 0 0), by rw [hH]; exact g', fun q => ?_, hd, hsz, by rw [hH]; exact hm.trans c'.mov, fun o ho => ?_⟩
        · simp only [St.fs, hget]
          split
          · rename_i hq
            have hv : a.tmps.getD q undef = .slice none 0 0 := by
              have := he q
              rw [hq.1] at this ⊢
              simp only [St.fs] at this
              rw [hnil] at this
              exact inv_nil this
            rw [hv]
            have hβn : newβ β st.next (.slice none 0 0) st.next = .slice none 0 0 := if_pos rfl
            have := RepA.ref (w := w) (S := S) (β := newβ β st.next (.slice none 0 0)) (o := st.next) (by rw [hβn]; rfl)
            rw [hβn] at this
            exact this
          · refine (he q).mono (fun _ h => h) (fun _ _ => rfl) fun o ho => if_neg fun (e : o = st.next) => ?_
            exact absurd (hi.used o (.inl ⟨q, ho⟩)) (by rw [e]; exact Nat.lt_irrefl _)
        · rw [show newβ β st.next (.slice none 0 0) o = β o from if_neg (by have := hi.le; omega)]
          exact hβ o ho
      · cases h
    · exact ih h hi

theorem data_ok {C : Ctx} : ∀ {l : List (Nat × Ty)} {st st' : St}, dataSt l st = some st' → Inv C st → Inv C st' ∧ ∀ a w, StR C st.fs a w → StR C st'.fs a w := by
  intro l
  induction l with
  | nil => intro st st' h hi; simp only [dataSt, Option.some.injEq] at h; subst h; exact ⟨hi, fun a w h => h⟩
  | cons p l ih =>
    intro st st' h hi
    obtain ⟨t, τ⟩ := p
    simp only [dataSt] at h
    split at h
    · rename_i x f hx
      have hget : ∀ q, (st.env.set t (.val τ x)).getD q .undef = if q = t ∧ t < st.env.length then .val τ x else st.env.getD q .undef := by
        intro q
        rw [List.getD_eq_getElem?_getD, List.getElem?_set, List.getD_eq_getElem?_getD]
        by_cases hq : t = q
        · subst hq
          by_cases hlt : t < st.env.length
          · rw [if_pos rfl, if_pos hlt, if_pos ⟨rfl, hlt⟩]; rfl
          · rw [if_pos rfl, if_neg hlt, if_neg (fun h => hlt h.2), List.getElem?_eq_none (by omega)]
        · rw [if_neg hq, if_neg (fun h => hq h.1.symm)]
      have hH : lookO (putO st.objs (freezeU (lookO st.objs) f)) = updH (lookO st.objs) (freezeU (lookO st.objs) f) := by
        funext k
        rw [lookO_putO]
      have hfz : (∀ o, lookO st.objs o = none → updH (lookO st.objs) (freezeU (lookO st.objs) f) o = none) ∧ (∀ o y, updH (lookO st.objs) (freezeU (lookO st.objs) f) o = some y → ∃ y0, lookO st.objs o = some y0 ∧ y.ids = y0.ids) := by
        exact freezeU_old (lookO st.objs) f (lookO st.objs) fun o x h => ⟨x, h, rfl⟩
      have hi1 : Inv C { st with env := st.env.set t (.val τ x), objs := putO st.objs (freezeU (lookO st.objs) f) } := by
        refine ⟨by simp [hi.len], hi.np, hi.le, ?_⟩
        rintro k (⟨q, hq⟩ | hk | ⟨o, y, hy, hk⟩)
        · simp only [St.fs, hget] at hq
          split at hq
          · simp [A.ids] at hq
          · exact hi.used k (.inl ⟨q, hq⟩)
        · refine hi.used k (.inr (.inl fun hn => hk ?_))
          simp only [St.fs, hH] at hn ⊢
          exact hfz.1 k hn
        · simp only [St.fs, hH] at hy
          obtain ⟨y0, h1, h2⟩ := hfz.2 o y hy
          exact hi.used k (.inr (.inr ⟨o, y0, h1, by rw [← h2]; exact hk⟩))
      obtain ⟨hi2, h2⟩ := ih h hi1
      refine ⟨hi2, fun a w hst => h2 a w ?_⟩
      obtain ⟨S, β, hg, he, hd, hsz, hm, hβ⟩ := hst
      obtain ⟨S1, g1, c1, hS1, hv1, _, _⟩ := freezeVals (w := w) (β := β) hg (fun o x h => h) st.next f
      refine ⟨S1, β, by simp only [St.fs, hH]; exact g1, fun q => ?_, hd, hsz, by simp only [St.fs, hH]; exact hm.trans c1.mov, hβ⟩
      have hqm : RepA w S1 β (st.fs.1 q) (a.tmps.getD q undef) := (he q).mono hS1 (fun _ _ => rfl) fun _ _ => rfl
      simp only [St.fs, hget]
      split
      · rename_i hq
        have := toVal_ok (w := w) (S := S1) (β := β) hx (by have := hqm; rw [hq.1] at this; exact this) (fun o ho e τ' xs fz hl => hv1 o ho e τ' xs fz hl)
        rw [hq.1]
        exact .val this
      · exact hqm
    · cases h

theorem cnil_ok {C : Ctx} {o i : Nat} {e : TypeId} {τ : Ty} {st st' : St} (h : fixSt (.cnil o i e τ) st = some st') (hi : Inv C st) : Inv C st' ∧ ∀ a w, StR C st.fs a w → StR C st'.fs a w := by
  simp only [fixSt] at h
  split at h
  · rename_i u cs hlk
    split at h
    · rename_i hnil
      split at h
      · rename_i hpos
        injection h with h
        subst h
        have hne : o ≠ st.next := fun e => absurd (hi.used o (.inr (.inl (by simp [St.fs, hlk])))) (by rw [e]; exact Nat.lt_irrefl _)
        have hH : lookO (putO st.objs [(st.next, some (.arr e τ [] false)), (o, some (.box u (cs.set i (.ref st.next)) false))]) = upd1 (newH (lookO st.objs) none st.next (.arr e τ [] false)) o (some (.box u (cs.set i (.ref st.next)) false)) := by
          funext k
          rw [lookO_putO]
          simp only [updH, upd1, newH]
          by_cases h1 : k = o
          · rw [if_pos h1, if_pos h1]
          · rw [if_neg h1, if_neg h1]
            by_cases h2 : k = st.next
            · rw [if_pos h2, if_pos h2]
            · rw [if_neg h2, if_neg h2]
              simp
        have hfree : lookO st.objs st.next = none := by
          cases hq : lookO st.objs st.next with
          | none => rfl
          | some y => exact absurd (hi.used st.next (.inr (.inl (by simp [St.fs, hq])))) (Nat.lt_irrefl _)
        have hnot : ∀ o y, lookO st.objs o = some y → st.next ∉ y.ids := fun o y hy hm => absurd (hi.used st.next (.inr (.inr ⟨o, y, hy, hm⟩))) (Nat.lt_irrefl _)
        have hids : ∀ (l : List A) (i k : Nat), k ∈ idsL (l.set i (.ref st.next)) → k ∈ idsL l ∨ k = st.next := by
          intro l
          induction l with
          | nil => intro i k h; simp [idsL] at h
          | cons a l ih =>
            intro i k h
            cases i with
            | zero =>
              simp only [List.set_cons_zero, idsL, A.ids, List.mem_append, List.mem_singleton] at h ⊢
              rcases h with h | h
              · exact .inr h
              · exact .inl (.inr h)
            | succ i =>
              simp only [List.set_cons_succ, idsL, List.mem_append] at h ⊢
              rcases h with h | h
              · exact .inl (.inl h)
              · rcases ih i k h with h | h
                · exact .inl (.inr h)
                · exact .inr h
        refine ⟨⟨hi.len, hi.np, by have := hi.le; simp only; omega, ?_⟩, fun a w hst => ?_⟩
        · rintro k (⟨q, hq⟩ | hk | ⟨o', y, hy, hk⟩)
          · have := hi.used k (.inl ⟨q, hq⟩)
            simp only
            omega
          · simp only [St.fs, hH, upd1, newH] at hk
            split at hk
            · rename_i h1
              have := hi.used o (.inr (.inl (by simp [St.fs, hlk])))
              simp only
              omega
            · split at hk
              · simp only
                omega
              · have := hi.used k (.inr (.inl (by simpa [St.fs] using hk)))
                simp only
                omega
          · simp only [St.fs, hH, upd1, newH] at hy
            split at hy
            · injection hy with hy
              subst hy
              simp only [O.ids] at hk
              rcases hids cs i k hk with h | h
              · have := hi.used k (.inr (.inr ⟨o, _, hlk, h⟩))
                simp only
                omega
              · simp only
                omega
            · split at hy
              · injection hy with hy
                subst hy
                simp [O.ids] at hk
              · have := hi.used k (.inr (.inr ⟨o', y, by simpa [St.fs] using hy, hk⟩))
                simp only
                omega
        · obtain ⟨S, β, hg, he, hd, hsz, hm, hβ⟩ := hst
          have hx : RepO C.B w S (newβ β st.next (.slice none 0 0)) (.slice none 0 0) (.arr e τ [] false) := ⟨[], rowAt_of_owns (World.ownsRow_nil w C.B e τ.size), hpos, fun j h => by simp at h⟩
          obtain ⟨g', c'⟩ := hg.new (w' := w) (fid := st.next) (k := none) (v := .slice none 0 0) (x := .arr e τ [] false) (Nat.le_refl _) rfl rfl rfl (fun _ _ _ => rfl) (fun o h => by cases h) hfree hnot hx rfl (fun b hb => by cases hb)
          have hbn : newβ β st.next (.slice none 0 0) o = β o := if_neg hne
          have hlk1 : newH st.fs.2 none st.next (.arr e τ [] false) o = some (.box u cs false) := by
            simp only [newH]
            rw [if_neg hne, if_neg (by simp)]
            exact hlk
          obtain ⟨b, vs, hv, hB, hh, hrl, hv1⟩ := g'.rep hlk1
          have hkey : RepL w S (newβ β st.next (.slice none 0 0)) (cs.set i (.ref st.next)) vs := by
            refine ⟨by rw [List.length_set]; exact hrl.1, fun j hj hj' => ?_⟩
            rw [List.length_set] at hj
            have hj2 := hrl.2 j hj hj'
            by_cases hij : i = j
            · subst hij
              rw [List.getElem_set_self]
              have hnil' : cs[i] = .nil := by
                rw [← hnil, List.getD_eq_getElem?_getD, List.getElem?_eq_getElem hj]
                rfl
              rw [hnil'] at hj2
              have hvn := inv_nil hj2
              rw [hvn]
              have hβn : newβ β st.next (.slice none 0 0) st.next = .slice none 0 0 := if_pos rfl
              have := RepA.ref (w := w) (S := S) (β := newβ β st.next (.slice none 0 0)) (o := st.next) (by rw [hβn]; rfl)
              rw [hβn] at this
              exact this
            · rw [List.getElem_set_ne hij]
              exact hj2
          obtain ⟨g2, c2⟩ := g'.put (w' := w) st.next hlk1 rfl (x := .box u (cs.set i (.ref st.next)) false) rfl rfl rfl rfl rfl (fun _ _ => rfl) ⟨b, vs, hv, hB, hh, hkey, hv1⟩
          refine ⟨S, newβ β st.next (.slice none 0 0), by simp only [St.fs, hH]; exact g2, fun q => ?_, hd, hsz, by simp only [St.fs, hH]; exact (hm.trans c'.mov).trans c2.mov, fun o' ho => ?_⟩
          · refine (he q).mono (fun _ h => h) (fun _ _ => rfl) fun o' ho => if_neg fun (e : o' = st.next) => ?_
            exact absurd (hi.used o' (.inl ⟨q, ho⟩)) (by rw [e]; exact Nat.lt_irrefl _)
          · rw [show newβ β st.next (.slice none 0 0) o' = β o' from if_neg (by have := hi.le; omega)]
            exact hβ o' ho
      · cases h
    · cases h
  · cases h

theorem cdata_ok {C : Ctx} {o i : Nat} {τ : Ty} {st st' : St} (h : fixSt (.cdata o i τ) st = some st') (hi : Inv C st) : Inv C st' ∧ ∀ a w, StR C st.fs a w → StR C st'.fs a w := by
  simp only [fixSt] at h
  split at h
  · rename_i u cs hlk
    split at h
    · rename_i x f hx
      split at h
      · cases h
      · rename_i hcond
        simp only [Bool.or_eq_true, not_or, decide_eq_true_eq] at hcond
        obtain ⟨⟨hof, hag⟩, hlen⟩ := hcond
        injection h with h
        subst h
        have hof' : o ∉ f := fun hm => hof ((hasN_iff f o).2 hm)
        have hH : lookO (putO st.objs (freezeU (lookO st.objs) f ++ [(o, some (.box u (cs.set i (.val τ x)) false))])) = upd1 (updH (lookO st.objs) (freezeU (lookO st.objs) f)) o (some (.box u (cs.set i (.val τ x)) false)) := by
          funext k
          rw [lookO_putO, updH_append]
          rfl
        have hfz := freezeU_old (lookO st.objs) f (lookO st.objs) fun o x h => ⟨x, h, rfl⟩
        have hids : ∀ (l : List A) (i k : Nat), k ∈ idsL (l.set i (.val τ x)) → k ∈ idsL l := by
          intro l
          induction l with
          | nil => intro i k h; simp [idsL] at h
          | cons a l ih =>
            intro i k h
            cases i with
            | zero =>
              simp only [List.set_cons_zero, idsL, A.ids, List.nil_append, List.mem_append] at h ⊢
              exact .inr h
            | succ i =>
              simp only [List.set_cons_succ, idsL, List.mem_append] at h ⊢
              exact h.imp id (ih i k)
        refine ⟨⟨hi.len, hi.np, hi.le, ?_⟩, fun a w hst => ?_⟩
        · rintro k (⟨q, hq⟩ | hk | ⟨o', y, hy, hk⟩)
          · exact hi.used k (.inl ⟨q, hq⟩)
          · simp only [St.fs, hH, upd1] at hk
            split at hk
            · rename_i h1
              exact hi.used k (.inr (.inl (by simp [St.fs, h1, hlk])))
            · exact hi.used k (.inr (.inl fun hn => hk (hfz.1 k (by simpa [St.fs] using hn))))
          · simp only [St.fs, hH, upd1] at hy
            split at hy
            · injection hy with hy
              subst hy
              exact hi.used k (.inr (.inr ⟨o, _, hlk, hids cs i k hk⟩))
            · obtain ⟨y0, h1, h2⟩ := hfz.2 o' y hy
              exact hi.used k (.inr (.inr ⟨o', y0, h1, by rw [← h2]; exact hk⟩))
        · obtain ⟨S, β, hg, he, hd, hsz, hm, hβ⟩ := hst
          obtain ⟨S1, g1, c1, hS1, hv1, _, _⟩ := freezeVals (w := w) (β := β) hg (fun o x h => h) st.next f
          have hlk1 : updH (lookO st.objs) (freezeU (lookO st.objs) f) o = some (.box u cs false) := by rw [updH_freeze_ne _ _ _ hof']; exact hlk
          obtain ⟨b, vs, hv, hB, hh, hrl, hv2⟩ := g1.rep hlk1
          have hkey : RepL w S1 β (cs.set i (.val τ x)) vs := by
            refine ⟨by rw [List.length_set]; exact hrl.1, fun j hj hj' => ?_⟩
            rw [List.length_set] at hj
            have hj2 := hrl.2 j hj hj'
            by_cases hij : i = j
            · subst hij
              rw [List.getElem_set_self]
              refine .val (toVal_ok hx ?_ (fun o ho e τ' xs fz hl => hv1 o ho e τ' xs fz hl))
              rw [List.getD_eq_getElem?_getD, List.getElem?_eq_getElem hj]
              exact hj2
            · rw [List.getElem_set_ne hij]
              exact hj2
          obtain ⟨g2, c2⟩ := g1.put (w' := w) st.next hlk1 rfl (x := .box u (cs.set i (.val τ x)) false) rfl rfl rfl rfl rfl (fun _ _ => rfl) ⟨b, vs, hv, hB, hh, hkey, hv2⟩
          refine ⟨S1, β, by simp only [St.fs, hH]; exact g2, fun q => ?_, hd, hsz, by simp only [St.fs, hH]; exact (hm.trans c1.mov).trans c2.mov, hβ⟩
          exact (he q).mono hS1 (fun _ _ => rfl) fun _ _ => rfl
    · cases h
  · cases h

theorem fix_ok {C : Ctx} {f : Fix} {st st' : St} (h : fixSt f st = some st') (hi : Inv C st) : Inv C st' ∧ ∀ a w, StR C st.fs a w → StR C st'.fs a w := by
  cases f with
  | nil t e τ => exact adopt_ok h hi
  | data t τ => exact data_ok h hi
  | cnil o i e τ => exact cnil_ok h hi
  | cdata o i τ => exact cdata_ok h hi

theorem tidy_ok {C : Ctx} : ∀ {fx : List Fix} {st st' : St}, tidySt fx st = some st' → Inv C st → Inv C st' ∧ ∀ a w, StR C st.fs a w → StR C st'.fs a w := by
  intro fx
  induction fx with
  | nil => intro st st' h hi; simp only [tidySt, Option.some.injEq] at h; subst h; exact ⟨hi, fun a w h => h⟩
  | cons f fx ih =>
    intro st st' h hi
    simp only [tidySt] at h
    split at h
    · rename_i st1 h1
      obtain ⟨hi1, k1⟩ := fix_ok h1 hi
      obtain ⟨hi2, k2⟩ := ih h hi1
      exact ⟨hi2, fun a w hst => k2 a w (k1 a w hst)⟩
    · cases h

theorem adopt_reach {C : Ctx} {fx : List Fix} {st st' : St} {todo : List Item} (h : tidySt fx st = some st') : Reach C ⟨todo, st⟩ ⟨todo, st'⟩ := fun hi => by
  obtain ⟨hi1, h1⟩ := tidy_ok h hi
  exact ⟨hi1, fun a w hst b k cs => ⟨a, w, h1 a w hst, Steps.refl _ _⟩⟩

theorem exec_ok {C : Ctx} {run : Runner} (hrun : RunOk C.P C.B C.W0 run) (hm : C.P.follows .mixedOrders = true) : ∀ {n : Nat} {s : List Scr} {c : Cfg} {r : ExecOut}, execN C.P run n s c = some r → (∀ p ∈ r.props, p) → (∀ c ∈ r.calls, CallOb.Holds C.P C.B C.W0 c) → Reach C c r.cfg := by
  intro n
  induction n with
  | zero => intro s c r h; simp [execN] at h
  | succ n ih =>
    intro s c r h hp hc
    obtain ⟨todo, st⟩ := c
    unfold execN at h
    simp only at h
    split at h
    · split at h
      · split at h
        · rename_i hst
          injection h with h
          subst h
          exact adopt_reach hst
        · cases h
      · injection h with h
        subst h
        exact Reach.refl _ _
    · split at h
      · split at h
        · rename_i hst
          injection h with h
          subst h
          exact adopt_reach hst
        · cases h
      · injection h with h
        subst h
        exact Reach.refl _ _
    · exact Reach.step (fun a w b k cs _ => step_skip) (ih h hp hc)
    · exact Reach.step (fun a w b k cs _ => step_inBlock) (ih h hp hc)
    · exact Reach.step (fun a w b k cs _ => step_seq) (ih h hp hc)
    · exact Reach.step (fun a w b k cs _ => step_block) (ih h hp hc)
    · rename_i c k
      exact (ih h hp hc : Reach C ⟨.inLoop c :: k, st⟩ r.cfg)
    · rename_i c k
      split at h
      · rename_i fx live objs rest
        split at h
        · rename_i st1 hst1
          split at h
          · rename_i st' hcan
            injection h with h
            subst h
            refine (adopt_reach hst1).trans ?_
            intro hi
            obtain ⟨hi1, h1⟩ := canon_ok hcan hi
            exact ⟨hi1, fun a w hst b k' cs => ⟨a, w, (h1 a w hst).1, Steps.refl _ _⟩⟩
          · cases h
        · cases h
      · exact inLoop_reach (ih h hp hc)
      · exact inLoop_reach (ih h hp hc)
    · rename_i id k
      split at h
      · rename_i k' hk
        exact Reach.step (fun a w b kk cs _ => step_exit (exitTo_append (t := k) (t' := k') kk hk)) (ih h hp hc)
      · cases h
    · rename_i c x y k
      split at h
      · rename_i q hq
        have hcond : ∀ a w, StR C st.fs a w → a.eval c = .bool q := by
          intro a w hst
          obtain ⟨S, β, hg, he, _⟩ := hst
          have := eval_repA (env := st.env) (s' := st.fs.1) he c fun t _ => rfl
          rw [hq] at this
          exact inv_bool this
        split at h
        · rename_i d rest
          split at h
          · rename_i r' hr
            injection h with h
            subst h
            have hqd : q = d := okP (l := decide (q = d) :: r'.props) hp (by simp)
            have h2 : Reach C ⟨.code (if d = true then x else y) :: k, st⟩ r'.cfg := ih hr (fun p hpm => hp p (List.mem_cons_of_mem _ hpm)) hc
            exact Reach.step (fun a w b kk cs hst => step_cond (t := d) (by rw [hcond a w hst, hqd])) h2
          · cases h
        · exact Reach.step (fun a w b kk cs hst => step_cond (t := q) (hcond a w hst)) (ih h hp hc)
      · cases h
    · rename_i id ops draw k
      split at h
      · split at h
        · rename_i hst1
          exact (adopt_reach hst1).trans (ih h hp hc)
        · cases h
      split at h
      · cases h
      · rename_i r1 hr1
        split at h
        · rename_i x hx
          injection h with h
          subst h
          intro hi
          obtain ⟨h1, hi1⟩ := region_ok (id := id) hrun hm hr1 (fun p hpm => hp p (List.mem_append_left _ hpm)) (fun c hcm => hc c (List.mem_append_left _ hcm)) hi
          obtain ⟨hi2, h2⟩ := ih hx (fun p hpm => hp p (List.mem_append_right _ hpm)) (fun c hcm => hc c (List.mem_append_right _ hcm)) hi1
          refine ⟨hi2, fun a w hst b k' cs => ?_⟩
          obtain ⟨e, a1, w1, ⟨rfl, hst1⟩, harr⟩ := h1 a w hst b (k ++ k') cs
          obtain ⟨a2, w2, hst2, s2⟩ := h2 a1 w1 hst1 b k' cs
          exact ⟨a2, w2, hst2, Steps.trans harr ((nrm_steps C.P k k' a1 w1 b cs).trans s2)⟩
        · cases h
    · cases h

/-! ### Calls as wholes -/
theorem resK_ok {P : Program} {B W0 w S β} {st : St} {a : Act} (g : Good B W0 w S β st.fs.2) (he : ∀ t, RepA w S β (st.fs.1 t) (a.tmps.getD t undef)) : ∀ {l : List ResultVar} {r : List A}, resK P st l = some r →
    ∃ vs : List Value, RepL w S β r vs ∧ (l.mapM (fun | ResultVar.tmp t => (pure (a.tmps.getD t undef) : Sem Value) | .cell x t => do loadVar t (← asAddr (a.tmps.getD x undef)))).run P w = .ok vs w := by
  intro l
  induction l with
  | nil => intro r h; simp only [resK, Option.some.injEq] at h; subst h; exact ⟨[], .nil, rfl⟩
  | cons x l ih =>
    intro r h
    cases x with
    | tmp t =>
      simp only [resK] at h
      split at h
      · rename_i r' hr
        injection h with h
        subst h
        obtain ⟨vs, h1, h2⟩ := ih hr
        refine ⟨_, .cons (he t) h1, ?_⟩
        simp only [List.mapM_cons, pure_bind, Sem.run_bind, h2, Result.andThen_ok]
        rfl
      · cases h
    | cell x t =>
      simp only [resK] at h
      split at h
      · rename_i v r' hv hr
        injection h with h
        subst h
        obtain ⟨vs, h1, h2⟩ := ih hr
        obtain ⟨u, hru, _, hu⟩ := load_core (P := P) g (fun o x h => h) (he x) hv (fun p hp => by simp at hp)
        refine ⟨u :: vs, .cons hu h1, ?_⟩
        have hld : (do loadVar t (← asAddr (a.tmps.getD x undef)) : Sem Value).run P w = .ok u w := by
          generalize hq : a.tmps.getD x undef = q at hru
          cases q with
          | pointer p =>
            cases p with
            | none => simp [Instr.loadAt, Instr.sureAddr, stuck, Sem.run] at hru
            | some p => simpa [Instr.loadAt, Instr.sureAddr, asAddr] using hru
          | _ => simp [Instr.loadAt, Instr.sureAddr, stuck, Sem.run] at hru
        simp only [List.mapM_cons, Sem.run_bind] at hld ⊢
        rw [hld]
        simp only [Result.andThen_ok, h2]
        rfl
      · cases h

end Go.Proofs.YtcbeifkfllcjoaaDoor
