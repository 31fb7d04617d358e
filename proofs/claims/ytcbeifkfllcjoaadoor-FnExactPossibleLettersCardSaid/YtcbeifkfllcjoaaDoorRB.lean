/-
  What abstract values mean in a world of the machine: definitions, and how such facts are kept.
-/
import Derived.Test.YtcbeifkfllcjoaaDoorRA
import Derived.Deep.MidRow
set_option linter.unusedVariables false
set_option linter.unusedSimpArgs false
namespace Go.Proofs.YtcbeifkfllcjoaaDoor

theorem okP {l : List Bool} (hp : ∀ b ∈ l, b = true) {p : Prop} [Decidable p] (hm : decide p ∈ l) : p := of_decide_eq_true (hp _ hm)

theorem Ty.size_pos {τ : Ty} (h : τ.isAgg = false) : τ.size = 1 := by
  cases τ <;> first | rfl | cases h

/-- the cells g hold x; what x leads to lies in blocks of S -/
def Rep (w : World) (S : Nat → Prop) : (τ : Ty) → τ.Den → (Nat → Option Value) → Prop
  | .int k, x, g => g 0 = some (.int k x)
  | .bool, x, g => g 0 = some (.bool x)
  | .str, x, g => g 0 = some (.string x)
  | .slice e, xs, g => ∃ a c, g 0 = some (.slice a (List.length xs) c) ∧ List.length xs ≤ c ∧ (List.length xs = 0 ∧ (a = none → c = 0) ∨ ∃ b off, a = some ⟨b, off, none⟩ ∧ S b ∧
      ∀ j (h : j < List.length xs), Rep w S e (xs[j]'h) (fun i => w.cell? ⟨b, off + j * e.size + i, none⟩))
  | .unit, _, _ => True
  | .pair a b, x, g => Rep w S a x.1 g ∧ Rep w S b x.2 (fun i => g (a.size + i))

theorem cell_same {w w' : World} {b o : Nat} (h : w'.heap[b]? = w.heap[b]?) : w'.cell? ⟨b, o, none⟩ = w.cell? ⟨b, o, none⟩ := by
  simp [World.cell?, h]

theorem Rep.mono {w w' : World} {S S' : Nat → Prop} (hS : ∀ b, S b → S' b) (hw : ∀ b, S b → w'.heap[b]? = w.heap[b]?) :
    ∀ {τ : Ty} {x : τ.Den} {g : Nat → Option Value}, Rep w S τ x g → Rep w' S' τ x g := by
  intro τ
  induction τ with
  | int k => intro x g h; exact h
  | bool => intro x g h; exact h
  | str => intro x g h; exact h
  | unit => intro x g h; exact trivial
  | pair a b iha ihb => intro x g h; exact ⟨iha h.1, ihb h.2⟩
  | slice e ih =>
    intro x g h
    obtain ⟨a, c, h1, h2, h3⟩ := h
    refine ⟨a, c, h1, h2, ?_⟩
    rcases h3 with h3 | ⟨b, off, ha, hb, h3⟩
    · exact .inl h3
    · refine .inr ⟨b, off, ha, hS b hb, fun j hj => ?_⟩
      have := ih (h3 j hj)
      simpa only [cell_same (hw b hb)] using this

theorem Rep.congr {w : World} {S : Nat → Prop} : ∀ {τ : Ty} {x : τ.Den} {g g' : Nat → Option Value}, (∀ i, i < τ.size → g i = g' i) → Rep w S τ x g → Rep w S τ x g' := by
  intro τ
  induction τ with
  | int k => intro x g g' e h; exact (e 0 (by simp [Ty.size])).symm.trans h
  | bool => intro x g g' e h; exact (e 0 (by simp [Ty.size])).symm.trans h
  | str => intro x g g' e h; exact (e 0 (by simp [Ty.size])).symm.trans h
  | unit => intro x g g' e h; exact trivial
  | pair a b iha ihb =>
    intro x g g' e h
    refine ⟨iha (fun i hi => e i ?_) h.1, ihb (fun i hi => e _ ?_) h.2⟩
    · simp only [Ty.size]; omega
    · simp only [Ty.size]; omega
  | slice e' ih =>
    intro x g g' e h
    obtain ⟨a, c, h1, h2, h3⟩ := h
    exact ⟨a, c, (e 0 (by simp [Ty.size])).symm.trans h1, h2, h3⟩

/-- the cells themselves -/
theorem Rep.cells {w : World} {S : Nat → Prop} : ∀ {τ : Ty} {x : τ.Den} {g : Nat → Option Value}, Rep w S τ x g → ∀ i, i < τ.size → ∃ v, g i = some v ∧ v.oneCell' = true := by
  intro τ
  induction τ with
  | int k =>
    intro x g h i hi
    obtain rfl : i = 0 := by (simp only [Ty.size] at hi; omega)
    exact ⟨_, h, rfl⟩
  | bool =>
    intro x g h i hi
    obtain rfl : i = 0 := by (simp only [Ty.size] at hi; omega)
    exact ⟨_, h, rfl⟩
  | str =>
    intro x g h i hi
    obtain rfl : i = 0 := by (simp only [Ty.size] at hi; omega)
    exact ⟨_, h, rfl⟩
  | unit => intro x g h i hi; simp only [Ty.size] at hi; omega
  | pair a b iha ihb =>
    intro x g h i hi
    by_cases hia : i < a.size
    · exact iha h.1 i hia
    · have := ihb h.2 (i - a.size) (by simp only [Ty.size] at hi; omega)
      rwa [show a.size + (i - a.size) = i by omega] at this
  | slice e ih =>
    intro x g h i hi
    obtain rfl : i = 0 := by (simp only [Ty.size] at hi; omega)
    obtain ⟨a, c, h1, _⟩ := h
    exact ⟨_, h1, rfl⟩

/-- as a list -/
theorem Rep.list {w : World} {S : Nat → Prop} {τ : Ty} {x : τ.Den} {g : Nat → Option Value} (h : Rep w S τ x g) :
    ∃ cs : List Value, cs.length = τ.size ∧ (∀ i, i < τ.size → g i = cs[i]?) ∧ ∀ v ∈ cs, v.oneCell' = true := by
  refine ⟨(List.range τ.size).map fun i => (g i).getD undef, by simp, fun i hi => ?_, fun v hv => ?_⟩
  · obtain ⟨v, hv, _⟩ := h.cells i hi
    simp [hi, hv]
  · obtain ⟨i, hi, rfl⟩ := List.mem_map.1 hv
    obtain ⟨v, hv, h1⟩ := h.cells i (List.mem_range.1 hi)
    simpa [hv] using h1

def RepV (w : World) (S : Nat → Prop) (τ : Ty) (x : τ.Den) (v : Value) : Prop :=
  Rep w S τ x (fun i => v.cells[i]?) ∧ v.cells.size = τ.size ∧ (τ.isAgg = true ↔ ∃ cs, v = .agg cs)

theorem RepV.mono {w w' : World} {S S' : Nat → Prop} (hS : ∀ b, S b → S' b) (hw : ∀ b, S b → w'.heap[b]? = w.heap[b]?) {τ : Ty} {x : τ.Den} {v : Value} (h : RepV w S τ x v) : RepV w' S' τ x v :=
  ⟨h.1.mono hS hw, h.2⟩

/-- what an abstract value says of a value; β: the heads of the call's own objects -/
inductive RepA (w : World) (S : Nat → Prop) (β : Nat → Value) : A → Value → Prop
  | undef (v : Value) : RepA w S β .undef v
  | val {τ : Ty} {x : τ.Den} {v : Value} : RepV w S τ x v → RepA w S β (.val τ x) v
  | nil : RepA w S β .nil (.slice none 0 0)
  | emp {a : Addr} {c : Nat} : RepA w S β .emp (.slice (some a) 0 c)
  | ref {o : Nat} : (β o).oneCell' = true → RepA w S β (.ref o) (β o)
  | pel {o i sz off b n c k : Nat} : β o = .slice (some ⟨b, 0, none⟩) n c → k = i * sz + off → RepA w S β (.pel o i sz off) (.pointer (some ⟨b, k, none⟩))
  | pst {τ : Ty} {x : τ.Den} {off b k : Nat} : S b → Rep w S τ x (fun i => w.cell? ⟨b, k + i, none⟩) → RepA w S β (.pst τ x off) (.pointer (some ⟨b, k + off, none⟩))
  | pcs {cells : List A} {off b : Nat} {vs : List Value} : S b → vs.length = cells.length → (∀ i, i < cells.length → w.cell? ⟨b, i, none⟩ = vs[i]?) → (∀ v ∈ vs, v.oneCell' = true) →
      (∀ i (h : i < cells.length) (h' : i < vs.length), RepA w S β cells[i] vs[i]) → RepA w S β (.pcs cells off) (.pointer (some ⟨b, off, none⟩))
  | pbox {o off b : Nat} : β o = .pointer (some ⟨b, 0, none⟩) → RepA w S β (.pbox o off) (.pointer (some ⟨b, off, none⟩))
  | mapr {o : Nat} : (β o).oneCell' = true → RepA w S β (.mapr o) (β o)
  | glob {g : Nat} : RepA w S β (.glob g) (.pointer (some ⟨g, 0, none⟩))
  | clo {f : Nat} {caps : List A} {vs : List Value} : vs.length = caps.length → (∀ i (h : i < caps.length) (h' : i < vs.length), RepA w S β caps[i] vs[i]) → RepA w S β (.clo f caps) (.func (.func f) #[] vs.toArray)
  | agg {cells : List A} {vs : List Value} : vs.length = cells.length → (∀ v ∈ vs, v.oneCell' = true) → (∀ i (h : i < cells.length) (h' : i < vs.length), RepA w S β cells[i] vs[i]) → RepA w S β (.agg cells) (.agg vs.toArray)
  | tup {cells : List A} {vs : List Value} : vs.length = cells.length → (∀ i (h : i < cells.length) (h' : i < vs.length), RepA w S β cells[i] vs[i]) → RepA w S β (.tup cells) (.tuple vs.toArray)

theorem mem_idsL {l : List A} {i : Nat} (h : i < l.length) {o : Nat} (ho : o ∈ (l[i]).ids) : o ∈ idsL l := by
  induction l generalizing i with
  | nil => simp at h
  | cons a l ih =>
    simp only [idsL, List.mem_append]
    cases i with
    | zero => exact .inl ho
    | succ i => exact .inr (ih (by simpa using h) ho)

theorem RepA.mono {w w' : World} {S S' : Nat → Prop} {β β' : Nat → Value} (hS : ∀ b, S b → S' b) (hw : ∀ b, S b → w'.heap[b]? = w.heap[b]?) :
    ∀ {a : A} {v : Value}, RepA w S β a v → (∀ o, o ∈ a.ids → β' o = β o) → RepA w' S' β' a v := by
  intro a v h
  induction h with
  | undef v => exact fun _ => .undef v
  | val h => exact fun _ => .val (h.mono hS hw)
  | nil => exact fun _ => .nil
  | emp => exact fun _ => .emp
  | @ref o h => intro hβ; rw [← hβ o (by simp [A.ids])]; exact .ref (by rw [hβ o (by simp [A.ids])]; exact h)
  | @pel o i sz off b n c k h e => intro hβ; exact .pel ((hβ o (by simp [A.ids])).trans h) e
  | @pst τ x off b k hb h =>
    intro hβ
    refine .pst (hS b hb) ?_
    have := h.mono hS hw
    simpa only [cell_same (hw b hb)] using this
  | @pcs cells off b vs hb hl hc h1 _ ih =>
    intro hβ
    refine .pcs (hS b hb) hl (fun i hi => (cell_same (hw b hb)).trans (hc i hi)) h1 fun i h h' => ih i h h' fun o ho => hβ o ?_
    simp only [A.ids]; exact mem_idsL h ho
  | @pbox o off b h => intro hβ; exact .pbox ((hβ o (by simp [A.ids])).trans h)
  | @mapr o h => intro hβ; rw [← hβ o (by simp [A.ids])]; exact .mapr (by rw [hβ o (by simp [A.ids])]; exact h)
  | glob => exact fun _ => .glob
  | @clo f caps vs hl _ ih => intro hβ; exact .clo hl fun i h h' => ih i h h' fun o ho => hβ o (by simp only [A.ids]; exact mem_idsL h ho)
  | @agg cells vs hl h1 _ ih => intro hβ; exact .agg hl h1 fun i h h' => ih i h h' fun o ho => hβ o (by simp only [A.ids]; exact mem_idsL h ho)
  | @tup cells vs hl _ ih => intro hβ; exact .tup hl fun i h h' => ih i h h' fun o ho => hβ o (by simp only [A.ids]; exact mem_idsL h ho)

/-- lists of values, place by place -/
def RepL (w : World) (S : Nat → Prop) (β : Nat → Value) (as : List A) (vs : List Value) : Prop :=
  vs.length = as.length ∧ ∀ i (h : i < as.length) (h' : i < vs.length), RepA w S β as[i] vs[i]

theorem RepL.nil {w S β} : RepL w S β [] [] := ⟨rfl, fun i h => absurd h (by simp)⟩
theorem RepL.cons {w S β} {a : A} {v : Value} {as vs} (h : RepA w S β a v) (hl : RepL w S β as vs) : RepL w S β (a :: as) (v :: vs) :=
  ⟨by simp [hl.1], fun i h1 h2 => by
    cases i with
    | zero => exact h
    | succ i => exact hl.2 i (by simpa using h1) (by simpa using h2)⟩
theorem RepL.uncons {w S β} {a : A} {as vs} (h : RepL w S β (a :: as) vs) : ∃ v vs', vs = v :: vs' ∧ RepA w S β a v ∧ RepL w S β as vs' := by
  cases vs with
  | nil => simp [RepL] at h
  | cons v vs' =>
    refine ⟨v, vs', rfl, h.2 0 (by simp) (by simp), by simpa using h.1, fun i h1 h2 => ?_⟩
    exact h.2 (i + 1) (by simpa using h1) (by simpa using h2)
theorem RepL.of_nil {w S β vs} (h : RepL w S β [] vs) : vs = [] := by
  cases vs with
  | nil => rfl
  | cons v vs => simp [RepL] at h
theorem RepL.append {w S β} {as bs vs us} (h : RepL w S β as vs) (h' : RepL w S β bs us) : RepL w S β (as ++ bs) (vs ++ us) := by
  induction as generalizing vs with
  | nil => rw [RepL.of_nil h]; exact h'
  | cons a as ih => obtain ⟨v, vs, rfl, h1, h2⟩ := h.uncons; exact .cons h1 (ih h2)
theorem RepL.split {w S β} : ∀ {as bs vs}, RepL w S β (as ++ bs) vs → ∃ us ws, vs = us ++ ws ∧ RepL w S β as us ∧ RepL w S β bs ws := by
  intro as
  induction as with
  | nil => exact fun {bs vs} h => ⟨[], vs, rfl, .nil, h⟩
  | cons a as ih =>
    intro bs vs h
    obtain ⟨v, vs, rfl, h1, h2⟩ := RepL.uncons h
    obtain ⟨us, ws, rfl, h3, h4⟩ := ih h2
    exact ⟨v :: us, ws, rfl, .cons h1 h3, h4⟩
theorem RepL.mono {w w' : World} {S S' : Nat → Prop} {β β' : Nat → Value} (hS : ∀ b, S b → S' b) (hw : ∀ b, S b → w'.heap[b]? = w.heap[b]?) {as vs} (h : RepL w S β as vs) (hβ : ∀ o, o ∈ idsL as → β' o = β o) : RepL w' S' β' as vs :=
  ⟨h.1, fun i h1 h2 => (h.2 i h1 h2).mono hS hw fun o ho => hβ o (mem_idsL h1 ho)⟩
theorem RepL.drop {w S β} {as vs} (h : RepL w S β as vs) (n : Nat) : RepL w S β (as.drop n) (vs.drop n) :=
  ⟨by simp [h.1], fun i h1 h2 => by simpa using h.2 (n + i) (by simp at h1; omega) (by simp at h2; omega)⟩
theorem RepL.take {w S β} {as vs} (h : RepL w S β as vs) (n : Nat) : RepL w S β (as.take n) (vs.take n) :=
  ⟨by simp [h.1], fun i h1 h2 => by simpa using h.2 i (by simp at h1; omega) (by simp at h2; omega)⟩

/-! ### Data, cell by cell -/
theorem length_cellsV : ∀ (τ : Ty) (x : τ.Den), (cellsV τ x).length = τ.size := by
  intro τ
  induction τ with
  | pair a b iha ihb => intro x; simp [cellsV, Ty.size, iha, ihb]
  | _ => intro x; rfl

theorem repA_one {w S β} {τ : Ty} {x : τ.Den} {v : Value} (ha : τ.isAgg = false) (h : Rep w S τ x (fun i => if i = 0 then some v else none)) : RepA w S β (.val τ x) v := by
  obtain ⟨u, hu, h1⟩ := h.cells 0 (by rw [Ty.size_pos ha]; omega)
  simp at hu
  subst hu
  have hc : v.cells = #[v] := by cases v <;> first | rfl | (simp [Value.oneCell'] at h1)
  refine .val ⟨h.congr fun i hi => ?_, by simp [hc, Ty.size_pos ha], ?_⟩
  · rw [Ty.size_pos ha] at hi
    obtain rfl : i = 0 := by omega
    simp [hc]
  · simp only [ha, Bool.false_eq_true, false_iff]
    rintro ⟨cs, rfl⟩
    simp [Value.oneCell'] at h1

theorem repL_cellsV {w S β} : ∀ {τ : Ty} {x : τ.Den} {g : Nat → Option Value} {cs : List Value}, Rep w S τ x g → cs.length = τ.size → (∀ i, i < τ.size → g i = cs[i]?) → RepL w S β (cellsV τ x) cs := by
  intro τ
  induction τ with
  | unit =>
    intro x g cs h hl hg
    obtain rfl : cs = [] := List.eq_nil_of_length_eq_zero hl
    exact .nil
  | pair a b iha ihb =>
    intro x g cs h hl hg
    simp only [Ty.size] at hl hg
    have e : cs = cs.take a.size ++ cs.drop a.size := (List.take_append_drop _ _).symm
    rw [e]
    refine RepL.append (iha h.1 (by simp; omega) fun i hi => ?_) (ihb h.2 (by simp; omega) fun i hi => ?_)
    · rw [hg i (by omega)]; simp [List.getElem?_take, hi]
    · rw [hg _ (by omega)]; simp [List.getElem?_drop]
  | int k | bool | str | slice e =>
    intro x g cs h hl hg
    obtain ⟨v, rfl⟩ : ∃ v, cs = [v] := by
      match cs, hl with
      | [v], _ => exact ⟨v, rfl⟩
    have h0 := hg 0 (by simp [Ty.size])
    refine .cons (repA_one rfl (h.congr fun i hi => ?_)) .nil
    obtain rfl : i = 0 := by (simp only [Ty.size] at hi; omega)
    simpa using h0

theorem repV_cells {w S β} {τ : Ty} {x : τ.Den} {v : Value} (h : RepV w S τ x v) : RepL w S β (cellsV τ x) v.cells.toList :=
  repL_cellsV h.1 (by simpa using h.2.1) fun i hi => by simp

theorem oneCell_cells {v : Value} (h : v.oneCell' = true) : v.cells = #[v] := by
  cases v <;> first | rfl | (simp [Value.oneCell'] at h)

theorem RepV.one {w S} {τ : Ty} {x : τ.Den} {v : Value} (h : RepV w S τ x v) (ha : τ.isAgg = false) : v.oneCell' = true ∧ v.cells = #[v] ∧ Rep w S τ x (fun i => if i = 0 then some v else none) := by
  have hna : ¬ ∃ cs, v = .agg cs := fun hc => by rw [h.2.2.2 hc] at ha; cases ha
  have hc : v.cells = #[v] := by cases v <;> first | rfl | exact absurd ⟨_, rfl⟩ hna
  obtain ⟨u, hu, h1⟩ := h.1.cells 0 (by rw [Ty.size_pos ha]; omega)
  simp [hc] at hu
  subst hu
  refine ⟨h1, hc, h.1.congr fun i hi => ?_⟩
  rw [Ty.size_pos ha] at hi
  obtain rfl : i = 0 := by omega
  simp [hc]

theorem castDen_some {τ τ' : Ty} {x : τ.Den} {y : τ'.Den} (h : castDen x = some y) : ∃ e : τ = τ', y = e ▸ x := by
  unfold castDen at h
  split at h
  · rename_i e
    exact ⟨e, by injection h with h; exact h.symm⟩
  · cases h

end Go.Proofs.YtcbeifkfllcjoaaDoor
