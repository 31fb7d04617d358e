/-
  Slice literals, make, stores, append.
-/
import Derived.Test.YtcbeifkfllcjoaaDoorRH
set_option linter.unusedVariables false
set_option linter.unusedSimpArgs false
namespace Go.Proofs.YtcbeifkfllcjoaaDoor

theorem O.ids_freeze (x : O) : x.freeze.ids = x.ids := by cases x <;> rfl

section ops
variable {run : Runner} {P : Program} {B : Nat} {W0 : Nat → Option Obj} {fid : Nat} {w : World} {S : Nat → Prop} {β : Nat → Value} {H : Nat → Option O} {look : Nat → Option O} {ρ : Operand → Value} {o : Oper} {out : Out}

/-- what is told to be frozen is frozen first -/
theorem freezeVals (g : Good B W0 w S β H) (hl : ∀ o x, look o = some x → H o = some x) (fid : Nat) (f : List Nat) :
    ∃ S1, Good B W0 w S1 β (updH H (freezeU look f)) ∧ Chg fid w S β H w S1 β (updH H (freezeU look f)) ∧ (∀ b, S b → S1 b) ∧
      (∀ o, o ∈ f → ∀ e τ xs fz, look o = some (.arr e τ xs fz) → RepV w S1 (.slice τ) xs (β o)) ∧
      (∀ o, H o = none → updH H (freezeU look f) o = none) ∧ (∀ o y, updH H (freezeU look f) o = some y → ∃ y0, H o = some y0 ∧ y.ids = y0.ids) := by
  obtain ⟨S1, g1, f1, hin⟩ := Good.freezeAll (look := look) f g fun o x h => ⟨x, hl o x h, .inl rfl⟩
  refine ⟨S1, g1, f1.chg fid w, f1.hS, fun o ho e τ xs fz hlk => ?_, fun o h => ?_, fun o y h => ?_⟩
  · obtain ⟨h1, h2⟩ := hin o ho _ hlk rfl
    exact arr_val (g1.rep h1) h2
  · cases hy : updH H (freezeU look f) o with
    | none => rfl
    | some y =>
      obtain ⟨z, hz, _⟩ := f1.old o y hy
      rw [h] at hz
      cases hz
  · obtain ⟨z, hz, rfl | ⟨rfl, _⟩⟩ := f1.old o y h
    · exact ⟨_, hz, rfl⟩
    · exact ⟨z, hz, O.ids_freeze z⟩

theorem freezeU_old (look : Nat → Option O) : ∀ (f : List Nat) (H : Nat → Option O), (∀ o x, look o = some x → ∃ y, H o = some y ∧ y.ids = x.ids) →
    (∀ o, H o = none → updH H (freezeU look f) o = none) ∧ (∀ o y, updH H (freezeU look f) o = some y → ∃ y0, H o = some y0 ∧ y.ids = y0.ids) := by
  intro f
  induction f with
  | nil => exact fun H _ => ⟨fun o h => h, fun o y h => ⟨y, h, rfl⟩⟩
  | cons k f ih =>
    intro H hl
    have hcase : (∃ x, look k = some x ∧ freezeU look (k :: f) = (k, some x.freeze) :: freezeU look f) ∨ freezeU look (k :: f) = freezeU look f := by
      unfold freezeU
      simp only [List.filterMap_cons]
      cases hlo : look k with
      | none => exact .inr rfl
      | some x => cases x <;> first | exact .inl ⟨_, rfl, rfl⟩ | exact .inr rfl
    rcases hcase with ⟨x, hx, he⟩ | he
    · rw [he]
      simp only [updH]
      obtain ⟨y, hy, hyx⟩ := hl k x hx
      have hl1 : ∀ o x', look o = some x' → ∃ y, upd1 H k (some x.freeze) o = some y ∧ y.ids = x'.ids := by
        intro o x' h
        unfold upd1
        by_cases ho : o = k
        · rw [if_pos ho]
          subst ho
          rw [hx] at h
          injection h with h
          subst h
          exact ⟨_, rfl, O.ids_freeze x⟩
        · rw [if_neg ho]
          exact hl o x' h
      obtain ⟨h1, h2⟩ := ih _ hl1
      refine ⟨fun o h => h1 o ?_, fun o z h => ?_⟩
      · unfold upd1
        by_cases ho : o = k
        · subst ho
          rw [hy] at h
          cases h
        · rw [if_neg ho]
          exact h
      · obtain ⟨y0, h3, h4⟩ := h2 o z h
        unfold upd1 at h3
        by_cases ho : o = k
        · rw [if_pos ho] at h3
          injection h3 with h3
          subst ho
          exact ⟨y, hy, by rw [h4, ← h3, O.ids_freeze, hyx]⟩
        · rw [if_neg ho] at h3
          exact ⟨y0, h3, h4⟩
    · rw [he]
      exact ih H hl

theorem updH_append (H : Nat → Option O) (a b : List (Nat × Option O)) : updH H (a ++ b) = updH (updH H a) b := by
  induction a generalizing H with
  | nil => rfl
  | cons p a ih => exact ih _

theorem updH_freeze_ne (H : Nat → Option O) (look : Nat → Option O) (f : List Nat) {o : Nat} (h : o ∉ f) : updH H (freezeU look f) o = H o := by
  induction f generalizing H with
  | nil => rfl
  | cons k f ih =>
    simp only [List.mem_cons, not_or] at h
    unfold freezeU
    rw [List.filterMap_cons]
    split
    · exact ih H h.2
    · rename_i p hp
      have hk : p.1 = k := by
        split at hp <;> first | (cases hp; rfl) | cases hp
      simp only [updH]
      rw [show (List.filterMap _ f) = freezeU look f from rfl, ih _ h.2]
      unfold upd1
      rw [if_neg (by rw [hk]; exact h.1)]

theorem hasN_iff (l : List Nat) (o : Nat) : hasN l o = true ↔ o ∈ l := by
  induction l with
  | nil => simp [hasN]
  | cons k l ih =>
    simp only [hasN]
    split
    · simp_all
    · rename_i h
      rw [ih]
      simp only [List.mem_cons]
      exact ⟨.inr, fun hh => hh.resolve_left fun e => h e.symm⟩

theorem partVals_ok {S1 : Nat → Prop} {τ : Ty} : ∀ {js : List Nat} {i : Nat} {as : List A} {ys : List τ.Den} {f : List Nat} {vs : List Value}, partVals look τ i js as = some (ys, f) → RepL w S1 β as vs →
    (∀ o, o ∈ f → ∀ e τ' xs fz, look o = some (.arr e τ' xs fz) → RepV w S1 (.slice τ') xs (β o)) →
    ys.length = vs.length ∧ js = List.range' i vs.length ∧ ∀ j (h : j < ys.length) (h' : j < vs.length), RepV w S1 τ ys[j] vs[j] := by
  intro js
  induction js with
  | nil =>
    intro i as ys f vs h hl hf
    cases as with
    | nil =>
      simp only [partVals, Option.some.injEq, Prod.mk.injEq] at h
      obtain ⟨rfl, rfl⟩ := h
      obtain rfl := hl.of_nil
      exact ⟨rfl, rfl, fun j h => by simp at h⟩
    | cons a as => simp [partVals] at h
  | cons j js ih =>
    intro i as ys f vs h hl hf
    cases as with
    | nil => simp [partVals] at h
    | cons a as =>
      obtain ⟨v, vs, rfl, ha, hl⟩ := hl.uncons
      simp only [partVals] at h
      split at h
      · rename_i hij
        subst hij
        split at h
        · rename_i x f1 xs f2 h1 h2
          simp only [Option.some.injEq, Prod.mk.injEq] at h
          obtain ⟨rfl, rfl⟩ := h
          obtain ⟨e1, e2, e3⟩ := ih h2 hl fun o ho => hf o (by simp [ho])
          have hv := toVal_ok h1 ha fun o ho => hf o (by simp [ho])
          refine ⟨by simp [e1], by rw [e2, List.length_cons, List.range'_succ], fun k hk hk' => ?_⟩
          cases k with
          | zero => exact hv
          | succ k => exact e3 k (by simpa using hk) (by simpa using hk')
        · cases h
      · cases h

/-- a literal's cells, element by element -/
theorem fill_dense {n N : Nat} : ∀ {vs : List Value} {k : Nat} {cs : Array Value}, cs.size = N * n → k + vs.length ≤ N → (∀ v ∈ vs, v.cells.size = n) →
    ∃ c2, Instr.fill (fun i => some (i * n, n)) cs ((List.range' k vs.length).zip vs) = some c2 ∧ c2.size = N * n ∧ (∀ j (h : j < vs.length) q, q < n → c2[(k + j) * n + q]? = vs[j].cells[q]?) ∧ ∀ q, q < k * n → c2[q]? = cs[q]? := by
  intro vs
  induction vs with
  | nil => intro k cs h1 h2 h3; exact ⟨cs, by simp [Instr.fill], h1, fun j h => by simp at h, fun q hq => rfl⟩
  | cons v vs ih =>
    intro k cs h1 h2 h3
    simp only [List.length_cons] at h2
    have hle : k * n + n ≤ cs.size := by
      rw [h1, ← Nat.succ_mul]
      exact Nat.mul_le_mul_right _ (by omega)
    have hvn : v.cells.size = n := h3 v (by simp)
    obtain ⟨c1, hf, hc1⟩ := fill_step (fun i => some (i * n, n)) cs k v ((List.range' (k + 1) vs.length).zip vs) rfl hvn hle
    have hl1 : c1.size = N * n := by
      rw [← Array.length_toList, hc1, length_splice _ _ _ (by simp; omega), Array.length_toList, h1]
    obtain ⟨c2, e1, e2, e3, e4⟩ := ih (k := k + 1) (cs := c1) hl1 (by omega) fun u hu => h3 u (by simp [hu])
    refine ⟨c2, ?_, e2, fun j hj q hq => ?_, fun q hq => ?_⟩
    · rw [List.length_cons, List.range'_succ, List.zip_cons_cons, hf]
      exact e1
    · cases j with
      | zero =>
        rw [e4 _ (by rw [Nat.add_zero, Nat.succ_mul]; omega), ← Array.getElem?_toList, hc1, splice_get _ _ _ (by simp; omega), if_pos (by simp; omega)]
        simp
      | succ j =>
        have := e3 j (by simpa using hj) q hq
        rw [show k + 1 + j = k + (j + 1) by omega] at this
        exact this
    · rw [e4 q (by rw [Nat.succ_mul]; omega), ← Array.getElem?_toList, hc1, splice_get _ _ _ (by simp; omega), if_neg (by omega), Array.getElem?_toList]

theorem sizeT_info {t : TypeId} {n : Nat} (h : sizeT P t = some n) : ∃ i, P.info? t = some i ∧ i.size = n := by
  unfold sizeT at h
  cases hq : P.info? t with
  | none => rw [hq] at h; cases h
  | some i => rw [hq] at h; simp at h; exact ⟨i, rfl, h⟩

/-- a new row of the call's own -/
theorem StepTo.row (g : Good B W0 w S β H) {S1 : Nat → Prop} {H1 : Nat → Option O} (g1 : Good B W0 w S1 β H1) (c1 : Chg fid w S β H w S1 β H1) (hf0 : H1 fid = none) (hf1 : ∀ o y, H1 o = some y → fid ∉ y.ids)
    {r : Result Next} {e : TypeId} {τ : Ty} {ys : List τ.Den} {cur : Array Value} {len cap : Nat} {upd : List (Nat × Option O)} {ps : List Bool}
    (hr : r = .ok (.value (.slice (some ⟨w.heap.size, 0, none⟩) len cap)) (w.alloc (.cells cur e))) (hu : updH H upd = newH H1 none fid (.arr e τ ys false))
    (hlen : ys.length = len) (hcap : len ≤ cap) (hmax : cap ≤ maxLen) (hsz : cur.size = cap * τ.size) (hpos : 0 < τ.size)
    (hel : ∀ j (h : j < ys.length), Rep w S1 τ ys[j] (fun i => cur[j * τ.size + i]?)) :
    StepTo B W0 fid w S β H r ⟨.ref fid, upd, ps, []⟩ := by
  subst hlen
  have hold : ∀ b, S1 b → (w.alloc (.cells cur e)).heap[b]? = w.heap[b]? := fun b hb => heap_alloc_old w _ b (g1.low b hb)
  have hx : RepO B (w.alloc (.cells cur e)) S1 (newβ β fid (.slice (some ⟨w.heap.size, 0, none⟩) ys.length cap)) (.slice (some ⟨w.heap.size, 0, none⟩) ys.length cap) (.arr e τ ys false) := by
    refine ⟨cur.toList.take (ys.length * τ.size), ⟨?_, .inr ⟨w.heap.size, cap, cur, rfl, g.base, heap_alloc_new w _, hcap, hmax, hsz, rfl⟩⟩, hpos, fun j hj => ?_⟩
    · have hcl : cur.toList.length = cap * τ.size := by simpa using hsz
      rw [List.length_take, hcl]
      exact Nat.min_eq_left (Nat.mul_le_mul_right _ hcap)
    · refine ((hel j hj).mono (fun _ h => h) hold).congr fun i hi => ?_
      rw [List.getElem?_take, if_pos, Array.getElem?_toList]
      have : (j + 1) * τ.size ≤ ys.length * τ.size := Nat.mul_le_mul_right _ hj
      rw [Nat.succ_mul] at this
      omega
  obtain ⟨g', c'⟩ := g1.new (w' := w.alloc (.cells cur e)) (k := none) (fid := fid) (by simp) rfl rfl rfl (fun b hb _ => heap_alloc_old w _ b hb) (fun o h => by cases h) hf0 hf1 hx rfl (fun b hb => .inl (by obtain ⟨_, x, hx, hb⟩ := blk_some hb; injection hx with hx; subst hx; exact Nat.le_of_eq hb))
  have hβ : newβ β fid (.slice (some ⟨w.heap.size, 0, none⟩) ys.length cap) fid = .slice (some ⟨w.heap.size, 0, none⟩) ys.length cap := if_pos rfl
  refine ⟨_, S1, newβ β fid (.slice (some ⟨w.heap.size, 0, none⟩) ys.length cap), _, .inl hr, ?_, ?_, ?_⟩
  · have := RepA.ref (w := w.alloc (.cells cur e)) (S := S1) (β := newβ β fid (.slice (some ⟨w.heap.size, 0, none⟩) ys.length cap)) (o := fid) (by rw [hβ]; rfl)
    rw [hβ] at this
    exact this
  · simp only [hu]; exact g'
  · simp only [hu]; exact c1.trans c'

theorem run_buildSlice_dense {t e : TypeId} {n size : Nat} {ps : Array (Nat × Operand)} (he : elemT P t = some e) (hsm : n * size ≤ 16777216) (hpos : 0 < size) (hsz : sizeT P e = some size) (hzs : (zeroCells P e).isSome = true)
    (hvl : ((ps.toList.map (·.2)).map ρ).length = n) (e2 : ps.toList.map (·.1) = List.range' 0 ((ps.toList.map (·.2)).map ρ).length) (hvn : ∀ v ∈ (ps.toList.map (·.2)).map ρ, v.cells.size = size) :
    ∃ c2 : Array Value, (Instr.buildSlice t n (ps.map fun (i, x) => (i, ρ x))).run P w = .ok (.slice (some ⟨w.heap.size, 0, none⟩) n n) (w.alloc (.cells c2 e)) ∧ c2.size = n * size ∧
      ∀ j (h : j < ((ps.toList.map (·.2)).map ρ).length) q, q < size → c2[j * size + q]? = (((ps.toList.map (·.2)).map ρ)[j]).cells[q]? := by
  obtain ⟨ie, hie, hies⟩ := sizeT_info hsz
  obtain ⟨zs, hz⟩ := Option.isSome_iff_exists.1 hzs
  obtain ⟨ie', z, hie', hiz, _, _⟩ := zeroCells_ok hz
  rw [hie] at hie'
  injection hie' with hie'
  subst hie'
  by_cases hn0 : n * size = 0
  · have hn : n = 0 := by
      rcases Nat.mul_eq_zero.1 hn0 with h | h
      · exact h
      · omega
    subst hn
    have hps : (ps.map fun (i, x) => (i, ρ x)).toList = [] := by
      rw [zip_parts]
      have : ((ps.toList.map (·.2)).map ρ) = [] := List.eq_nil_of_length_eq_zero hvl
      rw [this]
      simp
    refine ⟨#[], ?_, by simp, fun j hj => by omega⟩
    simp [Instr.buildSlice, run_underlying (elemT_some he), run_sizeT hsz, newRow]
    simp only [Array.toList_map] at hps
    rw [hps]
    simp [Instr.fill, Array.range_zero']
  · obtain ⟨c2, hf2, h2, h3, _⟩ := fill_dense (n := size) (N := n) (vs := (ps.toList.map (·.2)).map ρ) (k := 0) (cs := (Array.range (n * size)).map (z.cells[· % z.cells.size]!)) (by simp) (by omega) hvn
    refine ⟨c2, ?_, h2, fun j hj q hq => by simpa using h3 j hj q hq⟩
    refine run_buildSlice w t e n _ c2 ie z (elemT_some he) hie hiz (by rw [hies]; omega) (by rw [hies]; exact hn0) ?_
    rw [zip_parts, e2, hies]
    exact hf2

theorem flat_get {size : Nat} : ∀ {vs : List Value}, (∀ v ∈ vs, v.cells.size = size) → ∀ (j : Nat) (h : j < vs.length) q, q < size → (vs.flatMap (·.cells.toList))[j * size + q]? = vs[j].cells[q]? := by
  intro vs
  induction vs with
  | nil => intro _ j h; simp at h
  | cons v vs ih =>
    intro hs j h q hq
    have hv : v.cells.toList.length = size := by simpa using hs v (by simp)
    simp only [List.flatMap_cons]
    cases j with
    | zero =>
      rw [List.getElem?_append_left (by omega)]
      simp
    | succ j =>
      rw [List.getElem?_append_right (by rw [hv, Nat.succ_mul]; omega), hv, show (j + 1) * size + q - size = j * size + q by rw [Nat.succ_mul]; omega]
      exact ih (fun u hu => hs u (by simp [hu])) j (by simpa using h) q hq

theorem flat_len {size : Nat} : ∀ {vs : List Value}, (∀ v ∈ vs, v.cells.size = size) → (vs.flatMap (·.cells.toList)).length = vs.length * size := by
  intro vs
  induction vs with
  | nil => intro _; simp
  | cons v vs ih =>
    intro hs
    have hv : v.cells.toList.length = size := by simpa using hs v (by simp)
    rw [List.flatMap_cons, List.length_append, hv, ih fun u hu => hs u (by simp [hu]), List.length_cons, Nat.succ_mul]
    omega

theorem rowCells_ok {size : Nat} : ∀ {js : List Nat} {i : Nat} {as : List A} {cs : List A} {vs : List Value}, rowCells size i js as = some cs → RepL w S β as vs →
    js = List.range' i vs.length ∧ (∀ v ∈ vs, v.cells.size = size) ∧ RepL w S β cs (vs.flatMap (·.cells.toList)) ∧ ∀ u ∈ vs.flatMap (·.cells.toList), u.oneCell' = true := by
  intro js
  induction js with
  | nil =>
    intro i as cs vs h hl
    cases as with
    | nil =>
      simp only [rowCells, Option.some.injEq] at h
      subst h
      obtain rfl := hl.of_nil
      exact ⟨rfl, fun v h => by simp at h, .nil, fun u h => by simp at h⟩
    | cons a as => simp [rowCells] at h
  | cons j js ih =>
    intro i as cs vs h hl
    cases as with
    | nil => simp [rowCells] at h
    | cons a as =>
      obtain ⟨v, vs, rfl, ha, hl⟩ := hl.uncons
      simp only [rowCells] at h
      split at h
      · rename_i hc
        obtain ⟨rfl, hcl, hall⟩ := hc
        split at h
        · rename_i cs' hr
          injection h with h
          subst h
          obtain ⟨e1, e2, e3, e4⟩ := ih hr hl
          obtain ⟨h1, h2⟩ := cells_ok ha hall
          refine ⟨by rw [e1, List.length_cons, List.range'_succ], fun u hu => ?_, h1.append e3, fun u hu => ?_⟩
          · rcases List.mem_cons.1 hu with rfl | hu
            · rw [← hcl, ← h1.1]; simp
            · exact e2 u hu
          · simp only [List.flatMap_cons, List.mem_append] at hu
            rcases hu with hu | hu
            · exact h2 u hu
            · exact e4 u hu
        · cases h
      · cases h

theorem op_rowK (g : Good B W0 w S β H) (hf0 : H fid = none) (hf1 : ∀ o y, H o = some y → fid ∉ y.ids) {t e : TypeId} {n size : Nat} {ps : Array (Nat × Operand)} (ho : o.op = .buildSlice t n ps) (he : elemT P t = some e) (hsm : n * size ≤ 16777216) (hpos : 0 < size) (hsz : sizeT P e = some size) (hzs : (zeroCells P e).isSome = true)
    {xs : List A} (hids : fid ∉ idsL xs) (hx : RepL w S β xs ((ps.toList.map (·.2)).map ρ)) (h : rowK fid e n size (ps.toList.map (·.1)) xs = some out) : StepTo B W0 fid w S β H ((execOp ρ o).run P w) out := by
  unfold rowK at h
  split at h
  · rename_i hxn
    split at h
    · rename_i cs hr
      injection h with h
      subst h
      obtain ⟨e1, e2, e3, e4⟩ := rowCells_ok hr hx
      have hvl : ((ps.toList.map (·.2)).map ρ).length = n := by rw [hx.1, hxn]
      obtain ⟨c2, hrun, h2, h3⟩ := run_buildSlice_dense (w := w) he hsm hpos hsz hzs hvl e1 e2
      have hc2 : c2.toList = ((ps.toList.map (·.2)).map ρ).flatMap (·.cells.toList) := by
        apply List.ext_getElem?
        intro p
        by_cases hp : p < n * size
        · have hj : p / size < ((ps.toList.map (·.2)).map ρ).length := by rw [hvl]; exact (Nat.div_lt_iff_lt_mul hpos).2 hp
          have hq := Nat.mod_lt p hpos
          have hpe : p = p / size * size + p % size := by rw [Nat.mul_comm]; exact (Nat.div_add_mod _ _).symm
          rw [hpe, flat_get e2 _ hj _ hq, Array.getElem?_toList, h3 _ hj _ hq]
        · rw [List.getElem?_eq_none (by simp [h2]; omega), List.getElem?_eq_none (by rw [flat_len e2, hvl]; omega)]
      have hmax : n ≤ maxLen := by
        have : n ≤ n * size := Nat.le_mul_of_pos_right n hpos
        simp only [maxLen]
        omega
      have hids2 : fid ∉ idsL cs := by
        have key : ∀ {js : List Nat} {i : Nat} {as cs : List A}, rowCells size i js as = some cs → fid ∉ idsL as → fid ∉ idsL cs := by
          intro js
          induction js with
          | nil => intro i as cs h _; cases as with
            | nil => simp only [rowCells, Option.some.injEq] at h; subst h; simp [idsL]
            | cons a as => simp [rowCells] at h
          | cons j js ih =>
            intro i as cs h hn
            cases as with
            | nil => simp [rowCells] at h
            | cons a as =>
              simp only [rowCells] at h
              split at h
              · split at h
                · rename_i cs' hr
                  injection h with h
                  subst h
                  simp only [idsL, List.mem_append, not_or] at hn
                  have happ : ∀ l m : List A, idsL (l ++ m) = idsL l ++ idsL m := by
                    intro l m
                    induction l with
                    | nil => rfl
                    | cons a l ih => simp [idsL, ih]
                  rw [happ, List.mem_append, not_or]
                  refine ⟨?_, ih hr hn.2⟩
                  intro hm
                  refine hn.1 ?_
                  cases a with
                  | val τ x =>
                    have : ∀ (τ : Ty) (x : τ.Den), idsL (cellsV τ x) = [] := by
                      intro τ
                      induction τ with
                      | pair a b iha ihb => intro x; simp [cellsV, happ, iha, ihb]
                      | _ => intro x; simp [cellsV, idsL, A.ids]
                    simp only [A.cells, this] at hm
                    simp at hm
                  | agg cs => exact hm
                  | _ => simpa [A.cells, idsL] using hm
                · cases h
              · cases h
        exact key hr hids
      have hold : ∀ b, S b → (w.alloc (.cells c2 e)).heap[b]? = w.heap[b]? := fun b hb => heap_alloc_old w _ b (g.low b hb)
      have hxo : RepO B (w.alloc (.cells c2 e)) S (newβ β fid (.slice (some ⟨w.heap.size, 0, none⟩) n n)) (.slice (some ⟨w.heap.size, 0, none⟩) n n) (.row e n size cs) := by
        refine ⟨((ps.toList.map (·.2)).map ρ).flatMap (·.cells.toList), ⟨by rw [flat_len e2, hvl], .inr ⟨w.heap.size, n, c2, rfl, g.base, heap_alloc_new w _, Nat.le_refl _, hmax, h2, ?_⟩⟩, hpos, e3.mono (fun _ h => h) hold fun k hk => if_neg fun (e : k = fid) => hids2 (e ▸ hk), e4⟩
        rw [hc2, List.take_of_length_le (by rw [flat_len e2, hvl]; exact Nat.le_refl _)]
      obtain ⟨g', c'⟩ := g.new (w' := w.alloc (.cells c2 e)) (k := none) (fid := fid) (by simp) rfl rfl rfl (fun b hb _ => heap_alloc_old w _ b hb) (fun o h => by cases h) hf0 hf1 hxo rfl (fun b hb => .inl (by obtain ⟨_, x, hx, hb⟩ := blk_some hb; injection hx with hx; subst hx; exact Nat.le_of_eq hb))
      have hβ : newβ β fid (.slice (some ⟨w.heap.size, 0, none⟩) n n) fid = .slice (some ⟨w.heap.size, 0, none⟩) n n := if_pos rfl
      refine ⟨w.alloc (.cells c2 e), S, newβ β fid (.slice (some ⟨w.heap.size, 0, none⟩) n n), .slice (some ⟨w.heap.size, 0, none⟩) n n, .inl ?_, ?_, ?_, ?_⟩
      · simp only [execOp, ho, Sem.run_bind, hrun, Result.andThen_ok, Sem.run_pure]
      · have := RepA.ref (w := w.alloc (.cells c2 e)) (S := S) (β := newβ β fid (.slice (some ⟨w.heap.size, 0, none⟩) n n)) (o := fid) (by rw [hβ]; rfl)
        rw [hβ] at this
        exact this
      · simp only [updH_new]; exact g'
      · simp only [updH_new]; exact c'
    · cases h
  · cases h

theorem op_buildSlice (g : Good B W0 w S β H) (hl : ∀ o x, look o = some x → H o = some x) (hf0 : H fid = none) (hf1 : ∀ o y, H o = some y → fid ∉ y.ids) {t : TypeId} {n : Nat} {ps : Array (Nat × Operand)} (ho : o.op = .buildSlice t n ps) {cs : Option CallScript} {dec : Option Bool} {xs : List A} (hids : fid ∉ idsL xs) (hx : RepL w S β xs ((ps.toList.map (·.2)).map ρ))
    (h : opK P run look fid cs dec (.buildSlice t n ps) xs = some out) : StepTo B W0 fid w S β H ((execOp ρ o).run P w) out := by
  simp only [opK] at h
  split at h
  · rename_i e he
    split at h
    · rename_i τ hτ
      split at h
      · rename_i hc
        obtain ⟨hsm, hpos, hsz, hzs⟩ := hc
        split at h
        · rename_i ys f hpv
          split at h
          · rename_i hyn
            split at h
            · injection h with h
              subst h
              obtain ⟨S1, g1, c1, hS1, hfv, hn1, hi1⟩ := freezeVals g hl fid f
              obtain ⟨e1, e2, e3⟩ := partVals_ok hpv (hx.mono hS1 (fun _ _ => rfl) fun _ _ => rfl) hfv
              have hvn : ∀ v ∈ (ps.toList.map (·.2)).map ρ, v.cells.size = τ.size := fun v hv => by
                obtain ⟨j, hj, rfl⟩ := List.getElem_of_mem hv
                exact (e3 j (by rw [e1]; exact hj) hj).2.1
              obtain ⟨c2, hr, h2, h3⟩ := run_buildSlice_dense (w := w) he hsm hpos hsz hzs (by rw [← e1]; exact hyn) e2 hvn
              refine StepTo.row g g1 c1 (hn1 fid hf0) (fun o y hy => ?_) (ys := ys) (cur := c2) (len := n) (cap := n) (e := e) ?_ ?_ hyn (Nat.le_refl _) ?_ h2 hpos fun j hj => ?_
              · obtain ⟨y0, hy0, hid⟩ := hi1 o y hy
                rw [hid]
                exact hf1 o y0 hy0
              · simp only [execOp, ho, Sem.run_bind, hr, Result.andThen_ok, Sem.run_pure]
              · rw [updH_append, updH_new]
              · have : n ≤ n * τ.size := Nat.le_mul_of_pos_right n hpos
                simp only [maxLen]
                omega
              · refine (e3 j hj (by omega)).1.congr fun i hi => (h3 j (by omega) i hi).symm
            · exact op_rowK g hf0 hf1 ho he hsm hpos hsz hzs hids hx h
          · cases h
        · exact op_rowK g hf0 hf1 ho he hsm hpos hsz hzs hids hx h
      · cases h
    · cases h
  · cases h

theorem isZero_ok {w S} : ∀ {τ : Ty} {l l' : List Value}, isZero τ l = some l' → ∃ us, l = us ++ l' ∧ us.length = τ.size ∧ Rep w S τ τ.zero (fun i => us[i]?) := by
  intro τ
  induction τ with
  | unit =>
    intro l l' h
    simp only [isZero, Option.some.injEq] at h
    subst h
    exact ⟨[], rfl, rfl, trivial⟩
  | pair a b iha ihb =>
    intro l l' h
    simp only [isZero] at h
    split at h
    · rename_i l1 h1
      obtain ⟨us, rfl, hu, hr⟩ := iha h1
      obtain ⟨us', rfl, hu', hr'⟩ := ihb h
      refine ⟨us ++ us', by simp, by simp [hu, hu', Ty.size], hr.congr fun i hi => ?_, hr'.congr fun i hi => ?_⟩
      · rw [List.getElem?_append_left (by omega)]
      · show us'[i]? = (us ++ us')[a.size + i]?
        rw [List.getElem?_append_right (by omega), hu, Nat.add_sub_cancel_left]
    · cases h
  | int k =>
    intro l l' h
    cases l with
    | nil => simp [isZero] at h
    | cons v l =>
      cases v with
      | int k' n =>
        simp only [isZero] at h
        split at h
        · rename_i hc
          obtain ⟨rfl, rfl⟩ := hc
          injection h with h
          subst h
          exact ⟨[.int k 0], rfl, rfl, rfl⟩
        · cases h
      | _ => simp [isZero] at h
  | bool =>
    intro l l' h
    cases l with
    | nil => simp [isZero] at h
    | cons v l =>
      cases v with
      | bool b =>
        simp only [isZero] at h
        split at h
        · rename_i hc
          subst hc
          injection h with h
          subst h
          exact ⟨[.bool false], rfl, rfl, rfl⟩
        · cases h
      | _ => simp [isZero] at h
  | str =>
    intro l l' h
    cases l with
    | nil => simp [isZero] at h
    | cons v l =>
      cases v with
      | string s =>
        simp only [isZero] at h
        split at h
        · rename_i hc
          injection h with h
          subst h
          have : s = ByteArray.empty := by
            have hd : s.data = #[] := Array.eq_empty_of_size_eq_zero hc
            cases s
            simp only at hd
            rw [hd]
            rfl
          subst this
          exact ⟨[.string ByteArray.empty], rfl, rfl, rfl⟩
        · cases h
      | _ => simp [isZero] at h
  | slice e =>
    intro l l' h
    unfold isZero at h
    split at h <;> first | (rename_i heq; cases heq; done) | skip
    all_goals first
      | (rename_i e1 e2 e3
         cases h; done)
      | skip
    · rename_i heq
      injection h with h
      subst h
      exact ⟨[.slice none 0 0], rfl, rfl, ⟨none, 0, rfl, Nat.le_refl _, .inl ⟨rfl, fun _ => rfl⟩⟩⟩

end ops
end Go.Proofs.YtcbeifkfllcjoaaDoor
