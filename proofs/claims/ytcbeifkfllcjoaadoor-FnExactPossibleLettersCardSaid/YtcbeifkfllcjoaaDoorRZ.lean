/-
  From the reading of an argument as data to the values of this folder.
-/
import Derived.Test.YtcbeifkfllcjoaaDoorRX
import Derived.OpenShut
import Derived.WideShapes
import Derived.Carry
set_option linter.unusedVariables false
set_option linter.unusedSimpArgs false
namespace Go.Proofs.YtcbeifkfllcjoaaDoor
open Go.ChangeShapes Go.WideShapes

/-- numbers are in range, lists not longer than an int counts -/
def WfD : (τ : Ty) → τ.Den → Prop
  | .int k, x => (Lit.int k x).wf = true
  | .slice e, xs => List.length xs ≤ maxLen ∧ ∀ i (h : i < List.length xs), WfD e (xs[i]'h)
  | .pair a b, x => WfD a x.1 ∧ WfD b x.2
  | _, _ => True

section
variable (P : Program)

def fieldsIs (chk : TypeId → Ty → Bool) : Nat → List Field → Ty → Bool
  | _, [], .unit => true
  | off, f :: fs, .pair a b => (f.offset == off) && chk f.type a && (P.cellsOf f.type == a.size) && fieldsIs chk (off + a.size) fs b
  | _, _, _ => false

def elemsIs (chk : TypeId → Ty → Bool) (e : TypeId) : Nat → Ty → Bool
  | 0, .unit => true
  | n + 1, .pair a b => chk e a && (P.cellsOf e == a.size) && elemsIs chk e n b
  | _, _ => false

def tyIs : Nat → TypeId → Ty → Bool
  | 0, _, _ => false
  | d + 1, t, τ =>
    match P.underlying t with
    | some (.int k) => decide (τ = .int k)
    | some .bool => decide (τ = .bool)
    | some .string => decide (τ = .str)
    | some (.slice e) => match τ with | .slice ε => tyIs d e ε && (P.cellsOf e == ε.size) && decide (0 < ε.size) | _ => false
    | some (.struct fs) => τ.isAgg && (P.cellsOf t == τ.size) && fieldsIs P (tyIs d) 0 fs.toList τ
    | some (.array n e) => τ.isAgg && (P.cellsOf t == τ.size) && elemsIs P (tyIs d) e n τ
    | _ => false
end

section
variable {H : Type} {enc : TypeId × Value → H} {P : Program} {w : World} {spare : Nat → Bool} {held : Bool}

/-- what a reading of some cells tells -/
def ReadOk (P : Program) (w : World) (τ : Ty) (g : Nat → Option Value) : Prop := ∃ y : τ.Den, Rep w (fun b => b < w.heap.size) τ y g ∧ WfD τ y

theorem readOk_congr {τ : Ty} {g g' : Nat → Option Value} (h : ReadOk P w τ g) (e : ∀ i, i < τ.size → g i = g' i) : ReadOk P w τ g' := by
  obtain ⟨y, h1, h2⟩ := h
  exact ⟨y, h1.congr e, h2⟩

theorem fieldsRead {chk : TypeId → Ty → Bool} {n : Nat} {cs : List Value}
    (ih : ∀ t τ, chk t τ = true → ∀ cs' x, DataW.trod enc P w 0 spare held n t cs' = some x → ReadOk P w τ (fun i => cs'[i]?)) :
    ∀ (fs : List Field) (off : Nat) (τ : Ty), fieldsIs P chk off fs τ = true → (∀ f ∈ fs, ∃ x, DataW.trod enc P w 0 spare held n f.type ((cs.drop f.offset).take (P.cellsOf f.type)) = some x) →
      ReadOk P w τ (fun i => cs[off + i]?) := by
  intro fs
  induction fs with
  | nil =>
    intro off τ h _
    cases τ <;> simp [fieldsIs] at h
    exact ⟨(), trivial, trivial⟩
  | cons f fs ihf =>
    intro off τ h hx
    cases τ <;> simp [fieldsIs] at h
    rename_i a b
    obtain ⟨⟨⟨h1, h2⟩, h3⟩, h4⟩ := h
    obtain ⟨x, hx0⟩ := hx f (List.mem_cons_self ..)
    rw [h1, h3] at hx0
    have r1 := readOk_congr (ih _ _ h2 _ _ hx0) (g' := fun i => cs[off + i]?) fun i hi => by
      rw [List.getElem?_take, if_pos hi, List.getElem?_drop]
    have r2 := readOk_congr (ihf _ _ h4 fun f hf => hx f (List.mem_cons_of_mem _ hf)) (g' := fun i => cs[off + (a.size + i)]?) fun i _ => by rw [Nat.add_assoc]
    obtain ⟨y1, p1, q1⟩ := r1
    obtain ⟨y2, p2, q2⟩ := r2
    exact ⟨(y1, y2), ⟨p1, p2⟩, q1, q2⟩

theorem elemsRead {chk : TypeId → Ty → Bool} {n : Nat} {cs : List Value} {e : TypeId}
    (ih : ∀ t τ, chk t τ = true → ∀ cs' x, DataW.trod enc P w 0 spare held n t cs' = some x → ReadOk P w τ (fun i => cs'[i]?)) :
    ∀ (m k : Nat) (τ : Ty), elemsIs P chk e m τ = true → (∀ i, k ≤ i → i < k + m → ∃ x, DataW.trod enc P w 0 spare held n e ((cs.drop (i * P.cellsOf e)).take (P.cellsOf e)) = some x) →
      ReadOk P w τ (fun i => cs[k * P.cellsOf e + i]?) := by
  intro m
  induction m with
  | zero =>
    intro k τ h _
    cases τ <;> simp [elemsIs] at h
    exact ⟨(), trivial, trivial⟩
  | succ m ihm =>
    intro k τ h hx
    cases τ <;> simp [elemsIs] at h
    rename_i a b
    obtain ⟨⟨h2, h3⟩, h4⟩ := h
    obtain ⟨x, hx0⟩ := hx k (by omega) (by omega)
    have r1 := readOk_congr (ih _ _ h2 _ _ hx0) (g' := fun i => cs[k * P.cellsOf e + i]?) fun i hi => by
      rw [List.getElem?_take, if_pos (by omega), List.getElem?_drop]
    have r2 := readOk_congr (ihm (k + 1) _ h4 fun i hi hi' => hx i (by omega) (by omega)) (g' := fun i => cs[k * P.cellsOf e + (a.size + i)]?) fun i _ => by
      rw [Nat.add_mul, Nat.one_mul, h3, Nat.add_assoc]
    obtain ⟨y1, p1, q1⟩ := r1
    obtain ⟨y2, p2, q2⟩ := r2
    exact ⟨(y1, y2), ⟨p1, p2⟩, q1, q2⟩

theorem read_ok : ∀ (d : Nat) (t : TypeId) (τ : Ty), tyIs P d t τ = true → ∀ (fuel : Nat) (cs : List Value) (x : DataW H × List MemPlace), DataW.trod enc P w 0 spare held fuel t cs = some x → cs.length = τ.size ∧ ReadOk P w τ (fun i => cs[i]?) := by
  intro d
  induction d with
  | zero => intro t τ h; simp [tyIs] at h
  | succ d ih =>
    intro t τ h fuel cs x hx
    simp only [tyIs] at h
    cases hu : P.underlying t with
    | none => rw [hu] at h; simp at h
    | some u =>
      rw [hu] at h
      cases u <;> simp only [decide_eq_true_eq] at h <;> try (exact absurd h (by decide))
      case int k =>
        subst h
        obtain ⟨n, rfl, _, hw⟩ := DataW.trod_int hu hx
        exact ⟨rfl, n, rfl, hw⟩
      case bool =>
        subst h
        cases fuel with
        | zero => simp [DataW.trod] at hx
        | succ fuel =>
          unfold DataW.trod at hx
          rw [hu] at hx
          split at hx <;> simp_all
          exact ⟨rfl, _, rfl, trivial⟩
      case string =>
        subst h
        obtain ⟨s, rfl, _, hw⟩ := DataW.trod_string hu hx
        exact ⟨rfl, s, rfl, trivial⟩
      case slice e =>
        cases τ <;> simp only [Bool.and_eq_true, decide_eq_true_eq, beq_iff_eq, reduceCtorEq, Bool.false_eq_true] at h
        rename_i ε
        obtain ⟨⟨h1, h2⟩, h3⟩ := h
        rcases DataW.trod_slice hu hx with ⟨rfl, _⟩ | ⟨a, len, cap, elems, rest, n, _, rfl, _, hb, hl, hm, hlen, hel, _⟩
        · exact ⟨rfl, [], ⟨none, 0, rfl, Nat.le_refl _, Or.inl ⟨rfl, fun _ => rfl⟩⟩, Nat.zero_le _, fun i h => absurd h (by simp)⟩
        · refine ⟨rfl, ?_⟩
          have each : ∀ i, i < len → ∃ y : ε.Den, Rep w (fun b => b < w.heap.size) ε y (fun k => w.cell? ((a.add (i * ε.size)).add k)) ∧ WfD ε y := by
            intro i hi
            have := hel i hi
            rw [h2] at this
            have hs : ∃ z, elems[i]? = some z := ⟨elems[i]'(by omega), List.getElem?_eq_getElem _⟩
            obtain ⟨z, hz⟩ := hs
            rw [hz] at this
            obtain ⟨cs', hc1, hc2⟩ := Option.bind_eq_some_iff.1 this
            obtain ⟨k1, k2⟩ := ih e ε h1 _ _ _ hc2
            refine readOk_congr k2 fun k hk => ?_
            unfold World.cells? at hc1
            rw [if_pos (Nat.zero_le _)] at hc1
            exact (mapM_some_get hc1 k k (by simp [hk])).symm
          rcases Nat.eq_zero_or_pos len with h0 | h0
          · subst h0
            exact ⟨[], ⟨some a, cap, rfl, Nat.zero_le _, Or.inl ⟨rfl, fun h => by cases h⟩⟩, Nat.zero_le _, fun i h => absurd h (by simp)⟩
          · have hsp : a.spot = none ∧ a.block < w.heap.size := by
              obtain ⟨y, hy, _⟩ := each 0 h0
              obtain ⟨v, hv, _⟩ := hy.cells 0 h3
              rw [Nat.zero_mul] at hv
              have hv' : w.cell? a = some v := hv
              simp only [World.cell?] at hv'
              split at hv'
              · rename_i hq
                split at hv'
                · cases hv'
                · rename_i hs
                  exact ⟨by simpa using hs, (Array.getElem?_eq_some_iff.1 hq).1⟩
              · cases hv'
            obtain ⟨ab, ao, as⟩ := a
            obtain ⟨rfl, hblk⟩ := hsp
            have addr : ∀ i k : Nat, ((⟨ab, ao, none⟩ : Addr).add i).add k = ⟨ab, ao + i + k, none⟩ := by
              intro i k
              unfold Addr.add
              by_cases hi : i = 0 <;> by_cases hk : k = 0 <;> simp [hi, hk]
            have each' : ∀ i, ∃ y : ε.Den, i < len → Rep w (fun b => b < w.heap.size) ε y (fun k => w.cell? ⟨ab, ao + i * ε.size + k, none⟩) ∧ WfD ε y := fun i => by
              by_cases h : i < len
              · obtain ⟨y, hy⟩ := each i h
                simp only [addr] at hy
                exact ⟨y, fun _ => hy⟩
              · exact ⟨ε.zero, fun h' => absurd h' h⟩
            obtain ⟨f, hf⟩ := Classical.axiomOfChoice each'
            refine ⟨(List.range len).map f, ⟨some ⟨ab, ao, none⟩, cap, by simp, by simpa using hl, Or.inr ⟨ab, ao, rfl, hblk, fun j hj => ?_⟩⟩, by simp; omega, fun i hi => ?_⟩
            · have hj' : j < len := by simpa using hj
              simpa using (hf j hj').1
            · have hi' : i < len := by simpa using hi
              simpa using (hf i hi').2
      case struct fs =>
        simp only [Bool.and_eq_true, beq_iff_eq] at h
        obtain ⟨⟨_, h1⟩, h2⟩ := h
        obtain ⟨xs, n, _, _, hl, hn, hf⟩ := DataW.trod_struct hu hx
        refine ⟨hl.trans h1, ?_⟩
        have := fieldsRead (enc := enc) (spare := spare) (held := held) (n := n) (cs := cs) (fun t τ h cs' x hx => (ih t τ h _ cs' x hx).2) fs.toList 0 τ h2 fun f hf' => by
          obtain ⟨i, hi, rfl⟩ := List.getElem_of_mem hf'
          have := hf i (fs.toList[i]) (by simp)
          rw [List.getElem?_eq_getElem (by rw [hn]; simpa using hi)] at this
          exact ⟨_, this⟩
        simpa using this
      case array m e =>
        simp only [Bool.and_eq_true, beq_iff_eq] at h
        obtain ⟨⟨_, h1⟩, h2⟩ := h
        obtain ⟨xs, n, _, _, hl, hn, hf⟩ := DataW.trod_array hu hx
        refine ⟨hl.trans h1, ?_⟩
        have := elemsRead (enc := enc) (spare := spare) (held := held) (n := n) (cs := cs) (e := e) (fun t τ h cs' x hx => (ih t τ h _ cs' x hx).2) m 0 τ h2 fun i _ hi => by
          have := hf i (by omega)
          rw [List.getElem?_eq_getElem (by omega)] at this
          exact ⟨_, this⟩
        simpa using this

/-- an argument of the call -/
theorem arg_ok {d : Nat} {t : TypeId} {τ : Ty} {r : _root_.Go.Reach} {b0 : Nat} {v : Value} {dd : DataW H} {ps : List MemPlace} (ht : tyIs P d t τ = true) (hval : Value.okWide P w r b0 t v) (h : DataW.Trod enc P w 0 spare held t v dd ps) :
    ∃ y : τ.Den, RepV w (fun b => b < w.heap.size) τ y v ∧ WfD τ y := by
  obtain ⟨fuel, hf⟩ := h
  obtain ⟨h1, y, h2, h3⟩ := read_ok d t τ ht fuel _ _ hf
  refine ⟨y, ⟨?_, by simpa using h1, ?_⟩, h3⟩
  · simpa using h2
  · cases d with
    | zero => simp [tyIs] at ht
    | succ d =>
      simp only [tyIs] at ht
      cases hu : P.underlying t with
      | none => rw [hu] at ht; simp at ht
      | some u =>
        rw [hu] at ht
        cases u <;> simp only [decide_eq_true_eq] at ht <;> try (exact absurd ht (by decide))
        case int k =>
          subst ht
          obtain ⟨n, rfl⟩ := okWide_int hu hval
          exact ⟨fun h => (by cases h), fun ⟨_, h⟩ => by cases h⟩
        case bool =>
          subst ht
          obtain ⟨n, rfl⟩ := okWide_bool hu hval
          exact ⟨fun h => (by cases h), fun ⟨_, h⟩ => by cases h⟩
        case string =>
          subst ht
          obtain ⟨n, rfl⟩ := okWide_string hu hval
          exact ⟨fun h => (by cases h), fun ⟨_, h⟩ => by cases h⟩
        case slice e =>
          obtain ⟨a, l, c, rfl⟩ := okWide_slice hu hval
          cases τ <;> simp at ht
          exact ⟨fun h => (by cases h), fun ⟨_, h⟩ => by cases h⟩
        case struct fs =>
          obtain ⟨cs, rfl, _⟩ := okWide_struct hu hval
          simp only [Bool.and_eq_true] at ht
          exact ⟨fun _ => ⟨cs, rfl⟩, fun _ => ht.1.1⟩
        case array m e =>
          simp only [Value.okWide, hu] at hval
          obtain ⟨cs, rfl, _⟩ := hval
          simp only [Bool.and_eq_true] at ht
          exact ⟨fun _ => ⟨cs, rfl⟩, fun _ => ht.1.1⟩
end
end Go.Proofs.YtcbeifkfllcjoaaDoor
