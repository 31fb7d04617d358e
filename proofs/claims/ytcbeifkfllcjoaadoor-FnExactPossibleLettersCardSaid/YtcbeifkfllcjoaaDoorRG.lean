/-
  Operations that make or turn the call's own objects.
-/
import Derived.Test.YtcbeifkfllcjoaaDoorRF
import Derived.Laws.Tables
import Derived.Great.BuildSlice
set_option linter.unusedVariables false
set_option linter.unusedSimpArgs false
namespace Go.Proofs.YtcbeifkfllcjoaaDoor

section chg
variable {B : Nat} {W0 : Nat → Option Obj} {w : World} {S : Nat → Prop} {β : Nat → Value} {H : Nat → Option O}

def newβ (β : Nat → Value) (fid : Nat) (v : Value) : Nat → Value := fun o => if o = fid then v else β o
def newH (H : Nat → Option O) (k : Option Nat) (fid : Nat) (x : O) : Nat → Option O := fun o => if o = fid then some x else if k = some o then none else H o

/-- a new object, perhaps in the place of one that is used up -/
theorem Good.new (g : Good B W0 w S β H) {w' : World} {fid : Nat} {k : Option Nat} {v : Value} {x : O}
    (hsz : w.heap.size ≤ w'.heap.size) (hos : w'.os = w.os) (htape : w'.tape = w.tape) (hout : w'.output = w.output)
    (hheap : ∀ b, b < w.heap.size → (∀ o, k = some o → blk (β o) ≠ some b) → w'.heap[b]? = w.heap[b]?)
    (hk : ∀ o, k = some o → ∃ y, H o = some y ∧ y.frz = false)
    (hf0 : H fid = none) (hf1 : ∀ o y, H o = some y → fid ∉ y.ids)
    (hx : RepO B w' S (newβ β fid v) v x) (hxf : x.frz = false)
    (hv : ∀ b, blk v = some b → w.heap.size ≤ b ∨ ∃ o, k = some o ∧ blk (β o) = some b) :
    Good B W0 w' S (newβ β fid v) (newH H k fid x) ∧ Chg fid w S β H w' S (newβ β fid v) (newH H k fid x) := by
  have hkS : ∀ b, S b → ∀ o, k = some o → blk (β o) ≠ some b := fun b hb o ho hbo => by
    obtain ⟨y, hy, hyf⟩ := hk o ho
    exact g.excl hy hyf hbo hb
  have hSw : ∀ b, S b → w'.heap[b]? = w.heap[b]? := fun b hb => hheap b (g.low b hb) (hkS b hb)
  have old : ∀ {o y}, newH H k fid x o = some y → o ≠ fid → H o = some y ∧ k ≠ some o := by
    intro o y h hne
    unfold newH at h
    rw [if_neg hne] at h
    split at h
    · cases h
    · exact ⟨h, ‹_›⟩
  have nb : ∀ o, o ≠ fid → newβ β fid v o = β o := fun o h => if_neg h
  have nf : newβ β fid v fid = v := if_pos rfl
  have hnew : ∀ {y}, newH H k fid x fid = some y → y = x := fun h => by
    unfold newH at h
    rw [if_pos rfl] at h
    injection h with h
    exact h.symm
  have keepb : ∀ {o y}, H o = some y → k ≠ some o → ∀ b, blk (β o) = some b → w'.heap[b]? = w.heap[b]? := by
    intro o y hy hko b hb
    refine hheap b ((g.rep hy).lt hb).2 fun o' ho' hb' => ?_
    obtain ⟨z, hz, hzf⟩ := hk o' ho'
    by_cases hyf : y.frz = false
    · exact g.apart (fun e => hko (by rw [ho', e])) hy hz hyf hzf hb hb'
    · exact g.excl hz hzf hb' (g.froz hy (by simpa using hyf) hb)
  have hvS : ∀ b, blk v = some b → ¬ S b := fun b hb hS => by
    rcases hv b hb with h | ⟨o, ho, hbo⟩
    · have := g.low b hS
      omega
    · exact hkS b hS o ho hbo
  have hvo : ∀ {o y} b, H o = some y → k ≠ some o → y.frz = false → blk v = some b → blk (β o) ≠ some b := by
    intro o y b hy hko hyf hb hbo
    rcases hv b hb with h | ⟨o', ho', hb'⟩
    · have := ((g.rep hy).lt hbo).2
      omega
    · obtain ⟨z, hz, hzf⟩ := hk o' ho'
      exact g.apart (fun e => hko (by rw [ho', e])) hy hz hyf hzf hbo hb'
  refine ⟨⟨?_, ?_, ?_, ?_, ?_, ?_, Nat.le_trans g.base hsz⟩, ⟨?_, fun _ h => h, ?_, hsz, hos, htape, hout, ?_, fun _ h => .inl h⟩⟩
  · intro o y h
    by_cases hne : o = fid
    · subst hne
      rw [hnew h, nf]
      exact hx
    · obtain ⟨hy, hko⟩ := old h hne
      rw [nb o hne]
      exact (g.rep hy).keep (fun _ h => h) hSw (keepb hy hko) fun o' ho' => nb o' fun e => hf1 o y hy (e ▸ ho')
  · intro o y b h hyf hb
    by_cases hne : o = fid
    · subst hne
      rw [nf] at hb
      exact hvS b hb
    · obtain ⟨hy, hko⟩ := old h hne
      rw [nb o hne] at hb
      exact g.excl hy hyf hb
  · intro o y b h hyf hb
    by_cases hne : o = fid
    · subst hne
      rw [hnew h, hxf] at hyf
      cases hyf
    · obtain ⟨hy, hko⟩ := old h hne
      rw [nb o hne] at hb
      exact g.froz hy hyf hb
  · intro o o' y y' b hoo h h' hyf hyf' hb hb'
    by_cases hne : o = fid
    · subst hne
      obtain ⟨hy', hko'⟩ := old h' (fun e => hoo e.symm)
      rw [nf] at hb
      rw [nb o' (fun e => hoo e.symm)] at hb'
      exact hvo b hy' hko' hyf' hb hb'
    · obtain ⟨hy, hko⟩ := old h hne
      rw [nb o hne] at hb
      by_cases hne' : o' = fid
      · subst hne'
        rw [nf] at hb'
        exact hvo b hy hko hyf hb' hb
      · obtain ⟨hy', hko'⟩ := old h' hne'
        rw [nb o' hne'] at hb'
        exact g.apart hoo hy hy' hyf hyf' hb hb'
  · exact fun b h => Nat.lt_of_lt_of_le (g.low b h) hsz
  · intro b hb
    rw [hheap b (Nat.lt_of_lt_of_le hb g.base) fun o ho hbo => ?_]
    · exact g.glob b hb
    · obtain ⟨y, hy, _⟩ := hk o ho
      have := ((g.rep hy).lt hbo).1
      omega
  · intro o h
    exact nb o (by omega)
  · intro b hb hn
    refine hheap b hb fun o ho hbo => hn ?_
    obtain ⟨y, hy, hyf⟩ := hk o ho
    exact ⟨o, y, hy, hyf, hbo⟩
  · rintro b ⟨o, y, h, hyf, hb⟩
    by_cases hne : o = fid
    · subst hne
      rw [nf] at hb
      rcases hv b hb with h | ⟨o', ho', hb'⟩
      · exact .inl h
      · obtain ⟨z, hz, hzf⟩ := hk o' ho'
        exact .inr ⟨o', z, hz, hzf, hb'⟩
    · obtain ⟨hy, hko⟩ := old h hne
      rw [nb o hne] at hb
      exact .inr ⟨o, y, hy, hyf, hb⟩

/-- an object is turned in its place -/
theorem Good.put (g : Good B W0 w S β H) {w' : World} (fid : Nat) {o : Nat} {y x : O} (hy : H o = some y) (hyf : y.frz = false) (hxf : x.frz = false)
    (hsz : w'.heap.size = w.heap.size) (hos : w'.os = w.os) (htape : w'.tape = w.tape) (hout : w'.output = w.output)
    (hheap : ∀ b, blk (β o) ≠ some b → w'.heap[b]? = w.heap[b]?) (hx : RepO B w' S β (β o) x) :
    Good B W0 w' S β (upd1 H o (some x)) ∧ Chg fid w S β H w' S β (upd1 H o (some x)) := by
  have hSw : ∀ b, S b → w'.heap[b]? = w.heap[b]? := fun b hb => hheap b fun hbo => g.excl hy hyf hbo hb
  have old : ∀ {k z}, upd1 H o (some x) k = some z → k ≠ o → H k = some z := by
    intro k z h hne
    unfold upd1 at h
    rwa [if_neg hne] at h
  have hnew : ∀ {z}, upd1 H o (some x) o = some z → z = x := fun h => by
    unfold upd1 at h
    rw [if_pos rfl] at h
    injection h with h
    exact h.symm
  refine ⟨⟨?_, ?_, ?_, ?_, fun b h => hsz ▸ g.low b h, ?_, hsz ▸ g.base⟩, ⟨fun _ _ => rfl, fun _ h => h, ?_, Nat.le_of_eq hsz.symm, hos, htape, hout, ?_, fun _ h => .inl h⟩⟩
  · intro k z h
    by_cases hne : k = o
    · subst hne
      rw [hnew h]
      exact hx
    · refine (g.rep (old h hne)).keep (fun _ h => h) hSw (fun b hb => hheap b fun hbo => ?_) fun _ _ => rfl
      by_cases hzf : z.frz = false
      · exact g.apart hne (old h hne) hy hzf hyf hb hbo
      · exact g.excl hy hyf hbo (g.froz (old h hne) (by simpa using hzf) hb)
  · intro k z b h hzf hb
    by_cases hne : k = o
    · subst hne
      exact g.excl hy hyf hb
    · exact g.excl (old h hne) hzf hb
  · intro k z b h hzf hb
    by_cases hne : k = o
    · subst hne
      rw [hnew h, hxf] at hzf
      cases hzf
    · exact g.froz (old h hne) hzf hb
  · intro k k' z z' b hkk h h' hzf hzf' hb hb'
    by_cases hne : k = o
    · subst hne
      exact g.apart hkk hy (old h' fun e => hkk e.symm) hyf hzf' hb hb'
    · by_cases hne' : k' = o
      · subst hne'
        exact g.apart hkk (old h hne) hy hzf hyf hb hb'
      · exact g.apart hkk (old h hne) (old h' hne') hzf hzf' hb hb'
  · intro b hb
    rw [hheap b fun hbo => ?_]
    · exact g.glob b hb
    · have := ((g.rep hy).lt hbo).1
      omega
  · intro b _ hn
    exact hheap b fun hbo => hn ⟨o, y, hy, hyf, hbo⟩
  · rintro b ⟨k, z, h, hzf, hb⟩
    by_cases hne : k = o
    · subst hne
      exact .inr ⟨k, y, hy, hyf, hb⟩
    · exact .inr ⟨k, z, old h hne, hzf, hb⟩

end chg

theorem isOne_eq (v : Value) : isOne v = v.oneCell' := by cases v <;> rfl

theorem constA_ok {w S β} (v : Value) : RepA w S β (constA v) v := by
  unfold constA
  split
  · exact repA_int _ _
  · exact repA_bool _
  · exact repA_str _
  · exact .nil
  · exact .undef _

theorem one_ok {w S β} {a : A} {v : Value} (h : RepA w S β a v) (h1 : a.one = true) : v.oneCell' = true := by
  cases h with
  | val h => exact (h.one (by simpa [A.one] using h1)).1
  | ref h => exact h
  | mapr h => exact h
  | undef => cases h1
  | agg => cases h1
  | tup => cases h1
  | _ => rfl

theorem cells_ok {w S β} {a : A} {v : Value} (h : RepA w S β a v) (h1 : a.cells.all A.one = true) : RepL w S β a.cells v.cells.toList ∧ ∀ u ∈ v.cells.toList, u.oneCell' = true := by
  have hl : RepL w S β a.cells v.cells.toList := by
    cases a with
    | val τ x => exact repV_cells (inv_val h)
    | agg cs =>
      obtain ⟨vs, h1, _, rfl⟩ := inv_agg h
      simpa [A.cells, Value.cells] using h1
    | _ =>
      simp only [A.cells, List.all_cons, List.all_nil, Bool.and_true] at h1 ⊢
      rw [oneCell_cells (one_ok h h1)]
      exact .cons h .nil
  refine ⟨hl, fun u hu => ?_⟩
  obtain ⟨i, hi, rfl⟩ := List.getElem_of_mem hu
  have hi' : i < a.cells.length := by rw [← hl.1]; exact hi
  exact one_ok (hl.2 i hi' hi) (List.all_eq_true.1 h1 _ (List.getElem_mem hi'))

section ops
variable {run : Runner} {P : Program} {B : Nat} {W0 : Nat → Option Obj} {fid : Nat} {w : World} {S : Nat → Prop} {β : Nat → Value} {H : Nat → Option O} {look : Nat → Option O} {ρ : Operand → Value} {o : Oper} {out : Out}

theorem updH_new (H : Nat → Option O) (fid : Nat) (x : O) : updH H [(fid, some x)] = newH H none fid x := by
  funext k
  simp [updH, upd1, newH]

/-- a new block of cells -/
theorem StepTo.alloc (g : Good B W0 w S β H) (hf0 : H fid = none) (hf1 : ∀ o y, H o = some y → fid ∉ y.ids) {r : Result Next} {vs : List Value} {t : TypeId} {cells : List A}
    (hr : r = .ok (.value (.pointer (some ⟨w.heap.size, 0, none⟩))) (w.alloc (.cells vs.toArray t))) (hl : RepL w S β cells vs) (hfc : fid ∉ idsL cells) (h1 : ∀ u ∈ vs, u.oneCell' = true) :
    StepTo B W0 fid w S β H r ⟨.pbox fid 0, [(fid, some (.box t cells false))], [], []⟩ := by
  have hx : RepO B (w.alloc (.cells vs.toArray t)) S (newβ β fid (.pointer (some ⟨w.heap.size, 0, none⟩))) (.pointer (some ⟨w.heap.size, 0, none⟩)) (.box t cells false) := by
    refine ⟨w.heap.size, vs, rfl, g.base, heap_alloc_new w _, ?_, h1⟩
    exact hl.mono (fun _ h => h) (fun b hb => heap_alloc_old w _ b (g.low b hb)) fun o ho => if_neg fun (e : o = fid) => hfc (e ▸ ho)
  obtain ⟨g', c⟩ := g.new (w' := w.alloc (.cells vs.toArray t)) (k := none) (fid := fid) (by simp) rfl rfl rfl (fun b hb _ => heap_alloc_old w _ b hb) (fun o h => by cases h) hf0 hf1 hx rfl (fun b hb => .inl (by simp [blk] at hb; omega))
  refine ⟨_, S, newβ β fid (.pointer (some ⟨w.heap.size, 0, none⟩)), _, .inl hr, .pbox (if_pos rfl), ?_, ?_⟩
  · simp only [updH_new]; exact g'
  · simp only [updH_new]; exact c

theorem op_alloc (g : Good B W0 w S β H) (hf0 : H fid = none) (hf1 : ∀ o y, H o = some y → fid ∉ y.ids) {t : TypeId} (ho : o.op = .alloc t) {cs : List A} (h : zeroCells P t = some cs) :
    StepTo B W0 fid w S β H ((execOp ρ o).run P w) ⟨.pbox fid 0, [(fid, some (.box t cs false))], [], []⟩ := by
  unfold zeroCells at h
  split at h
  · rename_i i hi
    split at h
    · rename_i z hz
      split at h
      · rename_i hall
        injection h with h
        subst h
        refine StepTo.alloc g hf0 hf1 (vs := z.cells.toList) ?_ ⟨by simp, fun i h1 h2 => by simpa using constA_ok _⟩ (fun hm => ?_) (fun u hu => ?_)
        · simp [execOp, ho, Instr.alloc, zeroValue, typeInfo, hi, hz, newVar, newRow]
        · have : idsL (z.cells.toList.map constA) = [] := by
            generalize z.cells.toList = l
            induction l with
            | nil => rfl
            | cons v l ih =>
              simp only [List.map_cons, idsL, ih, List.append_nil]
              unfold constA
              split <;> rfl
          rw [this] at hm
          simp at hm
        · rw [← isOne_eq]
          exact List.all_eq_true.1 hall u hu
      · cases h
    · cases h
  · cases h

theorem op_box (g : Good B W0 w S β H) (hf0 : H fid = none) (hf1 : ∀ o y, H o = some y → fid ∉ y.ids) {t : TypeId} {x : Operand} (ho : o.op = .box t x) {a : A} (ha : RepA w S β a (ρ x)) (hfa : fid ∉ idsL a.cells) (h1 : a.cells.all A.one = true) :
    StepTo B W0 fid w S β H ((execOp ρ o).run P w) ⟨.pbox fid 0, [(fid, some (.box t a.cells false))], [], []⟩ := by
  obtain ⟨hl, h2⟩ := cells_ok ha h1
  refine StepTo.alloc g hf0 hf1 (vs := (ρ x).cells.toList) ?_ hl hfa h2
  simp [execOp, ho, Instr.box, newVar, newRow]

end ops
end Go.Proofs.YtcbeifkfllcjoaaDoor
