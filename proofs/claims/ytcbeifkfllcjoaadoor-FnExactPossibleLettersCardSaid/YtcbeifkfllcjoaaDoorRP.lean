/-
  A caller takes a call in.
-/
import Derived.Test.YtcbeifkfllcjoaaDoorRO
set_option linter.unusedVariables false
set_option linter.unusedSimpArgs false
namespace Go.Proofs.YtcbeifkfllcjoaaDoor

def Fresh (fid : Nat) (H : Nat → Option O) : Prop := ∀ k, fid ≤ k → k < fid + 16 → H k = none ∧ ∀ o y, H o = some y → k ∉ y.ids

section
variable {run : Runner} {P : Program} {B : Nat} {W0 : Nat → Option Obj} {fid : Nat} {w w' : World} {S S1 Sc S2 S' : Nat → Prop} {β β0 β' : Nat → Value} {H H0 Hc : Nat → Option O} {look : Nat → Option O} {rr : List Nat} {fin : List (Nat × O)}

def backβ (β β' : Nat → Value) (fid m : Nat) : Nat → Value := fun o => if fid ≤ o ∧ o < fid + 16 then β' (o - fid + m) else β o

theorem callBack (gc : Good B W0 w Sc β Hc) (hfresh : Fresh fid Hc) (hn : nodupN rr = true) (hρ : ∀ (j o : Nat), rr[j]? = some o → ∃ y, Hc o = some y ∧ y.frz = false)
    (gcal : Good B W0 w' S' β' (lookO fin)) (mv : Mov w S1 β0 H0 w' S' β' (lookO fin)) (hown : ∀ b, Own β0 H0 b → ∃ j o : Nat, rr[j]? = some o ∧ blk (β o) = some b)
    (hβ' : ∀ (j o : Nat), rr[j]? = some o → β' j = β o) (hfin : finOk rr.length fin = true)
    (h12 : ∀ b, Sc b → S2 b) (h2' : ∀ b, S2 b → S' b) (h2c : ∀ b, S2 b → Sc b ∨ w.heap.size ≤ b ∨ Own β0 H0 b) (hc1 : ∀ b, Sc b → S1 b)
    (hrep2 : ∀ j x, lookO fin j = some x → RepO B w' S2 β' (β' j) x) (hfroz2 : ∀ j x b, lookO fin j = some x → x.frz = true → blk (β' j) = some b → S2 b) :
    Good B W0 w' S2 (backβ β β' fid rr.length) (updH Hc (parU (bkF rr fid) fin 0 rr ++ newU rr.length fid (bkF rr fid) fin)) ∧
    Chg fid w Sc β Hc w' S2 (backβ β β' fid rr.length) (updH Hc (parU (bkF rr fid) fin 0 rr ++ newU rr.length fid (bkF rr fid) fin)) ∧
    ∀ j, j < rr.length + 16 → backβ β β' fid rr.length (bkN rr fid j) = β' j := by
  have hout : ∀ o y, Hc o = some y → ¬ (fid ≤ o ∧ o < fid + 16) := fun o y hy hc => by rw [(hfresh o hc.1 hc.2).1] at hy; cases hy
  have hσ : ∀ j, j < rr.length + 16 → backβ β β' fid rr.length (bkN rr fid j) = β' j := by
    intro j hj
    unfold bkN
    split
    · rename_i o ho
      obtain ⟨y, hy, _⟩ := hρ j o ho
      unfold backβ
      rw [if_neg (hout o y hy), hβ' j o ho]
    · rename_i ho
      have : rr.length ≤ j := List.getElem?_eq_none_iff.1 ho
      unfold backβ
      rw [if_pos (by omega)]
      congr 1
      omega
  have ownc : ∀ b, Own β0 H0 b → Own β Hc b := fun b hb => by
    obtain ⟨j, o, ho, hbo⟩ := hown b hb
    obtain ⟨y, hy, hyf⟩ := hρ j o ho
    exact ⟨o, y, hy, hyf, hbo⟩
  have hSheap : ∀ b, Sc b → w'.heap[b]? = w.heap[b]? := fun b hb => mv.heap b (gc.low b hb) fun ho => gc.stable hb (ownc b ho)
  -- the objects afterwards
  have look2 : ∀ {o x}, updH Hc (parU (bkF rr fid) fin 0 rr ++ newU rr.length fid (bkF rr fid) fin) o = some x →
      (∃ j y, j < rr.length + 16 ∧ o = bkN rr fid j ∧ lookO fin j = some y ∧ x = renO (bkF rr fid) y ∧ backβ β β' fid rr.length o = β' j) ∨ (Hc o = some x ∧ o ∉ rr ∧ backβ β β' fid rr.length o = β o) := by
    intro o x h
    rw [updH_append, updH_newU _ _ _ _ _ hfin] at h
    have par : updH Hc (parU (bkF rr fid) fin 0 rr) o = some x → (∃ j y, j < rr.length + 16 ∧ o = bkN rr fid j ∧ lookO fin j = some y ∧ x = renO (bkF rr fid) y ∧ backβ β β' fid rr.length o = β' j) ∨ (Hc o = some x ∧ o ∉ rr ∧ backβ β β' fid rr.length o = β o) := by
      intro h
      rw [updH_parU _ _ _ _ _ hn] at h
      split at h
      · rename_i j hj
        have hj' := idxN_some hj
        rw [Nat.zero_add] at h
        cases hq : lookO fin j with
        | none => rw [hq] at h; cases h
        | some y =>
          rw [hq] at h
          simp only [Option.map_some, Option.some.injEq] at h
          have e : bkN rr fid j = o := by unfold bkN; rw [hj']
          have hlt : j < rr.length + 16 := (finOk_ids hfin hq).1
          exact .inl ⟨j, y, hlt, e.symm, hq, h.symm, by rw [← e]; exact hσ j hlt⟩
      · rename_i hj
        refine .inr ⟨h, idxN_none hj, ?_⟩
        unfold backβ
        rw [if_neg (hout o x h)]
    split at h
    · exact par h
    · split at h
      · rename_i ho y hq
        injection h with h
        have hlt := (finOk_ids hfin hq).1
        have e : bkN rr fid (o - fid + rr.length) = o := by
          unfold bkN
          rw [List.getElem?_eq_none (by omega)]
          simp only
          omega
        exact .inl ⟨_, y, hlt, e.symm, hq, h.symm, by rw [← hσ _ hlt, e]⟩
      · exact par h
  have fromB : ∀ {o x b}, Hc o = some x → o ∉ rr → blk (β o) = some b → b < w.heap.size ∧ ¬ Own β0 H0 b := by
    intro o x b hx hno hb
    refine ⟨((gc.rep hx).lt hb).2, fun ho => ?_⟩
    obtain ⟨j, o', ho', hb'⟩ := hown b ho
    obtain ⟨y, hy, hyf⟩ := hρ j o' ho'
    have hne : o ≠ o' := fun e => hno (e ▸ List.mem_of_getElem? ho')
    by_cases hxf : x.frz = false
    · exact gc.apart hne hx hy hxf hyf hb hb'
    · exact gc.excl hy hyf hb' (gc.froz hx (by simpa using hxf) hb)
  have notS2 : ∀ {o x b}, Hc o = some x → o ∉ rr → x.frz = false → blk (β o) = some b → ¬ S2 b := by
    intro o x b hx hno hxf hb hS
    obtain ⟨h1, h2⟩ := fromB hx hno hb
    rcases h2c b hS with h | h | h
    · exact gc.excl hx hxf hb h
    · omega
    · exact h2 h
  have ab : ∀ {j y o x b}, lookO fin j = some y → y.frz = false → blk (β' j) = some b → Hc o = some x → o ∉ rr → blk (β o) = some b → False := by
    intro j y o x b hy hyf hb hx hno hb'
    obtain ⟨h1, h2⟩ := fromB hx hno hb'
    rcases mv.own b ⟨j, y, hy, hyf, hb⟩ with h | h
    · omega
    · exact h2 h
  refine ⟨⟨?_, ?_, ?_, ?_, fun b hb => gcal.low b (h2' b hb), gcal.glob, gcal.base⟩, ⟨?_, h12, ?_, mv.size, mv.os, mv.tape, mv.output, ?_, ?_⟩, hσ⟩
  · intro o x h
    rcases look2 h with ⟨j, y, hj, he, hy, rfl, hb⟩ | ⟨hx, hno, hb⟩
    · rw [hb]
      refine renO_ok (hrep2 j y hy) fun o' k ho' hk => ?_
      simp only [bkF, Option.some.injEq] at hk
      rw [← hk]
      exact hσ o' ((finOk_ids hfin hy).2 o' ho')
    · rw [hb]
      refine (gc.rep hx).keep h12 hSheap (fun b hbo => ?_) fun o' ho' => ?_
      · obtain ⟨h1, h2⟩ := fromB hx hno hbo
        exact mv.heap b h1 h2
      · unfold backβ
        rw [if_neg fun hc => (hfresh o' hc.1 hc.2).2 o x hx ho']
  · intro o x b h hxf hbo
    rcases look2 h with ⟨j, y, hj, he, hy, rfl, hb⟩ | ⟨hx, hno, hb⟩
    · rw [hb] at hbo
      rw [renO_frz] at hxf
      exact fun hS => gcal.excl hy hxf hbo (h2' b hS)
    · rw [hb] at hbo
      exact notS2 hx hno hxf hbo
  · intro o x b h hxf hbo
    rcases look2 h with ⟨j, y, hj, he, hy, rfl, hb⟩ | ⟨hx, hno, hb⟩
    · rw [hb] at hbo
      rw [renO_frz] at hxf
      exact hfroz2 j y b hy hxf hbo
    · rw [hb] at hbo
      exact h12 b (gc.froz hx hxf hbo)
  · intro o o' x x' b hne h h' hxf hxf' hbo hbo'
    rcases look2 h with ⟨j, y, hj, he, hy, rfl, hb⟩ | ⟨hx, hno, hb⟩
    · rw [hb] at hbo
      rw [renO_frz] at hxf
      rcases look2 h' with ⟨j', y', hj', he', hy', rfl, hb'⟩ | ⟨hx', hno', hb'⟩
      · rw [hb'] at hbo'
        rw [renO_frz] at hxf'
        exact gcal.apart (fun e => hne (by rw [he, he', e])) hy hy' hxf hxf' hbo hbo'
      · rw [hb'] at hbo'
        exact ab hy hxf hbo hx' hno' hbo'
    · rw [hb] at hbo
      rcases look2 h' with ⟨j', y', hj', he', hy', rfl, hb'⟩ | ⟨hx', hno', hb'⟩
      · rw [hb'] at hbo'
        rw [renO_frz] at hxf'
        exact ab hy' hxf' hbo' hx hno hbo
      · rw [hb'] at hbo'
        exact gc.apart hne hx hx' hxf hxf' hbo hbo'
  · intro o ho
    unfold backβ
    rw [if_neg (by omega)]
  · exact fun b hb hno => mv.heap b hb fun ho => hno (ownc b ho)
  · rintro b ⟨o, x, h, hxf, hbo⟩
    rcases look2 h with ⟨j, y, hj, he, hy, rfl, hb⟩ | ⟨hx, hno, hb⟩
    · rw [hb] at hbo
      rw [renO_frz] at hxf
      exact (mv.own b ⟨j, y, hy, hxf, hbo⟩).imp id (ownc b)
    · rw [hb] at hbo
      exact .inr ⟨o, x, hx, hxf, hbo⟩
  · intro b hb
    rcases h2c b hb with h | h | h
    · exact .inl h
    · exact .inr (.inl h)
    · exact .inr (.inr (ownc b h))

theorem rep_flat : ∀ {τ : Ty} {x : τ.Den} {g : Nat → Option Value}, τ.flat = true → Rep w S τ x g → Rep w S2 τ x g := by
  intro τ
  induction τ with
  | int k => intro x g _ h; exact h
  | bool => intro x g _ h; exact h
  | str => intro x g _ h; exact h
  | unit => intro x g _ h; exact trivial
  | pair a b iha ihb =>
    intro x g hf h
    simp only [Ty.flat, Bool.and_eq_true] at hf
    exact ⟨iha hf.1 h.1, ihb hf.2 h.2⟩
  | slice e ih => intro x g hf h; cases hf

theorem flatL_get {l : List A} (h : flatL l = true) : ∀ i (hi : i < l.length), (l[i]).flat = true := by
  induction l with
  | nil => intro i hi; simp at hi
  | cons a l ih =>
    simp only [flatL, Bool.and_eq_true] at h
    intro i hi
    cases i with
    | zero => exact h.1
    | succ i => exact ih h.2 i (by simpa using hi)

theorem repA_flat {a : A} {v : Value} (h : RepA w S β a v) : a.flat = true → RepA w S2 β a v := by
  induction h with
  | undef v => intro _; exact .undef v
  | val hv => intro hf; exact .val ⟨rep_flat hf hv.1, hv.2⟩
  | nil => intro _; exact .nil
  | emp => intro _; exact .emp
  | ref h1 => intro _; exact .ref h1
  | pel h1 e => intro hf; cases hf
  | pst hb h1 => intro hf; cases hf
  | pcs hb hl hc h1 _ ih => intro hf; cases hf
  | pbox h1 => intro _; exact .pbox h1
  | mapr h1 => intro _; exact .mapr h1
  | glob => intro hf; cases hf
  | clo hl _ ih => intro hf; cases hf
  | agg hl h1 _ ih => intro hf; simp only [A.flat] at hf; exact .agg hl h1 fun i hi hi' => ih i hi hi' (flatL_get hf i hi)
  | tup hl _ ih => intro hf; simp only [A.flat] at hf; exact .tup hl fun i hi hi' => ih i hi hi' (flatL_get hf i hi)

theorem repO_flat {v : Value} {x : O} (hf : x.flat = true) (h : RepO B w S β v x) : RepO B w S2 β v x := by
  cases x with
  | arr e τ xs f =>
    simp only [O.flat, Bool.and_eq_true] at hf
    obtain ⟨vs, h1, h2, h3⟩ := h
    exact ⟨vs, h1, h2, fun j hj => rep_flat hf.1 (h3 j hj)⟩
  | box t cells f =>
    simp only [O.flat, Bool.and_eq_true] at hf
    obtain ⟨b, vs, hb, h1, h2, h3, h4⟩ := h
    exact ⟨b, vs, hb, h1, h2, ⟨h3.1, fun i hi hi' => repA_flat (h3.2 i hi hi') (flatL_get hf.1 i hi)⟩, h4⟩
  | map κ ν es =>
    simp only [O.flat, Bool.and_eq_true] at hf
    obtain ⟨r, ents, hb, h1, h2, h3, h4⟩ := h
    exact ⟨r, ents, hb, h1, h2, h3, fun i hi hi' => ⟨⟨rep_flat hf.1 (h4 i hi hi').1.1, (h4 i hi hi').1.2⟩, ⟨rep_flat hf.2 (h4 i hi hi').2.1.1, (h4 i hi hi').2.1.2⟩, (h4 i hi hi').2.2⟩⟩
  | row e n sz cells =>
    simp only [O.flat] at hf
    obtain ⟨vs, h1, h2, h3, h4⟩ := h
    exact ⟨vs, h1, h2, ⟨h3.1, fun i hi hi' => repA_flat (h3.2 i hi hi') (flatL_get hf i hi)⟩, h4⟩

theorem flat_frz {x : O} (h : x.flat = true) : x.frz = false := by
  cases x with
  | arr e τ xs f => simp only [O.flat, Bool.and_eq_true, Bool.not_eq_true'] at h; exact h.2
  | box t cells f => simp only [O.flat, Bool.and_eq_true, Bool.not_eq_true'] at h; exact h.2
  | map κ ν es => rfl
  | row e n sz cells => rfl

theorem mapO_some {f : Nat → Option O} : ∀ {l : List Nat} {xs : List O}, mapO f l = some xs → xs.length = l.length ∧ ∀ (j o : Nat), l[j]? = some o → ∃ x, xs[j]? = some x ∧ f o = some x := by
  intro l
  induction l with
  | nil => intro xs h; simp only [mapO, Option.some.injEq] at h; subst h; exact ⟨rfl, fun j o h => by simp at h⟩
  | cons k l ih =>
    intro xs h
    simp only [mapO] at h
    split at h
    · rename_i x ys hx hy
      injection h with h
      subst h
      obtain ⟨e1, e2⟩ := ih hy
      refine ⟨by simp [e1], fun j o ho => ?_⟩
      cases j with
      | zero =>
        simp only [List.getElem?_cons_zero, Option.some.injEq] at ho
        subst ho
        exact ⟨x, rfl, hx⟩
      | succ j => exact e2 j o (by simpa using ho)
    · cases h

theorem mem_idsO {o : Nat} {x : O} {k : Nat} : ∀ {l : List Nat}, o ∈ l → look o = some x → k ∈ x.ids → k ∈ idsO look l := by
  intro l
  induction l with
  | nil => intro h; simp at h
  | cons q l ih =>
    intro h hl hk
    simp only [idsO, List.mem_append]
    rcases List.mem_cons.1 h with rfl | h
    · rw [hl]; exact .inl hk
    · exact .inr (ih h hl hk)

theorem packArgs_ok : ∀ {ts : List TypeId} {as : List A} {vs : List Value}, RepL w S β as vs → RepL w S β (packArgs P ts as) vs := by
  intro ts
  induction ts with
  | nil => intro as vs h; cases as <;> exact h
  | cons t ts ih =>
    intro as vs h
    cases as with
    | nil => exact h
    | cons a as =>
      obtain ⟨v, vs, rfl, ha, h⟩ := h.uncons
      simp only [packArgs]
      refine .cons ?_ (ih h)
      split
      · split
        · rename_i τ _ x hx
          exact .val (toVal_ok hx ha fun o ho => by simp at ho)
        · exact ha
      · exact ha

/-- how the callee sees the caller's objects -/
theorem callee_good (g1 : Good B W0 w S1 β H) (hn : nodupN rr = true) {objs : List O} (hm : mapO (trO look rr) rr = some objs) (hlk : ∀ o, o ∈ rr → ∀ x, look o = some x → H o = some x)
    (hs : ∀ o, o ∈ idsO look rr → idxN rr o = none → Seen w S1 β look o) (hβ : ∀ o j, idxN rr o = some j → β0 j = β o) :
    Good B W0 w S1 β0 (lookO (numbered 0 objs)) ∧ (∀ (j o : Nat), rr[j]? = some o → ∃ y, H o = some y ∧ y.frz = false) ∧ ∀ b, Own β0 (lookO (numbered 0 objs)) b → ∃ j o : Nat, rr[j]? = some o ∧ blk (β o) = some b := by
  obtain ⟨hlen, hget⟩ := mapO_some hm
  have key : ∀ {j x}, lookO (numbered 0 objs) j = some x → ∃ o y, rr[j]? = some o ∧ idxN rr o = some j ∧ look o = some y ∧ H o = some y ∧ y.frz = false ∧ x.frz = false ∧ β0 j = β o ∧ RepO B w S1 β0 (β o) x := by
    intro j x h
    rw [lookO_numbered, if_pos (Nat.zero_le _), Nat.sub_zero] at h
    have hj : j < rr.length := by rw [← hlen]; exact (List.getElem?_eq_some_iff.1 h).1
    have ho : rr[j]? = some rr[j] := List.getElem?_eq_getElem hj
    obtain ⟨x', hx', hf⟩ := hget j _ ho
    rw [h] at hx'
    injection hx' with hx'
    subst hx'
    have hidx := idxN_get hn ho
    have hmem : rr[j] ∈ rr := List.getElem_mem hj
    have hb := hβ _ _ hidx
    unfold trO at hf
    split at hf
    · rename_i e τ xs hl
      injection hf with hf
      subst hf
      have hH := hlk _ hmem _ hl
      exact ⟨_, _, ho, hidx, hl, hH, rfl, rfl, hb, g1.rep hH⟩
    · rename_i t cs hl
      have hH := hlk _ hmem _ hl
      cases ht : trL look rr cs with
      | none => rw [ht] at hf; cases hf
      | some cs' =>
        rw [ht] at hf
        simp only [Option.map_some, Option.some.injEq] at hf
        subst hf
        refine ⟨_, _, ho, hidx, hl, hH, rfl, rfl, hb, ?_⟩
        obtain ⟨b, vs, h1, h2, h3, h4, h5⟩ := g1.rep hH
        exact ⟨b, vs, h1, h2, h3, trL_ok hβ h4 ht fun o ho hi => hs o (mem_idsO hmem hl ho) hi, h5⟩
    · rename_i κ ν es hl
      injection hf with hf
      subst hf
      have hH := hlk _ hmem _ hl
      exact ⟨_, _, ho, hidx, hl, hH, rfl, rfl, hb, g1.rep hH⟩
    · rename_i e n sz cs hl
      have hH := hlk _ hmem _ hl
      cases ht : trL look rr cs with
      | none => rw [ht] at hf; cases hf
      | some cs' =>
        rw [ht] at hf
        simp only [Option.map_some, Option.some.injEq] at hf
        subst hf
        refine ⟨_, _, ho, hidx, hl, hH, rfl, rfl, hb, ?_⟩
        obtain ⟨vs, h1, h2, h3, h4⟩ := g1.rep hH
        exact ⟨vs, h1, h2, trL_ok hβ h3 ht fun o ho hi => hs o (mem_idsO hmem hl ho) hi, h4⟩
    · cases hf
  refine ⟨⟨?_, ?_, ?_, ?_, g1.low, g1.glob, g1.base⟩, ?_, ?_⟩
  · intro j x h
    obtain ⟨o, y, ho, hi, hl, hH, hyf, hxf, hb, hr⟩ := key h
    rw [hb]
    exact hr
  · intro j x b h _ hbo
    obtain ⟨o, y, ho, hi, hl, hH, hyf, hxf, hb, hr⟩ := key h
    rw [hb] at hbo
    exact g1.excl hH hyf hbo
  · intro j x b h hxf' hbo
    obtain ⟨o, y, ho, hi, hl, hH, hyf, hxf, hb, hr⟩ := key h
    rw [hxf] at hxf'
    cases hxf'
  · intro j j' x x' b hne h h' _ _ hbo hbo'
    obtain ⟨o, y, ho, hi, hl, hH, hyf, hxf, hb, hr⟩ := key h
    obtain ⟨o', y', ho', hi', hl', hH', hyf', hxf', hb', hr'⟩ := key h'
    rw [hb] at hbo
    rw [hb'] at hbo'
    refine g1.apart (fun e => hne ?_) hH hH' hyf hyf' hbo hbo'
    subst e
    rw [hi] at hi'
    injection hi'
  · intro j o ho
    have hj : j < objs.length := by rw [hlen]; exact (List.getElem?_eq_some_iff.1 ho).1
    obtain ⟨o', y, ho', hi, hl, hH, hyf, _⟩ := key (j := j) (x := objs[j]) (by rw [lookO_numbered, if_pos (Nat.zero_le _), Nat.sub_zero]; exact List.getElem?_eq_getElem hj)
    rw [ho] at ho'
    injection ho' with ho'
    subst ho'
    exact ⟨y, hH, hyf⟩
  · rintro b ⟨j, x, h, _, hbo⟩
    obtain ⟨o, y, ho, hi, hl, hH, hyf, hxf, hb, hr⟩ := key h
    rw [hb] at hbo
    exact ⟨j, o, ho, hbo⟩

theorem lookO_all {p : O → Prop} : ∀ {l : List (Nat × O)}, (∀ q ∈ l, p q.2) → ∀ {j x}, lookO l j = some x → p x := by
  intro l
  induction l with
  | nil => intro _ j x h; simp [lookO] at h
  | cons q l ih =>
    intro hq j x h
    obtain ⟨k, y⟩ := q
    simp only [lookO] at h
    split at h
    · injection h with h
      subst h
      exact hq (k, y) (by simp)
    · exact ih (fun q' hq' => hq q' (by simp [hq'])) h

theorem callCore_ok (g : Good B W0 w S β H) (hl : ∀ o x, look o = some x → H o = some x) (hfresh : Fresh fid H) {pk : Bool} {byref : List Nat} {ro : List A → List O → Option (RunOut × Bool)} {f : FuncId} {args : List A} {vals : List Value} (hargs : RepL w S β args vals) {out : Out}
    (hro : ∀ args objs r fz, ro args objs = some (r, fz) → (∀ b ∈ r.props, b = true) → (∀ c ∈ r.calls, CallOb.Holds P B W0 c) → CallOb.Holds P B W0 ⟨f, args, objs, r.res, r.fin⟩)
    (h : callCore P look fid pk byref ro f args = some out) (hp : ∀ p ∈ out.props, p) (hc : ∀ c ∈ out.calls, CallOb.Holds P B W0 c) :
    Lands P ((callFunc f vals.toArray).run P w) fun v w' => ∃ S' β', RepA w' S' β' out.v v ∧ Good B W0 w' S' β' (updH H out.upd) ∧ Chg fid w S β H w' S' β' (updH H out.upd) := by
  unfold callCore at h
  split at h
  · rename_i args' objs fn htr hmo hfn
    split at h
    · rename_i r fz0 hr
      split at h
      · rename_i hcond
        simp only [Bool.and_eq_true, Bool.or_eq_true, List.all_eq_true, decide_eq_true_eq] at hcond
        obtain ⟨⟨⟨hn, hfin⟩, hres⟩, hfl⟩ := hcond
        injection h with h
        subst h
        have hholds := hro _ _ _ _ hr hp hc
        clear hc
        obtain ⟨S1, g1, c1, hS1, hseen, fz⟩ := freezeSeen g hl fid ((idsL args ++ idsO look byref).filter fun o => !hasN byref o)
        have notin : ∀ o, o ∈ byref → o ∉ (idsL args ++ idsO look byref).filter fun o => !hasN byref o := by
          intro o ho hm
          have := (List.mem_filter.1 hm).2
          rw [(hasN_iff _ _).2 ho] at this
          cases this
        have hlk1 : ∀ o, o ∈ byref → ∀ x, look o = some x → updH H (freezeU look ((idsL args ++ idsO look byref).filter fun o => !hasN byref o)) o = some x := fun o ho x hx => by
          rw [updH_freeze_ne _ _ _ (notin o ho)]
          exact hl o x hx
        have hin : ∀ o, (o ∈ idsL args ∨ o ∈ idsO look byref) → idxN byref o = none → Seen w S1 β look o := fun o ho hi =>
          hseen o (List.mem_filter.2 ⟨List.mem_append.2 ho, by
            cases hq : hasN byref o with
            | false => rfl
            | true => exact absurd ((hasN_iff _ _).1 hq) (idxN_none hi)⟩)
        let β0 : Nat → Value := fun j => match byref[j]? with | some o => β o | none => undef
        have hβ0 : ∀ o j, idxN byref o = some j → β0 j = β o := fun o j hj => by simp only [β0, idxN_some hj]
        obtain ⟨gcl, hρ, hown⟩ := callee_good (β0 := β0) g1 hn hmo hlk1 (fun o ho hi => hin o (.inr ho) hi) hβ0
        have hargs' : RepL w S1 β0 (if pk = true then packArgs P fn.params.toList args' else args') vals := by
          have h1 : RepL w S1 β0 args' vals := trL_ok hβ0 (hargs.mono hS1 (fun _ _ => rfl) fun _ _ => rfl) htr fun o ho hi => hin o (.inl ho) hi
          split
          · exact packArgs_ok h1
          · exact h1
        refine (hholds w S1 β0 vals gcl hargs').mono ?_
        rintro v w' ⟨S', β', hrv, gcal, mv, hβm⟩
        have hlen := (mapO_some hmo).1
        have hβ' : ∀ (j o : Nat), byref[j]? = some o → β' j = β o := fun j o ho => by
          rw [hβm j (by rw [hlen]; exact (List.getElem?_eq_some_iff.1 ho).1)]
          simp only [β0, ho]
        have hfr1 : Fresh fid (updH H (freezeU look ((idsL args ++ idsO look byref).filter fun o => !hasN byref o))) := fun k hk1 hk2 => by
          obtain ⟨e1, e2⟩ := hfresh k hk1 hk2
          refine ⟨?_, fun o y hy => ?_⟩
          · cases hq : updH H (freezeU look ((idsL args ++ idsO look byref).filter fun o => !hasN byref o)) k with
            | none => rfl
            | some y =>
              obtain ⟨z, hz, _⟩ := fz.old k y hq
              rw [e1] at hz
              cases hz
          · obtain ⟨z, hz, rfl | ⟨rfl, _⟩⟩ := fz.old o y hy
            · exact e2 o _ hz
            · rw [O.ids_freeze]
              exact e2 o z hz
        by_cases hz : fz0 = true
        · obtain ⟨g2, c2, hσ⟩ := callBack (S2 := S') g1 hfr1 hn hρ gcal mv hown hβ' hfin mv.hS (fun _ h => h) mv.st (fun _ h => h) (fun j x hx => gcal.rep hx) (fun j x b hx hf hb => gcal.froz hx hf hb)
          refine ⟨S', backβ β β' fid byref.length, ?_, ?_, ?_⟩
          · refine renA_ok hrv fun o j ho hj => ?_
            simp only [bkF, Option.some.injEq] at hj
            rw [← hj]
            exact hσ o (hres o ho)
          · simp only [hz, if_true, updH_append] at g2 ⊢
            exact g2
          · simp only [hz, if_true]
            rw [updH_append]
            exact c1.trans c2
        · have hfl2 := hfl.resolve_left hz
          have hff : ∀ {j x}, lookO r.fin j = some x → x.flat = true := fun h => lookO_all (p := fun x => x.flat = true) hfl2.2 h
          have hρ' : ∀ (j o : Nat), byref[j]? = some o → ∃ y, H o = some y ∧ y.frz = false := fun j o ho => by
            obtain ⟨y, hy, hyf⟩ := hρ j o ho
            rw [updH_freeze_ne _ _ _ (notin o (List.mem_of_getElem? ho))] at hy
            exact ⟨y, hy, hyf⟩
          obtain ⟨g2, c2, hσ⟩ := callBack (S2 := S) g hfresh hn hρ' gcal mv hown hβ' hfin (fun _ h => h) (fun b hb => mv.hS b (hS1 b hb)) (fun b hb => .inl hb) hS1 (fun j x hx => repO_flat (hff hx) (gcal.rep hx)) (fun j x b hx hf hb => by rw [flat_frz (hff hx)] at hf; cases hf)
          have hz' : fz0 = false := by simpa using hz
          refine ⟨S, backβ β β' fid byref.length, ?_, ?_, ?_⟩
          · refine renA_ok (repA_flat hrv hfl2.1) fun o j ho hj => ?_
            simp only [bkF, Option.some.injEq] at hj
            rw [← hj]
            exact hσ o (hres o ho)
          · simp only [hz', Bool.false_eq_true, if_false, List.nil_append]
            exact g2
          · simp only [hz', Bool.false_eq_true, if_false, List.nil_append]
            exact c2
      · cases h
    · cases h
  · cases h

def RunOk (P : Program) (B : Nat) (W0 : Nat → Option Obj) (run : Runner) : Prop :=
  ∀ f args objs scr r, run f args objs scr = some r → (∀ b ∈ r.props, b = true) → (∀ c ∈ r.calls, CallOb.Holds P B W0 c) → CallOb.Holds P B W0 ⟨f, args, objs, r.res, r.fin⟩

theorem callK_ok (hrun : RunOk P B W0 run) (g : Good B W0 w S β H) (hl : ∀ o x, look o = some x → H o = some x) (hfresh : Fresh fid H) {cs : Option CallScript} {f : FuncId} {args : List A} {vals : List Value} (hargs : RepL w S β args vals) {out : Out}
    (h : callK P run look fid cs f args = some out) (hp : ∀ p ∈ out.props, p) (hc : ∀ c ∈ out.calls, CallOb.Holds P B W0 c) :
    Lands P ((callFunc f vals.toArray).run P w) fun v w' => ∃ S' β', RepA w' S' β' out.v v ∧ Good B W0 w' S' β' (updH H out.upd) ∧ Chg fid w S β H w' S' β' (updH H out.upd) := by
  have key : ∀ (scr : List Scr) (fz : Bool) args objs r fz', (run f args objs scr).map (·, fz) = some (r, fz') → (∀ b ∈ r.props, b = true) → (∀ c ∈ r.calls, CallOb.Holds P B W0 c) → CallOb.Holds P B W0 ⟨f, args, objs, r.res, r.fin⟩ := by
    intro scr fz args objs r fz' he h1 h2
    cases hq : run f args objs scr with
    | none => rw [hq] at he; cases he
    | some r' =>
      rw [hq] at he
      simp only [Option.map_some, Option.some.injEq, Prod.mk.injEq] at he
      obtain ⟨rfl, _⟩ := he
      exact hrun f args objs scr _ hq h1 h2
  unfold callK at h
  split at h
  · rename_i byref res fin fz pk
    refine callCore_ok g hl hfresh hargs (fun args objs r fz' he h1 h2 => ?_) h hp hc
    simp only [Option.some.injEq, Prod.mk.injEq] at he
    obtain ⟨rfl, _⟩ := he
    exact h2 _ (List.mem_singleton.2 rfl)
  · exact callCore_ok g hl hfresh hargs (key _ _) h hp hc
  · exact callCore_ok g hl hfresh hargs (key _ _) h hp hc

end
end Go.Proofs.YtcbeifkfllcjoaaDoor
