/-
  The call's own objects in a world: what holds of them, and how a change of one keeps the others.
-/
import Derived.Test.YtcbeifkfllcjoaaDoorRB
set_option linter.unusedVariables false
set_option linter.unusedSimpArgs false
namespace Go.Proofs.YtcbeifkfllcjoaaDoor

def blk : Value → Option Nat
  | .slice (some a) _ c => if c = 0 then none else some a.block
  | .pointer (some a) => some a.block
  | .map (some r) => some r
  | _ => none

def O.frz : O → Bool
  | .arr _ _ _ f => f
  | .box _ _ f => f
  | .map .. => false
  | .row .. => false

def O.freeze : O → O
  | .arr e τ xs _ => .arr e τ xs true
  | .box t cs _ => .box t cs true
  | x => x

/-- as World.ownsRow; a slice without capacity may lie anywhere -/
def rowAt (w : World) (B : Nat) (e : TypeId) (size : Nat) (v : Value) (n : Nat) (xs : List Value) : Prop :=
  xs.length = n * size ∧
  ((∃ a, v = .slice a 0 0 ∧ n = 0) ∨
   ∃ g cap cur, v = .slice (some ⟨g, 0, none⟩) n cap ∧ B ≤ g ∧ w.heap[g]? = some (.cells cur e (0, 0)) ∧ n ≤ cap ∧ cap ≤ maxLen ∧ cur.size = cap * size ∧ cur.toList.take (n * size) = xs)

theorem rowAt_of_owns {w : World} {B e size n : Nat} {v : Value} {xs : List Value} (h : w.ownsRow B e size v n xs) : rowAt w B e size v n xs := by
  refine ⟨h.1, ?_⟩
  rcases h.2 with ⟨rfl, h0⟩ | h
  · exact .inl ⟨none, rfl, h0⟩
  · exact .inr h

theorem blk_slice {b off n c : Nat} {q} (h : 0 < c) : blk (.slice (some ⟨b, off, q⟩) n c) = some b := by
  unfold blk
  exact if_neg (by omega)

theorem blk_some {a : Option Addr} {n c b : Nat} (h : blk (.slice a n c) = some b) : 0 < c ∧ ∃ x, a = some x ∧ x.block = b := by
  cases a with
  | none => cases h
  | some x =>
    unfold blk at h
    by_cases hc : c = 0
    · simp [hc] at h
    · simp only [hc, if_false, Option.some.injEq] at h
      exact ⟨by omega, x, rfl, h⟩

def RepO (B : Nat) (w : World) (S : Nat → Prop) (β : Nat → Value) (v : Value) : O → Prop
  | .arr e τ xs _ => ∃ vs : List Value, rowAt w B e τ.size v (List.length xs) vs ∧ 0 < τ.size ∧ ∀ j (h : j < List.length xs), Rep w S τ xs[j] (fun i => vs[j * τ.size + i]?)
  | .box t cells _ => ∃ b vs, v = .pointer (some ⟨b, 0, none⟩) ∧ B ≤ b ∧ w.heap[b]? = some (.cells (List.toArray vs) t (0, 0)) ∧ RepL w S β cells vs ∧ ∀ u ∈ vs, u.oneCell' = true
  | .map κ ν es => ∃ r ents, v = .map (some r) ∧ B ≤ r ∧ w.heap[r]? = some (.map ents ents.size) ∧ ents.size = List.length es ∧
      ∀ i (h : i < List.length es) (h' : i < ents.size), RepV w S κ es[i].1 ents[i].key ∧ RepV w S ν es[i].2 ents[i].val ∧ ents[i].born = i
  | .row e n sz cells => ∃ vs : List Value, rowAt w B e sz v n vs ∧ 0 < sz ∧ RepL w S β cells vs ∧ ∀ u ∈ vs, u.oneCell' = true

theorem ownsRow_same {w w' : World} {B e size n : Nat} {v : Value} {xs : List Value} (h : rowAt w B e size v n xs) (hb : ∀ b, blk v = some b → w'.heap[b]? = w.heap[b]?) : rowAt w' B e size v n xs := by
  refine ⟨h.1, ?_⟩
  rcases h.2 with hn | ⟨g, cap, cur, rfl, hb', hg, hnc, rest⟩
  · exact .inl hn
  · rcases Nat.eq_zero_or_pos cap with h0 | h0
    · subst h0
      obtain rfl : n = 0 := by omega
      exact .inl ⟨_, rfl, rfl⟩
    · exact .inr ⟨g, cap, cur, rfl, hb', (hb g (blk_slice h0)).trans hg, hnc, rest⟩

theorem RepO.keep {B : Nat} {w w' : World} {S S' : Nat → Prop} {β β' : Nat → Value} {v : Value} {x : O} (hS : ∀ b, S b → S' b) (hw : ∀ b, S b → w'.heap[b]? = w.heap[b]?)
    (hb : ∀ b, blk v = some b → w'.heap[b]? = w.heap[b]?) (hβ : ∀ o, o ∈ x.ids → β' o = β o) (h : RepO B w S β v x) : RepO B w' S' β' v x := by
  cases x with
  | arr e τ xs f =>
    obtain ⟨vs, h1, h2, h3⟩ := h
    exact ⟨vs, ownsRow_same h1 hb, h2, fun j hj => (h3 j hj).mono hS hw⟩
  | box t cells f =>
    obtain ⟨b, vs, rfl, h1, h2, h3, h4⟩ := h
    exact ⟨b, vs, rfl, h1, (hb b rfl).trans h2, h3.mono hS hw hβ, h4⟩
  | map κ ν es =>
    obtain ⟨r, ents, rfl, h1, h2, h3, h4⟩ := h
    exact ⟨r, ents, rfl, h1, (hb r rfl).trans h2, h3, fun i h h' => ⟨(h4 i h h').1.mono hS hw, (h4 i h h').2.1.mono hS hw, (h4 i h h').2.2⟩⟩
  | row e n sz cells =>
    obtain ⟨vs, h1, h2, h3, h4⟩ := h
    exact ⟨vs, ownsRow_same h1 hb, h2, h3.mono hS hw hβ, h4⟩

theorem RepO.lt {B : Nat} {w : World} {S : Nat → Prop} {β : Nat → Value} {v : Value} {x : O} (h : RepO B w S β v x) {b : Nat} (hb : blk v = some b) : B ≤ b ∧ b < w.heap.size := by
  have key : ∀ {b : Nat} {o : Obj}, w.heap[b]? = some o → b < w.heap.size := fun h => (Array.getElem?_eq_some_iff.1 h).1
  cases x with
  | arr e τ xs f =>
    obtain ⟨vs, h1, _⟩ := h
    rcases h1.2 with ⟨a, rfl, _⟩ | ⟨g, cap, cur, rfl, hb', hg, _⟩
    · have := (blk_some hb).1
      omega
    · obtain ⟨_, x, hx, hb⟩ := blk_some hb
      injection hx with hx
      subst hx hb
      exact ⟨hb', key hg⟩
  | box t cells f =>
    obtain ⟨b', vs, rfl, h1, h2, _⟩ := h
    simp [blk] at hb
    subst hb
    exact ⟨h1, key h2⟩
  | map κ ν es =>
    obtain ⟨r, ents, rfl, h1, h2, _⟩ := h
    simp [blk] at hb
    subst hb
    exact ⟨h1, key h2⟩
  | row e n sz cells =>
    obtain ⟨vs, h1, _⟩ := h
    rcases h1.2 with ⟨a, rfl, _⟩ | ⟨g, cap, cur, rfl, hb', hg, _⟩
    · have := (blk_some hb).1
      omega
    · obtain ⟨_, x, hx, hb⟩ := blk_some hb
      injection hx with hx
      subst hx hb
      exact ⟨hb', key hg⟩

structure Good (B : Nat) (W0 : Nat → Option Obj) (w : World) (S : Nat → Prop) (β : Nat → Value) (H : Nat → Option O) : Prop where
  rep : ∀ {o x}, H o = some x → RepO B w S β (β o) x
  excl : ∀ {o x b}, H o = some x → x.frz = false → blk (β o) = some b → ¬ S b
  froz : ∀ {o x b}, H o = some x → x.frz = true → blk (β o) = some b → S b
  apart : ∀ {o o' x x' b}, o ≠ o' → H o = some x → H o' = some x' → x.frz = false → x'.frz = false → blk (β o) = some b → blk (β o') = some b → False
  low : ∀ b, S b → b < w.heap.size
  glob : ∀ b, b < B → w.heap[b]? = W0 b
  base : B ≤ w.heap.size

/-- block b is one that the call may write -/
def Own (β : Nat → Value) (H : Nat → Option O) (b : Nat) : Prop := ∃ o x, H o = some x ∧ x.frz = false ∧ blk (β o) = some b

structure Chg (fid : Nat) (w : World) (S : Nat → Prop) (β : Nat → Value) (H : Nat → Option O) (w' : World) (S' : Nat → Prop) (β' : Nat → Value) (H' : Nat → Option O) : Prop where
  hβ : ∀ o, (o < fid ∨ fid + 16 ≤ o) → β' o = β o
  hS : ∀ b, S b → S' b
  heap : ∀ b, b < w.heap.size → ¬ Own β H b → w'.heap[b]? = w.heap[b]?
  size : w.heap.size ≤ w'.heap.size
  os : w'.os = w.os
  tape : w'.tape = w.tape
  output : w'.output = w.output
  own : ∀ b, Own β' H' b → w.heap.size ≤ b ∨ Own β H b
  st : ∀ b, S' b → S b ∨ w.heap.size ≤ b ∨ Own β H b

theorem Good.stable {B W0 w S β H} (g : Good B W0 w S β H) {b : Nat} (hb : S b) : ¬ Own β H b := fun ⟨o, x, h1, h2, h3⟩ => g.excl h1 h2 h3 hb

theorem Chg.keep {fid w S β H w' S' β' H'} {B W0} (c : Chg fid w S β H w' S' β' H') (g : Good B W0 w S β H) {b : Nat} (hb : S b) : w'.heap[b]? = w.heap[b]? := c.heap b (g.low b hb) (g.stable hb)

theorem Chg.refl (fid : Nat) (w S β H) : Chg fid w S β H w S β H := ⟨fun _ _ => rfl, fun _ h => h, fun _ _ _ => rfl, Nat.le_refl _, rfl, rfl, rfl, fun _ h => .inr h, fun _ h => .inl h⟩

theorem Chg.trans {fid w S β H w' S' β' H' w'' S'' β'' H''} (c : Chg fid w S β H w' S' β' H') (d : Chg fid w' S' β' H' w'' S'' β'' H'') : Chg fid w S β H w'' S'' β'' H'' where
  hβ o h := (d.hβ o h).trans (c.hβ o h)
  hS b h := d.hS b (c.hS b h)
  heap b hb hn := by
    rw [d.heap b (Nat.lt_of_lt_of_le hb c.size) (fun ho => ?_), c.heap b hb hn]
    rcases c.own b ho with h | h
    · omega
    · exact hn h
  size := Nat.le_trans c.size d.size
  os := d.os.trans c.os
  tape := d.tape.trans c.tape
  output := d.output.trans c.output
  own b h := by
    rcases d.own b h with h | h
    · exact .inl (Nat.le_trans c.size h)
    · exact c.own b h
  st b h := by
    rcases d.st b h with h | h | h
    · exact c.st b h
    · exact .inr (.inl (Nat.le_trans c.size h))
    · exact .inr (c.own b h)

def upd1 (H : Nat → Option O) (o : Nat) (x : Option O) : Nat → Option O := fun k => if k = o then x else H k

def updH (H : Nat → Option O) : List (Nat × Option O) → Nat → Option O
  | [] => H
  | (o, x) :: u => updH (upd1 H o x) u

theorem lookO_dropO (l : List (Nat × O)) (o k : Nat) : lookO (dropO l o) k = if k = o then none else lookO l k := by
  induction l with
  | nil => simp [dropO, lookO]
  | cons p l ih =>
    obtain ⟨j, x⟩ := p
    simp only [dropO]
    by_cases h : j = o
    · rw [if_pos h, ih]
      by_cases hk : k = o
      · rw [if_pos hk, if_pos hk]
      · rw [if_neg hk, if_neg hk]
        simp only [lookO]
        rw [if_neg (fun e => hk (by omega))]
    · rw [if_neg h]
      simp only [lookO]
      rw [ih]
      by_cases hjk : j = k
      · rw [if_pos hjk, if_pos hjk, if_neg (by omega)]
      · rw [if_neg hjk, if_neg hjk]

theorem lookO_putO (u : List (Nat × Option O)) : ∀ l : List (Nat × O), lookO (putO l u) = updH (lookO l) u := by
  induction u with
  | nil => exact fun l => rfl
  | cons p u ih =>
    intro l
    obtain ⟨o, x⟩ := p
    cases x with
    | none =>
      simp only [putO, updH]
      rw [ih]
      congr 1
      funext k
      rw [lookO_dropO]
      rfl
    | some x =>
      simp only [putO, updH]
      rw [ih]
      congr 1
      funext k
      simp only [lookO, upd1]
      by_cases h : o = k
      · rw [if_pos h, if_pos h.symm]
      · rw [if_neg h, if_neg (fun e => h e.symm), lookO_dropO, if_neg (fun e => h e.symm)]

/-! ### Freezing -/
theorem Good.freeze1 {B W0 w S β H} (g : Good B W0 w S β H) {o : Nat} {x : O} (ho : H o = some x) (hx : x.freeze.frz = true) :
    Good B W0 w (fun b => S b ∨ blk (β o) = some b) β (upd1 H o (some x.freeze)) := by
  have hS : ∀ b, S b → S b ∨ blk (β o) = some b := fun _ h => .inl h
  have hkeep : ∀ {v : Value} {y : O}, RepO B w S β v y → RepO B w (fun b => S b ∨ blk (β o) = some b) β v y := fun h => h.keep hS (fun _ _ => rfl) (fun _ _ => rfl) (fun _ _ => rfl)
  refine ⟨?_, ?_, ?_, ?_, ?_, g.glob, g.base⟩
  · intro k y hk
    unfold upd1 at hk
    split at hk
    · subst_vars
      injection hk with hk
      subst hk
      have := hkeep (g.rep ho)
      cases x with
      | arr e τ xs f => exact this
      | box t cs f => exact this
      | map κ ν es => exact this
      | row e n sz cells => exact this
    · exact hkeep (g.rep hk)
  · intro k y b hk hf hb
    unfold upd1 at hk
    split at hk
    · injection hk with hk
      subst hk
      rw [hx] at hf
      cases hf
    · rename_i hne
      rintro (h | h)
      · exact g.excl hk hf hb h
      · by_cases hxf : x.frz = false
        · exact g.apart hne hk ho hf hxf hb h
        · exact g.excl hk hf hb (g.froz ho (by simpa using hxf) h)
  · intro k y b hk hf hb
    unfold upd1 at hk
    split at hk
    · subst_vars
      exact .inr hb
    · exact .inl (g.froz hk hf hb)
  · intro k k' y y' b hne hk hk' hf hf' hb hb'
    unfold upd1 at hk hk'
    split at hk
    · injection hk with hk
      subst hk
      rw [hx] at hf
      cases hf
    · split at hk'
      · injection hk' with hk'
        subst hk'
        rw [hx] at hf'
        cases hf'
      · exact g.apart hne hk hk' hf hf' hb hb'
  · rintro b (h | h)
    · exact g.low b h
    · exact ((g.rep ho).lt h).2

/-- what freezing leaves -/
structure Frozen (S : Nat → Prop) (β : Nat → Value) (H : Nat → Option O) (S' : Nat → Prop) (H' : Nat → Option O) : Prop where
  hS : ∀ b, S b → S' b
  st : ∀ b, S' b → S b ∨ Own β H b
  old : ∀ o x, H' o = some x → ∃ y, H o = some y ∧ (x = y ∨ x = y.freeze ∧ x.frz = true)
  new : ∀ o y, H o = some y → H' o = some y ∨ H' o = some y.freeze ∧ y.freeze.frz = true

theorem Frozen.refl (S β H) : Frozen S β H S H := ⟨fun _ h => h, fun _ h => .inl h, fun _ x h => ⟨x, h, .inl rfl⟩, fun _ _ h => .inl h⟩

theorem O.freeze_freeze (x : O) : x.freeze.freeze = x.freeze := by cases x <;> rfl

theorem Frozen.own {S β H S' H'} (f : Frozen S β H S' H') {b : Nat} (h : Own β H' b) : Own β H b := by
  obtain ⟨o, x, h1, h2, h3⟩ := h
  obtain ⟨y, hy, rfl | ⟨_, h⟩⟩ := f.old o x h1
  · exact ⟨o, _, hy, h2, h3⟩
  · rw [h] at h2; cases h2

theorem Frozen.chg {S β H S' H'} (f : Frozen S β H S' H') (fid : Nat) (w : World) : Chg fid w S β H w S' β H' :=
  ⟨fun _ _ => rfl, f.hS, fun _ _ _ => rfl, Nat.le_refl _, rfl, rfl, rfl, fun _ h => .inr (f.own h), fun b h => (f.st b h).imp id .inr⟩

theorem Good.freezeAll {B W0 w β} {look : Nat → Option O} : ∀ (ids : List Nat) {S H}, Good B W0 w S β H → (∀ o x, look o = some x → ∃ y, H o = some y ∧ (x = y ∨ x.freeze = y)) →
    ∃ S', Good B W0 w S' β (updH H (freezeU look ids)) ∧ Frozen S β H S' (updH H (freezeU look ids)) ∧
      ∀ o, o ∈ ids → ∀ x, look o = some x → x.freeze.frz = true → updH H (freezeU look ids) o = some x.freeze ∧ ∀ b, blk (β o) = some b → S' b := by
  intro ids
  induction ids with
  | nil => exact fun {S H} g _ => ⟨S, g, Frozen.refl _ _ _, fun o h => by simp at h⟩
  | cons o ids ih =>
    intro S H g hl
    have hcase : (∃ x, look o = some x ∧ x.freeze.frz = true ∧ freezeU look (o :: ids) = (o, some x.freeze) :: freezeU look ids) ∨
        ((∀ x, look o = some x → x.freeze.frz = false) ∧ freezeU look (o :: ids) = freezeU look ids) := by
      unfold freezeU
      simp only [List.filterMap_cons]
      cases hlo : look o with
      | none => exact .inr ⟨(fun x h => by cases h), rfl⟩
      | some x =>
        cases x with
        | arr e τ xs f => exact .inl ⟨_, rfl, rfl, rfl⟩
        | box t cs f => exact .inl ⟨_, rfl, rfl, rfl⟩
        | map κ ν es => exact .inr ⟨(fun x h => by injection h with h; subst h; rfl), rfl⟩
        | row e n sz cells => exact .inr ⟨(fun x h => by injection h with h; subst h; rfl), rfl⟩
    rcases hcase with ⟨x, hx, hxf, he⟩ | ⟨hx, he⟩
    · rw [he]
      simp only [updH]
      obtain ⟨y, hy, hxy⟩ := hl o x hx
      have hyf : y.freeze = x.freeze := by
        rcases hxy with rfl | rfl
        · rfl
        · rw [O.freeze_freeze]
      have g1 := g.freeze1 hy (by rw [hyf]; exact hxf)
      rw [hyf] at g1
      have hl1 : ∀ k z, look k = some z → ∃ y, upd1 H o (some x.freeze) k = some y ∧ (z = y ∨ z.freeze = y) := by
        intro k z hz
        unfold upd1
        split
        · subst_vars
          rw [hx] at hz
          injection hz with hz
          subst hz
          exact ⟨_, rfl, .inr rfl⟩
        · exact hl k z hz
      obtain ⟨S', g', f', hin⟩ := ih g1 hl1
      refine ⟨S', g', ⟨fun b h => f'.hS b (.inl h), fun b h => ?_, fun k z hz => ?_, fun k z hz => ?_⟩, fun k hk z hz hzf => ?_⟩
      · rcases f'.st b h with (h | h) | ⟨k, z, hk, hzf, hb⟩
        · exact .inl h
        · by_cases hf : y.frz = false
          · exact .inr ⟨o, y, hy, hf, h⟩
          · exact .inl (g.froz hy (by simpa using hf) h)
        · unfold upd1 at hk
          split at hk
          · injection hk with hk
            subst hk
            rw [hxf] at hzf
            cases hzf
          · exact .inr ⟨k, z, hk, hzf, hb⟩
      · obtain ⟨y', hy', hz'⟩ := f'.old k z hz
        unfold upd1 at hy'
        split at hy'
        · subst_vars
          injection hy' with hy'
          subst hy'
          refine ⟨y, hy, .inr ?_⟩
          rcases hz' with rfl | ⟨rfl, h⟩
          · exact ⟨hyf.symm, hxf⟩
          · rw [O.freeze_freeze]; exact ⟨hyf.symm, hxf⟩
        · exact ⟨y', hy', hz'⟩
      · by_cases hko : k = o
        · subst hko
          rw [hy] at hz
          injection hz with hz
          subst hz
          have := f'.new k x.freeze (by simp [upd1])
          rw [O.freeze_freeze] at this
          rw [hyf]
          exact .inr ⟨by rcases this with h | h <;> first | exact h | exact h.1, hxf⟩
        · exact f'.new k z (by simp [upd1, hko, hz])
      · by_cases hko : k = o
        · subst hko
          rw [hx] at hz
          injection hz with hz
          subst hz
          have := f'.new k x.freeze (by simp [upd1])
          rw [O.freeze_freeze] at this
          exact ⟨by rcases this with h | h <;> first | exact h | exact h.1, fun b hb => f'.hS b (.inr hb)⟩
        · exact hin k (by simpa [hko] using hk) z hz hzf
    · rw [he]
      obtain ⟨S', g', f', hin⟩ := ih g hl
      refine ⟨S', g', f', fun k hk z hz hzf => ?_⟩
      rcases List.mem_cons.1 hk with rfl | hk
      · rw [hx z hz] at hzf
        cases hzf
      · exact hin k hk z hz hzf

end Go.Proofs.YtcbeifkfllcjoaaDoor
