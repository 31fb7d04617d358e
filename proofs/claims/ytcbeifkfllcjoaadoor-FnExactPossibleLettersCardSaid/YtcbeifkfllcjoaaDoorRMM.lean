/-
  Maps that the call itself has made: lookups and stores.
-/
import Derived.Test.YtcbeifkfllcjoaaDoorRM
import Derived.MapKept
set_option linter.unusedVariables false
set_option linter.unusedSimpArgs false
namespace Go.Proofs.YtcbeifkfllcjoaaDoor

theorem mapIdx_le (κ ν : Ty) : ∀ (es : List (κ.Den × ν.Den)) (q : κ.Den), mapIdx κ ν es q ≤ es.length := by
  intro es q
  induction es with
  | nil => exact Nat.le_refl _
  | cons e l ih =>
    unfold mapIdx
    split
    · exact Nat.zero_le _
    · simpa using ih

theorem mapGet_idx (κ ν : Ty) : ∀ (es : List (κ.Den × ν.Den)) (q : κ.Den), mapGet κ ν es q = (es[mapIdx κ ν es q]?).map (·.2) := by
  intro es q
  induction es with
  | nil => rfl
  | cons e l ih =>
    unfold mapIdx mapGet
    split
    · rfl
    · simpa using ih

theorem mapSet_idx (κ ν : Ty) : ∀ (es : List (κ.Den × ν.Den)) (q : κ.Den) (v : ν.Den), mapSet κ ν es q v = if mapIdx κ ν es q < es.length then es.set (mapIdx κ ν es q) (q, v) else es ++ [(q, v)] := by
  intro es q v
  induction es with
  | nil => rfl
  | cons e l ih =>
    unfold mapIdx mapSet
    split
    · simp
    · rw [ih]
      by_cases h : mapIdx κ ν l q < l.length
      · rw [if_pos h, if_pos (by simpa using h)]; rfl
      · rw [if_neg h, if_neg (by simpa using h)]; rfl

section
variable {run : Runner} {P : Program} {B : Nat} {W0 : Nat → Option Obj} {fid : Nat} {w : World} {S : Nat → Prop} {β : Nat → Value} {H : Nat → Option O} {look : Nat → Option O} {ρ : Operand → Value} {o : Oper} {out : Out}

def keyD : Ty → Option TypeDesc
  | .int k => some (.int k)
  | .str => some .string
  | .bool => some .bool
  | _ => none

theorem tyOf_key {t : TypeId} {κ : Ty} (h : tyOf P 9 t = some κ) (hk : keyOk κ = true) : ∃ d, keyD κ = some d ∧ P.underlying t = some d := by
  unfold tyOf at h
  split at h <;> try simp only [Option.some.injEq] at h
  · rename_i k hu; subst h; exact ⟨_, rfl, hu⟩
  · rename_i hu; subst h; exact ⟨_, rfl, hu⟩
  · rename_i hu; subst h; exact ⟨_, rfl, hu⟩
  · rename_i e hu
    cases hq : tyOf P 8 e with
    | none => rw [hq] at h; cases h
    | some x => rw [hq] at h; simp only [Option.map_some, Option.some.injEq] at h; subst h; cases hk
  · rename_i fs hu
    exfalso
    cases hl : fs.toList with
    | nil => rw [hl] at h; simp only [List.foldr_nil, Option.some.injEq] at h; subst h; cases hk
    | cons f l =>
      rw [hl] at h
      simp only [List.foldr_cons] at h
      split at h
      · injection h with h; subst h; cases hk
      · cases h
  · rename_i n e hu
    exfalso
    cases n with
    | zero => simp only [List.range_zero, List.foldr_nil, Option.some.injEq] at h; subst h; cases hk
    | succ n =>
      rw [List.range_succ_eq_map] at h
      simp only [List.foldr_cons] at h
      split at h
      · injection h with h; subst h; cases hk
      · cases h
  · cases h

theorem repV_key {κ : Ty} {d : TypeDesc} (hd : keyD κ = some d) {x : κ.Den} {v : Value} (h : RepV w S κ x v) : MapKept.IsKey d v ∧ ∀ {y : κ.Den} {u : Value}, RepV w S κ y u → Instr.sameNow d v u = some (keyB κ x y) ∧ (keyB κ x y = true → Instr.sameBits 10000 u v = true ∧ v = u) := by
  cases κ with
  | int k =>
    simp only [keyD, Option.some.injEq] at hd
    subst hd
    have e := inv_int (.val (β := fun _ => undef) h)
    subst e
    refine ⟨rfl, fun {y u} hu => ?_⟩
    have e := inv_int (.val (β := fun _ => undef) hu)
    subst e
    refine ⟨?_, fun h => ?_⟩
    · by_cases hxy : (x : Int) = y
      · simp [Instr.sameNow, keyB, hxy]
      · simp [Instr.sameNow, keyB, hxy]
    · simp only [keyB, decide_eq_true_eq] at h
      refine ⟨?_, by rw [h]⟩
      rw [h]
      simp [Instr.sameBits]
  | str =>
    simp only [keyD, Option.some.injEq] at hd
    subst hd
    have e := inv_str (.val (β := fun _ => undef) h)
    subst e
    refine ⟨trivial, fun {y u} hu => ?_⟩
    have e := inv_str (.val (β := fun _ => undef) hu)
    subst e
    refine ⟨?_, fun h => ?_⟩
    · simp only [Instr.sameNow, keyB]
      congr 1
      have := MapKept.bytes_beq x y
      by_cases hxy : (x : ByteArray) = y
      · rw [this.2 hxy]; simp [hxy]
      · have : (x == y) = false := by
          cases hq : (x == y) with
          | true => exact absurd (this.1 hq) hxy
          | false => rfl
        rw [this]; simp [hxy]
    · simp only [keyB, decide_eq_true_eq] at h
      refine ⟨?_, by rw [h]⟩
      rw [h]
      simp only [Instr.sameBits]
      exact (MapKept.bytes_beq y y).2 rfl
  | bool =>
    simp only [keyD, Option.some.injEq] at hd
    subst hd
    have e := inv_bool (.val (β := fun _ => undef) h)
    subst e
    refine ⟨trivial, fun {y u} hu => ?_⟩
    have e := inv_bool (.val (β := fun _ => undef) hu)
    subst e
    refine ⟨?_, fun h => ?_⟩
    · cases x <;> cases y <;> rfl
    · simp only [keyB, decide_eq_true_eq] at h
      refine ⟨?_, by rw [h]⟩
      rw [h]
      simp [Instr.sameBits]
  | slice e => cases hd
  | unit => cases hd
  | pair a b => cases hd

theorem findNow_map {κ ν : Ty} {d : TypeDesc} (hd : keyD κ = some d) {q : κ.Den} {key : Value} (hq : RepV w S κ q key) : ∀ (es : List (κ.Den × ν.Den)) (ents : List MapEntry) (i0 : Nat), ents.length = es.length →
    (∀ i (h : i < List.length es) (h' : i < ents.length), RepV w S κ es[i].1 ents[i].key) →
    Instr.findNow d key ents i0 = some ((ents[mapIdx κ ν es q]?).map fun e => (i0 + mapIdx κ ν es q, e.val)) := by
  intro es
  induction es with
  | nil =>
    intro ents i0 hlen _
    obtain rfl := List.eq_nil_of_length_eq_zero hlen
    rfl
  | cons e es ih =>
    intro ents i0 hlen hr
    cases ents with
    | nil => simp at hlen
    | cons m ents =>
      have h0 : RepV w S κ e.1 m.key := hr 0 (by simp) (by simp)
      obtain ⟨h1, h2⟩ := (repV_key hd hq).2 h0
      unfold Instr.findNow mapIdx
      rw [h1]
      cases hb : keyB κ q e.1 with
      | true => simp
      | false =>
        simp only [Bool.false_eq_true, if_false]
        rw [ih ents (i0 + 1) (by simpa using hlen) (fun i h h' => hr (i + 1) (by simpa using h) (by simpa using h'))]
        simp only [List.getElem?_cons_succ]
        congr 2
        funext x
        rw [Nat.add_assoc, Nat.add_comm 1]

/-- what is known of a map of the call's own -/
theorem map_head (g : Good B W0 w S β H) {k : Nat} {κ ν : Ty} {es : List (κ.Den × ν.Den)} (hk : H k = some (.map κ ν es)) :
    ∃ r ents, β k = .map (some r) ∧ B ≤ r ∧ w.heap[r]? = some (.map ents ents.size) ∧ ents.size = es.length ∧
      ∀ i (h : i < List.length es) (h' : i < ents.size), RepV w S κ es[i].1 ents[i].key ∧ RepV w S ν es[i].2 ents[i].val ∧ ents[i].born = i := g.rep hk

theorem mapT_some {t : TypeId} {κ ν : Ty} (h : mapT P t κ ν = true) : ∃ k v d, P.underlying t = some (.map k v) ∧ keyD κ = some d ∧ P.underlying k = some d ∧ ν.isAgg = false ∧ zeroOk P v ν = true ∧ zeroOne P v = true := by
  unfold mapT at h
  split at h
  · rename_i k v hu
    simp only [Bool.and_eq_true, Bool.not_eq_true', decide_eq_true_eq] at h
    obtain ⟨⟨⟨⟨⟨h1, h2⟩, h3⟩, h4⟩, h5⟩, h8⟩ := h
    obtain ⟨d, h6, h7⟩ := tyOf_key h3 h1
    exact ⟨k, v, d, hu, h6, h7, h2, h5, h8⟩
  · cases h

theorem toVal_no {τ : Ty} {a : A} {x : τ.Den} {v : Value} (h : toVal noLook τ a = some (x, [])) (ha : RepA w S β a v) : RepV w S τ x v :=
  toVal_ok h ha fun o ho => by simp at ho

theorem find_run {t k v : TypeId} {κ ν : Ty} {d : TypeDesc} (hd : keyD κ = some d) (hk : P.underlying k = some d) {q : κ.Den} {key : Value} (hq : RepV w S κ q key) {es : List (κ.Den × ν.Den)} {ents : Array MapEntry} (hlen : ents.size = es.length)
    (hr : ∀ i (h : i < List.length es) (h' : i < ents.size), RepV w S κ es[i].1 ents[i].key ∧ RepV w S ν es[i].2 ents[i].val ∧ ents[i].born = i) :
    (Instr.checkKey false 10000 k key).run P w = .ok () w ∧ (∀ e, (Instr.checkKey e 10000 k key).run P w = .ok () w) ∧ (Instr.findKey k key ents.toList).run P w = .ok ((ents[mapIdx κ ν es q]?).map fun e => (mapIdx κ ν es q, e.val)) w := by
  refine ⟨MapKept.run_checkKey hk (repV_key hd hq).1 _ _, fun e => MapKept.run_checkKey hk (repV_key hd hq).1 _ _, MapKept.run_findKey hk ?_⟩
  rw [findNow_map hd hq es ents.toList 0 (by simpa using hlen) (fun i h h' => by simpa using (hr i h (by simpa using h')).1)]
  simp

theorem zero_run {v : TypeId} {ν : Ty} (hz : zeroOk P v ν = true) (h1z : zeroOne P v = true) (hν : ν.isAgg = false) : ∃ z, (zeroValue v).run P w = .ok z w ∧ RepV w S ν ν.zero z := by
  obtain ⟨i, z, h1, h2, h3, h4⟩ := zeroOk_ok hz
  refine ⟨z, by simp [zeroValue, typeInfo, h1, h2], ?_⟩
  simp only [zeroOne, h1, h2] at h1z
  rw [isOne_eq] at h1z
  refine ⟨h4 w S, h3, ?_⟩
  rw [hν]
  constructor
  · intro h; cases h
  · rintro ⟨cs, h⟩
    rw [h] at h1z
    cases h1z

theorem op_lookup (g : Good B W0 w S β H) (hl : ∀ o x, look o = some x → H o = some x) {t : TypeId} {m y : Operand} {ok : Bool} (ho : o.op = .lookup t m y ok) {k : Nat} {a : A} (hm : RepA w S β (.mapr k) (ρ m)) (ha : RepA w S β a (ρ y))
    (h : lookK P look t k a ok = some out) : StepTo B W0 fid w S β H ((execOp ρ o).run P w) out := by
  unfold lookK at h
  split at h
  · rename_i κ ν es hlk
    split at h
    · rename_i hT
      split at h
      · rename_i q hq
        obtain ⟨kt, vt, d, hu, hd, hk, hν, hz, hz1⟩ := mapT_some hT
        obtain ⟨r, ents, hβ, hB, hh, hsz, hr⟩ := map_head g (hl _ _ hlk)
        have hqv := toVal_no hq ha
        obtain ⟨hck, hck', hf⟩ := find_run (w := w) (t := t) (v := vt) hd hk hqv hsz hr
        obtain ⟨z, hzr, hzv⟩ := zero_run (w := w) (S := S) (P := P) hz hz1 hν
        have hm' : ρ m = .map (some r) := by rw [inv_mapr hm, hβ]
        have hrun : ∀ c, ∃ v, (Instr.lookup t (.map (some r)) (ρ y) c).run P w = .ok (if c then .tuple #[v, .bool (mapGet κ ν es q).isSome] else v) w ∧ RepV w S ν ((mapGet κ ν es q).getD ν.zero) v := by
          intro c
          rw [mapGet_idx]
          rcases Nat.lt_or_ge (mapIdx κ ν es q) ents.size with hlt | hge
          · refine ⟨ents[mapIdx κ ν es q].val, ?_, ?_⟩
            · rw [Array.getElem?_eq_getElem hlt] at hf
              simp [Instr.lookup, run_underlying hu, Result.andThen, MapKept.run_getObj_map hh, hck', hf, List.getElem?_eq_getElem (show mapIdx κ ν es q < es.length by omega)]
            · rw [List.getElem?_eq_getElem (by omega)]
              exact (hr _ (by omega) hlt).2.1
          · refine ⟨z, ?_, ?_⟩
            · rw [Array.getElem?_eq_none hge] at hf
              simp [Instr.lookup, run_underlying hu, Result.andThen, MapKept.run_getObj_map hh, hck', hf, hzr, List.getElem?_eq_none (show es.length ≤ mapIdx κ ν es q by omega)]
            · rw [List.getElem?_eq_none (by omega)]
              exact hzv
        obtain ⟨v, hv, hrv⟩ := hrun ok
        split at h
        · rename_i hok
          obtain rfl := out_pure h
          refine StepTo.pure g (v := .tuple #[v, .bool (mapGet κ ν es q).isSome]) ?_ rfl ?_
          · simp only [hok, if_true] at hv
            simp [execOp, ho, hm', hok, hv, Result.andThen]
          · exact .tup (vs := [v, .bool (mapGet κ ν es q).isSome]) rfl fun i hi hi' => by
              match i, hi with
              | 0, _ => exact .val hrv
              | 1, _ => exact repA_bool _
        · rename_i hok
          obtain rfl := out_pure h
          refine StepTo.pure g (v := v) ?_ rfl (.val hrv)
          simp only [hok, if_false] at hv
          simp [execOp, ho, hm', hok, hv, Result.andThen]
      · cases h
    · cases h
  · cases h

/-- a map turned in its place -/
theorem map_put (g : Good B W0 w S β H) (fid : Nat) {k : Nat} {κ ν : Ty} {es es' : List (κ.Den × ν.Den)} (hk : H k = some (.map κ ν es)) {r : Nat} {ents ents' : Array MapEntry} (hβ : β k = .map (some r)) (hB : B ≤ r) (hh : w.heap[r]? = some (.map ents ents.size))
    (hsz : ents'.size = es'.length) (hr : ∀ i (h : i < List.length es') (h' : i < ents'.size), RepV w S κ es'[i].1 ents'[i].key ∧ RepV w S ν es'[i].2 ents'[i].val ∧ ents'[i].born = i) {w' : World} (hw : w' = { w with heap := w.heap.setIfInBounds r (.map ents' ents'.size) }) :
    Good B W0 w' S β (upd1 H k (some (.map κ ν es'))) ∧ Chg fid w S β H w' S β (upd1 H k (some (.map κ ν es'))) := by
  subst hw
  have hlt : r < w.heap.size := (Array.getElem?_eq_some_iff.1 hh).1
  have hoth : ∀ b, b ≠ r → (w.heap.setIfInBounds r (.map ents' ents'.size))[b]? = w.heap[b]? := fun b hb => (MapKept.heap_set hh).2 b hb
  refine g.put fid hk rfl rfl (by simp) rfl rfl rfl (fun b hb => hoth b fun e => hb (by rw [hβ, e]; rfl)) ?_
  have hS : ∀ b, S b → (w.heap.setIfInBounds r (.map ents' ents'.size))[b]? = w.heap[b]? := fun b hb => hoth b fun e => g.excl hk rfl (b := r) (by rw [hβ]; rfl) (e ▸ hb)
  exact ⟨r, ents', hβ, hB, (MapKept.heap_set hh).1, hsz, fun i h h' => ⟨(hr i h h').1.mono (fun _ h => h) hS, (hr i h h').2.1.mono (fun _ h => h) hS, (hr i h h').2.2⟩⟩

/-- the entries behind a store -/
theorem set_entries {κ ν : Ty} {d : TypeDesc} (hd : keyD κ = some d) {es : List (κ.Den × ν.Den)} {ents : Array MapEntry} (hsz : ents.size = es.length)
    (hr : ∀ i (h : i < List.length es) (h' : i < ents.size), RepV w S κ es[i].1 ents[i].key ∧ RepV w S ν es[i].2 ents[i].val ∧ ents[i].born = i) {q : κ.Den} {key : Value} (hq : RepV w S κ q key) {x : ν.Den} {u : Value} (hx : RepV w S ν x u) :
    let ents' := if mapIdx κ ν es q < ents.size then ents.modify (mapIdx κ ν es q) fun e => { e with key := key, val := u } else ents.push ⟨key, u, ents.size⟩
    ents'.size = (mapSet κ ν es q x).length ∧ ∀ i (h : i < List.length (mapSet κ ν es q x)) (h' : i < ents'.size), RepV w S κ (mapSet κ ν es q x)[i].1 ents'[i].key ∧ RepV w S ν (mapSet κ ν es q x)[i].2 ents'[i].val ∧ ents'[i].born = i := by
  intro ents'
  rw [mapSet_idx]
  by_cases hlt : mapIdx κ ν es q < ents.size
  · have e : ents' = ents.modify (mapIdx κ ν es q) fun e => { e with key := key, val := u } := if_pos hlt
    rw [e, if_pos (show mapIdx κ ν es q < es.length by omega)]
    refine ⟨by simp [hsz], fun i h h' => ?_⟩
    have hi : i < es.length := by simpa using h
    obtain ⟨h1, h2, h3⟩ := hr i hi (by omega)
    rw [Array.getElem_modify, List.getElem_set]
    by_cases hi' : mapIdx κ ν es q = i
    · rw [if_pos hi', if_pos hi']
      exact ⟨hq, hx, h3⟩
    · rw [if_neg hi', if_neg hi']
      exact ⟨h1, h2, h3⟩
  · have e : ents' = ents.push ⟨key, u, ents.size⟩ := if_neg hlt
    rw [e, if_neg (show ¬ mapIdx κ ν es q < es.length by omega)]
    refine ⟨by simp [hsz], fun i h h' => ?_⟩
    rw [Array.getElem_push, List.getElem_append]
    by_cases hi : i < es.length
    · rw [dif_pos hi, dif_pos (show i < ents.size by omega)]
      exact hr i hi (by omega)
    · rw [dif_neg hi, dif_neg (show ¬ i < ents.size by omega)]
      have hi2 : i = es.length := by simp at h; omega
      simp only [List.getElem_singleton]
      exact ⟨hq, hx, by omega⟩

theorem set_run {t kt vt : TypeId} (hu : P.underlying t = some (.map kt vt)) {κ ν : Ty} {d : TypeDesc} (hd : keyD κ = some d) (hk : P.underlying kt = some d) {es : List (κ.Den × ν.Den)} {ents : Array MapEntry} (hsz : ents.size = es.length)
    (hr : ∀ i (h : i < List.length es) (h' : i < ents.size), RepV w S κ es[i].1 ents[i].key ∧ RepV w S ν es[i].2 ents[i].val ∧ ents[i].born = i) {q : κ.Den} {key : Value} (hq : RepV w S κ q key) {r : Nat} (hh : w.heap[r]? = some (.map ents ents.size)) :
    (∃ a, (Instr.findKey kt key ents.toList).run P w = .ok a w ∧ ((∃ v, a = some (mapIdx κ ν es q, v) ∧ mapIdx κ ν es q < ents.size ∧ (Instr.keyThatStays (((ents[mapIdx κ ν es q]?).map (·.key)).getD key) key).run P w = .ok key w ∧ ents[mapIdx κ ν es q]?.map (·.val) = some v) ∨ a = none ∧ ¬ mapIdx κ ν es q < ents.size)) := by
  obtain ⟨hck, hck', hf⟩ := find_run (w := w) (t := t) (v := vt) hd hk hq hsz hr
  refine ⟨_, hf, ?_⟩
  by_cases hlt : mapIdx κ ν es q < ents.size
  · refine .inl ⟨ents[mapIdx κ ν es q].val, by simp [Array.getElem?_eq_getElem hlt], hlt, ?_, by simp [Array.getElem?_eq_getElem hlt]⟩
    have hb : keyB κ q es[mapIdx κ ν es q].1 = true := by
      have : ∀ (es : List (κ.Den × ν.Den)) (h : mapIdx κ ν es q < es.length), keyB κ q es[mapIdx κ ν es q].1 = true := by
        intro es
        induction es with
        | nil => intro h; simp at h
        | cons e es ih =>
          intro h
          cases hb : keyB κ q e.1 with
          | true => simp [mapIdx, hb]
          | false =>
            simp only [mapIdx, hb, Bool.false_eq_true, if_false, List.length_cons] at h ⊢
            simpa using ih (by omega)
      exact this es (by omega)
    have := ((repV_key hd hq).2 ((hr _ (by omega) hlt).1)).2 hb
    simp [Array.getElem?_eq_getElem hlt, Instr.keyThatStays, this.1]
  · exact .inr ⟨by simp [Array.getElem?_eq_none (Nat.le_of_not_lt hlt)], hlt⟩

theorem op_mapSet (g : Good B W0 w S β H) (hl : ∀ o x, look o = some x → H o = some x) {t : TypeId} {m y z : Operand} (ho : o.op = .mapUpdate t m y z ∨ o.op = .insert t m y z) {k : Nat} {a c : A} (hm : RepA w S β (.mapr k) (ρ m)) (ha : RepA w S β a (ρ y)) (hc : RepA w S β c (ρ z))
    (h : setK P look t k a c = some out) : StepTo B W0 fid w S β H ((execOp ρ o).run P w) out := by
  unfold setK at h
  split at h
  · rename_i κ ν es hlk
    split at h
    · rename_i hT
      split at h
      · rename_i q x hq hx
        injection h with h
        subst h
        obtain ⟨kt, vt, d, hu, hd, hk, hν, hz, hz1⟩ := mapT_some hT
        obtain ⟨r, ents, hβ, hB, hh, hsz, hr⟩ := map_head g (hl _ _ hlk)
        have hqv := toVal_no hq ha
        have hxv := toVal_no hx hc
        obtain ⟨hck, hck', hf⟩ := find_run (w := w) (t := t) (v := vt) hd hk hqv hsz hr
        have hm' : ρ m = .map (some r) := by rw [inv_mapr hm, hβ]
        obtain ⟨hs1, hs2⟩ := set_entries hd hsz hr hqv hxv
        obtain ⟨g', c'⟩ := map_put g fid (hl _ _ hlk) hβ hB hh hs1 hs2 rfl
        refine ⟨_, S, β, undef, .inr ⟨?_, rfl⟩, .undef _, g', c'⟩
        obtain ⟨fa, hfa, hcase⟩ := set_run hu hd hk hsz hr hqv hh
        have hrun : (Instr.mapUpdate t (.map (some r)) (ρ y) (ρ z)).run P w = .ok () { w with heap := w.heap.setIfInBounds r (.map (if mapIdx κ ν es q < ents.size then ents.modify (mapIdx κ ν es q) fun e => { e with key := ρ y, val := ρ z } else ents.push ⟨ρ y, ρ z, ents.size⟩) (if mapIdx κ ν es q < ents.size then ents.modify (mapIdx κ ν es q) fun e => { e with key := ρ y, val := ρ z } else ents.push ⟨ρ y, ρ z, ents.size⟩).size) } := by
          rcases hcase with ⟨v, rfl, hlt, hst, _⟩ | ⟨rfl, hlt⟩
          · simp only [if_pos hlt]
            simp [Instr.mapUpdate, run_underlying hu, Result.andThen, MapKept.run_getObj_map hh, hck, hfa, hst, MapKept.run_setObj_map _ hh]
          · simp only [if_neg hlt]
            simp [Instr.mapUpdate, run_underlying hu, Result.andThen, MapKept.run_getObj_map hh, hck, hfa, MapKept.run_setObj_map _ hh]
        rcases ho with ho | ho <;> simp [execOp, ho, hm', hrun, Result.andThen]
      · cases h
    · cases h
  · cases h

theorem op_mapEntry (g : Good B W0 w S β H) (hl : ∀ o x, look o = some x → H o = some x) {t : TypeId} {m y : Operand} (ho : o.op = .mapEntry t m y) {k : Nat} {a : A} (hm : RepA w S β (.mapr k) (ρ m)) (ha : RepA w S β a (ρ y))
    (h : entryK P look t k a = some out) : StepTo B W0 fid w S β H ((execOp ρ o).run P w) out := by
  unfold entryK at h
  split at h
  · rename_i κ ν es hlk
    split at h
    · rename_i hT
      split at h
      · rename_i q hq
        injection h with h
        subst h
        obtain ⟨kt, vt, d, hu, hd, hk, hν, hz, hz1⟩ := mapT_some hT
        obtain ⟨r, ents, hβ, hB, hh, hsz, hr⟩ := map_head g (hl _ _ hlk)
        have hqv := toVal_no hq ha
        obtain ⟨hck, hck', hf⟩ := find_run (w := w) (t := t) (v := vt) hd hk hqv hsz hr
        have hm' : ρ m = .map (some r) := by rw [inv_mapr hm, hβ]
        obtain ⟨z, hzr, hzv⟩ := zero_run (w := w) (S := S) (P := P) hz hz1 hν
        obtain ⟨fa, hfa, hcase⟩ := set_run hu hd hk hsz hr hqv hh
        have key : ∃ u, RepV w S ν ((mapGet κ ν es q).getD ν.zero) u ∧ (Instr.mapEntry t (.map (some r)) (ρ y)).run P w = .ok (.tuple #[u, goInt (mapIdx κ ν es q)]) { w with heap := w.heap.setIfInBounds r (.map (if mapIdx κ ν es q < ents.size then ents.modify (mapIdx κ ν es q) fun e => { e with key := ρ y, val := u } else ents.push ⟨ρ y, u, ents.size⟩) (if mapIdx κ ν es q < ents.size then ents.modify (mapIdx κ ν es q) fun e => { e with key := ρ y, val := u } else ents.push ⟨ρ y, u, ents.size⟩).size) } := by
          rw [mapGet_idx]
          rcases hcase with ⟨v, rfl, hlt, hst, hv⟩ | ⟨rfl, hlt⟩
          · rw [Array.getElem?_eq_getElem hlt] at hv
            simp only [Option.map_some, Option.some.injEq] at hv
            refine ⟨v, ?_, ?_⟩
            · rw [List.getElem?_eq_getElem (show mapIdx κ ν es q < es.length by omega), ← hv]
              exact (hr _ (by omega) hlt).2.1
            · simp only [if_pos hlt]
              have hborn := (hr _ (by omega) hlt).2.2
              have hmod : (ents.modify (mapIdx κ ν es q) fun e => { e with key := ρ y, val := v }) = ents.modify (mapIdx κ ν es q) fun e => { e with key := ρ y } := by
                apply Array.ext_getElem?
                intro i
                simp only [Array.getElem?_modify]
                by_cases hi : mapIdx κ ν es q = i
                · subst hi
                  simp [Array.getElem?_eq_getElem hlt, hv]
                · simp [hi]
              rw [hmod]
              simp only [Array.getElem?_eq_getElem hlt, Option.map_some, Option.getD_some] at hst
              simp [Instr.mapEntry, run_underlying hu, Result.andThen, MapKept.run_getObj_map hh, hck, hfa, hst, MapKept.run_setObj_map _ hh, Array.getElem?_eq_getElem hlt, hborn]
          · refine ⟨z, ?_, ?_⟩
            · rw [List.getElem?_eq_none (show es.length ≤ mapIdx κ ν es q by omega)]
              exact hzv
            · simp only [if_neg hlt]
              have hidx : mapIdx κ ν es q = ents.size := by have := mapIdx_le κ ν es q; omega
              simp [Instr.mapEntry, run_underlying hu, Result.andThen, MapKept.run_getObj_map hh, hck, hfa, hzr, MapKept.run_setObj_map _ hh, hidx]
        obtain ⟨u, hu1, hrun⟩ := key
        obtain ⟨hs1, hs2⟩ := set_entries hd hsz hr hqv hu1
        obtain ⟨g', c'⟩ := map_put g fid (hl _ _ hlk) hβ hB hh hs1 hs2 rfl
        have hS : ∀ b, S b → ({ w with heap := w.heap.setIfInBounds r (.map (if mapIdx κ ν es q < ents.size then ents.modify (mapIdx κ ν es q) fun e => { e with key := ρ y, val := u } else ents.push ⟨ρ y, u, ents.size⟩) (if mapIdx κ ν es q < ents.size then ents.modify (mapIdx κ ν es q) fun e => { e with key := ρ y, val := u } else ents.push ⟨ρ y, u, ents.size⟩).size) } : World).heap[b]? = w.heap[b]? :=
          fun b hb => (MapKept.heap_set hh).2 b fun e => g.excl (hl _ _ hlk) rfl (b := r) (by rw [hβ]; rfl) (e ▸ hb)
        refine ⟨_, S, β, .tuple #[u, goInt (mapIdx κ ν es q)], .inl ?_, ?_, g', c'⟩
        · simp [execOp, ho, hm', hrun, Result.andThen]
        · exact .tup (vs := [u, goInt (mapIdx κ ν es q)]) rfl fun i hi hi' => by
            match i, hi with
            | 0, _ => exact .val (hu1.mono (fun _ h => h) hS)
            | 1, _ => exact repA_int _ _
      · cases h
    · cases h
  · cases h

theorem findIdx_born : ∀ (l : List MapEntry) (s n : Nat), (∀ i (h : i < l.length), l[i].born = s + i) → n < l.length → l.findIdx? (fun e => (e.born : Int) == ((s + n : Nat) : Int)) = some n := by
  intro l
  induction l with
  | nil => intro s n _ h; simp at h
  | cons e l ih =>
    intro s n hb hn
    have h0 : e.born = s := hb 0 (by simp)
    rw [List.findIdx?_cons]
    cases n with
    | zero => simp [h0]
    | succ n =>
      have hne : ((e.born : Int) == ((s + (n + 1) : Nat) : Int)) = false := by simp [h0]; omega
      rw [hne]
      simp only [Bool.false_eq_true, if_false]
      have := ih (s + 1) n (fun i h => by have := hb (i + 1) (by simpa using h); simp at this; omega) (by simpa using hn)
      rw [show s + (n + 1) = s + 1 + n by omega, this]
      rfl

theorem op_entryStore (g : Good B W0 w S β H) (hl : ∀ o x, look o = some x → H o = some x) {t : TypeId} {m y z : Operand} (ho : o.op = .entryStore t m y z) {k : Nat} {n : Int} {c : A} (hm : RepA w S β (.mapr k) (ρ m)) (ha : RepA w S β (.val (.int .i64) n) (ρ y)) (hc : RepA w S β c (ρ z))
    (h : stampK P look t k n c = some out) (hp : ∀ p ∈ out.props, p) : StepTo B W0 fid w S β H ((execOp ρ o).run P w) out := by
  unfold stampK at h
  split at h
  · rename_i κ ν es hlk
    split at h
    · rename_i hT
      split at h
      · rename_i x hx
        injection h with h
        subst h
        have hn0 : 0 ≤ n := okP hp (by simp)
        have hn1 : n < es.length := okP hp (by simp)
        obtain ⟨kt, vt, d, hu, hd, hk, hν, hz, hz1⟩ := mapT_some hT
        obtain ⟨r, ents, hβ, hB, hh, hsz, hr⟩ := map_head g (hl _ _ hlk)
        have hxv := toVal_no hx hc
        have hm' : ρ m = .map (some r) := by rw [inv_mapr hm, hβ]
        have hy' : ρ y = .int .i64 n := inv_int ha
        have hs : (ents.modify n.toNat fun e => { e with val := ρ z }).size = (es.modify n.toNat fun e => (e.1, x)).length ∧ ∀ i (h : i < List.length (es.modify n.toNat fun e => (e.1, x))) (h' : i < (ents.modify n.toNat fun e => { e with val := ρ z }).size), RepV w S κ (es.modify n.toNat fun e => (e.1, x))[i].1 (ents.modify n.toNat fun e => { e with val := ρ z })[i].key ∧ RepV w S ν (es.modify n.toNat fun e => (e.1, x))[i].2 (ents.modify n.toNat fun e => { e with val := ρ z })[i].val ∧ (ents.modify n.toNat fun e => { e with val := ρ z })[i].born = i := by
          refine ⟨by simp [hsz], fun i h h' => ?_⟩
          have hi : i < es.length := by simpa using h
          obtain ⟨h1, h2, h3⟩ := hr i hi (by omega)
          rw [Array.getElem_modify, List.getElem_modify]
          by_cases hi' : n.toNat = i
          · simp only [hi', if_true]
            exact ⟨h1, hxv, h3⟩
          · simp only [hi', if_false]
            exact ⟨h1, h2, h3⟩
        obtain ⟨hs1, hs2⟩ := hs
        obtain ⟨g', c'⟩ := map_put g fid (hl _ _ hlk) hβ hB hh hs1 hs2 rfl
        refine ⟨_, S, β, undef, .inr ⟨?_, rfl⟩, .undef _, g', c'⟩
        have hfi : ents.findIdx? (fun e => (e.born : Int) == n) = some n.toNat := by
          rw [show ents.findIdx? (fun e => (e.born : Int) == n) = ents.toList.findIdx? (fun e => (e.born : Int) == n) by rw [← List.findIdx?_toArray]]
          have := findIdx_born ents.toList 0 n.toNat (fun i h => by simpa using (hr i (by simpa [hsz] using h) (by simpa using h)).2.2) (by simp; omega)
          simpa [Int.toNat_of_nonneg hn0] using this
        have hrun : (Instr.entryStore t (.map (some r)) (.int .i64 n) (ρ z)).run P w = .ok () { w with heap := w.heap.setIfInBounds r (.map (ents.modify n.toNat fun e => { e with val := ρ z }) (ents.modify n.toNat fun e => { e with val := ρ z }).size) } := by
          simp [Instr.entryStore, asInt, asIntOf, Result.andThen, MapKept.run_getObj_map hh, hfi, MapKept.run_setObj_map _ hh]
        simp [execOp, ho, hm', hy', hrun, Result.andThen]
      · cases h
    · cases h
  · cases h

end
end Go.Proofs.YtcbeifkfllcjoaaDoor
