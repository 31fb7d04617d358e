/-
  Regions in any order, and the region as a whole.
-/
import Derived.Test.YtcbeifkfllcjoaaDoorRS
set_option linter.unusedVariables false
set_option linter.unusedSimpArgs false
namespace Go.Proofs.YtcbeifkfllcjoaaDoor

theorem trace_get {C : Ctx} {ops : Array Oper} {base : Nat} : ∀ {i : Nat} {l : List Oper} {s s' : FS} {rs : List (Rec × FP)}, Trace C ops base i l s rs s' →
    rs.length = l.length ∧ s' = foldD C.N (fun _ => true) i rs s ∧ ∀ (j : Nat) (o : Oper), l[j]? = some o → ∃ r fp, rs[j]? = some (r, fp) ∧ r.dst = o.dst ∧ Doable C ops (base + 16 * (i + j)) o (foldD C.N (fun q => decide (q < i + j)) i rs s) r fp := by
  intro i l s s' rs h
  induction h with
  | nil i s => exact ⟨rfl, rfl, fun j o h => by simp at h⟩
  | @cons i o l s s' r fp rs hd hdst ht ih =>
    obtain ⟨e1, e2, e3⟩ := ih
    refine ⟨by simp [e1], by simpa [foldD] using e2, fun j o' ho => ?_⟩
    cases j with
    | zero =>
      simp only [List.getElem?_cons_zero, Option.some.injEq] at ho
      subst ho
      refine ⟨r, fp, rfl, hdst, ?_⟩
      have : ∀ (rs : List (Rec × FP)) (k : Nat) (s : FS), i ≤ k → foldD C.N (fun q => decide (q < i + 0)) k rs s = s := by
        intro rs
        induction rs with
        | nil => intro k s _; rfl
        | cons p rs ih =>
          intro k s hk
          simp only [foldD]
          rw [if_neg (by simp; omega)]
          exact ih (k + 1) s (by omega)
      rw [this _ i s (Nat.le_refl _)]
      exact hd
    | succ j =>
      obtain ⟨r', fp', h1, h2, h3⟩ := e3 j o' (by simpa using ho)
      refine ⟨r', fp', by simpa using h1, h2, ?_⟩
      simp only [foldD]
      rw [if_pos (by simp)]
      rw [show i + 1 + j = i + (j + 1) by omega] at h3
      exact h3

/-! ### What must come before -/
def Closed (ops : List Oper) (D : Nat → Bool) : Prop := ∀ (j : Nat) (o : Oper), ops[j]? = some o → D j = true → ∀ e ∈ o.after.toList, Region.binds .any e = true → D e.on = true

theorem befMask_ok {acc : List Nat} {i : Nat} : ∀ {l : List Edge} {m : Nat}, (befMask acc m l).testBit i = true → m.testBit i = true ∨ ∃ e ∈ l, Region.binds .any e = true ∧ (i = e.on ∨ (acc.getD e.on 0).testBit i = true) := by
  intro l
  induction l with
  | nil => intro m h; exact .inl h
  | cons e l ih =>
    intro m h
    simp only [befMask] at h
    rcases ih h with h1 | ⟨e', he', hb, h1⟩
    · split at h1
      · rename_i hb
        simp only [Nat.testBit_or, Bool.or_eq_true, Nat.testBit_two_pow, decide_eq_true_eq] at h1
        rcases h1 with (h1 | h1) | h1
        · exact .inl h1
        · exact .inr ⟨e, by simp, hb, .inl h1.symm⟩
        · exact .inr ⟨e, by simp, hb, .inr h1⟩
      · exact .inl h1
    · exact .inr ⟨e', by simp [he'], hb, h1⟩

theorem befGo_ok {ops : List Oper} {D : Nat → Bool} (hD : Closed ops D) : ∀ {l : List Oper} {acc : List Nat}, (∀ j o, l[j]? = some o → ops[acc.length + j]? = some o) → (∀ j i, (acc.getD j 0).testBit i = true → D j = true → D i = true) →
    ∀ j i, ((befGo acc l).getD j 0).testBit i = true → D j = true → D i = true := by
  intro l
  induction l with
  | nil => intro acc _ h; exact h
  | cons o l ih =>
    intro acc hl h
    simp only [befGo]
    refine ih (fun j o' ho => ?_) fun j i hb hj => ?_
    · have := hl (j + 1) o' (by simpa using ho)
      simp only [List.length_append, List.length_singleton]
      rwa [show acc.length + 1 + j = acc.length + (j + 1) by omega]
    · by_cases hlt : j < acc.length
      · rw [List.getD_eq_getElem?_getD, List.getElem?_append_left hlt, ← List.getD_eq_getElem?_getD] at hb
        exact h j i hb hj
      · by_cases heq : j = acc.length
        · subst heq
          rw [List.getD_eq_getElem?_getD, List.getElem?_append_right (Nat.le_refl _)] at hb
          simp only [Nat.sub_self, List.getElem?_cons_zero, Option.getD_some] at hb
          rcases befMask_ok hb with h1 | ⟨e, he, hbe, h1⟩
          · simp at h1
          · have hDe := hD acc.length o (by have := hl 0 o (by simp); simpa using this) hj e he hbe
            rcases h1 with rfl | h1
            · exact hDe
            · exact h _ _ h1 hDe
        · rw [List.getD_eq_getElem?_getD, List.getElem?_eq_none (by simp; omega)] at hb
          simp at hb

theorem okPairs_ok {m j : Nat} {y : FP} : ∀ {l : List FP} {i : Nat}, okPairs m j y i l = true → ∀ (k : Nat) (x : FP), l[k]? = some x → i + k < j → clash x y = true → m.testBit (i + k) = true := by
  intro l
  induction l with
  | nil => intro i _ k x h; simp at h
  | cons z l ih =>
    intro i h k x hk hlt hc
    simp only [okPairs, Bool.and_eq_true, Bool.or_eq_true, decide_eq_true_eq, Bool.not_eq_true'] at h
    cases k with
    | zero =>
      simp only [List.getElem?_cons_zero, Option.some.injEq] at hk
      subst hk
      rcases h.1 with (h1 | h1) | h1
      · omega
      · rw [hc] at h1; cases h1
      · exact h1
    | succ k =>
      have := ih h.2 k x (by simpa using hk) (by omega) hc
      rwa [show i + 1 + k = i + (k + 1) by omega] at this

theorem orderOk_ok {bef : List Nat} {fps : List FP} : ∀ {l : List FP} {j : Nat}, orderOk bef fps j l = true → ∀ (k : Nat) (y : FP), l[k]? = some y → ∀ (i : Nat) (x : FP), fps[i]? = some x → i < j + k → clash x y = true → (bef.getD (j + k) 0).testBit i = true := by
  intro l
  induction l with
  | nil => intro j _ k y h; simp at h
  | cons z l ih =>
    intro j h k y hk i x hx hlt hc
    simp only [orderOk, Bool.and_eq_true] at h
    cases k with
    | zero =>
      simp only [List.getElem?_cons_zero, Option.some.injEq] at hk
      subst hk
      have := okPairs_ok h.1 i x hx (by omega) hc
      simpa using this
    | succ k =>
      have := ih h.2 k y (by simpa using hk) i x hx (by omega) hc
      rwa [show j + 1 + k = j + (k + 1) by omega] at this

theorem edgesBack_ok : ∀ {l : List Oper} {i : Nat}, edgesBack l i = true → ∀ (j : Nat) (o : Oper), l[j]? = some o → ∀ e ∈ o.after.toList, Region.binds .any e = true → e.on < i + j := by
  intro l
  induction l with
  | nil => intro i _ j o h; simp at h
  | cons z l ih =>
    intro i h j o hj e he hb
    unfold edgesBack at h
    simp only [Bool.and_eq_true, List.all_eq_true, Bool.or_eq_true, Bool.not_eq_true', decide_eq_true_eq] at h
    cases j with
    | zero =>
      simp only [List.getElem?_cons_zero, Option.some.injEq] at hj
      subst hj
      rcases h.1 e he with h1 | h1
      · rw [hb] at h1; cases h1
      · simpa using h1
    | succ j =>
      have := ih h.2 j o (by simpa using hj) e he hb
      omega

theorem clash_sym (x y : FP) : clash x y = clash y x := by unfold clash; rw [Bool.or_comm]

theorem not_clash {x y : FP} (h : clash x y = false) : (∀ d, x.wt = some d → d ∉ y.rt ∧ y.wt ≠ some d) ∧ ∀ o ∈ x.wo, o ∉ y.ro ∧ o ∉ y.wo := by
  unfold clash at h
  simp only [Bool.or_eq_false_iff] at h
  obtain ⟨h, _⟩ := h
  unfold clash1 at h
  simp only [Bool.or_eq_false_iff] at h
  obtain ⟨⟨h1, h2⟩, h3⟩ := h
  have hm : ∀ {l m : List Nat}, meets l m = false → ∀ o ∈ l, o ∉ m := by
    intro l m hlm o ho hom
    unfold meets at hlm
    rw [List.any_eq_false] at hlm
    exact hlm o ho ((hasN_iff _ _).2 hom)
  refine ⟨fun d hd => ?_, fun o ho => ⟨hm h2 o ho, hm h3 o ho⟩⟩
  rw [hd] at h1
  simp only [Bool.or_eq_false_iff] at h1
  refine ⟨fun hdr => by rw [(hasN_iff _ _).2 hdr] at h1; exact absurd h1.1 (by simp), fun hw => ?_⟩
  rw [hw] at h1
  simp at h1

section
variable {C : Ctx} {ops : Array Oper} {base : Nat}

theorem ready_spec {listed : Array Bool} {i : Nat} : i ∈ Region.ready .any ops listed ↔ i < ops.size ∧ listed.getD i true = false ∧ ∃ o, ops[i]? = some o ∧ ∀ e ∈ o.after.toList, Region.binds .any e = true → listed.getD e.on false = true := by
  unfold Region.ready
  simp only [List.mem_filter, List.mem_range, Bool.and_eq_true, Bool.not_eq_true']
  constructor
  · rintro ⟨h1, h2, h3⟩
    refine ⟨h1, h2, ?_⟩
    cases ho : ops[i]? with
    | none => rw [ho] at h3; cases h3
    | some o =>
      rw [ho] at h3
      refine ⟨o, rfl, fun e he hb => ?_⟩
      simp only [Option.map_some, Option.getD_some] at h3
      rw [← Array.all_toList, List.all_eq_true] at h3
      have := h3 e he
      simpa [hb] using this
  · rintro ⟨h1, h2, o, ho, h3⟩
    refine ⟨h1, h2, ?_⟩
    rw [ho]
    simp only [Option.map_some, Option.getD_some]
    rw [← Array.all_toList, List.all_eq_true]
    intro e he
    cases hb : Region.binds .any e with
    | false => rfl
    | true => simpa [hb] using h3 e he hb

theorem any_ok {s0 s1 : FS} {rs : List (Rec × FP)} (ht : Trace C ops base 0 ops.toList s0 rs s1) (heb : edgesBack ops.toList 0 = true) (hok : orderOk (befGo [] ops.toList) (rs.map (·.2)) 0 (rs.map (·.2)) = true) (hu0 : ∀ k, usedF s0 k → k < base) {Q : Exit → Act → World → Prop} (hq : ∀ a w, StR C s1 a w → Q .normal a w) :
    ∀ (fuel : Nat) (listed : Array Bool) (L : List Nat) (a : Act) (w : World), listed.size = ops.size → Closed ops.toList (fun j => listed.getD j false) → (∀ i, i < ops.size → listed.getD i true = false → i ∈ L) → L.length ≤ fuel →
      StR C (foldD C.N (fun j => listed.getD j false) 0 rs s0) a w → (∀ k, usedF (foldD C.N (fun j => listed.getD j false) 0 rs s0) k → k < base ∨ ∃ i, listed.getD i false = true ∧ base + 16 * i ≤ k ∧ k < base + 16 * i + 16) →
      wpAny C.P .any ops Q fuel listed a w := by
  obtain ⟨hlen, hs1, hget⟩ := trace_get ht
  have hsz : ops.toList.length = ops.size := by simp
  have done : ∀ (listed : Array Bool) (a : Act) (w : World), (∀ i, i < ops.size → listed.getD i true = true) → listed.size = ops.size → StR C (foldD C.N (fun j => listed.getD j false) 0 rs s0) a w → Q .normal a w := by
    intro listed a w hall hls hst
    refine hq a w ?_
    rw [hs1]
    rw [foldD_congr (D := fun j => listed.getD j false) (D' := fun _ => true) (fun j hj => ?_)] at hst
    · exact hst
    · rw [hlen, hsz] at hj
      have := hall (0 + j) (by omega)
      simp only [Array.getD_eq_getD_getElem?, Array.getElem?_eq_getElem (show 0 + j < listed.size by omega), Option.getD_some] at this ⊢
      exact this
  have stuckless : ∀ (listed : Array Bool), Region.ready .any ops listed = [] → ∀ i, i < ops.size → listed.getD i true = true := by
    intro listed hr i
    induction i using Nat.strongRecOn with
    | _ i ih =>
      intro hi
      by_cases hl : listed.getD i true = true
      · exact hl
      · exfalso
        have hmem : i ∈ Region.ready .any ops listed := by
          refine ready_spec.2 ⟨hi, by simpa using hl, ops[i], by simp [hi], fun e he hb => ?_⟩
          have hlt := edgesBack_ok heb i ops[i] (by simp [hi]) e he hb
          have := ih e.on (by omega) (by omega)
          by_cases hin : e.on < listed.size
          · simp only [Array.getD, hin, dif_pos] at this ⊢; exact this
          · have hil : ¬ i < listed.size := by omega
            exfalso
            apply hl
            simp [Array.getD, hil]
        rw [hr] at hmem
        simp at hmem
  intro fuel
  induction fuel with
  | zero =>
    intro listed L a w hls hcl hL hLf hst hu
    have hnil : L = [] := List.eq_nil_of_length_eq_zero (by omega)
    have hall : ∀ i, i < ops.size → listed.getD i true = true := fun i hi => by
      by_cases hl : listed.getD i true = true
      · exact hl
      · have := hL i hi (by simpa using hl)
        rw [hnil] at this
        simp at this
    refine ⟨?_, done listed a w hall hls hst⟩
    apply List.eq_nil_iff_forall_not_mem.2
    intro i hi
    obtain ⟨h1, h2, _⟩ := ready_spec.1 hi
    rw [hall i h1] at h2
    cases h2
  | succ fuel ih =>
    intro listed L a w hls hcl hL hLf hst hu
    refine ⟨fun hr => done listed a w (stuckless listed hr) hls hst, fun i hi => ?_⟩
    obtain ⟨hi1, hi2, o, ho, hedge⟩ := ready_spec.1 hi
    have hil : i < listed.size := by omega
    have hDi : listed.getD i false = false := by simp only [Array.getD, hil, dif_pos] at hi2 ⊢; exact hi2
    have hol : ops.toList[i]? = some o := by simpa using ho
    obtain ⟨r, fp, hr, hdst, hd⟩ := hget i o hol
    rw [Nat.zero_add] at hd
    have hnew : ∀ j, (listed.setIfInBounds i true).getD j false = (listed.getD j false || decide (j = i)) := by
      intro j
      simp only [Array.getD_eq_getD_getElem?]
      by_cases hji : j = i
      · subst hji
        simp [hil]
      · rw [Array.getElem?_setIfInBounds_ne (fun e => hji e.symm), decide_eq_false hji, Bool.or_false]
    have hcl' : Closed ops.toList (fun j => (listed.setIfInBounds i true).getD j false) := by
      intro j oj hj hDj e he hb
      simp only [hnew] at hDj ⊢
      by_cases hji : j = i
      · subst hji
        rw [hol] at hj
        injection hj with hj
        subst hj
        rw [hedge e he hb]
        rfl
      · rw [decide_eq_false hji, Bool.or_false] at hDj
        have hx : listed.getD e.on false = true := hcl j oj hj hDj e he hb
        rw [hx]
        rfl
    -- nothing in its way
    have hfree : ∀ (j : Nat) (p : Rec × FP), rs[j]? = some p → j ≠ i → (j < i ∧ listed.getD j false = false ∨ i < j ∧ listed.getD j false = true) → clash p.2 fp = false := by
      intro j p hp hne hc
      cases hcl2 : clash p.2 fp with
      | false => rfl
      | true =>
        exfalso
        have hfj : (rs.map (·.2))[j]? = some p.2 := by simp [hp]
        have hfi : (rs.map (·.2))[i]? = some fp := by simp [hr]
        rcases hc with ⟨hlt, hDj⟩ | ⟨hlt, hDj⟩
        · have hb := orderOk_ok hok i fp hfi j p.2 hfj (by omega) hcl2
          rw [Nat.zero_add] at hb
          have := befGo_ok hcl' (l := ops.toList) (acc := []) (fun j o h => by simpa using h) (fun j i h => by simp at h) i j hb (by simp only [hnew]; simp)
          simp only [hnew, hDj, Bool.false_or, decide_eq_true_eq] at this
          exact hne this
        · have hb := orderOk_ok hok j p.2 hfj i fp hfi (by omega) (by rw [clash_sym]; exact hcl2)
          rw [Nat.zero_add] at hb
          have := befGo_ok hcl (l := ops.toList) (acc := []) (fun j o h => by simpa using h) (fun j i h => by simp at h) j i hb hDj
          simp only [hDi] at this
          cases this
    obtain ⟨hwt, hwo, hdo⟩ := hd
    have hDfp : ∀ (j : Nat) (p : Rec × FP), rs[j]? = some p → p.2.wt = p.1.dst ∧ p.2.wo = p.1.upd.map (·.1) := by
      intro j p hp
      have hj : j < ops.toList.length := by rw [← hlen]; exact (List.getElem?_eq_some_iff.1 hp).1
      obtain ⟨r', fp', h1, _, h2⟩ := hget j ops.toList[j] (List.getElem?_eq_getElem hj)
      rw [hp] at h1
      injection h1 with h1
      subst h1
      exact ⟨h2.1, h2.2.1⟩
    have hdiff : ∀ (j : Nat) (p : Rec × FP), rs[j]? = some p → listed.getD (0 + j) false ≠ decide (0 + j < i) → clash p.2 fp = false := by
      intro j p hp hne
      rw [Nat.zero_add] at hne
      by_cases hlt : j < i
      · rw [decide_eq_true hlt] at hne
        exact hfree j p hp (by omega) (.inl ⟨hlt, by simpa using hne⟩)
      · rw [decide_eq_false hlt] at hne
        have hDj : listed.getD j false = true := by simpa using hne
        have hji : j ≠ i := fun e => by rw [e, hDi] at hDj; cases hDj
        exact hfree j p hp hji (.inr ⟨by omega, hDj⟩)
    obtain ⟨hgrow, hrun⟩ := hdo (foldD C.N (fun j => listed.getD j false) 0 rs s0)
      (fun t ht => foldD_env rfl fun j p hp hne hd => by
        have := (not_clash (hdiff j p hp hne)).1 t (by rw [(hDfp j p hp).1]; exact hd)
        exact this.1 ht)
      (fun k hk => foldD_obj rfl fun j p hp hne hd => by
        have := (not_clash (hdiff j p hp hne)).2 k (by rw [(hDfp j p hp).2]; exact hd)
        exact this.1 hk)
      (fun k h1 h2 h3 => by
        rcases hu k h3 with h | ⟨q, hq, h4, h5⟩
        · omega
        · have : q = i := by omega
          rw [this, hDi] at hq
          cases hq)
    have hins : foldD C.N (fun j => (listed.setIfInBounds i true).getD j false) 0 rs s0 = r.app C.N (foldD C.N (fun j => listed.getD j false) 0 rs s0) := by
      refine foldD_ins (fp := fp) hnew hDi (Nat.zero_le _) (by simpa using hr) fun j p hp hlt hDj => ?_
      rw [Nat.zero_add] at hlt hDj
      have hc := hfree j p hp (by omega) (.inr ⟨hlt, hDj⟩)
      rw [clash_sym] at hc
      obtain ⟨c1, c2⟩ := not_clash hc
      refine ⟨fun d hd => ?_, fun q hq => ?_⟩
      · rw [← (hDfp j p hp).1]
        exact (c1 d (by rw [hwt]; exact hd)).2
      · rw [← (hDfp j p hp).2]
        exact (c2 q (by rw [hwo]; exact hq)).2
    have hnext : ∀ a w, StR C (r.app C.N (foldD C.N (fun j => listed.getD j false) 0 rs s0)) a w → wpAny C.P .any ops Q fuel (listed.setIfInBounds i true) a w := by
      intro a w hst'
      refine ih (listed.setIfInBounds i true) (L.erase i) a w (by simpa using hls) hcl' (fun j hj hlj => ?_) ?_ (by rw [hins]; exact hst') fun k hk => ?_
      · have hji : j ≠ i := fun e => by
          subst e
          simp [Array.getD, hil] at hlj
        rw [List.mem_erase_of_ne hji]
        refine hL j hj ?_
        simp only [Array.getD_eq_getD_getElem?] at hlj ⊢
        rwa [Array.getElem?_setIfInBounds_ne (fun e => hji e.symm)] at hlj
      · rw [List.length_erase_of_mem (hL i hi1 hi2)]
        omega
      · rw [hins] at hk
        rcases hgrow k hk with h | ⟨h1, h2⟩
        · rcases hu k h with h | ⟨q, hq, h1, h2⟩
          · exact .inl h
          · exact .inr ⟨q, by rw [hnew, hq]; rfl, h1, h2⟩
        · exact .inr ⟨i, by rw [hnew]; simp, h1, h2⟩
    have hrun := hrun a w hst
    unfold wpOp
    rw [ho]
    simp only
    split
    · rename_i hw
      rw [if_pos hw] at hrun
      exact .inl (lands_wp (hrun.mono fun v w' h => hnext _ _ h))
    · rename_i hw
      rw [if_neg hw] at hrun
      exact hnext _ _ hrun

end
end Go.Proofs.YtcbeifkfllcjoaaDoor
