/-
  Cuts, conversions, closures; values as a callee sees them.
-/
import Derived.Test.YtfebffaimkpngaaRJ
set_option linter.unusedVariables false
set_option linter.unusedSimpArgs false
namespace Go.Proofs.Ytfebffaimkpngaa

def RepOpt (w : World) (S : Nat → Prop) (β : Nat → Value) : Option A → Option Value → Prop
  | none, none => True
  | some a, some v => RepA w S β a v
  | _, _ => False

theorem hiK_inv {len : Nat} {a : A} {r : Nat × List Bool} (h : hiK len (some a) = some r) : ∃ k, ∃ n : Int, a = .val (.int k) n ∧ r = (n.toNat, [decide (0 ≤ n), decide (n ≤ (len : Int))]) := by
  unfold hiK at h
  split at h
  · rename_i e; cases e
  · rename_i k n e
    injection e with e
    injection h with h
    exact ⟨k, n, e, h.symm⟩
  · cases h

theorem loK_inv {hh : Nat} {ps : List Bool} {a : A} {r : Nat × Nat × List Bool} (h : loK hh ps (some a) = some r) : ∃ k, ∃ n : Int, a = .val (.int k) n ∧ r = (n.toNat, hh, ps ++ [decide (0 ≤ n), decide (n ≤ (hh : Int))]) := by
  unfold loK at h
  split at h
  · rename_i e; cases e
  · rename_i k n e
    injection e with e
    injection h with h
    exact ⟨k, n, e, h.symm⟩
  · cases h

theorem stepB {P : Program} {w : World} {k : IntKind} {i : Int} {y : Nat} {code : BoundsCode} (h1 : 0 ≤ i) (h2 : i ≤ y) : (Instr.sliceBound (.int k i) y code).run P w = .ok i.toNat w := by
  simp [Instr.sliceBound, asIntOf, h1, h2]

theorem sliceBounds_ok {P : Program} {w : World} {S β} {len cap : Nat} {q : Bool} {lo hi : Option A} {lov hiv : Option Value} {l h : Nat} {ps : List Bool} (hk : sliceBoundsK len lo hi = some (l, h, ps)) (hp : ∀ p ∈ ps, p) (hc : len ≤ cap)
    (hlo : RepOpt w S β lo lov) (hhi : RepOpt w S β hi hiv) : (Instr.sliceBounds q len cap lov hiv none).run P w = .ok (l, h, cap) w ∧ l ≤ h ∧ h ≤ len := by
  unfold sliceBoundsK at hk
  split at hk
  · cases hk
  · rename_i hh ps1 hhk
    have low : (∀ p ∈ ps1, p ∈ ps) ∧ h = hh ∧ ((lov = none ∧ l = 0) ∨ ∃ k, ∃ n : Int, lov = some (.int k n) ∧ 0 ≤ n ∧ n ≤ (hh : Int) ∧ l = n.toNat) := by
      cases lo with
      | none =>
        cases lov with
        | some v => exact absurd hlo (by simp [RepOpt])
        | none =>
          simp only [loK, Option.some.injEq, Prod.mk.injEq] at hk
          obtain ⟨rfl, rfl, rfl⟩ := hk
          exact ⟨fun p hm => hm, rfl, .inl ⟨rfl, rfl⟩⟩
      | some a =>
        cases lov with
        | none => exact absurd hlo (by simp [RepOpt])
        | some v =>
          obtain ⟨k, n, rfl, hr⟩ := loK_inv hk
          simp only [Prod.mk.injEq] at hr
          obtain ⟨rfl, rfl, rfl⟩ := hr
          have e := inv_int hlo
          subst e
          exact ⟨fun p hm => List.mem_append_left _ hm, rfl, .inr ⟨k, n, rfl, okP hp (by simp), okP hp (by simp), rfl⟩⟩
    obtain ⟨hsub, rfl, low⟩ := low
    have high : (hiv = none ∧ h = len) ∨ ∃ k, ∃ n : Int, hiv = some (.int k n) ∧ 0 ≤ n ∧ n ≤ (len : Int) ∧ h = n.toNat := by
      cases hi with
      | none =>
        cases hiv with
        | some v => exact absurd hhi (by simp [RepOpt])
        | none =>
          simp only [hiK, Option.some.injEq, Prod.mk.injEq] at hhk
          exact .inl ⟨rfl, hhk.1.symm⟩
      | some b =>
        cases hiv with
        | none => exact absurd hhi (by simp [RepOpt])
        | some v =>
          obtain ⟨k, n, rfl, hr⟩ := hiK_inv hhk
          simp only [Prod.mk.injEq] at hr
          obtain ⟨rfl, rfl⟩ := hr
          have e := inv_int hhi
          subst e
          exact .inr ⟨k, n, rfl, okP hp (hsub _ (by simp)), okP hp (hsub _ (by simp)), rfl⟩
    rcases high with ⟨rfl, rfl⟩ | ⟨k, n, rfl, h1, h2, rfl⟩
    · rcases low with ⟨rfl, rfl⟩ | ⟨k', m, rfl, h3, h4, rfl⟩
      · simp [Instr.sliceBounds]
      · refine ⟨by simp [Instr.sliceBounds, stepB (k := k') h3 h4], by omega, by omega⟩
    · have h2' : n ≤ (cap : Int) := by omega
      rcases low with ⟨rfl, rfl⟩ | ⟨k', m, rfl, h3, h4, rfl⟩
      · refine ⟨by simp [Instr.sliceBounds, stepB (k := k) h1 h2'], by omega, by omega⟩
      · refine ⟨by simp only [Instr.sliceBounds]; simp [stepB (k := k) h1 h2', stepB (k := k') h3 h4], by omega, by omega⟩

section ops
variable {run : Runner} {P : Program} {B : Nat} {W0 : Nat → Option Obj} {fid : Nat} {w : World} {S : Nat → Prop} {β : Nat → Value} {H : Nat → Option O} {look : Nat → Option O} {ρ : Operand → Value} {o : Oper} {out : Out}

/-- a cut of a slice that reads as data -/
theorem cut_val {t u : TypeId} (he : elemT P t = some u) {e : Ty} (hs : sizeT P u = some e.size) {xs : List e.Den} {v : Value} (hv : RepV w S (.slice e) xs v) {lo hi : Option A} {lov hiv : Option Value} {l h : Nat} {ps : List Bool}
    (hk : sliceBoundsK xs.length lo hi = some (l, h, ps)) (hp : ∀ p ∈ ps, p) {S' : Nat → Prop} (hlo : RepOpt w S' β lo lov) (hhi : RepOpt w S' β hi hiv) :
    ∃ v', (Instr.sliceAt t v lov hiv none).run P w = .ok v' w ∧ RepV w S (.slice e) ((xs.take h).drop l) v' := by
  obtain ⟨a, c, hx, hc, h3⟩ := inv_slice (β := β) (.val hv)
  obtain ⟨hr, hlh, hhl⟩ := sliceBounds_ok (P := P) (q := true) hk hp hc hlo hhi
  subst hx
  have hu := elemT_some he
  have hrun : (Instr.sliceAt t (.slice a xs.length c) lov hiv none).run P w = .ok (.slice (if c = l then a else a.map (·.add (l * e.size))) (h - l) (c - l)) w := by
    simp [Instr.sliceAt, Instr.slice, run_underlying hu, hr, run_sizeT hs]
  refine ⟨_, hrun, ?_⟩
  rcases h3 with h3 | ⟨b, off, rfl, hS, hrep⟩
  · have hl0 : ((xs.take h).drop l).length = h - l := by simp; omega
    refine ⟨⟨if c = l then a else a.map (·.add (l * e.size)), c - l, ?_, ?_, .inl (by rw [hl0]; omega)⟩, rfl, by simp [Ty.isAgg]⟩
    · rw [hl0]; rfl
    · rw [hl0]; omega
  · refine repV_cut hlh hhl hc ⟨hS, hrep⟩ _ (fun hlt => ?_) (by omega)
    rw [if_neg (by omega)]
    simp [Addr.add_lit]

theorem op_slice1 (g : Good B W0 w S β H) (hl : ∀ o x, look o = some x → H o = some x) {t : TypeId} {x : Operand} {lo' hi' : Option Operand} (ho : o.op = .slice t x lo' hi' none) {a : A} (ha : RepA w S β a (ρ x)) {lo hi : Option A} (hlo : RepOpt w S β lo (lo'.map ρ)) (hhi : RepOpt w S β hi (hi'.map ρ))
    (h : cutK P look t a lo hi = some out) (hp : ∀ p ∈ out.props, p) : StepTo B W0 fid w S β H ((execOp ρ o).run P w) out := by
  unfold cutK at h
  split at h
  · rename_i s
    split at h
    · rename_i hu
      split at h
      · rename_i l hh ps hk
        obtain rfl := out_ifs h
        obtain ⟨hr, _, _⟩ := sliceBounds_ok (P := P) (q := false) hk hp (Nat.le_refl _) hlo hhi
        refine StepTo.pure g (v := .string (s.extract l hh)) ?_ rfl (repA_str _)
        simp [execOp, ho, inv_str ha, Instr.sliceAt, Instr.slice, run_underlying hu, hr]
      · cases h
    · cases h
  · rename_i e xs
    split at h
    · rename_i u he
      split at h
      · rename_i hs
        split at h
        · rename_i l hh ps hk
          obtain rfl := out_ifs h
          obtain ⟨v', hr, hv'⟩ := cut_val he hs (inv_val ha) hk hp hlo hhi
          exact StepTo.pure g (v := v') (by simp [execOp, ho, hr]) rfl (.val hv')
        · cases h
      · cases h
    · cases h
  · rename_i k
    split at h
    · rename_i u e' e xs f he hlk
      split at h
      · rename_i hs
        split at h
        · rename_i l hh ps hk
          injection h with h
          subst h
          obtain ⟨S1, g1, c1, hS1, hfv, _, _⟩ := freezeVals g hl fid [k]
          have hx := inv_ref ha
          have hv := hfv k (by simp) _ _ _ _ hlk
          rw [← hx] at hv
          obtain ⟨v', hr, hv'⟩ := cut_val he hs hv hk hp hlo hhi
          exact ⟨w, S1, β, v', .inl (by simp [execOp, ho, hr]), .val hv', g1, c1⟩
        · cases h
      · cases h
    · cases h
  · cases h

theorem op_slice (g : Good B W0 w S β H) (hl : ∀ o x, look o = some x → H o = some x) {t : TypeId} {x : Operand} {lo' hi' : Option Operand} (ho : o.op = .slice t x lo' hi' none) {cs : Option CallScript} {dec : Option Bool} {xs : List A}
    (hx : RepL w S β xs ((Op.slice t x lo' hi' none).operands.toList.map ρ)) (h : opK P run look fid cs dec (.slice t x lo' hi' none) xs = some out) (hp : ∀ p ∈ out.props, p) : StepTo B W0 fid w S β H ((execOp ρ o).run P w) out := by
  cases xs with
  | nil => simp [opK] at h
  | cons a ys =>
    cases lo' with
    | none =>
      cases hi' with
      | none =>
        obtain ⟨v, vs, hv, ha, hx⟩ := hx.uncons
        simp [Op.operands] at hv
        obtain ⟨rfl, rfl⟩ := hv
        cases ys with
        | nil => exact op_slice1 g hl ho ha (lo := none) (hi := none) trivial trivial (by simpa only [opK, opt1] using h) hp
        | cons b ys => simp [opK, opt1] at h
      | some hi' =>
        obtain ⟨v, vs, hv, ha, hx⟩ := hx.uncons
        simp [Op.operands] at hv
        obtain ⟨rfl, rfl⟩ := hv
        cases ys with
        | nil => simp [opK, opt1] at h
        | cons b ys =>
          obtain ⟨u, us, hu, hb, hx⟩ := hx.uncons
          simp at hu
          obtain ⟨rfl, rfl⟩ := hu
          cases ys with
          | nil => exact op_slice1 g hl ho ha (lo := none) (hi := some b) trivial hb (by simpa only [opK, opt1] using h) hp
          | cons c ys => simp [opK, opt1] at h
    | some lo' =>
      cases hi' with
      | none =>
        obtain ⟨v, vs, hv, ha, hx⟩ := hx.uncons
        simp [Op.operands] at hv
        obtain ⟨rfl, rfl⟩ := hv
        cases ys with
        | nil => simp [opK, opt1] at h
        | cons b ys =>
          obtain ⟨u, us, hu, hb, hx⟩ := hx.uncons
          simp at hu
          obtain ⟨rfl, rfl⟩ := hu
          cases ys with
          | nil => exact op_slice1 g hl ho ha (lo := some b) (hi := none) hb trivial (by simpa only [opK, opt1] using h) hp
          | cons c ys => simp [opK, opt1] at h
      | some hi' =>
        obtain ⟨v, vs, hv, ha, hx⟩ := hx.uncons
        simp [Op.operands] at hv
        obtain ⟨rfl, rfl⟩ := hv
        cases ys with
        | nil => simp [opK, opt1] at h
        | cons b ys =>
          obtain ⟨u, us, hu, hb, hx⟩ := hx.uncons
          simp at hu
          obtain ⟨rfl, rfl⟩ := hu
          cases ys with
          | nil => simp [opK, opt1] at h
          | cons c ys =>
            obtain ⟨u2, us2, hu2, hc, hx⟩ := hx.uncons
            simp at hu2
            obtain ⟨rfl, rfl⟩ := hu2
            cases ys with
            | nil => exact op_slice1 g hl ho ha (lo := some b) (hi := some c) hb hc (by simpa only [opK, opt1] using h) hp
            | cons d ys => simp [opK, opt1] at h

end ops
end Go.Proofs.Ytfebffaimkpngaa
