/-
  Cuts, conversions, closures; values as a callee sees them.
-/
import Derived.Test.YtcbeifkfllcjoaaDoorRJ
set_option linter.unusedVariables false
set_option linter.unusedSimpArgs false
namespace Go.Proofs.YtcbeifkfllcjoaaDoor

def RepOpt (w : World) (S : Nat → Prop) (β : Nat → Value) : Option A → Option Value → Prop
  | none, none => True
  | some a, some v => RepA w S β a v
  | _, _ => False

theorem hiK_inv {len : Nat} {a : A} {r : Nat × List Bool} (h : hiK len (some a) = some r) : ∃ k, ∃ n : Int, a = .val (.int k) n ∧ r = (n.toNat, [decide (0 ≤ n), decide (n ≤ (len : Int))]) := by
  unfold hiK at h
  split at h
  · rename_i e; cases e
  · rename_i k n e
    injection e with e
    injection h with h
    exact ⟨k, n, e, h.symm⟩
  · cases h

theorem loK_inv {hh : Nat} {ps : List Bool} {a : A} {r : Nat × Nat × List Bool} (h : loK hh ps (some a) = some r) : ∃ k, ∃ n : Int, a = .val (.int k) n ∧ r = (n.toNat, hh, ps ++ [decide (0 ≤ n), decide (n ≤ (hh : Int))]) := by
  unfold loK at h
  split at h
  · rename_i e; cases e
  · rename_i k n e
    injection e with e
    injection h with h
    exact ⟨k, n, e, h.symm⟩
  · cases h

theorem stepB {P : Program} {w : World} {k : IntKind} {i : Int} {y : Nat} {code : BoundsCode} (h1 : 0 ≤ i) (h2 : i ≤ y) : (Instr.sliceBound (.int k i) y code).run P w = .ok i.toNat w := by
  simp [Instr.sliceBound, asIntOf, h1, h2]

theorem sliceBounds_ok {P : Program} {w : World} {S β} {len cap : Nat} {q : Bool} {lo hi : Option A} {lov hiv : Option Value} {l h : Nat} {ps : List Bool} (hk : sliceBoundsK len lo hi = some (l, h, ps)) (hp : ∀ p ∈ ps, p) (hc : len ≤ cap)
    (hlo : RepOpt w S β lo lov) (hhi : RepOpt w S β hi hiv) : (Instr.sliceBounds q len cap lov hiv none).run P w = .ok (l, h, cap) w ∧ l ≤ h ∧ h ≤ len := by
  unfold sliceBoundsK at hk
  split at hk
  · cases hk
  · rename_i hh ps1 hhk
    have low : (∀ p ∈ ps1, p ∈ ps) ∧ h = hh ∧ ((lov = none ∧ l = 0) ∨ ∃ k, ∃ n : Int, lov = some (.int k n) ∧ 0 ≤ n ∧ n ≤ (hh : Int) ∧ l = n.toNat) := by
      cases lo with
      | none =>
        cases lov with
        | some v => exact absurd hlo (by simp [RepOpt])
        | none =>
          simp only [loK, Option.some.injEq, Prod.mk.injEq] at hk
          obtain ⟨rfl, rfl, rfl⟩ := hk
          exact ⟨fun p hm => hm, rfl, .inl ⟨rfl, rfl⟩⟩
      | some a =>
        cases lov with
        | none => exact absurd hlo (by simp [RepOpt])
        | some v =>
          obtain ⟨k, n, rfl, hr⟩ := loK_inv hk
          simp only [Prod.mk.injEq] at hr
          obtain ⟨rfl, rfl, rfl⟩ := hr
          have e := inv_int hlo
          subst e
          exact ⟨fun p hm => List.mem_append_left _ hm, rfl, .inr ⟨k, n, rfl, okP hp (by simp), okP hp (by simp), rfl⟩⟩
    obtain ⟨hsub, rfl, low⟩ := low
    have high : (hiv = none ∧ h = len) ∨ ∃ k, ∃ n : Int, hiv = some (.int k n) ∧ 0 ≤ n ∧ n ≤ (len : Int) ∧ h = n.toNat := by
      cases hi with
      | none =>
        cases hiv with
        | some v => exact absurd hhi (by simp [RepOpt])
        | none =>
          simp only [hiK, Option.some.injEq, Prod.mk.injEq] at hhk
          exact .inl ⟨rfl, hhk.1.symm⟩
      | some b =>
        cases hiv with
        | none => exact absurd hhi (by simp [RepOpt])
        | some v =>
          obtain ⟨k, n, rfl, hr⟩ := hiK_inv hhk
          simp only [Prod.mk.injEq] at hr
          obtain ⟨rfl, rfl⟩ := hr
          have e := inv_int hhi
          subst e
          exact .inr ⟨k, n, rfl, okP hp (hsub _ (by simp)), okP hp (hsub _ (by simp)), rfl⟩
    rcases high with ⟨rfl, rfl⟩ | ⟨k, n, rfl, h1, h2, rfl⟩
    · rcases low with ⟨rfl, rfl⟩ | ⟨k', m, rfl, h3, h4, rfl⟩
      · simp [Instr.sliceBounds]
      · refine ⟨by simp [Instr.sliceBounds, stepB (k := k') h3 h4], by omega, by omega⟩
    · have h2' : n ≤ (cap : Int) := by omega
      rcases low with ⟨rfl, rfl⟩ | ⟨k', m, rfl, h3, h4, rfl⟩
      · refine ⟨by simp [Instr.sliceBounds, stepB (k := k) h1 h2'], by omega, by omega⟩
      · refine ⟨by simp only [Instr.sliceBounds]; simp [stepB (k := k) h1 h2', stepB (k := k') h3 h4], by omega, by omega⟩

section ops
variable {run : Runner} {P : Program} {B : Nat} {W0 : Nat → Option Obj} {fid : Nat} {w : World} {S : Nat → Prop} {β : Nat → Value} {H : Nat → Option O} {look : Nat → Option O} {ρ : Operand → Value} {o : Oper} {out : Out}

/-- a cut of a slice that reads as data -/
theorem cut_val {t u : TypeId} (he : elemT P t = some u) {e : Ty} (hs : sizeT P u = some e.size) {xs : List e.Den} {v : Value} (hv : RepV w S (.slice e) xs v) {lo hi : Option A} {lov hiv : Option Value} {l h : Nat} {ps : List Bool}
    (hk : sliceBoundsK xs.length lo hi = some (l, h, ps)) (hp : ∀ p ∈ ps, p) {S' : Nat → Prop} (hlo : RepOpt w S' β lo lov) (hhi : RepOpt w S' β hi hiv) :
    ∃ v', (Instr.sliceAt t v lov hiv none).run P w = .ok v' w ∧ RepV w S (.slice e) ((xs.take h).drop l) v' := by
  obtain ⟨a, c, hx, hc, h3⟩ := inv_slice (β := β) (.val hv)
  have hnil : a = none → c = 0 := by
    obtain ⟨a2, c2, hx2, h⟩ := inv_slice_nil (β := β) (.val hv)
    rw [hx] at hx2
    injection hx2 with e1 e2 e3
    rw [e1, e3]
    exact h
  obtain ⟨hr, hlh, hhl⟩ := sliceBounds_ok (P := P) (q := true) hk hp hc hlo hhi
  subst hx
  have hu := elemT_some he
  have hrun : (Instr.sliceAt t (.slice a xs.length c) lov hiv none).run P w = .ok (.slice (if c = l then a else a.map (·.add (l * e.size))) (h - l) (c - l)) w := by
    simp [Instr.sliceAt, Instr.slice, run_underlying hu, hr, run_sizeT hs]
  refine ⟨_, hrun, ?_⟩
  rcases h3 with h3 | ⟨b, off, rfl, hS, hrep⟩
  · have hl0 : ((xs.take h).drop l).length = h - l := by simp; omega
    refine ⟨⟨if c = l then a else a.map (·.add (l * e.size)), c - l, ?_, ?_, .inl ⟨by rw [hl0]; omega, fun he => ?_⟩⟩, rfl, by simp [Ty.isAgg]⟩
    · rw [hl0]; rfl
    · rw [hl0]; omega
    · have : a = none := by
        split at he
        · exact he
        · cases a with
          | none => rfl
          | some a => cases he
      rw [hnil this]; omega
  · refine repV_cut hlh hhl hc ⟨hS, hrep⟩ _ (fun hlt => ?_) (by split <;> simp) (by omega)
    rw [if_neg (by omega)]
    simp [Addr.add_lit]

theorem op_slice1 (g : Good B W0 w S β H) (hl : ∀ o x, look o = some x → H o = some x) {t : TypeId} {x : Operand} {lo' hi' : Option Operand} (ho : o.op = .slice t x lo' hi' none) {a : A} (ha : RepA w S β a (ρ x)) {lo hi : Option A} (hlo : RepOpt w S β lo (lo'.map ρ)) (hhi : RepOpt w S β hi (hi'.map ρ))
    (h : cutK P look t a lo hi = some out) (hp : ∀ p ∈ out.props, p) : StepTo B W0 fid w S β H ((execOp ρ o).run P w) out := by
  unfold cutK at h
  split at h
  · rename_i s
    split at h
    · rename_i hu
      split at h
      · rename_i l hh ps hk
        obtain rfl := out_ifs h
        obtain ⟨hr, _, _⟩ := sliceBounds_ok (P := P) (q := false) hk hp (Nat.le_refl _) hlo hhi
        refine StepTo.pure g (v := .string (s.extract l hh)) ?_ rfl (repA_str _)
        simp [execOp, ho, inv_str ha, Instr.sliceAt, Instr.slice, run_underlying hu, hr]
      · cases h
    · cases h
  · rename_i e xs
    split at h
    · rename_i u he
      split at h
      · rename_i hs
        split at h
        · rename_i l hh ps hk
          obtain rfl := out_ifs h
          obtain ⟨v', hr, hv'⟩ := cut_val he hs (inv_val ha) hk hp hlo hhi
          exact StepTo.pure g (v := v') (by simp [execOp, ho, hr]) rfl (.val hv')
        · cases h
      · cases h
    · cases h
  · rename_i k
    split at h
    · rename_i u e' e xs f he hlk
      split at h
      · rename_i hs
        split at h
        · rename_i l hh ps hk
          injection h with h
          subst h
          obtain ⟨S1, g1, c1, hS1, hfv, _, _⟩ := freezeVals g hl fid [k]
          have hx := inv_ref ha
          have hv := hfv k (by simp) _ _ _ _ hlk
          rw [← hx] at hv
          obtain ⟨v', hr, hv'⟩ := cut_val he hs hv hk hp hlo hhi
          exact ⟨w, S1, β, v', .inl (by simp [execOp, ho, hr]), .val hv', g1, c1⟩
        · cases h
      · cases h
    · cases h
  · cases h

theorem updH_two (H : Nat → Option O) (k fid : Nat) (x : O) : updH H [(k, none), (fid, some x)] = newH H (some k) fid x := by
  funext q
  simp only [updH, upd1, newH, Option.some.injEq]
  by_cases h1 : q = fid
  · simp [h1]
  · by_cases h2 : q = k
    · simp [h2, h1, show k ≠ fid from h2 ▸ h1]
    · simp [h1, h2, show ¬ k = q from fun e => h2 e.symm]

theorem op_head (g : Good B W0 w S β H) (hl : ∀ o x, look o = some x → H o = some x) (hf0 : H fid = none) (hf1 : ∀ o y, H o = some y → fid ∉ y.ids) {t : TypeId} {x hi' : Operand} (ho : o.op = .slice t x none (some hi') none) {a b : A} (ha : RepA w S β a (ρ x)) (hb : RepA w S β b (ρ hi'))
    (h : headK P look fid t a (some b) = some out) (hp : ∀ p ∈ out.props, p) : StepTo B W0 fid w S β H ((execOp ρ o).run P w) out := by
  unfold headK at h
  split at h
  · split at h
    · rename_i u kk hh he hbe
      injection hbe with hbe
      subst hbe
      split at h
      · rename_i hsz
        obtain ⟨n, hn⟩ := Option.isSome_iff_exists.1 hsz
        obtain rfl := out_ifs h
        have h0 : hh = 0 := okP hp (by simp)
        refine StepTo.pure g (v := .slice none 0 0) ?_ rfl .nil
        simp [execOp, ho, inv_nil ha, inv_int hb, h0, Instr.sliceAt, Instr.slice, run_underlying (elemT_some he), Instr.sliceBounds, Instr.sliceBound, asIntOf, run_sizeT hn]
      · cases h
    · cases h
  · rename_i k
    split at h
    · rename_i u e τ xs kk hh he hlk hbe
      injection hbe with hbe
      subst hbe
      split at h
      · rename_i hs
        injection h with h
        subst h
        obtain ⟨z, hz⟩ : ∃ z : Int, z = hh := ⟨hh, rfl⟩
        subst hz
        have h0 : 0 ≤ z := okP hp (by simp)
        have h1 : z ≤ xs.length := okP hp (by simp)
        have hx := inv_ref ha
        have hb' := inv_int hb
        obtain ⟨vs, hown, hpos, hel⟩ := g.rep (hl _ _ hlk)
        have hvl := hown.1
        have hlen : (xs.take z.toNat).length = z.toNat := by simp; omega
        have hle : z.toNat * τ.size ≤ xs.length * τ.size := Nat.mul_le_mul_right _ (by omega)
        have key : ∀ v', (Instr.sliceAt t (β k) none (some (.int kk z)) none).run P w = .ok v' w → v'.oneCell' = true → rowAt w B e τ.size v' z.toNat (vs.take (z.toNat * τ.size)) → (∀ q, blk v' = some q → blk (β k) = some q) →
            StepTo B W0 fid w S β H ((execOp ρ o).run P w) ⟨.ref fid, [(k, none), (fid, some (.arr e τ (xs.take z.toNat) false))], [decide (0 ≤ z), decide (z ≤ xs.length)], []⟩ := by
          intro v' hrun h1c hrow hbk
          have hxo : RepO B w S (newβ β fid v') v' (.arr e τ (xs.take z.toNat) false) := by
            refine ⟨vs.take (z.toNat * τ.size), by rw [hlen]; exact hrow, hpos, fun j hj => ?_⟩
            have hj' : j < z.toNat := by omega
            rw [List.getElem_take]
            refine (hel j (by omega)).congr fun i hi => ?_
            have : (j + 1) * τ.size ≤ z.toNat * τ.size := Nat.mul_le_mul_right _ hj'
            rw [Nat.succ_mul] at this
            rw [List.getElem?_take, if_pos (by omega)]
          obtain ⟨g', c'⟩ := g.new (w' := w) (k := some k) (fid := fid) (v := v') (Nat.le_refl _) rfl rfl rfl (fun _ _ _ => rfl) (fun o h => by injection h with h; subst h; exact ⟨_, hl _ _ hlk, rfl⟩) hf0 hf1 hxo rfl (fun q hq => .inr ⟨k, rfl, hbk q hq⟩)
          refine ⟨w, S, newβ β fid v', v', .inl ?_, ?_, ?_, ?_⟩
          · simp [execOp, ho, hx, hb', hrun]
          · have := RepA.ref (w := w) (S := S) (β := newβ β fid v') (o := fid) (by rw [show newβ β fid v' fid = v' from if_pos rfl]; exact h1c)
            rw [show newβ β fid v' fid = v' from if_pos rfl] at this
            exact this
          · rw [updH_two]; exact g'
          · rw [updH_two]; exact c'
        have hu := elemT_some he
        rcases hown.2 with ⟨a', hv, hz⟩ | ⟨b', cap, cur, hv, hB, hh', hn, hm, hcs, htake⟩
        · have hh0 : z = 0 := by omega
          refine key (.slice a' 0 0) ?_ rfl ⟨?_, .inl ⟨a', rfl, by omega⟩⟩ fun q hq => by rw [hv]; exact hq
          · simp [hv, hh0, Instr.sliceAt, Instr.slice, run_underlying hu, Instr.sliceBounds, Instr.sliceBound, asIntOf, run_sizeT hs]
          · rw [List.length_take]; omega
        · refine key (.slice (some ⟨b', 0, none⟩) z.toNat cap) ?_ rfl ⟨?_, .inr ⟨b', cap, cur, rfl, hB, hh', by omega, hm, hcs, ?_⟩⟩ fun q hq => ?_
          · have hcap : z ≤ (cap : Int) := by omega
            simp [hv, Instr.sliceAt, Instr.slice, run_underlying hu, Instr.sliceBounds, Instr.sliceBound, asIntOf, run_sizeT hs, h0, hcap, Addr.add_lit]
          · rw [List.length_take]; omega
          · rw [← htake, List.take_take, Nat.min_eq_left hle]
          · obtain ⟨hc0, y, hy, hyb⟩ := blk_some hq
            injection hy with hy
            subst hy
            rw [hv, blk_slice hc0]
            exact congrArg some hyb
      · cases h
    · cases h
  · cases h

theorem op_slice (g : Good B W0 w S β H) (hl : ∀ o x, look o = some x → H o = some x) {t : TypeId} {x : Operand} {lo' hi' : Option Operand} (ho : o.op = .slice t x lo' hi' none) (hf0 : H fid = none) (hf1 : ∀ o y, H o = some y → fid ∉ y.ids) {cs : Option CallScript} {dec : Option Bool} {xs : List A}
    (hx : RepL w S β xs ((Op.slice t x lo' hi' none).operands.toList.map ρ)) (h : opK P run look fid cs dec (.slice t x lo' hi' none) xs = some out) (hp : ∀ p ∈ out.props, p) : StepTo B W0 fid w S β H ((execOp ρ o).run P w) out := by
  cases xs with
  | nil => simp [opK] at h
  | cons a ys =>
    cases lo' with
    | none =>
      cases hi' with
      | none =>
        obtain ⟨v, vs, hv, ha, hx⟩ := hx.uncons
        simp [Op.operands] at hv
        obtain ⟨rfl, rfl⟩ := hv
        cases ys with
        | nil =>
          simp only [opK, opt1] at h
          split at h
          · unfold headK at h
            split at h
            · split at h
              · rename_i hb; cases hb
              · cases h
            · split at h
              · rename_i hb; cases hb
              · cases h
            · cases h
          · exact op_slice1 g hl ho ha (lo := none) (hi := none) trivial trivial h hp
        | cons b ys => simp [opK, opt1] at h
      | some hi' =>
        obtain ⟨v, vs, hv, ha, hx⟩ := hx.uncons
        simp [Op.operands] at hv
        obtain ⟨rfl, rfl⟩ := hv
        cases ys with
        | nil => simp [opK, opt1] at h
        | cons b ys =>
          obtain ⟨u, us, hu, hb, hx⟩ := hx.uncons
          simp at hu
          obtain ⟨rfl, rfl⟩ := hu
          cases ys with
          | nil =>
            simp only [opK, opt1] at h
            split at h
            · exact op_head g hl hf0 hf1 ho ha hb h hp
            · exact op_slice1 g hl ho ha (lo := none) (hi := some b) trivial hb h hp
          | cons c ys => simp [opK, opt1] at h
    | some lo' =>
      cases hi' with
      | none =>
        obtain ⟨v, vs, hv, ha, hx⟩ := hx.uncons
        simp [Op.operands] at hv
        obtain ⟨rfl, rfl⟩ := hv
        cases ys with
        | nil => simp [opK, opt1] at h
        | cons b ys =>
          obtain ⟨u, us, hu, hb, hx⟩ := hx.uncons
          simp at hu
          obtain ⟨rfl, rfl⟩ := hu
          cases ys with
          | nil => exact op_slice1 g hl ho ha (lo := some b) (hi := none) hb trivial (by simp only [opK, opt1] at h; split at h <;> first | exact h | cases h) hp
          | cons c ys => simp [opK, opt1] at h
      | some hi' =>
        obtain ⟨v, vs, hv, ha, hx⟩ := hx.uncons
        simp [Op.operands] at hv
        obtain ⟨rfl, rfl⟩ := hv
        cases ys with
        | nil => simp [opK, opt1] at h
        | cons b ys =>
          obtain ⟨u, us, hu, hb, hx⟩ := hx.uncons
          simp at hu
          obtain ⟨rfl, rfl⟩ := hu
          cases ys with
          | nil => simp [opK, opt1] at h
          | cons c ys =>
            obtain ⟨u2, us2, hu2, hc, hx⟩ := hx.uncons
            simp at hu2
            obtain ⟨rfl, rfl⟩ := hu2
            cases ys with
            | nil => exact op_slice1 g hl ho ha (lo := some b) (hi := some c) hb hc (by simp only [opK, opt1] at h; split at h <;> first | exact h | cases h) hp
            | cons d ys => simp [opK, opt1] at h

end ops
end Go.Proofs.YtcbeifkfllcjoaaDoor
