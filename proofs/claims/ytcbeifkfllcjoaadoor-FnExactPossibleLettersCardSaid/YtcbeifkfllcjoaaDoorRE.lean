/-
  Operations that leave memory alone, or only freeze.
-/
import Derived.Test.YtcbeifkfllcjoaaDoorRD
import Derived.Laws.BytesString
import Derived.Laws.BytesArg
set_option linter.unusedVariables false
set_option linter.unusedSimpArgs false
namespace Go.Proofs.YtcbeifkfllcjoaaDoor

def StepTo (B : Nat) (W0 : Nat → Option Obj) (fid : Nat) (w : World) (S : Nat → Prop) (β : Nat → Value) (H : Nat → Option O) (r : Result Next) (out : Out) : Prop :=
  ∃ w' S' β' v, (r = .ok (.value v) w' ∨ (r = .ok .skip w' ∧ v = undef)) ∧ RepA w' S' β' out.v v ∧ Good B W0 w' S' β' (updH H out.upd) ∧ Chg fid w S β H w' S' β' (updH H out.upd)

theorem StepTo.pure {B W0 fid w S β H} (g : Good B W0 w S β H) {r : Result Next} {out : Out} {v : Value} (hr : r = .ok (.value v) w) (hu : out.upd = []) (ha : RepA w S β out.v v) : StepTo B W0 fid w S β H r out := by
  refine ⟨w, S, β, v, .inl hr, ha, ?_, ?_⟩
  · rw [hu]; exact g
  · rw [hu]; exact Chg.refl _ _ _ _ _

theorem repA_int {w S β} (k : IntKind) (n : Int) : RepA w S β (.val (.int k) n) (.int k n) := repA_one rfl rfl
theorem repA_bool {w S β} (b : Bool) : RepA w S β (.val .bool b) (.bool b) := repA_one rfl rfl
theorem repA_str {w S β} (s : ByteArray) : RepA w S β (.val .str s) (.string s) := repA_one rfl rfl

theorem inv_int {w S β k n v} (h : RepA w S β (.val (.int k) n) v) : v = .int k n := by
  cases h with
  | val h =>
    have h2 : (if (0 : Nat) = 0 then some v else none) = some (.int k n) := (h.one rfl).2.2
    simpa using h2
theorem inv_bool {w S β b v} (h : RepA w S β (.val .bool b) v) : v = .bool b := by
  cases h with
  | val h =>
    have h2 : (if (0 : Nat) = 0 then some v else none) = some (.bool b) := (h.one rfl).2.2
    simpa using h2
theorem inv_str {w S β s v} (h : RepA w S β (.val .str s) v) : v = .string s := by
  cases h with
  | val h =>
    have h2 : (if (0 : Nat) = 0 then some v else none) = some (.string s) := (h.one rfl).2.2
    simpa using h2
theorem inv_nil {w S β v} (h : RepA w S β .nil v) : v = .slice none 0 0 := by cases h; rfl
theorem inv_emp {w S β v} (h : RepA w S β .emp v) : ∃ a c, v = .slice (some a) 0 c := by cases h; exact ⟨_, _, rfl⟩
theorem inv_ref {w S β o v} (h : RepA w S β (.ref o) v) : v = β o := by cases h; rfl
theorem inv_slice {w S β e} {xs : List e.Den} {v} (h : RepA w S β (.val (.slice e) xs) v) :
    ∃ a c, v = .slice a xs.length c ∧ xs.length ≤ c ∧ (xs.length = 0 ∨ ∃ b off, a = some ⟨b, off, none⟩ ∧ S b ∧ ∀ j (h : j < List.length xs), Rep w S e (xs[j]'h) (fun i => w.cell? ⟨b, off + j * e.size + i, none⟩)) := by
  cases h with
  | val h =>
    obtain ⟨a, c, h1, h2, h3⟩ := (h.one rfl).2.2
    exact ⟨a, c, by simpa using h1, h2, h3.imp (·.1) id⟩
theorem inv_slice_nil {w S β e} {xs : List e.Den} {v} (h : RepA w S β (.val (.slice e) xs) v) : ∃ a c, v = .slice a xs.length c ∧ (a = none → c = 0) := by
  cases h with
  | val h =>
    obtain ⟨a, c, h1, h2, h3⟩ := (h.one rfl).2.2
    refine ⟨a, c, by simpa using h1, fun e => ?_⟩
    rcases h3 with h3 | ⟨b, off, h3, _⟩
    · exact h3.2 e
    · rw [h3] at e; cases e
theorem arr_head {B w S β v e τ} {xs : List τ.Den} {f} (h : RepO B w S β v (.arr e τ xs f)) : ∃ a c, v = .slice a xs.length c ∧ xs.length ≤ c ∧ (xs.length = 0 ∨ ∃ b, a = some ⟨b, 0, none⟩) := by
  obtain ⟨vs, h1, h2, h3⟩ := h
  rcases h1.2 with ⟨a, rfl, h0⟩ | ⟨g, cap, cur, rfl, _, _, hn, _⟩
  · exact ⟨a, 0, by rw [h0], by omega, .inl h0⟩
  · exact ⟨_, cap, rfl, hn, .inr ⟨g, rfl⟩⟩

theorem row_head {B w S β v e n sz} {cells : List A} (h : RepO B w S β v (.row e n sz cells)) : ∃ a c, v = .slice a n c ∧ n ≤ c ∧ (n = 0 ∨ ∃ b, a = some ⟨b, 0, none⟩) := by
  obtain ⟨vs, h1, h2, h3⟩ := h
  rcases h1.2 with ⟨a, rfl, h0⟩ | ⟨g, cap, cur, rfl, _, _, hn, _⟩
  · exact ⟨a, 0, by rw [h0], by omega, .inl h0⟩
  · exact ⟨_, cap, rfl, hn, .inr ⟨g, rfl⟩⟩

theorem out_pure {a : A} {out : Out} (h : Out.pure a = some out) : out = ⟨a, [], [], []⟩ := by
  simp only [Out.pure, Option.some.injEq] at h
  exact h.symm
theorem out_ifs {a : A} {ps : List Bool} {out : Out} (h : Out.ifs a ps = some out) : out = ⟨a, [], ps, []⟩ := by
  simp only [Out.ifs, Option.some.injEq] at h
  exact h.symm

theorem eqGuard_plain (P : Program) (op : BinOp) (t : TypeId) (x y : Operand) (a b : Value) (w : World) (ha : ∀ cs, a ≠ .agg cs) (hn : a ≠ .nilIface) : (eqGuard op t x y a b).run P w = .ok () w := by
  cases op <;> first
    | rfl
    | (cases a <;> first | exact absurd rfl hn | exact absurd rfl (ha _) | rfl)

theorem run_eql {P : Program} {w : World} {t : TypeId} {a b : Value} {q : Bool} (hb : binOp .eql t a b = (do pure (.bool (← Op.equal t a b))))
    (h : (Op.equalIn (9999 + 1) t a b).run P w = .ok q w) : (binOp .eql t a b).run P w = .ok (.bool q) w := by
  rw [hb]
  show (do pure (Value.bool (← Op.equalIn (9999 + 1) t a b)) : Sem Value).run P w = _
  rw [Sem.run_bind, h]
  rfl
theorem run_neq {P : Program} {w : World} {t : TypeId} {a b : Value} {q : Bool} (hb : binOp .neq t a b = (do pure (.bool (!(← Op.equal t a b)))))
    (h : (Op.equalIn (9999 + 1) t a b).run P w = .ok q w) : (binOp .neq t a b).run P w = .ok (.bool (!q)) w := by
  rw [hb]
  show (do pure (Value.bool (!(← Op.equalIn (9999 + 1) t a b))) : Sem Value).run P w = _
  rw [Sem.run_bind, h]
  rfl
theorem equal_bool {P : Program} {w : World} {t : TypeId} (d : Nat) (hu : P.underlying t = some .bool) (a b : Bool) : (Op.equalIn (d + 1) t (.bool a) (.bool b)).run P w = .ok (a == b) w := by
  simp only [Op.equalIn, Sem.run_bind, run_underlying hu, Result.andThen_ok]
  rfl
theorem equal_nil {P : Program} {w : World} {t e : TypeId} (d : Nat) (hu : P.underlying t = some (.slice e)) : (Op.equalIn (d + 1) t (.slice none 0 0) (.slice none 0 0)).run P w = .ok true w := by
  simp only [Op.equalIn, Sem.run_bind, run_underlying hu, Result.andThen_ok]
  rfl
theorem equal_some {P : Program} {w : World} {t e : TypeId} (d : Nat) (hu : P.underlying t = some (.slice e)) (a : Addr) (n c : Nat) : (Op.equalIn (d + 1) t (.slice (some a) n c) (.slice none 0 0)).run P w = .ok false w := by
  simp only [Op.equalIn, Sem.run_bind, run_underlying hu, Result.andThen_ok]
  rfl

theorem binInt_ok {P : Program} {w : World} {S : Nat → Prop} {β : Nat → Value} {op : BinOp} {t : TypeId} {k : IntKind} {x y : Int} {out : Out} (h : binInt op k x y = some out) (hp : ∀ p ∈ out.props, p) :
    ∃ v, (binOp op t (.int k x) (.int k y)).run P w = .ok v w ∧ out.upd = [] ∧ RepA w S β out.v v := by
  cases op with
  | add | sub | mul =>
    obtain rfl := out_pure h
    exact ⟨_, by simp only [binOp, ne_eq, not_true_eq_false, if_false, Op.intArith]; rfl, rfl, repA_int _ _⟩
  | and | or | xor | andNot =>
    obtain rfl := out_pure h
    exact ⟨_, by simp only [binOp, ne_eq, not_true_eq_false, if_false, Op.intBits]; rfl, rfl, repA_int _ _⟩
  | eql | neq | lss | leq | gtr | geq =>
    obtain rfl := out_pure h
    exact ⟨_, by simp only [binOp, ne_eq, not_true_eq_false, if_false, Op.intCmp]; rfl, rfl, repA_bool _⟩
  | quo | rem =>
    obtain rfl := out_ifs h
    have hy : y ≠ 0 := okP hp (List.mem_singleton.2 rfl)
    exact ⟨_, by simp only [binOp, ne_eq, not_true_eq_false, if_false, Op.intDiv, hy]; rfl, rfl, repA_int _ _⟩
  | shl | shr => cases h

theorem shiftK_ok {P : Program} {w : World} {S : Nat → Prop} {β : Nat → Value} {op : BinOp} {t : TypeId} {k k' : IntKind} {x y : Int} {out : Out} (hs : isShift op = true) (h : shiftK op k x y = some out) (hp : ∀ p ∈ out.props, p) :
    ∃ v, (binOp op t (.int k x) (.int k' y)).run P w = .ok v w ∧ out.upd = [] ∧ RepA w S β out.v v := by
  cases op with
  | shl | shr =>
    obtain rfl := out_ifs h
    have hy : 0 ≤ y := okP hp (List.mem_singleton.2 rfl)
    have hy' : ¬ y < 0 := by omega
    exact ⟨_, by simp only [binOp, Op.shift, hy', if_false]; rfl, rfl, repA_int _ _⟩
  | _ => cases hs

section ops
variable {run : Runner} {P : Program} {B : Nat} {W0 : Nat → Option Obj} {fid : Nat} {w : World} {S : Nat → Prop} {β : Nat → Value} {H : Nat → Option O} {look : Nat → Option O} {ρ : Operand → Value} {o : Oper} {out : Out}

theorem op_move (g : Good B W0 w S β H) {x : Operand} (ho : o.op = .move x) {a : A} (ha : RepA w S β a (ρ x)) (h : Out.pure a = some out) : StepTo B W0 fid w S β H ((execOp ρ o).run P w) out := by
  obtain rfl := out_pure h
  exact StepTo.pure g (by simp [execOp, ho]) rfl ha

theorem op_assign (g : Good B W0 w S β H) {x : Operand} (ho : o.op = .assign x) {a : A} (ha : RepA w S β a (ρ x)) (h : Out.pure a = some out) : StepTo B W0 fid w S β H ((execOp ρ o).run P w) out := by
  obtain rfl := out_pure h
  exact StepTo.pure g (by simp [execOp, ho]) rfl ha

theorem op_binOp (g : Good B W0 w S β H) (hl : ∀ o x, look o = some x → H o = some x) {op : BinOp} {t yt : TypeId} {x y : Operand} (ho : o.op = .binOp op t x y yt) {a b : A} (ha : RepA w S β a (ρ x)) (hb : RepA w S β b (ρ y))
    (h : binK P look op t a b = some out) (hp : ∀ p ∈ out.props, p) : StepTo B W0 fid w S β H ((execOp ρ o).run P w) out := by
  have key : (∀ cs, ρ x ≠ .agg cs) → ρ x ≠ .nilIface → (∃ v, (binOp op t (ρ x) (ρ y)).run P w = .ok v w ∧ out.upd = [] ∧ RepA w S β out.v v) → StepTo B W0 fid w S β H ((execOp ρ o).run P w) out := by
    rintro h1 h2 ⟨v, hv, hu, hr⟩
    exact StepTo.pure g (by simp [execOp, ho, eqGuard_plain P op t x y _ _ w h1 h2, hv]) hu hr
  unfold binK at h
  split at h
  · rename_i k m k' n
    have e1 := inv_int ha
    have e2 := inv_int hb
    refine key (by rw [e1]; intro cs hc; cases hc) (by rw [e1]; intro hc; cases hc) ?_
    rw [e1, e2]
    split at h
    · rename_i hs
      exact shiftK_ok hs h hp
    · split at h
      · rename_i hk
        subst hk
        exact binInt_ok h hp
      · cases h
  · rename_i m n
    have e1 := inv_bool ha
    have e2 := inv_bool hb
    refine key (by rw [e1]; intro cs hc; cases hc) (by rw [e1]; intro hc; cases hc) ?_
    rw [e1, e2]
    split at h
    · rename_i hu
      obtain rfl := out_pure h
      exact ⟨_, run_eql rfl (equal_bool _ hu _ _), rfl, repA_bool _⟩
    · rename_i hu
      obtain rfl := out_pure h
      exact ⟨_, run_neq rfl (equal_bool _ hu _ _), rfl, repA_bool _⟩
    · cases h
  · rename_i m n
    have e1 := inv_str ha
    have e2 := inv_str hb
    refine key (by rw [e1]; intro cs hc; cases hc) (by rw [e1]; intro hc; cases hc) ?_
    rw [e1, e2]
    split at h
    · obtain rfl := out_pure h
      exact ⟨_, by simp only [binOp, Op.stringOp]; rfl, rfl, repA_bool _⟩
    · obtain rfl := out_pure h
      exact ⟨_, by simp only [binOp, Op.stringOp]; rfl, rfl, repA_bool _⟩
    · obtain rfl := out_ifs h
      have hle : m.size + n.size ≤ 9223372036854775807 := okP hp (by simp)
      have hle' : ¬ ((m.size + n.size : Nat) : Int) > IntKind.i64.max := by
        have : IntKind.i64.max = 9223372036854775807 := by decide
        rw [this]; omega
      exact ⟨_, by simp only [binOp, Op.stringOp, hle', if_false]; rfl, rfl, repA_str _⟩
    · cases h
  · have e1 := inv_nil ha
    have e2 := inv_nil hb
    refine key (by rw [e1]; intro cs hc; cases hc) (by rw [e1]; intro hc; cases hc) ?_
    rw [e1, e2]
    split at h
    · rename_i hu
      obtain rfl := out_pure h
      exact ⟨_, run_eql rfl (equal_nil _ hu), rfl, repA_bool _⟩
    · rename_i hu
      obtain rfl := out_pure h
      exact ⟨_, run_neq rfl (equal_nil _ hu), rfl, repA_bool _⟩
    · cases h
  · obtain ⟨a', c, e1⟩ := inv_emp ha
    have e2 := inv_nil hb
    refine key (by rw [e1]; intro cs hc; cases hc) (by rw [e1]; intro hc; cases hc) ?_
    rw [e1, e2]
    split at h
    · rename_i hu
      obtain rfl := out_pure h
      exact ⟨_, run_eql rfl (equal_some _ hu _ _ _), rfl, repA_bool _⟩
    · rename_i hu
      obtain rfl := out_pure h
      exact ⟨_, run_neq rfl (equal_some _ hu _ _ _), rfl, repA_bool _⟩
    · cases h
  · rename_i e xs
    obtain ⟨a', c, e1, _, h3⟩ := inv_slice ha
    have e2 := inv_nil hb
    refine key (by rw [e1]; intro cs hc; cases hc) (by rw [e1]; intro hc; cases hc) ?_
    rw [e1, e2]
    split at h
    · rename_i hu
      obtain rfl := out_ifs h
      have hlen : 0 < xs.length := okP hp (by simp)
      rcases h3 with h3 | ⟨b, off, rfl, _⟩
      · omega
      · exact ⟨_, run_eql rfl (equal_some _ hu _ _ _), rfl, repA_bool _⟩
    · rename_i hu
      obtain rfl := out_ifs h
      have hlen : 0 < xs.length := okP hp (by simp)
      rcases h3 with h3 | ⟨b, off, rfl, _⟩
      · omega
      · exact ⟨_, run_neq rfl (equal_some _ hu _ _ _), rfl, repA_bool _⟩
    · cases h
  · rename_i k
    have e1 := inv_ref ha
    have e2 := inv_nil hb
    split at h
    · rename_i hu hlk
      obtain ⟨a', c, e3, _, h3⟩ := arr_head (g.rep (hl _ _ hlk))
      rw [e3] at e1
      refine key (by rw [e1]; intro cs hc; cases hc) (by rw [e1]; intro hc; cases hc) ?_
      rw [e1, e2]
      obtain rfl := out_ifs h
      have hlen := okP hp (List.mem_singleton.2 rfl)
      rcases h3 with h3 | ⟨b, rfl⟩
      · omega
      · exact ⟨_, run_eql rfl (equal_some _ hu _ _ _), rfl, repA_bool _⟩
    · rename_i hu hlk
      obtain ⟨a', c, e3, _, h3⟩ := arr_head (g.rep (hl _ _ hlk))
      rw [e3] at e1
      refine key (by rw [e1]; intro cs hc; cases hc) (by rw [e1]; intro hc; cases hc) ?_
      rw [e1, e2]
      obtain rfl := out_ifs h
      have hlen := okP hp (List.mem_singleton.2 rfl)
      rcases h3 with h3 | ⟨b, rfl⟩
      · omega
      · exact ⟨_, run_neq rfl (equal_some _ hu _ _ _), rfl, repA_bool _⟩
    · rename_i hu hlk
      obtain ⟨a', c, e3, _, h3⟩ := row_head (g.rep (hl _ _ hlk))
      rw [e3] at e1
      refine key (by rw [e1]; intro cs hc; cases hc) (by rw [e1]; intro hc; cases hc) ?_
      rw [e1, e2]
      obtain rfl := out_ifs h
      have hlen := okP hp (List.mem_singleton.2 rfl)
      rcases h3 with h3 | ⟨b, rfl⟩
      · omega
      · exact ⟨_, run_eql rfl (equal_some _ hu _ _ _), rfl, repA_bool _⟩
    · rename_i hu hlk
      obtain ⟨a', c, e3, _, h3⟩ := row_head (g.rep (hl _ _ hlk))
      rw [e3] at e1
      refine key (by rw [e1]; intro cs hc; cases hc) (by rw [e1]; intro hc; cases hc) ?_
      rw [e1, e2]
      obtain rfl := out_ifs h
      have hlen := okP hp (List.mem_singleton.2 rfl)
      rcases h3 with h3 | ⟨b, rfl⟩
      · omega
      · exact ⟨_, run_neq rfl (equal_some _ hu _ _ _), rfl, repA_bool _⟩
    · cases h
  · cases h

theorem op_unOp (g : Good B W0 w S β H) {op : UnOp} {t : TypeId} {x : Operand} (ho : o.op = .unOp op t x) {a : A} (ha : RepA w S β a (ρ x)) (h : unK op a = some out) : StepTo B W0 fid w S β H ((execOp ρ o).run P w) out := by
  unfold unK at h
  split at h
  · obtain rfl := out_pure h
    exact StepTo.pure g (by simp [execOp, ho, inv_int ha, Op.unary, Op.intArith]) rfl (repA_int _ _)
  · obtain rfl := out_pure h
    exact StepTo.pure g (by simp [execOp, ho, inv_bool ha, Op.unary]) rfl (repA_bool _)
  · obtain rfl := out_pure h
    exact StepTo.pure g (by simp [execOp, ho, inv_int ha, Op.unary, Op.intBits]; rfl) rfl (repA_int _ _)
  · cases h

theorem op_pick (g : Good B W0 w S β H) {c x y : Operand} (ho : o.op = .pick c x y) {cs : Option CallScript} {dec : Option Bool} {d a b : A} (hd : RepA w S β d (ρ c)) (ha : RepA w S β a (ρ x)) (hb : RepA w S β b (ρ y))
    (h : opK P run look fid cs dec (.pick c x y) [d, a, b] = some out) (hp : ∀ p ∈ out.props, p) : StepTo B W0 fid w S β H ((execOp ρ o).run P w) out := by
  simp only [opK] at h
  split at h
  · rename_i q
    have e := inv_bool hd
    split at h
    · obtain rfl := out_pure h
      refine StepTo.pure g (v := if q then ρ x else ρ y) (by simp [execOp, ho, e, asBool]) rfl ?_
      rw [inv_bool ha, inv_bool hb]
      cases q <;> exact repA_bool _
    · split at h
      · rename_i d
        obtain rfl := out_ifs h
        have hq : q = d := okP hp (by simp)
        refine StepTo.pure g (v := if q then ρ x else ρ y) (by simp [execOp, ho, e, asBool]) rfl ?_
        rw [hq]
        cases d
        · exact hb
        · exact ha
      · obtain rfl := out_pure h
        refine StepTo.pure g (v := if q then ρ x else ρ y) (by simp [execOp, ho, e, asBool]) rfl ?_
        cases q
        · exact hb
        · exact ha
  · cases h

end ops
end Go.Proofs.YtcbeifkfllcjoaaDoor
