/-
  Conversions, min and max, append.
-/
import Derived.Test.YtfebffaimkpngaaRK
import Derived.Maps.AppendAt
set_option linter.unusedVariables false
set_option linter.unusedSimpArgs false
namespace Go.Proofs.Ytfebffaimkpngaa

section ops
variable {run : Runner} {P : Program} {B : Nat} {W0 : Nat → Option Obj} {fid : Nat} {w : World} {S : Nat → Prop} {β : Nat → Value} {H : Nat → Option O} {look : Nat → Option O} {ρ : Operand → Value} {o : Oper} {out : Out}

/-- a slice value's elements, where they lie -/
def ElemsAt (w : World) (S : Nat → Prop) (τ : Ty) (ys : List τ.Den) (p : Option Addr) : Prop :=
  List.length ys = 0 ∨ ∃ b off, p = some ⟨b, off, none⟩ ∧ ∀ j (h : j < List.length ys), Rep w S τ (ys[j]'h) (fun i => w.cell? ⟨b, off + j * τ.size + i, none⟩)

theorem elems_ok (g : Good B W0 w S β H) (hl : ∀ o x, look o = some x → H o = some x) {τ : Ty} {a : A} {ys : List τ.Den} {v : Value} (h : elems look τ a = some ys) (ha : RepA w S β a v) :
    ∃ p c, v = .slice p (List.length ys) c ∧ List.length ys ≤ c ∧ ElemsAt w S τ ys p := by
  unfold elems at h
  split at h
  · rename_i e xs
    obtain ⟨e1, rfl⟩ := castDen_some h
    injection e1 with e1
    subst e1
    obtain ⟨p, c, hv, hc, h3⟩ := inv_slice ha
    rcases h3 with h3 | ⟨b, off, rfl, _, h3⟩
    · exact ⟨p, c, hv, hc, .inl h3⟩
    · exact ⟨_, c, hv, hc, .inr ⟨b, off, rfl, h3⟩⟩
  · injection h with h
    subst h
    exact ⟨none, 0, inv_nil ha, Nat.le_refl _, .inl rfl⟩
  · rename_i k
    split at h
    · rename_i e τ' xs f hlk
      obtain ⟨e1, rfl⟩ := castDen_some h
      injection e1 with e1
      subst e1
      have hr := g.rep (hl _ _ hlk)
      obtain ⟨p, c, hv, hc, h3⟩ := arr_head hr
      refine ⟨p, c, (inv_ref ha).trans hv, hc, ?_⟩
      rcases h3 with h3 | ⟨b, rfl⟩
      · exact .inl h3
      · refine .inr ⟨b, 0, rfl, fun j hj => ?_⟩
        have := arr_elem hr hj hv
        rw [show xs.getD j τ'.zero = xs[j] by simp [List.getD_eq_getElem?_getD, hj]] at this
        simpa only [Nat.zero_add] using this
    · cases h
  · cases h

theorem op_convert (g : Good B W0 w S β H) (hl : ∀ o x, look o = some x → H o = some x) {s d : TypeId} {x : Operand} (ho : o.op = .convert s d x) {a : A} (ha : RepA w S β a (ρ x)) {cs : Option CallScript} {dec : Option Bool}
    (h : opK P run look fid cs dec (.convert s d x) [a] = some out) : StepTo B W0 fid w S β H ((execOp ρ o).run P w) out := by
  simp only [opK] at h
  split at h
  · rename_i k1 k2 k3 n hs hd
    obtain rfl := out_pure h
    refine StepTo.pure g (v := .int k2 (k2.wrap n)) ?_ rfl (repA_int _ _)
    simp [execOp, ho, inv_int ha, convert, run_underlying hs, run_underlying hd, Conv.intToInt]
  · rename_i t hs hd
    obtain rfl := out_pure h
    refine StepTo.pure g (v := .string t) ?_ rfl (repA_str _)
    simp [execOp, ho, inv_str ha, convert, run_underlying hs, run_underlying hd]
  · rename_i e hs hd
    split at h
    · rename_i he
      split at h
      · rename_i bs hbs
        obtain rfl := out_pure h
        obtain ⟨p, c, hv, hc, h3⟩ := elems_ok g hl hbs ha
        refine StepTo.pure g (v := .string (strOfNums bs)) ?_ rfl (repA_str _)
        have key : (convert s d (.slice p (List.length bs) c)).run P w = .ok (.string (strOfNums bs)) w := by
          rcases h3 with h0 | ⟨b, off, rfl, h3⟩
          · have : bs = [] := List.eq_nil_of_length_eq_zero h0
            subst this
            cases p with
            | none => exact run_convert_bytes_nil w s e hs he _ _ d hd
            | some p =>
              rw [run_convert_bytes_string w s d e _ _ c hs he hd]
              exact run_bytesToString w p 0 c [] (by simp [loadCells, loadCellsFrom])
          · refine run_convert_bytes_arg w s e hs he b off _ c bs rfl (fun i hi => ?_) d hd
            have := h3 i hi
            simp only [Ty.size, Nat.mul_one] at this
            have h2 : w.cell? ⟨b, off + i + 0, none⟩ = some (.int .u8 bs[i]) := this
            rw [Nat.add_zero] at h2
            rw [h2]
            simp [List.getD_eq_getElem?_getD, hi]
        simp [execOp, ho, hv, key]
      · cases h
    · cases h
  · cases h

theorem op_min (g : Good B W0 w S β H) {c : Call} {u v : Value} (ho : o.op = .call c) (hc : c.callee = .builtin .min) (hv : c.args.map ρ = #[u, v]) {k : IntKind} {m n : Int} (hx : RepA w S β (.val (.int k) m) u) (hy : RepA w S β (.val (.int k) n) v) :
    StepTo B W0 fid w S β H ((execOp ρ o).run P w) ⟨.val (.int k) (if n < m then n else m), [], [], []⟩ := by
  refine StepTo.pure g (v := .int k (if n < m then n else m)) ?_ rfl (repA_int _ _)
  simp [execOp, ho, resolve, hc, hv, invoke, builtin, Builtin.min_, Builtin.min2, inv_int hx, inv_int hy]

theorem op_max (g : Good B W0 w S β H) {c : Call} {u v : Value} (ho : o.op = .call c) (hc : c.callee = .builtin .max) (hv : c.args.map ρ = #[u, v]) {k : IntKind} {m n : Int} (hx : RepA w S β (.val (.int k) m) u) (hy : RepA w S β (.val (.int k) n) v) :
    StepTo B W0 fid w S β H ((execOp ρ o).run P w) ⟨.val (.int k) (if n > m then n else m), [], [], []⟩ := by
  refine StepTo.pure g (v := .int k (if n > m then n else m)) ?_ rfl (repA_int _ _)
  simp [execOp, ho, resolve, hc, hv, invoke, builtin, Builtin.max_, Builtin.max2, inv_int hx, inv_int hy]

/-- elements as one list of cells -/
theorem elems_cells {τ : Ty} {ys : List τ.Den} {b off : Nat} (hpos : 0 < τ.size) (h : ∀ j (h : j < List.length ys), Rep w S τ (ys[j]'h) (fun i => w.cell? ⟨b, off + j * τ.size + i, none⟩)) :
    ∃ news : List Value, news.length = List.length ys * τ.size ∧ (∀ q, q < List.length ys * τ.size → w.cell? ⟨b, off + q, none⟩ = news[q]?) ∧ (∀ u ∈ news, u.oneCell' = true) ∧
      ∀ j (h : j < List.length ys), Rep w S τ (ys[j]'h) (fun i => news[j * τ.size + i]?) := by
  have hc : ∀ q, q < List.length ys * τ.size → ∃ u, w.cell? ⟨b, off + q, none⟩ = some u ∧ u.oneCell' = true := fun q hq => by
    have hq1 : q / τ.size < List.length ys := (Nat.div_lt_iff_lt_mul hpos).2 hq
    obtain ⟨u, hu, h1⟩ := (h _ hq1).cells (q % τ.size) (Nat.mod_lt _ hpos)
    refine ⟨u, ?_, h1⟩
    rw [← hu, Nat.add_assoc, Nat.mul_comm, Nat.div_add_mod]
  refine ⟨(List.range (List.length ys * τ.size)).map fun q => (w.cell? ⟨b, off + q, none⟩).getD undef, by simp, fun q hq => ?_, fun u hu => ?_, fun j hj => (h j hj).congr fun i hi => ?_⟩
  · obtain ⟨u, hu, _⟩ := hc q hq
    simp [hq, hu]
  · obtain ⟨q, hq, rfl⟩ := List.mem_map.1 hu
    obtain ⟨u, hu, h1⟩ := hc q (List.mem_range.1 hq)
    simpa [hu] using h1
  · have hlt : j * τ.size + i < List.length ys * τ.size := by
      have : (j + 1) * τ.size ≤ List.length ys * τ.size := Nat.mul_le_mul_right _ hj
      rw [Nat.succ_mul] at this
      omega
    obtain ⟨u, hu, _⟩ := hc _ hlt
    rw [← Nat.add_assoc] at hu
    simp [hlt, hu, ← Nat.add_assoc]

theorem run_append_zero {t ty e : TypeId} {size : Nat} (ht : P.underlying t = some (.slice e)) (hs : sizeT P e = some size) {v : Value} {n : Nat} {xs : List Value} (hown : w.ownsRow B e size v n xs) (p : Option Addr) (c : Nat) :
    (Builtin.append_ #[t, t] ty #[v, .slice p 0 c]).run P w = .ok v w := by
  have hz : ∀ q, (Builtin.firstCells size 0 (.slice p q c)).run P w = .ok #[] w := by
    intro q
    cases p <;> simp [Builtin.firstCells, loadCells, loadCellsFrom]
  rcases hown.2 with ⟨rfl, rfl⟩ | ⟨g, cap, cur, rfl, _, _, hnc, _⟩
  · simp [Builtin.append_, run_underlying ht, run_sizeT hs, Builtin.lenOf, hz]
  · simp [Builtin.append_, run_underlying ht, run_sizeT hs, Builtin.lenOf, hz, hnc, storeCells]

theorem append_core {t ty e : TypeId} (ht : P.underlying t = some (.slice e)) {τ : Ty} {b : Nat} {zs : List A} (hb : bytesT P e = some b) (hz : zeroCells P e = some zs) (hs : sizeT P e = some τ.size) (hpos : 0 < τ.size) (hbp : 0 < b) (hzl : zs.length = τ.size)
    {v : Value} {n : Nat} {vs : List Value} (hown : w.ownsRow B e τ.size v n vs) {p : Option Addr} {c : Nat} {ys : List τ.Den} (hsrc : ElemsAt w S τ ys p) (hbnd : (n + List.length ys) * b ≤ 140737488355328) (hbase : B ≤ w.heap.size) :
    ∃ v' w' news, (Builtin.append_ #[t, t] ty #[v, .slice p (List.length ys) c]).run P w = .ok v' w' ∧ w'.ownsRow B e τ.size v' (n + List.length ys) (vs ++ news) ∧ (∀ j (h : j < List.length ys), Rep w S τ (ys[j]'h) (fun i => news[j * τ.size + i]?)) ∧
      w.grownBy w' v.ownBlock ∧ (v'.ownBlock = v.ownBlock ∨ v'.ownBlock = some w.heap.size) := by
  obtain ⟨i, z, hi, hiz, hzc, _⟩ := zeroCells_ok hz
  obtain ⟨i', hi', hsz⟩ := sizeT_info hs
  rw [hi] at hi'
  injection hi' with hi'
  subst hi'
  have hib : i.bytes = b := by unfold bytesT at hb; rw [hi] at hb; simpa using hb
  have hzs : z.cells.size = τ.size := by rw [← hzl, hzc]; simp
  rcases hsrc with h0 | ⟨b', off, rfl, hrep⟩
  · refine ⟨v, w, [], ?_, ?_, fun j hj => by omega, ⟨rfl, rfl, rfl, Nat.le_refl _, fun _ _ _ => rfl⟩, .inl rfl⟩
    · rw [h0]; exact run_append_zero ht hs hown p c
    · rw [h0, Nat.add_zero, List.append_nil]; exact hown
  · obtain ⟨news, hl, hcell, h1, hr⟩ := elems_cells hpos hrep
    have hle : n + List.length ys ≤ 140737488355328 := by
      have : (n + List.length ys) * 1 ≤ (n + List.length ys) * b := Nat.mul_le_mul_left _ hbp
      omega
    obtain ⟨v', w', hrun, ho', hg, _, hbk⟩ := run_append_own_at (P := P) w B t ty e i z τ.size b ht hi hiz hsz hib hzs hpos v n vs hown ⟨b', off, none⟩ (List.length ys) c news hl
      (fun j u hj => by
        have hlt : j < news.length := by
          rcases Nat.lt_or_ge j news.length with h | h
          · exact h
          · rw [List.getElem?_eq_none h] at hj; cases hj
        rw [Addr.add_lit, hcell j (by rw [← hl]; exact hlt), hj]) h1 (by simp only [maxLen]; omega) hbnd hbase
    exact ⟨v', w', news, hrun, ho', hr, hg, hbk⟩

theorem ownBlock_blk {B e size n : Nat} {v : Value} {xs : List Value} (h : w.ownsRow B e size v n xs) : blk v = v.ownBlock := by
  rcases h.2 with ⟨rfl, _⟩ | ⟨g, cap, cur, rfl, _⟩ <;> rfl

theorem updH_two (H : Nat → Option O) (k fid : Nat) (x : O) : updH H [(k, none), (fid, some x)] = newH H (some k) fid x := by
  funext q
  simp only [updH, upd1, newH, Option.some.injEq]
  by_cases h1 : q = fid
  · simp [h1]
  · by_cases h2 : q = k
    · simp [h2, h1, show k ≠ fid from h2 ▸ h1]
    · simp [h1, h2, show ¬ k = q from fun e => h2 e.symm]

theorem op_append (g : Good B W0 w S β H) (hl : ∀ o x, look o = some x → H o = some x) (hf0 : H fid = none) (hf1 : ∀ o y, H o = some y → fid ∉ y.ids) {t : TypeId} {cc : Call} {u1 u2 : Value} (ho : o.op = .call cc) (hcc : cc.callee = .builtin .append) (hvv : cc.args.map ρ = #[u1, u2]) (htt : cc.argTypes = #[t, t]) {a a' : A} (ha : RepA w S β a u1) (ha' : RepA w S β a' u2)
    (h : appendK P look fid t a a' = some out) (hp : ∀ p ∈ out.props, p) : StepTo B W0 fid w S β H ((execOp ρ o).run P w) out := by
  unfold appendK at h
  split at h
  · rename_i e he
    split at h
    · rename_i τ b zs hτ hb hz
      split at h
      · rename_i hc
        obtain ⟨hs, hpos, hbp, hzl⟩ := hc
        split at h
        · rename_i ys hys
          obtain ⟨p, c, hv', hcap, hsrc⟩ := elems_ok g hl hys ha'
          split at h
          · injection h with h
            subst h
            have hbnd : List.length ys * b ≤ 140737488355328 := okP hp (by simp)
            obtain ⟨v', w', news, hrun, hown, hrep, hg, hbk⟩ := append_core (ty := o.type) (c := c) (elemT_some he) hb hz hs hpos hbp hzl (World.ownsRow_nil w B e τ.size) hsrc (by simpa using hbnd) g.base
            simp only [Nat.zero_add, List.nil_append] at hown
            have hx : RepO B w' S (newβ β fid v') v' (.arr e τ ys false) :=
              ⟨news, hown, hpos, fun j hj => (hrep j hj).mono (fun _ h => h) fun k hk => hg.block k (g.low k hk) (by simp [Value.ownBlock])⟩
            obtain ⟨g', c'⟩ := g.new (w' := w') (k := none) (fid := fid) (v := v') hg.size hg.os hg.tape hg.output (fun k hk _ => hg.block k hk (by simp [Value.ownBlock])) (fun o h => by cases h) hf0 hf1 hx rfl (fun k hk => by
              rw [ownBlock_blk hown] at hk
              rcases hbk with h | h
              · rw [h] at hk; cases hk
              · rw [h] at hk; injection hk with hk; exact .inl (by omega))
            refine ⟨w', S, newβ β fid v', v', .inl ?_, ?_, ?_, ?_⟩
            · simp [execOp, ho, resolve, hcc, hvv, htt, invoke, builtin, inv_nil ha, hv', hrun]
            · have := RepA.ref (w := w') (S := S) (β := newβ β fid v') (o := fid) (by
                rw [show newβ β fid v' fid = v' from if_pos rfl]
                rcases hown.2 with ⟨rfl, _⟩ | ⟨_, _, _, rfl, _⟩ <;> rfl)
              rw [show newβ β fid v' fid = v' from if_pos rfl] at this
              exact this
            · simp only [updH_new]; exact g'
            · simp only [updH_new]; exact c'
          · rename_i k
            split at h
            · rename_i e' τ' xs hlk
              split at h
              · rename_i hee
                subst hee
                split at h
                · rename_i xs' hxs
                  obtain ⟨e1, rfl⟩ := castDen_some hxs
                  injection e1 with e1
                  subst e1
                  injection h with h
                  subst h
                  have hbnd : (List.length xs + List.length ys) * b ≤ 140737488355328 := okP hp (by simp)
                  obtain ⟨vs, hown0, _, hrep0⟩ := g.rep (hl _ _ hlk)
                  obtain ⟨v', w', news, hrun, hown, hrep, hg, hbk⟩ := append_core (ty := o.type) (c := c) (elemT_some he) hb hz hs hpos hbp hzl hown0 hsrc hbnd g.base
                  have hblk := ownBlock_blk hown0
                  have hne : ∀ q, S q → some q ≠ (β k).ownBlock := fun q hq e => g.excl (hl _ _ hlk) rfl (b := q) (by rw [hblk]; exact e.symm) hq
                  have hx : RepO B w' S (newβ β fid v') v' (.arr e τ' (xs ++ ys) false) := by
                    refine ⟨vs ++ news, by rw [List.length_append]; exact hown, hpos, fun j hj => ?_⟩
                    have hvl := hown0.1
                    by_cases hjx : j < xs.length
                    · rw [List.getElem_append_left hjx]
                      refine ((hrep0 j hjx).mono (fun _ h => h) fun q hq => hg.block q (g.low q hq) (hne q hq)).congr fun i hi => ?_
                      have : (j + 1) * τ'.size ≤ xs.length * τ'.size := Nat.mul_le_mul_right _ hjx
                      rw [Nat.succ_mul] at this
                      rw [List.getElem?_append_left (by omega)]
                    · rw [List.length_append] at hj
                      rw [List.getElem_append_right (by omega)]
                      refine ((hrep (j - xs.length) (by omega)).mono (fun _ h => h) fun q hq => hg.block q (g.low q hq) (hne q hq)).congr fun i hi => ?_
                      have : j * τ'.size = xs.length * τ'.size + (j - xs.length) * τ'.size := by rw [← Nat.add_mul]; congr 1; omega
                      rw [List.getElem?_append_right (by omega), hvl]
                      congr 1
                      omega
                  obtain ⟨g', c'⟩ := g.new (w' := w') (k := some k) (fid := fid) (v := v') hg.size hg.os hg.tape hg.output (fun q hq hn => hg.block q hq fun e => hn k rfl (by rw [hblk]; exact e.symm)) (fun o h => by injection h with h; subst h; exact ⟨_, hl _ _ hlk, rfl⟩) hf0 hf1 hx rfl (fun q hq => by
                    rw [ownBlock_blk hown] at hq
                    rcases hbk with h | h
                    · rw [h] at hq; exact .inr ⟨k, rfl, by rw [hblk]; exact hq⟩
                    · rw [h] at hq; injection hq with hq; exact .inl (by omega))
                  refine ⟨w', S, newβ β fid v', v', .inl ?_, ?_, ?_, ?_⟩
                  · simp [execOp, ho, resolve, hcc, hvv, htt, invoke, builtin, inv_ref ha, hv', hrun]
                  · have := RepA.ref (w := w') (S := S) (β := newβ β fid v') (o := fid) (by
                      rw [show newβ β fid v' fid = v' from if_pos rfl]
                      rcases hown.2 with ⟨rfl, _⟩ | ⟨_, _, _, rfl, _⟩ <;> rfl)
                    rw [show newβ β fid v' fid = v' from if_pos rfl] at this
                    exact this
                  · simp only [updH_two]; exact g'
                  · simp only [updH_two]; exact c'
                · cases h
              · cases h
            · cases h
          · cases h
        · cases h
      · cases h
    · cases h
  · cases h

end ops
end Go.Proofs.Ytfebffaimkpngaa
