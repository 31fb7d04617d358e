/-
  Conversions, min and max, append.
-/
import Derived.Test.YtcbeifkfllcjoaaDoorRK
import Derived.Maps.AppendAt
set_option linter.unusedVariables false
set_option linter.unusedSimpArgs false
namespace Go.Proofs.YtcbeifkfllcjoaaDoor

section ops
variable {run : Runner} {P : Program} {B : Nat} {W0 : Nat → Option Obj} {fid : Nat} {w : World} {S : Nat → Prop} {β : Nat → Value} {H : Nat → Option O} {look : Nat → Option O} {ρ : Operand → Value} {o : Oper} {out : Out}

/-- a slice value's elements, where they lie -/
def ElemsAt (w : World) (S : Nat → Prop) (τ : Ty) (ys : List τ.Den) (p : Option Addr) : Prop :=
  List.length ys = 0 ∨ ∃ b off, p = some ⟨b, off, none⟩ ∧ ∀ j (h : j < List.length ys), Rep w S τ (ys[j]'h) (fun i => w.cell? ⟨b, off + j * τ.size + i, none⟩)

theorem elems_ok (g : Good B W0 w S β H) (hl : ∀ o x, look o = some x → H o = some x) {τ : Ty} {a : A} {ys : List τ.Den} {v : Value} (h : elems look τ a = some ys) (ha : RepA w S β a v) :
    ∃ p c, v = .slice p (List.length ys) c ∧ List.length ys ≤ c ∧ ElemsAt w S τ ys p := by
  unfold elems at h
  split at h
  · rename_i e xs
    obtain ⟨e1, rfl⟩ := castDen_some h
    injection e1 with e1
    subst e1
    obtain ⟨p, c, hv, hc, h3⟩ := inv_slice ha
    rcases h3 with h3 | ⟨b, off, rfl, _, h3⟩
    · exact ⟨p, c, hv, hc, .inl h3⟩
    · exact ⟨_, c, hv, hc, .inr ⟨b, off, rfl, h3⟩⟩
  · injection h with h
    subst h
    exact ⟨none, 0, inv_nil ha, Nat.le_refl _, .inl rfl⟩
  · injection h with h
    subst h
    obtain ⟨A', c', hx⟩ := inv_emp ha
    exact ⟨some A', c', hx, Nat.zero_le _, .inl rfl⟩
  · rename_i k
    split at h
    · rename_i e τ' xs f hlk
      obtain ⟨e1, rfl⟩ := castDen_some h
      injection e1 with e1
      subst e1
      have hr := g.rep (hl _ _ hlk)
      obtain ⟨p, c, hv, hc, h3⟩ := arr_head hr
      refine ⟨p, c, (inv_ref ha).trans hv, hc, ?_⟩
      rcases h3 with h3 | ⟨b, rfl⟩
      · exact .inl h3
      · refine .inr ⟨b, 0, rfl, fun j hj => ?_⟩
        have := arr_elem hr hj hv
        rw [show xs.getD j τ'.zero = xs[j] by simp [List.getD_eq_getElem?_getD, hj]] at this
        simpa only [Nat.zero_add] using this
    · cases h
  · cases h

theorem op_convert (g : Good B W0 w S β H) (hl : ∀ o x, look o = some x → H o = some x) {s d : TypeId} {x : Operand} (ho : o.op = .convert s d x) {a : A} (ha : RepA w S β a (ρ x)) {cs : Option CallScript} {dec : Option Bool}
    (h : opK P run look fid cs dec (.convert s d x) [a] = some out) : StepTo B W0 fid w S β H ((execOp ρ o).run P w) out := by
  simp only [opK] at h
  split at h
  · rename_i k1 k2 k3 n hs hd
    obtain rfl := out_pure h
    refine StepTo.pure g (v := .int k2 (k2.wrap n)) ?_ rfl (repA_int _ _)
    simp [execOp, ho, inv_int ha, convert, run_underlying hs, run_underlying hd, Conv.intToInt]
  · rename_i t hs hd
    obtain rfl := out_pure h
    refine StepTo.pure g (v := .string t) ?_ rfl (repA_str _)
    simp [execOp, ho, inv_str ha, convert, run_underlying hs, run_underlying hd]
  · rename_i e hs hd
    split at h
    · rename_i he
      split at h
      · rename_i bs hbs
        obtain rfl := out_pure h
        obtain ⟨p, c, hv, hc, h3⟩ := elems_ok g hl hbs ha
        refine StepTo.pure g (v := .string (strOfNums bs)) ?_ rfl (repA_str _)
        have key : (convert s d (.slice p (List.length bs) c)).run P w = .ok (.string (strOfNums bs)) w := by
          rcases h3 with h0 | ⟨b, off, rfl, h3⟩
          · have : bs = [] := List.eq_nil_of_length_eq_zero h0
            subst this
            cases p with
            | none => exact run_convert_bytes_nil w s e hs he _ _ d hd
            | some p =>
              rw [run_convert_bytes_string w s d e _ _ c hs he hd]
              exact run_bytesToString w p 0 c [] (by simp [loadCells, loadCellsFrom])
          · refine run_convert_bytes_arg w s e hs he b off _ c bs rfl (fun i hi => ?_) d hd
            have := h3 i hi
            simp only [Ty.size, Nat.mul_one] at this
            have h2 : w.cell? ⟨b, off + i + 0, none⟩ = some (.int .u8 bs[i]) := this
            rw [Nat.add_zero] at h2
            rw [h2]
            simp [List.getD_eq_getElem?_getD, hi]
        simp [execOp, ho, hv, key]
      · cases h
    · cases h
  · cases h

theorem op_min (g : Good B W0 w S β H) {c : Call} {u v : Value} (ho : o.op = .call c) (hc : c.callee = .builtin .min) (hv : c.args.map ρ = #[u, v]) {k : IntKind} {m n : Int} (hx : RepA w S β (.val (.int k) m) u) (hy : RepA w S β (.val (.int k) n) v) :
    StepTo B W0 fid w S β H ((execOp ρ o).run P w) ⟨.val (.int k) (if n < m then n else m), [], [], []⟩ := by
  refine StepTo.pure g (v := .int k (if n < m then n else m)) ?_ rfl (repA_int _ _)
  simp [execOp, ho, resolve, hc, hv, invoke, builtin, Builtin.min_, Builtin.min2, inv_int hx, inv_int hy]

theorem op_max (g : Good B W0 w S β H) {c : Call} {u v : Value} (ho : o.op = .call c) (hc : c.callee = .builtin .max) (hv : c.args.map ρ = #[u, v]) {k : IntKind} {m n : Int} (hx : RepA w S β (.val (.int k) m) u) (hy : RepA w S β (.val (.int k) n) v) :
    StepTo B W0 fid w S β H ((execOp ρ o).run P w) ⟨.val (.int k) (if n > m then n else m), [], [], []⟩ := by
  refine StepTo.pure g (v := .int k (if n > m then n else m)) ?_ rfl (repA_int _ _)
  simp [execOp, ho, resolve, hc, hv, invoke, builtin, Builtin.max_, Builtin.max2, inv_int hx, inv_int hy]

/-- elements as one list of cells -/
theorem elems_cells {τ : Ty} {ys : List τ.Den} {b off : Nat} (hpos : 0 < τ.size) (h : ∀ j (h : j < List.length ys), Rep w S τ (ys[j]'h) (fun i => w.cell? ⟨b, off + j * τ.size + i, none⟩)) :
    ∃ news : List Value, news.length = List.length ys * τ.size ∧ (∀ q, q < List.length ys * τ.size → w.cell? ⟨b, off + q, none⟩ = news[q]?) ∧ (∀ u ∈ news, u.oneCell' = true) ∧
      ∀ j (h : j < List.length ys), Rep w S τ (ys[j]'h) (fun i => news[j * τ.size + i]?) := by
  have hc : ∀ q, q < List.length ys * τ.size → ∃ u, w.cell? ⟨b, off + q, none⟩ = some u ∧ u.oneCell' = true := fun q hq => by
    have hq1 : q / τ.size < List.length ys := (Nat.div_lt_iff_lt_mul hpos).2 hq
    obtain ⟨u, hu, h1⟩ := (h _ hq1).cells (q % τ.size) (Nat.mod_lt _ hpos)
    refine ⟨u, ?_, h1⟩
    rw [← hu, Nat.add_assoc, Nat.mul_comm, Nat.div_add_mod]
  refine ⟨(List.range (List.length ys * τ.size)).map fun q => (w.cell? ⟨b, off + q, none⟩).getD undef, by simp, fun q hq => ?_, fun u hu => ?_, fun j hj => (h j hj).congr fun i hi => ?_⟩
  · obtain ⟨u, hu, _⟩ := hc q hq
    simp [hq, hu]
  · obtain ⟨q, hq, rfl⟩ := List.mem_map.1 hu
    obtain ⟨u, hu, h1⟩ := hc q (List.mem_range.1 hq)
    simpa [hu] using h1
  · have hlt : j * τ.size + i < List.length ys * τ.size := by
      have : (j + 1) * τ.size ≤ List.length ys * τ.size := Nat.mul_le_mul_right _ hj
      rw [Nat.succ_mul] at this
      omega
    obtain ⟨u, hu, _⟩ := hc _ hlt
    rw [← Nat.add_assoc] at hu
    simp [hlt, hu, ← Nat.add_assoc]

theorem run_append_zero {t ty e : TypeId} {size : Nat} (ht : P.underlying t = some (.slice e)) (hs : sizeT P e = some size) {v : Value} {n : Nat} {xs : List Value} (hown : rowAt w B e size v n xs) (p : Option Addr) (c : Nat) :
    (Builtin.append_ #[t, t] ty #[v, .slice p 0 c]).run P w = .ok v w := by
  have hz : ∀ q, (Builtin.firstCells size 0 (.slice p q c)).run P w = .ok #[] w := by
    intro q
    cases p <;> simp [Builtin.firstCells, loadCells, loadCellsFrom]
  rcases hown.2 with ⟨a, rfl, rfl⟩ | ⟨g, cap, cur, rfl, _, _, hnc, _⟩
  · cases a <;> simp [Builtin.append_, run_underlying ht, run_sizeT hs, Builtin.lenOf, hz, storeCells]
  · simp [Builtin.append_, run_underlying ht, run_sizeT hs, Builtin.lenOf, hz, hnc, storeCells]

/-- what lies behind a slice without capacity plays no part -/
theorem append_cap0 {t ty e : TypeId} {i : TypeInfo} {z : Value} (ht : P.underlying t = some (.slice e)) (hi : P.info? e = some i) (hz : i.zero = some z) {a : Option Addr} {p : Addr} {n c : Nat} {news : List Value} (hl : news.length = n * i.size) (hnews : ∀ j v, news[j]? = some v → w.cell? (p.add j) = some v)
    (hn : 0 < n) (h63 : (n : Int) ≤ 9223372036854775807) (hb : n * i.bytes ≤ 140737488355328) :
    (Builtin.append_ #[t, t] ty #[.slice a 0 0, .slice (some p) n c]).run P w = (Builtin.append_ #[t, t] ty #[.slice none 0 0, .slice (some p) n c]).run P w := by
  cases a with
  | none => rfl
  | some a =>
    rw [run_append_nil (P := P) w t ty e i z ht hi hz p n c news hl hnews hn h63 (by omega),
      run_append_grow (P := P) w t ty e i z ht hi hz a 0 0 [] (by simp) (fun j v h => by simp at h) p n c news hl hnews (by omega) (by omega) (growslice_fits (by omega) (by rw [Nat.zero_add]; exact hb))]
    simp

theorem append_core {t ty e : TypeId} (ht : P.underlying t = some (.slice e)) {τ : Ty} {b : Nat} {zs : List A} (hb : bytesT P e = some b) (hz : zeroCells P e = some zs) (hs : sizeT P e = some τ.size) (hpos : 0 < τ.size) (hbp : 0 < b) (hzl : zs.length = τ.size)
    {v : Value} {n : Nat} {vs : List Value} (hown : rowAt w B e τ.size v n vs) {p : Option Addr} {c : Nat} {ys : List τ.Den} (hsrc : ElemsAt w S τ ys p) (hbnd : (n + List.length ys) * b ≤ 140737488355328) (hbase : B ≤ w.heap.size) :
    ∃ v' w' news, (Builtin.append_ #[t, t] ty #[v, .slice p (List.length ys) c]).run P w = .ok v' w' ∧ rowAt w' B e τ.size v' (n + List.length ys) (vs ++ news) ∧ (∀ j (h : j < List.length ys), Rep w S τ (ys[j]'h) (fun i => news[j * τ.size + i]?)) ∧
      w.grownBy w' (blk v) ∧ ∀ q, blk v' = some q → blk v = some q ∨ q = w.heap.size := by
  obtain ⟨i, z, hi, hiz, hzc, _⟩ := zeroCells_ok hz
  obtain ⟨i', hi', hsz⟩ := sizeT_info hs
  rw [hi] at hi'
  injection hi' with hi'
  subst hi'
  have hib : i.bytes = b := by unfold bytesT at hb; rw [hi] at hb; simpa using hb
  have hzs : z.cells.size = τ.size := by rw [← hzl, hzc]; simp
  rcases hsrc with h0 | ⟨b', off, rfl, hrep⟩
  · refine ⟨v, w, [], ?_, ?_, fun j hj => by omega, ⟨rfl, rfl, rfl, Nat.le_refl _, fun _ _ _ => rfl⟩, fun q h => .inl h⟩
    · rw [h0]; exact run_append_zero ht hs hown p c
    · rw [h0, Nat.add_zero, List.append_nil]; exact hown
  · obtain ⟨news, hl, hcell, h1, hr⟩ := elems_cells hpos hrep
    have hle : n + List.length ys ≤ 140737488355328 := by
      have : (n + List.length ys) * 1 ≤ (n + List.length ys) * b := Nat.mul_le_mul_left _ hbp
      omega
    have hnew : ∀ j u, news[j]? = some u → w.cell? ((⟨b', off, none⟩ : Addr).add j) = some u := fun j u hj => by
        have hlt : j < news.length := by
          rcases Nat.lt_or_ge j news.length with h | h
          · exact h
          · rw [List.getElem?_eq_none h] at hj; cases hj
        rw [Addr.add_lit, hcell j (by rw [← hl]; exact hlt), hj]
    by_cases hz0 : List.length ys = 0
    · refine ⟨v, w, [], ?_, ?_, fun j hj => by omega, ⟨rfl, rfl, rfl, Nat.le_refl _, fun _ _ _ => rfl⟩, fun q h => .inl h⟩
      · rw [hz0]; exact run_append_zero ht hs hown _ c
      · rw [hz0, Nat.add_zero, List.append_nil]; exact hown
    have hcase : (∃ a, v = .slice a 0 0 ∧ n = 0 ∧ vs = []) ∨ ∃ g cap, v = .slice (some ⟨g, 0, none⟩) n cap ∧ 0 < cap ∧ w.ownsRow B e τ.size v n vs := by
      rcases hown.2 with ⟨a, rfl, h0⟩ | ⟨g, cap, cur, rfl, h2, h3, h4, h5⟩
      · refine .inl ⟨a, rfl, h0, List.eq_nil_of_length_eq_zero ?_⟩
        have := hown.1
        rw [h0, Nat.zero_mul] at this
        exact this
      · rcases Nat.eq_zero_or_pos cap with hc0 | hc0
        · subst hc0
          obtain rfl : n = 0 := by omega
          refine .inl ⟨_, rfl, rfl, List.eq_nil_of_length_eq_zero ?_⟩
          have := hown.1
          rw [Nat.zero_mul] at this
          exact this
        · exact .inr ⟨g, cap, rfl, hc0, hown.1, .inr ⟨g, cap, cur, rfl, h2, h3, h4, h5⟩⟩
    have hblk : ∀ {v' : Value} {w' : World} {N : Nat} {L : List Value}, w'.ownsRow B e τ.size v' N L → ∀ q, blk v' = some q → v'.ownBlock = some q := by
      intro v' w' N L ho q hq
      rcases ho.2 with ⟨rfl, _⟩ | ⟨g, cap, cur, rfl, _⟩
      · cases hq
      · obtain ⟨_, x, hx, hb⟩ := blk_some hq
        injection hx with hx
        subst hx
        simp only [Value.ownBlock]
        exact congrArg some hb
    rcases hcase with ⟨a, rfl, rfl, rfl⟩ | ⟨g, cap, rfl, hc0, hown'⟩
    · obtain ⟨v', w', hrun, ho', hg, _, hbk⟩ := run_append_own_at (P := P) w B t ty e i z τ.size b ht hi hiz hsz hib hzs hpos (.slice none 0 0) 0 [] (World.ownsRow_nil w B e τ.size) ⟨b', off, none⟩ (List.length ys) c news hl hnew h1 (by simp only [maxLen]; omega) hbnd hbase
      refine ⟨v', w', news, ?_, rowAt_of_owns ho', hr, ?_, fun q hq => ?_⟩
      · rw [append_cap0 ht hi hiz (by rw [hl, hsz]) hnew (by omega) (by omega) (by rw [hib]; simpa using hbnd)]
        exact hrun
      · have : blk (.slice a 0 0) = none := by cases a <;> rfl
        rw [this]
        exact hg
      · have := hblk ho' q hq
        rcases hbk with h | h
        · rw [h] at this; cases this
        · rw [h] at this; injection this with this; exact .inr this.symm
    · obtain ⟨v', w', hrun, ho', hg, _, hbk⟩ := run_append_own_at (P := P) w B t ty e i z τ.size b ht hi hiz hsz hib hzs hpos _ n vs hown' ⟨b', off, none⟩ (List.length ys) c news hl hnew h1 (by simp only [maxLen]; omega) hbnd hbase
      refine ⟨v', w', news, hrun, rowAt_of_owns ho', hr, by rw [blk_slice hc0]; exact hg, fun q hq => ?_⟩
      have := hblk ho' q hq
      rcases hbk with h | h
      · rw [h] at this; rw [blk_slice hc0]; exact .inl this
      · rw [h] at this; injection this with this; exact .inr this.symm

theorem op_append (g : Good B W0 w S β H) (hl : ∀ o x, look o = some x → H o = some x) (hf0 : H fid = none) (hf1 : ∀ o y, H o = some y → fid ∉ y.ids) {t : TypeId} {cc : Call} {u1 u2 : Value} (ho : o.op = .call cc) (hcc : cc.callee = .builtin .append) (hvv : cc.args.map ρ = #[u1, u2]) (htt : cc.argTypes = #[t, t]) {a a' : A} (ha : RepA w S β a u1) (ha' : RepA w S β a' u2)
    (h : appendK P look fid t a a' = some out) (hp : ∀ p ∈ out.props, p) : StepTo B W0 fid w S β H ((execOp ρ o).run P w) out := by
  unfold appendK at h
  split at h
  · rename_i e he
    split at h
    · rename_i τ b zs hτ hb hz
      split at h
      · rename_i hc
        obtain ⟨hs, hpos, hbp, hzl⟩ := hc
        split at h
        · rename_i ys hys
          obtain ⟨p, c, hv', hcap, hsrc⟩ := elems_ok g hl hys ha'
          split at h
          · injection h with h
            subst h
            have hbnd : List.length ys * b ≤ 140737488355328 := okP hp (by simp)
            obtain ⟨v', w', news, hrun, hown, hrep, hg, hbk⟩ := append_core (ty := o.type) (c := c) (elemT_some he) hb hz hs hpos hbp hzl (rowAt_of_owns (World.ownsRow_nil w B e τ.size)) hsrc (by simpa using hbnd) g.base
            simp only [Nat.zero_add, List.nil_append] at hown
            have hx : RepO B w' S (newβ β fid v') v' (.arr e τ ys false) :=
              ⟨news, hown, hpos, fun j hj => (hrep j hj).mono (fun _ h => h) fun k hk => hg.block k (g.low k hk) (by simp [blk])⟩
            obtain ⟨g', c'⟩ := g.new (w' := w') (k := none) (fid := fid) (v := v') hg.size hg.os hg.tape hg.output (fun k hk _ => hg.block k hk (by simp [blk])) (fun o h => by cases h) hf0 hf1 hx rfl (fun k hk => by
              rcases hbk k hk with h | h
              · cases h
              · exact .inl (by omega))
            refine ⟨w', S, newβ β fid v', v', .inl ?_, ?_, ?_, ?_⟩
            · simp [execOp, ho, resolve, hcc, hvv, htt, invoke, builtin, inv_nil ha, hv', hrun]
            · have := RepA.ref (w := w') (S := S) (β := newβ β fid v') (o := fid) (by
                rw [show newβ β fid v' fid = v' from if_pos rfl]
                rcases hown.2 with ⟨_, rfl, _⟩ | ⟨_, _, _, rfl, _⟩ <;> rfl)
              rw [show newβ β fid v' fid = v' from if_pos rfl] at this
              exact this
            · simp only [updH_new]; exact g'
            · simp only [updH_new]; exact c'
          · rename_i k
            split at h
            · rename_i e' τ' xs hlk
              split at h
              · rename_i hee
                subst hee
                split at h
                · rename_i xs' hxs
                  obtain ⟨e1, rfl⟩ := castDen_some hxs
                  injection e1 with e1
                  subst e1
                  injection h with h
                  subst h
                  have hbnd : (List.length xs + List.length ys) * b ≤ 140737488355328 := okP hp (by simp)
                  obtain ⟨vs, hown0, _, hrep0⟩ := g.rep (hl _ _ hlk)
                  obtain ⟨v', w', news, hrun, hown, hrep, hg, hbk⟩ := append_core (ty := o.type) (c := c) (elemT_some he) hb hz hs hpos hbp hzl hown0 hsrc hbnd g.base
                  have hne : ∀ q, S q → some q ≠ blk (β k) := fun q hq e => g.excl (hl _ _ hlk) rfl (b := q) e.symm hq
                  have hx : RepO B w' S (newβ β fid v') v' (.arr e τ' (xs ++ ys) false) := by
                    refine ⟨vs ++ news, by rw [List.length_append]; exact hown, hpos, fun j hj => ?_⟩
                    have hvl := hown0.1
                    by_cases hjx : j < xs.length
                    · rw [List.getElem_append_left hjx]
                      refine ((hrep0 j hjx).mono (fun _ h => h) fun q hq => hg.block q (g.low q hq) (hne q hq)).congr fun i hi => ?_
                      have : (j + 1) * τ'.size ≤ xs.length * τ'.size := Nat.mul_le_mul_right _ hjx
                      rw [Nat.succ_mul] at this
                      rw [List.getElem?_append_left (by omega)]
                    · rw [List.length_append] at hj
                      rw [List.getElem_append_right (by omega)]
                      refine ((hrep (j - xs.length) (by omega)).mono (fun _ h => h) fun q hq => hg.block q (g.low q hq) (hne q hq)).congr fun i hi => ?_
                      have : j * τ'.size = xs.length * τ'.size + (j - xs.length) * τ'.size := by rw [← Nat.add_mul]; congr 1; omega
                      rw [List.getElem?_append_right (by omega), hvl]
                      congr 1
                      omega
                  obtain ⟨g', c'⟩ := g.new (w' := w') (k := some k) (fid := fid) (v := v') hg.size hg.os hg.tape hg.output (fun q hq hn => hg.block q hq fun e => hn k rfl e.symm) (fun o h => by injection h with h; subst h; exact ⟨_, hl _ _ hlk, rfl⟩) hf0 hf1 hx rfl (fun q hq => by
                    rcases hbk q hq with h | h
                    · exact .inr ⟨k, rfl, h⟩
                    · exact .inl (by omega))
                  refine ⟨w', S, newβ β fid v', v', .inl ?_, ?_, ?_, ?_⟩
                  · simp [execOp, ho, resolve, hcc, hvv, htt, invoke, builtin, inv_ref ha, hv', hrun]
                  · have := RepA.ref (w := w') (S := S) (β := newβ β fid v') (o := fid) (by
                      rw [show newβ β fid v' fid = v' from if_pos rfl]
                      rcases hown.2 with ⟨_, rfl, _⟩ | ⟨_, _, _, rfl, _⟩ <;> rfl)
                    rw [show newβ β fid v' fid = v' from if_pos rfl] at this
                    exact this
                  · simp only [updH_two]; exact g'
                  · simp only [updH_two]; exact c'
                · cases h
              · cases h
            · cases h
          · cases h
        · cases h
      · cases h
    · cases h
  · cases h

theorem wrap_i64 {n : Int} (h0 : -9223372036854775808 ≤ n) (h1 : n < 9223372036854775808) : IntKind.i64.wrap n = n := by
  have e1 : (2 : Int) ^ 64 = 18446744073709551616 := by decide
  have e2 : (2 : Int) ^ (64 - 1) = 9223372036854775808 := by decide
  simp only [IntKind.wrap, IntKind.bits, IntKind.signed, Bool.true_and, decide_eq_true_eq, e1, e2]
  split <;> omega

theorem op_grow (g : Good B W0 w S β H) (hf0 : H fid = none) (hf1 : ∀ o y, H o = some y → fid ∉ y.ids) {t t' : TypeId} {cc : Call} {u1 u2 : Value} (ho : o.op = .call cc) (hcc : cc.callee = .builtin .append) (hvv : cc.args.map ρ = #[u1, u2]) (htt : cc.argTypes = #[t, t']) {a a' : A} (ha : RepA w S β a u1) (ha' : RepA w S β a' u2)
    (h : growK P fid t t' a a' = some out) (hp : ∀ p ∈ out.props, p) : StepTo B W0 fid w S β H ((execOp ρ o).run P w) out := by
  unfold growK at h
  split at h
  · rename_i e n0 he hu
    split at h
    · rename_i τ b hτ hb
      split at h
      · rename_i hc
        obtain ⟨hs, hpos, hbp, hz⟩ := hc
        injection h with h
        subst h
        obtain ⟨n, hn⟩ : ∃ z : Int, z = n0 := ⟨n0, rfl⟩
        subst hn
        have h0 : 0 < n := okP hp (by simp)
        have h1 : n * (b : Int) ≤ 140737488355328 := okP hp (by simp)
        obtain ⟨i, z, hi, hiz, hzs, hrep⟩ := zeroOk_ok hz
        have hib : i.bytes = b := by unfold bytesT at hb; rw [hi] at hb; simpa using hb
        have his : i.size = τ.size := by unfold sizeT at hs; rw [hi] at hs; simpa using hs
        have hnb : n.toNat * b ≤ 140737488355328 := by
          have e : ((n.toNat * b : Nat) : Int) = n * b := by rw [Int.natCast_mul, Int.toNat_of_nonneg (by omega)]
          omega
        have hn1 : n.toNat ≤ 140737488355328 := by
          have : n.toNat * 1 ≤ n.toNat * b := Nat.mul_le_mul_left _ hbp
          omega
        have hge := grownCap_ge w n.toNat 0 e
        have hcm : grownCap w n.toNat 0 e ≤ maxLen := grownCap_le_maxLen w n.toNat 0 e (by simp only [maxLen]; omega)
        have hw : IntKind.i64.wrap n = n := wrap_i64 (by omega) (by omega)
        have hnz : ¬ n.toNat = 0 := by omega
        have hn0 : ¬ n < 0 := by omega
        have hn0' : ¬ n ≤ 0 := by omega
        have h48 : ¬ (281474976710656 < n * (i.bytes : Int)) := by rw [hib]; omega
        have h63' : ¬ (9223372036854775807 < (n.toNat : Int)) := by omega
        have h63'' : ¬ (9223372036854775807 < n) := by omega
        have h48' : ¬ (281474976710656 < Builtin.nextslicecap n.toNat 0 * i.bytes) := by rw [nextslicecap_zero (by omega), hib]; omega
        have hsz0 : ¬ i.size = 0 := by omega
        have hmx : ¬ (9223372036854775807 < max n 0) := by omega
        have hnn : ¬ n.toNat * i.size = 0 := fun e => by rcases Nat.mul_eq_zero.1 e with e | e <;> omega
        have hrun : (Builtin.append_ #[t, t'] o.type #[.slice none 0 0, .int .i64 n]).run P w =
            .ok (.slice (some ⟨w.heap.size, 0, none⟩) n.toNat (grownCap w n.toNat 0 e)) (w.drew.alloc (.cells (Builtin.zeroCells z.cells n.toNat ++ Builtin.zeroCells z.cells (grownCap w n.toNat 0 e - n.toNat)) e)) := by
          simp [Builtin.append_, run_underlying (elemT_some he), run_underlying hu, sizeOf, typeInfo, zeroValue, hi, hiz, asInt, asIntOf, hw, hn0, hn0', h48, hnz, h63', h63'', h48', hsz0, hmx, hnn, Question.forced, run_firstCells_none, newRow, grownCap]
        have hzget : ∀ m q, q < m * τ.size → (Builtin.zeroCells z.cells m)[q]? = some (z.cells[q % z.cells.size]!) := by
          intro m q hq
          simp [Builtin.zeroCells, hzs, hq]
        have hold : ∀ q, q < w.heap.size → (w.drew.alloc (.cells (Builtin.zeroCells z.cells n.toNat ++ Builtin.zeroCells z.cells (grownCap w n.toNat 0 e - n.toNat)) e)).heap[q]? = w.heap[q]? := fun q hq => heap_alloc_old w.drew _ q hq
        have hx : ∀ β', RepO B (w.drew.alloc (.cells (Builtin.zeroCells z.cells n.toNat ++ Builtin.zeroCells z.cells (grownCap w n.toNat 0 e - n.toNat)) e)) S β' (.slice (some ⟨w.heap.size, 0, none⟩) n.toNat (grownCap w n.toNat 0 e)) (.arr e τ (List.replicate n.toNat τ.zero) false) := by
          intro β'
          refine ⟨(Builtin.zeroCells z.cells n.toNat).toList, ⟨?_, .inr ⟨w.heap.size, _, _, ?_, g.base, heap_alloc_new w.drew _, ?_, hcm, ?_, ?_⟩⟩, hpos, fun j hj => ?_⟩
          · rw [Array.length_toList, size_zeroCells, hzs, List.length_replicate]
          · rw [List.length_replicate]
          · rw [List.length_replicate]; exact hge
          · rw [Array.size_append, size_zeroCells, size_zeroCells, hzs, ← Nat.add_mul]; congr 1; omega
          · rw [List.length_replicate, Array.toList_append, List.take_left']
            rw [Array.length_toList, size_zeroCells, hzs]
          · have hj' : j < n.toNat := by simpa using hj
            rw [List.getElem_replicate]
            refine (hrep _ S).congr fun q hq => ?_
            have hlt : j * τ.size + q < n.toNat * τ.size := by
              have : (j + 1) * τ.size ≤ n.toNat * τ.size := Nat.mul_le_mul_right _ (by omega)
              rw [Nat.succ_mul] at this
              omega
            rw [Array.getElem?_toList, hzget _ _ hlt, hzs, Nat.mul_add_mod_of_lt hq]
            rw [getElem!_pos z.cells q (by omega)]
            simp [hzs, hq]
        obtain ⟨g', c'⟩ := g.new (w' := w.drew.alloc (.cells (Builtin.zeroCells z.cells n.toNat ++ Builtin.zeroCells z.cells (grownCap w n.toNat 0 e - n.toNat)) e)) (k := none) (fid := fid) (by simp) rfl rfl rfl (fun q hq _ => hold q hq) (fun o h => by cases h) hf0 hf1 (hx _) rfl (fun q hq => .inl (by obtain ⟨_, x, hx, hb⟩ := blk_some hq; injection hx with hx; subst hx; exact Nat.le_of_eq hb))
        refine ⟨w.drew.alloc (.cells (Builtin.zeroCells z.cells n.toNat ++ Builtin.zeroCells z.cells (grownCap w n.toNat 0 e - n.toNat)) e), S, newβ β fid (.slice (some ⟨w.heap.size, 0, none⟩) n.toNat (grownCap w n.toNat 0 e)), .slice (some ⟨w.heap.size, 0, none⟩) n.toNat (grownCap w n.toNat 0 e), .inl ?_, ?_, ?_, ?_⟩
        · simp [execOp, ho, resolve, hcc, hvv, htt, invoke, builtin, inv_nil ha, inv_int ha', hrun]
        · have hβ : newβ β fid (.slice (some ⟨w.heap.size, 0, none⟩) n.toNat (grownCap w n.toNat 0 e)) fid = .slice (some ⟨w.heap.size, 0, none⟩) n.toNat (grownCap w n.toNat 0 e) := if_pos rfl
          have := RepA.ref (w := w.drew.alloc (.cells (Builtin.zeroCells z.cells n.toNat ++ Builtin.zeroCells z.cells (grownCap w n.toNat 0 e - n.toNat)) e)) (S := S) (β := newβ β fid (.slice (some ⟨w.heap.size, 0, none⟩) n.toNat (grownCap w n.toNat 0 e))) (o := fid) (by rw [hβ]; rfl)
          rw [hβ] at this
          exact this
        · simp only [updH_new]; exact g'
        · simp only [updH_new]; exact c'
      · cases h
    · cases h
  · cases h

end ops
end Go.Proofs.YtcbeifkfllcjoaaDoor
