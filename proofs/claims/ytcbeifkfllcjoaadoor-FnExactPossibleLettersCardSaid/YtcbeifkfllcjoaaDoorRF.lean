/-
  Operations that read: loads, fields, elements, slices, lengths.
-/
import Derived.Test.YtcbeifkfllcjoaaDoorRE
set_option linter.unusedVariables false
set_option linter.unusedSimpArgs false
namespace Go.Proofs.YtcbeifkfllcjoaaDoor

section types
variable {P : Program} {w : World} {t : TypeId}
theorem run_sizeT {n : Nat} (h : sizeT P t = some n) : (sizeOf t).run P w = .ok n w := by
  unfold sizeT at h
  cases hq : P.info? t with
  | none => rw [hq] at h; cases h
  | some i =>
    rw [hq] at h
    simp only [Option.map_some, Option.some.injEq] at h
    simp [sizeOf, typeInfo, hq, h]
theorem info_size {n : Nat} (h : sizeT P t = some n) : (P.info? t).map (·.size) = some n := h
theorem kind_agg (h : kindT P t = some true) : ∃ d, P.underlying t = some d ∧ d.isRow = true := by
  unfold kindT at h
  split at h
  · rename_i fs hu; exact ⟨_, hu, rfl⟩
  · rename_i a b hu; exact ⟨_, hu, rfl⟩
  · cases h
  · cases h
theorem run_isAgg {ag : Bool} (h : kindT P t = some ag) : (isAgg t).run P w = .ok ag w := by
  unfold kindT at h
  split at h
  · rename_i fs hu
    injection h with h
    subst h
    simp only [isAgg, Sem.run_bind, run_underlying hu, Result.andThen_ok]
    rfl
  · rename_i a b hu
    injection h with h
    subst h
    simp only [isAgg, Sem.run_bind, run_underlying hu, Result.andThen_ok]
    rfl
  · rename_i d h1 h2 hu
    injection h with h
    subst h
    simp only [isAgg, Sem.run_bind, run_underlying hu, Result.andThen_ok]
    cases d <;> first | rfl | exact absurd rfl (h1 _) | exact absurd rfl (h2 _ _)
  · cases h
theorem elemT_some {e : TypeId} (h : elemT P t = some e) : P.underlying t = some (.slice e) := by
  unfold elemT at h
  split at h
  · rename_i e' hu
    injection h with h
    rw [hu, h]
  · cases h
theorem fieldOff_some {f off u : Nat} (h : fieldOff P t f = some (off, u)) : ∃ fs x, P.underlying t = some (.struct fs) ∧ fs[f]? = some x ∧ x.offset = off ∧ x.type = u := by
  unfold fieldOff at h
  split at h
  · rename_i fs hu
    cases hf : fs[f]? with
    | none => rw [hf] at h; cases h
    | some x =>
      rw [hf] at h
      simp only [Option.map_some, Option.some.injEq, Prod.mk.injEq] at h
      exact ⟨fs, x, hu, hf, h.1, h.2⟩
  · cases h
end types

theorem subCells_ok {w S β} {cs cs' : List A} {vs : List Value} {off n : Nat} (h : subCells cs off n = some cs') (hl : RepL w S β cs vs) :
    RepL w S β cs' ((vs.drop off).take n) ∧ off + n ≤ vs.length ∧ ((vs.drop off).take n).length = n := by
  unfold subCells at h
  split at h
  · rename_i hle
    injection h with h
    subst h
    have := hl.1
    exact ⟨(hl.drop off).take n, by omega, by simp; omega⟩
  · cases h

section inv
variable {w : World} {S : Nat → Prop} {β : Nat → Value} {v : Value}
theorem inv_pbox {o off : Nat} (h : RepA w S β (.pbox o off) v) : ∃ b, β o = .pointer (some ⟨b, 0, none⟩) ∧ v = .pointer (some ⟨b, off, none⟩) := by
  cases h with
  | pbox hb => exact ⟨_, hb, rfl⟩
theorem inv_pcs {cells : List A} {off : Nat} (h : RepA w S β (.pcs cells off) v) : ∃ b vs, S b ∧ RepL w S β cells vs ∧ (∀ i, i < cells.length → w.cell? ⟨b, i, none⟩ = vs[i]?) ∧ (∀ u ∈ vs, u.oneCell' = true) ∧ v = .pointer (some ⟨b, off, none⟩) := by
  cases h with
  | pcs hb hl hc h1 hcs => exact ⟨_, _, hb, ⟨hl, hcs⟩, hc, h1, rfl⟩
theorem inv_pst {τ : Ty} {x : τ.Den} {off : Nat} (h : RepA w S β (.pst τ x off) v) : ∃ b k, S b ∧ Rep w S τ x (fun i => w.cell? ⟨b, k + i, none⟩) ∧ v = .pointer (some ⟨b, k + off, none⟩) := by
  cases h with
  | pst hb hr => exact ⟨_, _, hb, hr, rfl⟩
theorem inv_pel {o i sz off : Nat} (h : RepA w S β (.pel o i sz off) v) : ∃ b n c, β o = .slice (some ⟨b, 0, none⟩) n c ∧ v = .pointer (some ⟨b, i * sz + off, none⟩) := by
  cases h with
  | pel hb hk => exact ⟨_, _, _, hb, by rw [hk]⟩
theorem inv_clo {f : Nat} {caps : List A} (h : RepA w S β (.clo f caps) v) : ∃ vs, RepL w S β caps vs ∧ v = .func (.func f) #[] vs.toArray := by
  cases h with
  | clo hl hcs => exact ⟨_, ⟨hl, hcs⟩, rfl⟩
theorem inv_agg {cells : List A} (h : RepA w S β (.agg cells) v) : ∃ vs, RepL w S β cells vs ∧ (∀ u ∈ vs, u.oneCell' = true) ∧ v = .agg vs.toArray := by
  cases h with
  | agg hl h1 hcs => exact ⟨_, ⟨hl, hcs⟩, h1, rfl⟩
theorem inv_tup {cells : List A} (h : RepA w S β (.tup cells) v) : ∃ vs, RepL w S β cells vs ∧ v = .tuple vs.toArray := by
  cases h with
  | tup hl hcs => exact ⟨_, ⟨hl, hcs⟩, rfl⟩
theorem inv_mapr {o : Nat} (h : RepA w S β (.mapr o) v) : v = β o := by
  cases h; rfl
theorem inv_val {τ : Ty} {x : τ.Den} (h : RepA w S β (.val τ x) v) : RepV w S τ x v := by
  cases h with
  | val h => exact h
end inv

section ops
variable {run : Runner} {P : Program} {B : Nat} {W0 : Nat → Option Obj} {fid : Nat} {w : World} {S : Nat → Prop} {β : Nat → Value} {H : Nat → Option O} {look : Nat → Option O} {ρ : Operand → Value} {o : Oper} {out : Out}

/-- a variable of type t whose cells are told -/
theorem load_cells {t : TypeId} {n : Nat} {ag : Bool} (hn : sizeT P t = some n) (hk : kindT P t = some ag) {b k : Nat} {vs : List Value} (hc : ∀ j, j < n → w.cell? ⟨b, k + j, none⟩ = vs[j]?) (hl : vs.length = n) :
    (ag = true → (Instr.loadAt t (.pointer (some ⟨b, k, none⟩))).run P w = .ok (.agg vs.toArray) w) ∧ (ag = false → ∀ v, vs = [v] → (Instr.loadAt t (.pointer (some ⟨b, k, none⟩))).run P w = .ok v w) := by
  constructor
  · rintro rfl
    obtain ⟨d, hu, hd⟩ := kind_agg hk
    refine run_loadAt_mid w b k t vs d (fun j v hv => ?_) hu hd (by rw [info_size hn, hl])
    have hj : j < vs.length := (List.getElem?_eq_some_iff.1 hv).1
    rw [hc j (by omega), hv]
  · rintro rfl v rfl
    have h0 := hc 0 (by simp at hl; omega)
    simp at h0
    simp [Instr.loadAt, Instr.sureAddr, loadVar, run_isAgg hk, h0]

theorem finLoad_ok (g : Good B W0 w S β H) {t : TypeId} {n : Nat} {ag : Bool} (hn : sizeT P t = some n) (hk : kindT P t = some ag) {b k : Nat} {cs : List A} {vs : List Value} {off : Nat} {ps : List Bool}
    (hl : RepL w S β cs vs) (h1 : ∀ u ∈ vs, u.oneCell' = true) (hc : ∀ j, j < vs.length → w.cell? ⟨b, k + j, none⟩ = vs[j]?) (h : finLoad P t n ag cs off ps = some out) :
    ∃ v, (Instr.loadAt t (.pointer (some ⟨b, k + off, none⟩))).run P w = .ok v w ∧ out = ⟨out.v, [], ps, []⟩ ∧ RepA w S β out.v v := by
  unfold finLoad at h
  split at h
  · cases h
  · rename_i cs' hs
    obtain ⟨hl', hle, hlen⟩ := subCells_ok hs hl
    split at h
    · cases h
    · rename_i a ha
      have ho := out_ifs h
      subst ho
      have h1' : ∀ u ∈ (vs.drop off).take n, u.oneCell' = true := fun u hu => h1 u (List.mem_of_mem_drop (List.mem_of_mem_take hu))
      have hld := load_cells hn hk (b := b) (k := k + off) (vs := (vs.drop off).take n) (fun j hj => by
        rw [Nat.add_assoc, hc (off + j) (by omega), List.getElem?_take, if_pos hj, List.getElem?_drop]) hlen
      obtain ⟨hA, hB⟩ := ofCells_ok ha hl' h1'
      cases ag with
      | true => exact ⟨_, hld.1 rfl, rfl, hA rfl⟩
      | false =>
        obtain ⟨v, hv, hr⟩ := hB rfl
        exact ⟨v, hld.2 rfl v hv, rfl, hr⟩

/-- out of a place that holds data -/
theorem load_data (g : Good B W0 w S β H) {t : TypeId} {n : Nat} {ag : Bool} (hn : sizeT P t = some n) (hk : kindT P t = some ag) {b k : Nat} {τ : Ty} {x : τ.Den} {off : Nat} {ps : List Bool}
    (hr : Rep w S τ x (fun i => w.cell? ⟨b, k + i, none⟩))
    (h : (if off = 0 ∧ n = τ.size ∧ ag = τ.isAgg then Out.ifs (.val τ x) ps else finLoad P t n ag (cellsV τ x) off ps) = some out) :
    ∃ v, (Instr.loadAt t (.pointer (some ⟨b, k + off, none⟩))).run P w = .ok v w ∧ out = ⟨out.v, [], ps, []⟩ ∧ RepA w S β out.v v := by
  obtain ⟨vs, hlen, hg, h1⟩ := hr.list
  have hl := repL_cellsV (β := β) hr hlen hg
  split at h
  · rename_i hcond
    obtain ⟨rfl, rfl, rfl⟩ := hcond
    have ho := out_ifs h
    subst ho
    have hld := load_cells hn hk (b := b) (k := k) (vs := vs) (fun j hj => hg j hj) hlen
    rw [Nat.add_zero]
    have hcg : Rep w S τ x (fun i => vs[i]?) := hr.congr hg
    cases hag : τ.isAgg with
    | true =>
      refine ⟨_, hld.1 hag, rfl, .val ⟨hcg.congr fun i hi => by simp [Value.cells], by simp [Value.cells, hlen], ?_⟩⟩
      simp only [hag, true_iff]
      exact ⟨_, rfl⟩
    | false =>
      obtain ⟨v, rfl⟩ : ∃ v, vs = [v] := by
        rw [Ty.size_pos hag] at hlen
        match vs, hlen with
        | [v], _ => exact ⟨v, rfl⟩
      refine ⟨v, hld.2 hag v rfl, rfl, repA_one hag (hcg.congr fun i hi => ?_)⟩
      rw [Ty.size_pos hag] at hi
      obtain rfl : i = 0 := by omega
      simp
  · exact finLoad_ok g hn hk hl h1 (fun j hj => hg j (by omega)) h

/-- an element of a row of the call's own, as cells of its block -/
theorem arr_elem {e : TypeId} {τ : Ty} {xs : List τ.Den} {f : Bool} {v : Value} (h : RepO B w S β v (.arr e τ xs f)) {i : Nat} (hi : i < xs.length) {b n c : Nat} (hv : v = .slice (some ⟨b, 0, none⟩) n c) :
    Rep w S τ (xs.getD i τ.zero) (fun j => w.cell? ⟨b, i * τ.size + j, none⟩) := by
  obtain ⟨vs, h1, h2, h3⟩ := h
  rw [show xs.getD i τ.zero = xs[i] by simp [List.getD_eq_getElem?_getD, hi]]
  refine (h3 i hi).congr fun j hj => ?_
  have hlen := h1.1
  rcases h1.2 with ⟨a, rfl, h0⟩ | ⟨g, cap, cur, rfl, hb', hg, hn, _, hcs, htake⟩
  · omega
  · injection hv with hv
    injection hv with hv
    injection hv with hv
    subst hv
    rw [cell_of_row w g _ cur e (0, 0) hg, ← htake, List.getElem?_take, if_pos, Array.getElem?_toList]
    have : (i + 1) * τ.size ≤ xs.length * τ.size := Nat.mul_le_mul_right _ hi
    rw [Nat.add_mul, Nat.one_mul] at this
    omega

theorem row_cells {e : TypeId} {n sz : Nat} {cells : List A} {v : Value} (h : RepO B w S β v (.row e n sz cells)) {b n' c : Nat} (hv : v = .slice (some ⟨b, 0, none⟩) n' c) :
    ∃ vs, RepL w S β cells vs ∧ (∀ q, q < vs.length → w.cell? ⟨b, q, none⟩ = vs[q]?) ∧ ∀ u ∈ vs, u.oneCell' = true := by
  obtain ⟨vs, h1, h2, h3, h4⟩ := h
  refine ⟨vs, h3, fun q hq => ?_, h4⟩
  have hlen := h1.1
  rcases h1.2 with ⟨a, rfl, h0⟩ | ⟨g, cap, cur, rfl, hb', hg, hn, _, hcs, htake⟩
  · rw [h0, Nat.zero_mul] at hlen
    omega
  · injection hv with hv
    injection hv with hv
    injection hv with hv
    subst hv
    rw [cell_of_row w g _ cur e (0, 0) hg, ← htake, List.getElem?_take, if_pos (by omega), Array.getElem?_toList]

theorem load_core (g : Good B W0 w S β H) (hl : ∀ o x, look o = some x → H o = some x) {t : TypeId} {u : Value} {a : A} (ha : RepA w S β a u) (h : loadK P look t a = some out) (hp : ∀ p ∈ out.props, p) :
    ∃ v, (Instr.loadAt t u).run P w = .ok v w ∧ out.upd = [] ∧ RepA w S β out.v v := by
  unfold loadK at h
  split at h
  · rename_i n ag hn hk
    split at h
    · rename_i k off
      split at h
      · rename_i t' cells f hlk
        obtain ⟨b, vs, hv, _, hh, hcs, h1⟩ := g.rep (hl _ _ hlk)
        obtain ⟨b', hb, hx⟩ := inv_pbox ha
        rw [hv] at hb
        injection hb with hb
        injection hb with hb
        injection hb with hb
        subst hb
        obtain ⟨v, hr, ho', hr'⟩ := finLoad_ok g hn hk (b := b) (k := 0) hcs h1 (fun j hj => by rw [Nat.zero_add, cell_of_row w b j _ _ _ hh]; simp) h
        rw [Nat.zero_add] at hr
        exact ⟨v, by rw [hx]; exact hr, by rw [ho'], hr'⟩
      · cases h
    · rename_i cells off
      obtain ⟨b, vs, hb, hcs, hc, h1, hx⟩ := inv_pcs ha
      obtain ⟨v, hr, ho', hr'⟩ := finLoad_ok g hn hk (b := b) (k := 0) (vs := vs) hcs h1 (fun j hj => by rw [Nat.zero_add]; exact hc j (by rw [← hcs.1]; exact hj)) h
      rw [Nat.zero_add] at hr
      exact ⟨v, by rw [hx]; exact hr, by rw [ho'], hr'⟩
    · rename_i τ y off
      obtain ⟨b, k, hb, hrep, hx⟩ := inv_pst ha
      obtain ⟨v, hr, ho', hr'⟩ := load_data (out := out) (ps := []) (β := β) g hn hk hrep (by simpa only [Out.ifs, Out.pure] using h)
      exact ⟨v, by rw [hx]; exact hr, by rw [ho'], hr'⟩
    · rename_i k i sz off
      split at h
      · rename_i e τ xs f hlk
        split at h
        · cases h
        · rename_i hsz
          have hsz : sz = τ.size := by simpa using hsz
          subst hsz
          have hi : i < xs.length := by
            split at h
            · exact okP hp (by rw [out_ifs h]; simp)
            · have : ∃ a, out = ⟨a, [], [decide (i < xs.length)], []⟩ := by
                unfold finLoad at h
                split at h
                · cases h
                · split at h
                  · cases h
                  · exact ⟨_, out_ifs h⟩
              obtain ⟨a, rfl⟩ := this
              exact okP hp (by simp)
          obtain ⟨b, n', c, hb, hx⟩ := inv_pel ha
          obtain ⟨v, hr, ho', hr'⟩ := load_data (out := out) (ps := [decide (i < xs.length)]) (β := β) g hn hk (arr_elem (g.rep (hl _ _ hlk)) hi hb) h
          exact ⟨v, by rw [hx]; exact hr, by rw [ho'], hr'⟩
      · rename_i e n0 sz' cells hlk
        split at h
        · cases h
        · obtain ⟨b, n', c, hb, hx⟩ := inv_pel ha
          obtain ⟨vs, hcs, hc, h1⟩ := row_cells (g.rep (hl _ _ hlk)) hb
          obtain ⟨v, hr, ho', hr'⟩ := finLoad_ok g hn hk (b := b) (k := 0) (vs := vs) hcs h1 (fun j hj => by rw [Nat.zero_add]; exact hc j hj) h
          rw [Nat.zero_add] at hr
          exact ⟨v, by rw [hx]; exact hr, by rw [ho'], hr'⟩
      · cases h
    · cases h
  · cases h

theorem op_load (g : Good B W0 w S β H) (hl : ∀ o x, look o = some x → H o = some x) {t : TypeId} {x : Operand} (ho : o.op = .load t x) {a : A} (ha : RepA w S β a (ρ x)) (h : loadK P look t a = some out) (hp : ∀ p ∈ out.props, p) :
    StepTo B W0 fid w S β H ((execOp ρ o).run P w) out := by
  obtain ⟨v, hv, hu, hr⟩ := load_core g hl ha h hp
  exact StepTo.pure g (by simp [execOp, ho, hv]) hu hr

theorem run_nilCheck {x : Operand} (ho : o.op = .nilCheck x) {a : Addr} (hx : ρ x = .pointer (some a)) : (execOp ρ o).run P w = .ok (.value (.pointer (some a))) w := by
  simp [execOp, ho, hx]
theorem run_nilCheckF {x : Operand} (ho : o.op = .nilCheck x) {f : Nat} {cs : Array Value} (hx : ρ x = .func (.func f) #[] cs) : (execOp ρ o).run P w = .ok (.value (.func (.func f) #[] cs)) w := by
  simp [execOp, ho, hx]

theorem op_nilCheck (g : Good B W0 w S β H) {x : Operand} (ho : o.op = .nilCheck x) {cs : Option CallScript} {dec : Option Bool} {a : A} (ha : RepA w S β a (ρ x)) (h : opK P run look fid cs dec (.nilCheck x) [a] = some out) :
    StepTo B W0 fid w S β H ((execOp ρ o).run P w) out := by
  simp only [opK] at h
  split at h
  · obtain rfl := out_pure h
    obtain ⟨b, _, hx⟩ := inv_pbox ha
    exact StepTo.pure g (run_nilCheck ho hx) rfl (hx ▸ ha)
  · obtain rfl := out_pure h
    obtain ⟨b, vs, _, _, _, _, hx⟩ := inv_pcs ha
    exact StepTo.pure g (run_nilCheck ho hx) rfl (hx ▸ ha)
  · obtain rfl := out_pure h
    obtain ⟨b, k, _, _, hx⟩ := inv_pst ha
    exact StepTo.pure g (run_nilCheck ho hx) rfl (hx ▸ ha)
  · obtain rfl := out_pure h
    obtain ⟨b, n, c, _, hx⟩ := inv_pel ha
    exact StepTo.pure g (run_nilCheck ho hx) rfl (hx ▸ ha)
  · obtain rfl := out_pure h
    obtain ⟨vs, _, hx⟩ := inv_clo ha
    exact StepTo.pure g (run_nilCheckF ho hx) rfl (hx ▸ ha)
  · cases h

theorem run_fieldAt {t f off u n : Nat} (h1 : fieldOff P t f = some (off, u)) (h2 : sizeT P u = some (n + 1)) (b k : Nat) : (Instr.fieldAt t (.pointer (some ⟨b, k, none⟩)) f).run P w = .ok (.pointer (some ⟨b, k + off, none⟩)) w := by
  obtain ⟨fs, x, hu, hf, rfl, rfl⟩ := fieldOff_some h1
  simp [Instr.fieldAt, run_underlying hu, hf, Instr.sureAddr, fieldPlace, run_sizeT h2, Addr.add_lit]

theorem op_fieldAddr (g : Good B W0 w S β H) {t f : Nat} {x : Operand} (ho : o.op = .fieldAddr t x f) {cs : Option CallScript} {dec : Option Bool} {a : A} (ha : RepA w S β a (ρ x)) (h : opK P run look fid cs dec (.fieldAddr t x f) [a] = some out) :
    StepTo B W0 fid w S β H ((execOp ρ o).run P w) out := by
  simp only [opK] at h
  split at h
  · rename_i off u hf
    split at h
    · rename_i n hn
      split at h
      · obtain rfl := out_pure h
        obtain ⟨b, hb, hx⟩ := inv_pbox ha
        exact StepTo.pure g (by simp [execOp, ho, hx, run_fieldAt hf hn]) rfl (.pbox hb)
      · obtain rfl := out_pure h
        obtain ⟨b, vs, h1, h2, h3, h4, hx⟩ := inv_pcs ha
        exact StepTo.pure g (by simp [execOp, ho, hx, run_fieldAt hf hn]) rfl (.pcs h1 h2.1 h3 h4 h2.2)
      · obtain rfl := out_pure h
        obtain ⟨b, k, h1, h2, hx⟩ := inv_pst ha
        refine StepTo.pure g (v := .pointer (some ⟨b, k + (_ + off), none⟩)) (by simp [execOp, ho, hx, run_fieldAt hf hn, Nat.add_assoc]) rfl (.pst h1 h2)
      · rename_i ko ki ksz koff
        obtain rfl := out_pure h
        obtain ⟨b, n', c, h1, hx⟩ := inv_pel ha
        exact StepTo.pure g (v := .pointer (some ⟨b, ki * ksz + koff + off, none⟩)) (by simp [execOp, ho, hx, run_fieldAt hf hn]) rfl (.pel h1 (by omega))
      · cases h
    · cases h
  · cases h

theorem A.isAgg_ok {a : A} {v : Value} (ha : RepA w S β a v) (h : a.isAgg = true) : ∃ vs, v = .agg vs.toArray ∧ RepL w S β a.cells vs ∧ ∀ u ∈ vs, u.oneCell' = true := by
  cases a with
  | val τ x =>
    have hv := inv_val ha
    obtain ⟨cs, rfl⟩ := hv.2.2.1 h
    refine ⟨cs.toList, by simp, repV_cells hv, fun u hu => ?_⟩
    obtain ⟨i, hi, rfl⟩ := List.getElem_of_mem hu
    simp at hi
    obtain ⟨v, h1, h2⟩ := hv.1.cells i (by have := hv.2.1; simp [Value.cells] at this; omega)
    simp [Value.cells, hi] at h1
    simpa [h1] using h2
  | agg cs =>
    obtain ⟨vs, h1, h2, rfl⟩ := inv_agg ha
    exact ⟨vs, rfl, h1, h2⟩
  | _ => cases h

theorem op_field (g : Good B W0 w S β H) {t f : Nat} {x : Operand} (ho : o.op = .field t x f) {cs : Option CallScript} {dec : Option Bool} {a : A} (ha : RepA w S β a (ρ x)) (h : opK P run look fid cs dec (.field t x f) [a] = some out) :
    StepTo B W0 fid w S β H ((execOp ρ o).run P w) out := by
  simp only [opK] at h
  split at h
  · rename_i off u hf
    split at h
    · rename_i n ag hn hk hag
      obtain ⟨vs, hx, hl, h1⟩ := A.isAgg_ok ha hag
      obtain ⟨fs, y, hu, hfs, rfl, rfl⟩ := fieldOff_some hf
      unfold finLoad at h
      split at h
      · cases h
      · rename_i cs' hs
        obtain ⟨hl', hle, hlen⟩ := subCells_ok hs hl
        split at h
        · cases h
        · rename_i a' ha'
          obtain rfl := out_ifs h
          have h1' : ∀ u ∈ (vs.drop y.offset).take n, u.oneCell' = true := fun u hu => h1 u (List.mem_of_mem_drop (List.mem_of_mem_take hu))
          obtain ⟨hA, hB⟩ := ofCells_ok ha' hl' h1'
          cases ag with
          | true =>
            refine StepTo.pure g ?_ rfl (hA rfl)
            simp [execOp, ho, hx, Instr.field, run_underlying hu, hfs, asAgg, part, run_isAgg hk, run_sizeT hn]
          | false =>
            obtain ⟨v, hv, hr⟩ := hB rfl
            refine StepTo.pure g (v := v) ?_ rfl hr
            have hv' : vs[y.offset]? = some v := by
              have h3 : ((vs.drop y.offset).take n)[0]? = some v := by rw [hv]; rfl
              rw [List.getElem?_take] at h3
              split at h3
              · simpa using h3
              · cases h3
            simp [execOp, ho, hx, Instr.field, run_underlying hu, hfs, asAgg, part, run_isAgg hk, hv']
    · cases h
  · cases h

theorem run_indexAt {t e n : Nat} (h1 : elemT P t = some e) (h2 : sizeT P e = some n) {k : IntKind} {i : Int} {a : Addr} {len c : Nat} (h0 : 0 ≤ i) (hlt : i < len) :
    (Instr.indexAt t (.slice (some a) len c) (.int k i)).run P w = .ok (.pointer (some (a.add (i.toNat * n)))) w := by
  have hu := elemT_some h1
  simp [Instr.indexAt, asIntOf, run_underlying hu, h0, hlt, run_sizeT h2]

theorem op_indexAddr1 (g : Good B W0 w S β H) (hl : ∀ o x, look o = some x → H o = some x) {t : Nat} {x y : Operand} (ho : o.op = .indexAddr t x y) {cs : Option CallScript} {dec : Option Bool} {a : A} {k : IntKind} {i : Int} (ha : RepA w S β a (ρ x)) (hy : ρ y = .int k i)
    (h : opK P run look fid cs dec (.indexAddr t x y) [a, .val (.int k) i] = some out) (hp : ∀ p ∈ out.props, p) : StepTo B W0 fid w S β H ((execOp ρ o).run P w) out := by
  simp only [opK] at h
  split at h
  · rename_i e he
    split at h
    · rename_i τ xs
      split at h
      · rename_i hs
        obtain rfl := out_ifs h
        have h0 : (0 : Int) ≤ i := okP hp (by simp)
        have hlt : i < (xs.length : Int) := okP hp (by simp)
        obtain ⟨A', c, hx, _, h3⟩ := inv_slice ha
        rcases h3 with h3 | ⟨b, off, rfl, hS, hrep⟩
        · omega
        · have hi : i.toNat < xs.length := by omega
          have hr := hrep i.toNat hi
          rw [show xs[i.toNat] = xs.getD i.toNat τ.zero by simp [List.getD_eq_getElem?_getD, hi]] at hr
          refine StepTo.pure g (v := .pointer (some ⟨b, (off + i.toNat * τ.size) + 0, none⟩)) ?_ rfl (.pst hS hr)
          simp [execOp, ho, hx, hy, run_indexAt he hs h0 hlt, Addr.add_lit]
      · cases h
    · rename_i k'
      split at h
      · rename_i e' τ xs f hlk
        split at h
        · rename_i hs
          obtain rfl := out_ifs h
          have h0 : (0 : Int) ≤ i := okP hp (by simp)
          have hlt : i < (xs.length : Int) := okP hp (by simp)
          have hx := inv_ref ha
          obtain ⟨A', c, hv, _, h3⟩ := arr_head (g.rep (hl _ _ hlk))
          rcases h3 with h3 | ⟨b, rfl⟩
          · omega
          · rw [hv] at hx
            refine StepTo.pure g (v := .pointer (some ⟨b, 0 + i.toNat * τ.size, none⟩)) ?_ rfl (.pel hv (by omega))
            simp [execOp, ho, hx, hy, run_indexAt he hs h0 hlt, Addr.add_lit]
        · cases h
      · rename_i e' n' sz cells hlk
        split at h
        · rename_i hs
          obtain rfl := out_ifs h
          have h0 : (0 : Int) ≤ i := okP hp (by simp)
          have hlt : i < (n' : Int) := okP hp (by simp)
          have hx := inv_ref ha
          obtain ⟨A', c, hv, _, h3⟩ := row_head (g.rep (hl _ _ hlk))
          rcases h3 with h3 | ⟨b, rfl⟩
          · omega
          · rw [hv] at hx
            refine StepTo.pure g (v := .pointer (some ⟨b, 0 + i.toNat * sz, none⟩)) ?_ rfl (.pel hv (by omega))
            simp [execOp, ho, hx, hy, run_indexAt he hs h0 hlt, Addr.add_lit]
        · cases h
      · cases h
    · cases h
  · cases h

theorem op_indexAddr (g : Good B W0 w S β H) (hl : ∀ o x, look o = some x → H o = some x) {t : Nat} {x y : Operand} (ho : o.op = .indexAddr t x y) {cs : Option CallScript} {dec : Option Bool} {a b : A} (ha : RepA w S β a (ρ x)) (hb : RepA w S β b (ρ y))
    (h : opK P run look fid cs dec (.indexAddr t x y) [a, b] = some out) (hp : ∀ p ∈ out.props, p) : StepTo B W0 fid w S β H ((execOp ρ o).run P w) out := by
  cases b with
  | val τb ib =>
    cases τb with
    | int k => exact op_indexAddr1 g hl ho ha (inv_int hb) h hp
    | _ => simp [opK] at h
  | _ => simp [opK] at h

theorem op_index1 (g : Good B W0 w S β H) {t : Nat} {x y : Operand} (ho : o.op = .index t x y) {cs : Option CallScript} {dec : Option Bool} {s : ByteArray} {k : IntKind} {i : Int} (hx : ρ x = .string s) (hy : ρ y = .int k i)
    (h : opK P run look fid cs dec (.index t x y) [.val .str s, .val (.int k) i] = some out) (hp : ∀ p ∈ out.props, p) : StepTo B W0 fid w S β H ((execOp ρ o).run P w) out := by
  simp only [opK] at h
  split at h
  · rename_i hu
    obtain rfl := out_ifs h
    have h0 : (0 : Int) ≤ i := okP hp (by simp)
    have hlt : i < (s.size : Int) := okP hp (by simp)
    have hi : i.toNat < s.size := by omega
    refine StepTo.pure g ?_ rfl (repA_int _ _)
    have hb' : s[i.toNat]? = some (s.data.toList.getD i.toNat 0) := by
      rw [getElem?_pos s i.toNat hi]
      have : i.toNat < s.data.size := hi
      rw [ByteArray.getElem_eq_getElem_data, List.getD_eq_getElem?_getD, Array.getElem?_toList, Array.getElem?_eq_getElem this]
      rfl
    simp [execOp, ho, hx, hy, Instr.index, asIntOf, run_underlying hu, h0, hb']
  · cases h

theorem op_index (g : Good B W0 w S β H) {t : Nat} {x y : Operand} (ho : o.op = .index t x y) {cs : Option CallScript} {dec : Option Bool} {a b : A} (ha : RepA w S β a (ρ x)) (hb : RepA w S β b (ρ y))
    (h : opK P run look fid cs dec (.index t x y) [a, b] = some out) (hp : ∀ p ∈ out.props, p) : StepTo B W0 fid w S β H ((execOp ρ o).run P w) out := by
  cases a with
  | val τa s =>
    cases τa with
    | str =>
      cases b with
      | val τb ib =>
        cases τb with
        | int k => exact op_index1 g ho (inv_str ha) (inv_int hb) h hp
        | _ => simp [opK] at h
      | _ => simp [opK] at h
    | _ => simp [opK] at h
  | _ => simp [opK] at h

theorem op_extract (g : Good B W0 w S β H) {x : Operand} {i : Nat} (ho : o.op = .extract x i) {cs : Option CallScript} {dec : Option Bool} {a : A} (ha : RepA w S β a (ρ x))
    (h : opK P run look fid cs dec (.extract x i) [a] = some out) : StepTo B W0 fid w S β H ((execOp ρ o).run P w) out := by
  cases a with
  | tup as =>
    simp only [opK] at h
    obtain ⟨vs, hl, hx⟩ := inv_tup ha
    split at h
    · rename_i v hv
      obtain rfl := out_pure h
      obtain ⟨hi, rfl⟩ := List.getElem?_eq_some_iff.1 hv
      have hi' : i < vs.length := by rw [hl.1]; exact hi
      refine StepTo.pure g (v := vs[i]) ?_ rfl (hl.2 i hi hi')
      simp [execOp, ho, hx, Instr.extract, hi']
    · cases h
  | _ => simp [opK] at h

theorem op_len (g : Good B W0 w S β H) (hl : ∀ o x, look o = some x → H o = some x) {c : Call} {v : Value} {t : Nat} (ho : o.op = .call c) (hc : c.callee = .builtin .len) (hv : c.args.map ρ = #[v]) (ht : c.argTypes = #[t]) {a : A} (ha : RepA w S β a v)
    (h : (match lenK P look t a with | some n => Out.pure (.val (.int .i64) (n : Int)) | none => none) = some out) : StepTo B W0 fid w S β H ((execOp ρ o).run P w) out := by
  split at h
  · rename_i n hn
    obtain rfl := out_pure h
    have key : (Builtin.len_ #[t] o.type #[v]).run P w = .ok (.int .i64 n) w → StepTo B W0 fid w S β H ((execOp ρ o).run P w) ⟨.val (.int .i64) (n : Int), [], [], []⟩ := fun hr => by
      refine StepTo.pure g ?_ rfl (repA_int _ _)
      simp [execOp, ho, resolve, hc, hv, ht, invoke, builtin, hr]
    apply key
    unfold lenK at hn
    split at hn
    · rename_i e xs hu
      injection hn with hn
      subst hn
      obtain ⟨A', c', hx, _⟩ := inv_slice ha
      simp [Builtin.len_, run_underlying hu, hx, goInt]
    · rename_i s hu
      injection hn with hn
      subst hn
      simp [Builtin.len_, run_underlying hu, inv_str ha, goInt]
    · rename_i hu
      injection hn with hn
      subst hn
      simp [Builtin.len_, run_underlying hu, inv_nil ha, goInt]
    · rename_i hu
      injection hn with hn
      subst hn
      obtain ⟨A', c', hx⟩ := inv_emp ha
      simp [Builtin.len_, run_underlying hu, hx, goInt]
    · rename_i k hu
      split at hn
      · rename_i e τ xs f hlk
        injection hn with hn
        subst hn
        obtain ⟨A', c', hv', _⟩ := arr_head (g.rep (hl _ _ hlk))
        simp [Builtin.len_, run_underlying hu, inv_ref ha, hv', goInt]
      · rename_i e n' sz cells hlk
        injection hn with hn
        subst hn
        obtain ⟨A', c', hv', _⟩ := row_head (g.rep (hl _ _ hlk))
        simp [Builtin.len_, run_underlying hu, inv_ref ha, hv', goInt]
      · cases hn
    · rename_i k hu
      split at hn
      · rename_i κ ν es hlk
        injection hn with hn
        subst hn
        obtain ⟨r, ents, hv', _, hh, hsz, _⟩ := g.rep (hl _ _ hlk)
        simp [Builtin.len_, run_underlying hu, inv_mapr ha, hv', goInt, getObj, Sem.run, hh, hsz]
      · cases hn
    · cases hn
  · cases h

end ops
end Go.Proofs.YtcbeifkfllcjoaaDoor
