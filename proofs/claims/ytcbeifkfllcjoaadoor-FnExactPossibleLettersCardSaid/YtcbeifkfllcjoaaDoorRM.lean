/-
  Stores; values as a callee sees them; closures.
-/
import Derived.Test.YtcbeifkfllcjoaaDoorRL
set_option linter.unusedVariables false
set_option linter.unusedSimpArgs false
namespace Go.Proofs.YtcbeifkfllcjoaaDoor

section ops
variable {run : Runner} {P : Program} {B : Nat} {W0 : Nat → Option Obj} {fid : Nat} {w : World} {S : Nat → Prop} {β : Nat → Value} {H : Nat → Option O} {look : Nat → Option O} {ρ : Operand → Value} {o : Oper} {out : Out}

theorem run_storeAt {t : TypeId} {b off : Nat} {t' : TypeId} {cur : Array Value} {v : Value} (hs : sizeT P t = some v.cells.size) (hh : w.heap[b]? = some (.cells cur t' (0, 0))) (hle : off + v.cells.size ≤ cur.size) (h1 : ∀ u ∈ v.cells.toList, u.oneCell' = true) :
    (Instr.storeAt t (.pointer (some ⟨b, off, none⟩)) v).run P w = .ok () (w.setRow b (cur.toList.take off ++ v.cells.toList ++ cur.toList.drop (off + v.cells.size)).toArray) := by
  have h2 := run_storeCells_at P b off t' v.cells.toList 0 cur w hh (by simpa using hle) h1
  simp only [Nat.add_zero, Array.length_toList] at h2
  simp [Instr.storeAt, Instr.sureAddr, storeVar, run_sizeT hs, h2]

theorem StepTo.put (g : Good B W0 w S β H) (hl : ∀ o x, look o = some x → H o = some x) (fid : Nat) {f : List Nat} {k : Nat} {y x : O} {r : Result Next} {w' : World} {ps : List Bool} {S1 : Nat → Prop}
    (g1 : Good B W0 w S1 β (updH H (freezeU look f))) (c1 : Chg fid w S β H w S1 β (updH H (freezeU look f))) (hk : k ∉ f)
    (hr : r = .ok .skip w') (hy : H k = some y) (hyf : y.frz = false) (hxf : x.frz = false) (hsz : w'.heap.size = w.heap.size) (hos : w'.os = w.os) (htape : w'.tape = w.tape) (hout : w'.output = w.output)
    (hheap : ∀ b, blk (β k) ≠ some b → w'.heap[b]? = w.heap[b]?) (hx : RepO B w' S1 β (β k) x) :
    StepTo B W0 fid w S β H r ⟨.undef, freezeU look f ++ [(k, some x)], ps, []⟩ := by
  have hy1 : updH H (freezeU look f) k = some y := by rw [updH_freeze_ne _ _ _ hk]; exact hy
  obtain ⟨g', c'⟩ := g1.put fid hy1 hyf hxf hsz hos htape hout hheap hx
  refine ⟨w', S1, β, undef, .inr ⟨hr, rfl⟩, .undef _, ?_, ?_⟩
  · simp only [updH_append]; exact g'
  · simp only [updH_append]; exact c1.trans c'

theorem arr_put (g : Good B W0 w S β H) {k : Nat} {e : TypeId} {τ : Ty} {xs : List τ.Den} (hk : H k = some (.arr e τ xs false)) {b n c : Nat} (hv : β k = .slice (some ⟨b, 0, none⟩) n c) {i off : Nat} (hi : i < xs.length) {us : List Value} (hle : off + us.length ≤ τ.size) {y : τ.Den}
    (hrep : ∀ el : List Value, el.length = τ.size → Rep w S τ xs[i] (fun q => el[q]?) → Rep w S τ y (fun q => (el.take off ++ us ++ el.drop (off + us.length))[q]?)) :
    ∃ cur : Array Value, w.heap[b]? = some (.cells cur e (0, 0)) ∧ i * τ.size + off + us.length ≤ cur.size ∧ RepO B (w.setRow b (cur.toList.take (i * τ.size + off) ++ us ++ cur.toList.drop (i * τ.size + off + us.length)).toArray) S β (β k) (.arr e τ (xs.set i y) false) := by
  obtain ⟨vs, hown, hpos, hel⟩ := g.rep hk
  rcases hown.2 with ⟨_, _, h0⟩ | ⟨b', cap, cur, hb', hB, hh, hn, hm, hcs, htake⟩
  · omega
  · rw [hv] at hb'
    injection hb' with hb' hn' hc'
    injection hb' with hb'
    injection hb' with hb'
    subst hb'
    have hin : (i + 1) * τ.size ≤ xs.length * τ.size := Nat.mul_le_mul_right _ hi
    have hic : xs.length * τ.size ≤ cap * τ.size := Nat.mul_le_mul_right _ hn
    rw [Nat.succ_mul] at hin
    have hc2 : cur.toList.length = cap * τ.size := by rw [← hcs]; simp
    have hL : (xs.set i y).length = xs.length := List.length_set
    have hfit : i * τ.size + off + us.length ≤ cur.toList.length := by omega
    refine ⟨cur, hh, by simpa using hfit, ?_⟩
    have hold : ∀ q, S q → (w.setRow b (cur.toList.take (i * τ.size + off) ++ us ++ cur.toList.drop (i * τ.size + off + us.length)).toArray).heap[q]? = w.heap[q]? := fun q hq => setRow_other w b q _ fun e' => g.excl hk rfl (b := q) (by rw [hv, e']; exact blk_slice (by omega)) hq
    refine ⟨(cur.toList.take (i * τ.size + off) ++ us ++ cur.toList.drop (i * τ.size + off + us.length)).take (xs.length * τ.size), ⟨?_, .inr ⟨b, cap, _, ?_, hB, setRow_heap w b _ _ _ _ hh, ?_, hm, ?_, ?_⟩⟩, hpos, fun j hj => ?_⟩
    · rw [List.length_take, length_splice _ _ _ hfit, hc2, hL]; omega
    · rw [hv, hn', hc', hL]
    · rw [hL]; exact hn
    · rw [List.size_toArray, length_splice _ _ _ hfit, hc2]
    · rw [hL]
    · have hj' : j < xs.length := by rw [← hL]; exact hj
      have hjn : (j + 1) * τ.size ≤ xs.length * τ.size := Nat.mul_le_mul_right _ hj'
      rw [Nat.succ_mul] at hjn
      have hget : ∀ q, q < τ.size → ((cur.toList.take (i * τ.size + off) ++ us ++ cur.toList.drop (i * τ.size + off + us.length)).take (xs.length * τ.size))[j * τ.size + q]? =
          if i * τ.size + off ≤ j * τ.size + q ∧ j * τ.size + q < i * τ.size + off + us.length then us[j * τ.size + q - (i * τ.size + off)]? else vs[j * τ.size + q]? := by
        intro q hq
        rw [List.getElem?_take, if_pos (by omega), splice_get _ _ _ hfit]
        by_cases hc : i * τ.size + off ≤ j * τ.size + q ∧ j * τ.size + q < i * τ.size + off + us.length
        · rw [if_pos hc, if_pos hc]
        · rw [if_neg hc, if_neg hc, ← htake, List.getElem?_take, if_pos (by omega)]
      by_cases hij : i = j
      · subst hij
        rw [List.getElem_set_self]
        have hvl := hown.1
        have h2 := hrep ((vs.drop (i * τ.size)).take τ.size) (by simp; omega) ((hel i hi).congr fun q hq => by rw [List.getElem?_take, if_pos hq, List.getElem?_drop])
        refine (h2.mono (fun _ h => h) hold).congr fun q hq => ?_
        rw [hget q hq, splice_get _ _ _ (by simp; omega), List.getElem?_take, if_pos hq, List.getElem?_drop]
        by_cases hc : off ≤ q ∧ q < off + us.length
        · rw [if_pos hc, if_pos (by omega)]
          congr 1
          omega
        · rw [if_neg hc, if_neg (by omega)]
      · rw [List.getElem_set_ne hij]
        refine ((hel j hj').mono (fun _ h => h) hold).congr fun q hq => ?_
        rw [hget q hq, if_neg]
        intro hc
        rcases Nat.lt_or_gt_of_ne hij with hlt | hlt
        · have : (i + 1) * τ.size ≤ j * τ.size := Nat.mul_le_mul_right _ hlt
          rw [Nat.succ_mul] at this
          omega
        · have : (j + 1) * τ.size ≤ i * τ.size := Nat.mul_le_mul_right _ hlt
          rw [Nat.succ_mul] at this
          omega

theorem store_elem (g : Good B W0 w S β H) (hl : ∀ o x, look o = some x → H o = some x) {t : TypeId} {x y : Operand} (ho : o.op = .store t x y) {k i off : Nat} {e : TypeId} {τ : Ty} {xs : List τ.Den} (ha : RepA w S β (.pel k i τ.size off) (ρ x)) (hlk : look k = some (.arr e τ xs false))
    {f : List Nat} (hkf : k ∉ f) (hsz : sizeT P t = some (ρ y).cells.size) (hle : off + (ρ y).cells.size ≤ τ.size) (h1 : ∀ u ∈ (ρ y).cells.toList, u.oneCell' = true) (hi : i < xs.length) {y' : τ.Den} {ps : List Bool}
    (hrep : ∀ S1 : Nat → Prop, (∀ b, S b → S1 b) → (∀ o, o ∈ f → ∀ e τ xs fz, look o = some (.arr e τ xs fz) → RepV w S1 (.slice τ) xs (β o)) → ∀ el : List Value, el.length = τ.size → Rep w S1 τ xs[i] (fun q => el[q]?) →
      Rep w S1 τ y' (fun q => (el.take off ++ (ρ y).cells.toList ++ el.drop (off + (ρ y).cells.toList.length))[q]?)) :
    StepTo B W0 fid w S β H ((execOp ρ o).run P w) ⟨.undef, freezeU look f ++ [(k, some (.arr e τ (xs.set i y') false))], ps, []⟩ := by
  obtain ⟨S1, g1, c1, hS1, hfv, hn1, hi1⟩ := freezeVals g hl fid f
  obtain ⟨b, n', c, hb, hxe⟩ := inv_pel ha
  have hk1 : updH H (freezeU look f) k = some (.arr e τ xs false) := by rw [updH_freeze_ne _ _ _ hkf]; exact hl _ _ hlk
  obtain ⟨cur, hh, hfit, hx⟩ := arr_put (off := off) g1 hk1 hb hi (us := (ρ y).cells.toList) (by simpa using hle) (hrep S1 hS1 hfv)
  simp only [Array.length_toList] at hfit hx
  have hr := run_storeAt (P := P) hsz hh hfit h1
  refine StepTo.put g hl fid g1 c1 hkf (w' := w.setRow b (cur.toList.take (i * τ.size + off) ++ (ρ y).cells.toList ++ cur.toList.drop (i * τ.size + off + (ρ y).cells.size)).toArray) ?_ (hl _ _ hlk) rfl rfl (by simp) rfl rfl rfl (fun q hq => setRow_other w b q _ fun e => hq (by rw [hb, e]; exact blk_slice (by
    obtain ⟨vs, hown, _⟩ := g.rep (hl _ _ hlk)
    rcases hown.2 with ⟨_, _, h0⟩ | ⟨b', cap, cur, hb', _, _, hn, _⟩
    · omega
    · rw [hb] at hb'
      injection hb' with _ _ hc'
      omega))) hx
  simp [execOp, ho, hxe, hr]

theorem row_put (g : Good B W0 w S β H) {k : Nat} {e : TypeId} {n sz : Nat} {cells cs new : List A} (hk : H k = some (.row e n sz cells)) {b n' c : Nat} (hv : β k = .slice (some ⟨b, 0, none⟩) n' c) {off : Nat} {us : List Value} (hset : setCells cells off new = some cs) (hn : RepL w S β new us) (h1 : ∀ u ∈ us, u.oneCell' = true) (hus : 0 < us.length) :
    ∃ cur : Array Value, w.heap[b]? = some (.cells cur e (0, 0)) ∧ off + us.length ≤ cur.size ∧ RepO B (w.setRow b (cur.toList.take off ++ us ++ cur.toList.drop (off + us.length)).toArray) S β (β k) (.row e n sz cs) := by
  obtain ⟨vs, hown, hpos, hel, hv1⟩ := g.rep hk
  obtain ⟨hle, hl2⟩ := setCells_ok hset hel hn
  have hvl := hown.1
  rcases hown.2 with ⟨_, _, h0⟩ | ⟨b', cap, cur, hb', hB, hh, hnc, hm, hcs, htake⟩
  · rw [h0, Nat.zero_mul] at hvl
    omega
  · rw [hv] at hb'
    injection hb' with hb' hn' hc'
    injection hb' with hb'
    injection hb' with hb'
    subst hb'
    have hic : n * sz ≤ cap * sz := Nat.mul_le_mul_right _ hnc
    have hc2 : cur.toList.length = cap * sz := by rw [← hcs]; simp
    have hfit : off + us.length ≤ cur.toList.length := by omega
    have hcp : 0 < c := by
      rcases Nat.eq_zero_or_pos cap with h0 | h0
      · rw [h0] at hic; rw [Nat.zero_mul] at hic; omega
      · omega
    refine ⟨cur, hh, by simpa using hfit, ?_⟩
    have hold : ∀ q, S q → (w.setRow b (cur.toList.take off ++ us ++ cur.toList.drop (off + us.length)).toArray).heap[q]? = w.heap[q]? := fun q hq => setRow_other w b q _ fun e' => g.excl hk rfl (b := q) (by rw [hv, e']; exact blk_slice hcp) hq
    have heq : (cur.toList.take off ++ us ++ cur.toList.drop (off + us.length)).take (n * sz) = vs.take off ++ us ++ vs.drop (off + us.length) := by
      apply List.ext_getElem?
      intro q
      rw [List.getElem?_take, splice_get _ _ _ hle]
      by_cases hq : q < n * sz
      · rw [if_pos hq, splice_get _ _ _ hfit, ← htake, List.getElem?_take, if_pos hq]
      · rw [if_neg hq, if_neg (by omega), List.getElem?_eq_none (by omega)]
    refine ⟨vs.take off ++ us ++ vs.drop (off + us.length), ⟨?_, .inr ⟨b, cap, _, ?_, hB, setRow_heap w b _ _ _ _ hh, hnc, hm, ?_, ?_⟩⟩, hpos, hl2.mono (fun _ h => h) hold (fun _ _ => rfl), fun u hu => ?_⟩
    · rw [length_splice _ _ _ hle, hvl]
    · rw [hv, hn', hc']
    · rw [List.size_toArray, length_splice _ _ _ hfit, hc2]
    · exact heq
    · simp only [List.append_assoc, List.mem_append] at hu
      rcases hu with hu | hu | hu
      · exact hv1 u (List.mem_of_mem_take hu)
      · exact h1 u hu
      · exact hv1 u (List.mem_of_mem_drop hu)

theorem hasN_false {l : List Nat} {k : Nat} (h : ¬ hasN l k = true) : k ∉ l := fun hm => h ((hasN_iff l k).2 hm)

theorem op_store (g : Good B W0 w S β H) (hl : ∀ o x, look o = some x → H o = some x) {t : TypeId} {x y : Operand} (ho : o.op = .store t x y) {a c : A} (ha : RepA w S β a (ρ x)) (hc : RepA w S β c (ρ y))
    (h : storeK P look t a c = some out) (hp : ∀ p ∈ out.props, p) : StepTo B W0 fid w S β H ((execOp ρ o).run P w) out := by
  unfold storeK at h
  split at h
  · cases h
  · rename_i n hn
    split at h
    · rename_i hcond
      obtain ⟨hcl, hall⟩ := hcond
      obtain ⟨hlc, h1⟩ := cells_ok hc hall
      have hvs : (ρ y).cells.size = n := by have := hlc.1; simp at this; omega
      have hsz : sizeT P t = some (ρ y).cells.size := by rw [hvs]; exact hn
      split at h
      · rename_i k off
        split at h
        · rename_i u cells hlk
          split at h
          · rename_i cs hset
            injection h with h
            subst h
            have hH := hl _ _ hlk
            obtain ⟨b, vs, hv, hB, hh, hrl, hv1⟩ := g.rep hH
            obtain ⟨b', hb', hxe⟩ := inv_pbox ha
            rw [hv] at hb'
            injection hb' with hb'
            injection hb' with hb'
            injection hb' with hb'
            subst hb'
            obtain ⟨hle, hl2⟩ := setCells_ok hset hrl hlc
            have hle' : off + (ρ y).cells.size ≤ vs.toArray.size := by simpa using hle
            have hr := run_storeAt (P := P) hsz hh hle' h1
            refine StepTo.put g hl fid (f := []) (S1 := S) g (Chg.refl _ _ _ _ _) (by simp) (y := .box u cells false) (w' := w.setRow b (vs.toArray.toList.take off ++ (ρ y).cells.toList ++ vs.toArray.toList.drop (off + (ρ y).cells.size)).toArray) ?_ hH rfl rfl (by simp) rfl rfl rfl (fun q hq => setRow_other w b q _ fun e => hq (by rw [hv, e]; rfl)) ?_
            · simp [execOp, ho, hxe, hr]
            · refine ⟨b, _, hv, hB, setRow_heap w b _ _ _ _ hh, ?_, ?_⟩
              · have hk : ∀ q, S q → (w.setRow b (vs.toArray.toList.take off ++ (ρ y).cells.toList ++ vs.toArray.toList.drop (off + (ρ y).cells.size)).toArray).heap[q]? = w.heap[q]? := fun q hq => setRow_other w b q _ fun e => g.excl hH rfl (b := q) (by rw [hv, e]; rfl) hq
                simpa using hl2.mono (fun _ h => h) hk fun _ _ => rfl
              · intro u hu
                simp only [List.append_assoc, List.mem_append] at hu
                rcases hu with hu | hu | hu
                · exact hv1 u (List.mem_of_mem_take hu)
                · exact h1 u hu
                · exact hv1 u (List.mem_of_mem_drop hu)
          · cases h
        · cases h
      · rename_i k i sz off
        split at h
        · rename_i e τ xs hlk
          split at h
          · cases h
          · rename_i hsz0
            have hsz0 : sz = τ.size := by simpa using hsz0
            subst hsz0
            split at h
            · rename_i hfull
              obtain ⟨rfl, rfl⟩ := hfull
              split at h
              · rename_i y' f hval
                split at h
                · cases h
                · rename_i hkf
                  injection h with h
                  subst h
                  have hi : i < xs.length := okP hp (by simp)
                  refine store_elem g hl ho ha hlk (hasN_false hkf) hsz (by omega) h1 hi fun S1 hS1 hfv el hel _ => ?_
                  have hv := toVal_ok hval (hc.mono hS1 (fun _ _ => rfl) fun _ _ => rfl) hfv
                  refine hv.1.congr fun q hq => ?_
                  rw [splice_get _ _ _ (by simp; omega), if_pos (by simp; omega)]
                  simp
              · cases h
            · split at h
              · rename_i cs hset
                split at h
                · rename_i y' f hpk
                  split at h
                  · cases h
                  · rename_i hkf
                    injection h with h
                    subst h
                    have hi : i < xs.length := okP hp (by simp)
                    have hgd : xs.getD i τ.zero = xs[i] := by simp [List.getD_eq_getElem?_getD, hi]
                    have hle : off + (ρ y).cells.size ≤ τ.size := by
                      unfold setCells at hset
                      split at hset
                      · rename_i hle
                        rw [length_cellsV] at hle
                        omega
                      · cases hset
                    refine store_elem g hl ho ha hlk (hasN_false hkf) hsz hle h1 hi fun S1 hS1 hfv el hel hold => ?_
                    have hlo := repL_cellsV (β := β) hold hel fun q hq => rfl
                    rw [hgd] at hset
                    obtain ⟨_, hl2⟩ := setCells_ok hset hlo (hlc.mono hS1 (fun _ _ => rfl) fun _ _ => rfl)
                    obtain ⟨us, ws, he, hus, hr, hws⟩ := pack_ok hpk hl2 hfv
                    obtain rfl := hws.of_nil
                    rw [he, List.append_nil]
                    exact hr
                · cases h
              · cases h
        · rename_i e n' sz' cells hlk
          split at h
          · cases h
          · rename_i hnz
            split at h
            · rename_i cs hset
              injection h with h
              subst h
              have hH := hl _ _ hlk
              obtain ⟨b, n2, c2, hb, hxe⟩ := inv_pel ha
              have hup : 0 < (ρ y).cells.toList.length := by
                simp only [not_or] at hnz
                simp only [Array.length_toList]
                omega
              have hc2 : 0 < c2 := by
                obtain ⟨vs, hown, _, hel, _⟩ := g.rep hH
                have hvl := hown.1
                obtain ⟨hle, _⟩ := setCells_ok hset hel hlc
                rcases hown.2 with ⟨_, _, h0⟩ | ⟨b', cap, cur, hb', _, _, hn, _⟩
                · rw [h0, Nat.zero_mul] at hvl
                  omega
                · rw [hb] at hb'
                  injection hb' with _ _ hc'
                  rcases Nat.eq_zero_or_pos n' with h0 | h0
                  · rw [h0, Nat.zero_mul] at hvl
                    omega
                  · omega
              obtain ⟨cur, hh, hfit, hx⟩ := row_put g hH hb hset hlc h1 hup
              simp only [Array.length_toList] at hfit hx
              have hr := run_storeAt (P := P) hsz hh hfit h1
              refine StepTo.put g hl fid (f := []) (S1 := S) g (Chg.refl _ _ _ _ _) (by simp) (w' := w.setRow b (cur.toList.take (i * sz + off) ++ (ρ y).cells.toList ++ cur.toList.drop (i * sz + off + (ρ y).cells.size)).toArray) ?_ hH rfl rfl (by simp) rfl rfl rfl (fun q hq => setRow_other w b q _ fun e => hq (by rw [hb, e]; exact blk_slice hc2)) hx
              simp [execOp, ho, hxe, hr]
            · cases h
        · cases h
      · cases h
    · cases h

end ops
end Go.Proofs.YtcbeifkfllcjoaaDoor
