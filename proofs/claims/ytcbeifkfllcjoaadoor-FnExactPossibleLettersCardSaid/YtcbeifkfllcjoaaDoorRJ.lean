/-
  make, cuts, closures, conversions, stores, append.
-/
import Derived.Test.YtcbeifkfllcjoaaDoorRI
set_option linter.unusedVariables false
set_option linter.unusedSimpArgs false
namespace Go.Proofs.YtcbeifkfllcjoaaDoor

section ops
variable {run : Runner} {P : Program} {B : Nat} {W0 : Nat → Option Obj} {fid : Nat} {w : World} {S : Nat → Prop} {β : Nat → Value} {H : Nat → Option O} {look : Nat → Option O} {ρ : Operand → Value} {o : Oper} {out : Out}

theorem zeroOk_ok {t : TypeId} {τ : Ty} (h : zeroOk P t τ = true) : ∃ i z, P.info? t = some i ∧ i.zero = some z ∧ z.cells.size = τ.size ∧ ∀ w S, Rep w S τ τ.zero (fun i => z.cells[i]?) := by
  unfold zeroOk at h
  split at h
  · rename_i i hi
    split at h
    · rename_i z hz
      cases hq : isZero τ z.cells.toList with
      | none => rw [hq] at h; cases h
      | some l =>
        rw [hq] at h
        simp only [Option.any_some, List.isEmpty_iff] at h
        subst h
        refine ⟨i, z, hi, hz, ?_, fun w S => ?_⟩
        · obtain ⟨us, h1, h2, _⟩ := isZero_ok (w := default) (S := fun _ => True) hq
          have := congrArg List.length h1
          simp at this
          omega
        · obtain ⟨us, h1, h2, h3⟩ := isZero_ok (w := w) (S := S) hq
          refine h3.congr fun i hi => ?_
          rw [← Array.getElem?_toList, h1]
          simp
    · cases h
  · cases h

theorem made_get (z : Array Value) (n i : Nat) (h : i < n) : (madeCells z n)[i]? = some z[i % z.size]! := by
  simp [madeCells, h]

theorem op_makeSlice1 (g : Good B W0 w S β H) (hf0 : H fid = none) (hf1 : ∀ o y, H o = some y → fid ∉ y.ids) {t : TypeId} {x y : Operand} (ho : o.op = .makeSlice t x y) {cs : Option CallScript} {dec : Option Bool} {n c : Int} (hx : ρ x = .int .i64 n) (hy : ρ y = .int .i64 c)
    (h : opK P run look fid cs dec (.makeSlice t x y) [.val (.int .i64) n, .val (.int .i64) c] = some out) (hp : ∀ p ∈ out.props, p) : StepTo B W0 fid w S β H ((execOp ρ o).run P w) out := by
  simp only [opK] at h
  split at h
  · rename_i e he
    split at h
    · rename_i τ b hτ hb
      split at h
      · rename_i hc
        obtain ⟨hsz, hpos, hbp, hz⟩ := hc
        injection h with h
        subst h
        have h0 : 0 ≤ n := okP hp (by simp)
        have h1 : n ≤ c := okP hp (by simp)
        have h2 : c * (b : Int) ≤ 140737488355328 := okP hp (by simp)
        obtain ⟨i, z, hi, hiz, hzs, hrep⟩ := zeroOk_ok hz
        have hib : i.bytes = b := by unfold bytesT at hb; rw [hi] at hb; simpa using hb
        have his : i.size = τ.size := by unfold sizeT at hsz; rw [hi] at hsz; simpa using hsz
        have hcb : c ≤ 140737488355328 := by
          have : c * 1 ≤ c * (b : Int) := Int.mul_le_mul_of_nonneg_left (by omega) (by omega)
          omega
        have hr := run_make (P := P) w t e i z (elemT_some he) hi hiz .i64 .i64 n c h0 h1 (by rw [hib, Int.mul_comm]; omega) (by omega)
        refine StepTo.row (fid := fid) (S1 := S) (H1 := H) g g (Chg.refl _ _ _ _ _) hf0 hf1 (ys := List.replicate n.toNat τ.zero) (cur := madeCells z.cells (c.toNat * i.size)) (len := n.toNat) (cap := c.toNat) (e := e) ?_ ?_ (by simp) (by omega) (by simp only [maxLen]; omega) (by rw [size_madeCells, his]) hpos fun j hj => ?_
        · simp only [execOp, ho, hx, hy, Sem.run_bind, hr, Result.andThen_ok, Sem.run_pure]
        · exact updH_new H fid _
        · have hj' : j < n.toNat := by simpa using hj
          rw [List.getElem_replicate]
          refine (hrep w S).congr fun q hq => ?_
          have hlt : j * τ.size + q < c.toNat * τ.size := by
            have : (j + 1) * τ.size ≤ c.toNat * τ.size := Nat.mul_le_mul_right _ (by omega)
            rw [Nat.succ_mul] at this
            omega
          rw [his, made_get _ _ _ hlt, hzs, Nat.mul_add_mod_of_lt hq]
          rw [getElem!_pos z.cells q (by omega)]
          simp [hzs, hq]
      · cases h
    · cases h
  · cases h

theorem op_makeMap (g : Good B W0 w S β H) (hf0 : H fid = none) (hf1 : ∀ o y, H o = some y → fid ∉ y.ids) {t : TypeId} (ho : o.op = .makeMap t none) {cs : Option CallScript} {dec : Option Bool}
    (h : opK P run look fid cs dec (.makeMap t none) [] = some out) : StepTo B W0 fid w S β H ((execOp ρ o).run P w) out := by
  simp only [opK] at h
  split at h
  · rename_i k v hu
    split at h
    · rename_i κ ν _ _
      injection h with h
      subst h
      have hx : RepO B (w.alloc (.map #[] 0)) S (newβ β fid (.map (some w.heap.size))) (.map (some w.heap.size)) (.map κ ν []) :=
        ⟨w.heap.size, #[], rfl, g.base, heap_alloc_new w _, rfl, fun i h => by simp at h⟩
      obtain ⟨g', c⟩ := g.new (w' := w.alloc (.map #[] 0)) (k := none) (fid := fid) (by simp) rfl rfl rfl (fun b hb _ => heap_alloc_old w _ b hb) (fun o h => by cases h) hf0 hf1 hx rfl (fun b hb => .inl (by simp [blk] at hb; omega))
      have hβ : newβ β fid (.map (some w.heap.size)) fid = .map (some w.heap.size) := if_pos rfl
      refine ⟨w.alloc (.map #[] 0), S, newβ β fid (.map (some w.heap.size)), .map (some w.heap.size), .inl ?_, ?_, ?_, ?_⟩
      · simp [execOp, ho, Instr.makeMap]
      · have := RepA.mapr (w := w.alloc (.map #[] 0)) (S := S) (β := newβ β fid (.map (some w.heap.size))) (o := fid) (by rw [hβ]; rfl)
        rw [hβ] at this
        exact this
      · simp only [updH_new]; exact g'
      · simp only [updH_new]; exact c
    · cases h
  · cases h

/-- a piece of data that is a slice is data -/
theorem repV_cut {e : Ty} {xs : List e.Den} {b off c : Nat} {l hi : Nat} (h1 : l ≤ hi) (h2 : hi ≤ xs.length) (hc : xs.length ≤ c)
    (hr : S b ∧ ∀ j (h : j < List.length xs), Rep w S e (xs[j]'h) (fun i => w.cell? ⟨b, off + j * e.size + i, none⟩)) (a' : Option Addr) (ha : l < hi → a' = some ⟨b, off + l * e.size, none⟩) (hn : a' ≠ none) (hcap : hi - l ≤ c - l) :
    RepV w S (.slice e) ((xs.take hi).drop l) (.slice a' (hi - l) (c - l)) := by
  have hlen : ((xs.take hi).drop l).length = hi - l := by simp; omega
  refine ⟨⟨a', c - l, ?_, by rw [hlen]; exact hcap, ?_⟩, rfl, by simp [Ty.isAgg]⟩
  · rw [hlen]; rfl
  · by_cases hz : hi - l = 0
    · exact .inl ⟨by rw [hlen]; exact hz, fun h => absurd h hn⟩
    · refine .inr ⟨b, off + l * e.size, ha (by omega), hr.1, fun j hj => ?_⟩
      rw [hlen] at hj
      have := hr.2 (l + j) (by omega)
      simp only [List.getElem_drop, List.getElem_take]
      refine this.congr fun i hi => ?_
      congr 2
      rw [Nat.add_mul]
      omega

end ops
end Go.Proofs.YtcbeifkfllcjoaaDoor
