/-
  The law of possible letters: what the law's function answers.
-/
import Derived.Test.YtcbeifkfllcjoaaDoorPF
set_option linter.unusedVariables false
set_option linter.unusedSimpArgs false
set_option maxRecDepth 100000
namespace Go.Proofs.YtcbeifkfllcjoaaDoor

/-- no list is longer than an int can count -/
def Wf (z : S25) : Prop :=
  z.1.length ≤ 9223372036854775807 ∧ z.2.1.length ≤ 9223372036854775807 ∧ z.2.2.1.length ≤ 9223372036854775807 ∧ z.2.2.2.1.length ≤ 9223372036854775807 ∧
    (∀ j ∈ z.2.2.2.1, j.2.1.length ≤ 9223372036854775807 ∧ j.2.2.1.length ≤ 9223372036854775807) ∧ z.2.2.2.2.1.length ≤ 9223372036854775807 ∧ ∀ f ∈ z.2.2.2.2.1, f.length ≤ 9223372036854775807

theorem szAsyn_ok (z : S25) (hw : Wf z) : ∃ r : Int, f14_H z 1048576 r ∧ (¬ r < 0 → Small z) := by
  obtain ⟨w1, w2, w3, w4, w5, w6, w7⟩ := hw
  obtain ⟨r1, k1, c1⟩ := szInts_ok z.1 1048576 (by omega) (by omega) w1
  by_cases n1 : r1 < 0
  · exact ⟨-1, f14_go _ _ _ ⟨r1, k1, fun _ => rfl, fun h => absurd n1 h⟩, fun h => absurd (by decide) h⟩
  obtain ⟨a1, a2, a3⟩ := c1 n1
  obtain ⟨r2, k2, c2⟩ := szInts_ok z.2.1 r1 a1 (by omega) w2
  by_cases n2 : r2 < 0
  · exact ⟨-1, f14_go _ _ _ ⟨r1, k1, fun h => absurd h n1, fun _ => ⟨r2, k2, fun _ => rfl, fun h => absurd n2 h⟩⟩, fun h => absurd (by decide) h⟩
  obtain ⟨b1, b2, b3⟩ := c2 n2
  obtain ⟨r3, k3, c3⟩ := szInts_ok z.2.2.1 r2 b1 (by omega) w3
  by_cases n3 : r3 < 0
  · exact ⟨-1, f14_go _ _ _ ⟨r1, k1, fun h => absurd h n1, fun _ => ⟨r2, k2, fun h => absurd h n2, fun _ => ⟨r3, k3, fun _ => rfl, fun h => absurd n3 h⟩⟩⟩, fun h => absurd (by decide) h⟩
  obtain ⟨d1, d2, d3⟩ := c3 n3
  obtain ⟨r4, k4, c4⟩ := szJoints_ok z.2.2.2.1 r3 d1 (by omega) (by omega) w5
  by_cases n4 : r4 < 0
  · exact ⟨-1, f14_go _ _ _ ⟨r1, k1, fun h => absurd h n1, fun _ => ⟨r2, k2, fun h => absurd h n2, fun _ => ⟨r3, k3, fun h => absurd h n3, fun _ => ⟨r4, k4, fun _ => rfl, fun h => absurd n4 h⟩⟩⟩⟩, fun h => absurd (by decide) h⟩
  obtain ⟨e1, e2, e3, e4⟩ := c4 n4
  obtain ⟨r5, k5, c5⟩ := szIntss_ok z.2.2.2.2.1 r4 e1 (by omega) w6 w7
  by_cases n5 : r5 < 0
  · exact ⟨-1, f14_go _ _ _ ⟨r1, k1, fun h => absurd h n1, fun _ => ⟨r2, k2, fun h => absurd h n2, fun _ => ⟨r3, k3, fun h => absurd h n3, fun _ => ⟨r4, k4, fun h => absurd h n4, fun _ => ⟨r5, k5, fun _ => rfl, fun h => absurd n5 h⟩⟩⟩⟩⟩, fun h => absurd (by decide) h⟩
  obtain ⟨g1, g2, g3, g4⟩ := c5 n5
  refine ⟨r5, f14_go _ _ _ ⟨r1, k1, fun h => absurd h n1, fun _ => ⟨r2, k2, fun h => absurd h n2, fun _ => ⟨r3, k3, fun h => absurd h n3, fun _ => ⟨r4, k4, fun h => absurd h n4, fun _ => ⟨r5, k5, fun h => absurd h n5, fun _ => rfl⟩⟩⟩⟩⟩, fun _ => ?_⟩
  exact ⟨by omega, by omega, by omega, by omega, fun j hj => by have := e4 j hj; omega, by omega, fun f hf => by have := g4 f hf; omega⟩

/-- the copies of an automaton's parts -/
theorem toAsyn_ok (z : S25) (hs : Small z) : f17_H z.1 z.1 ∧ f17_H z.2.1 z.2.1 ∧ f17_H z.2.2.1 z.2.2.1 ∧ f75_H z.2.2.2.1 z.2.2.2.1 ∧ f76_H z.2.2.2.2.1 z.2.2.2.2.1 := by
  obtain ⟨s1, s2, s3, s4, s5, s6, s7⟩ := hs
  exact ⟨toInts_ok _ (by omega), toInts_ok _ (by omega), toInts_ok _ (by omega), toJoints_ok _ (by omega) (fun j hj => by have := s5 j hj; omega), toIntss_ok _ (by omega) (fun f hf => by have := s7 f hf; omega)⟩

theorem eqAsyn_refl (z : S25) (hs : Small z) : f19_H z z true := by
  obtain ⟨s1, s2, s3, s4, s5, s6, s7⟩ := hs
  refine f19_go _ _ _ ⟨_, eqInts_refl _ (by omega), fun h => (by cases h), fun _ => ⟨_, eqInts_refl _ (by omega), fun h => (by cases h), fun _ => ⟨_, eqInts_refl _ (by omega), fun h => (by cases h), fun _ => ⟨_, eqJoints_refl _ (by omega) (fun j hj => by have := s5 j hj; omega), fun h => (by cases h), fun _ => ⟨_, eqIntss_refl _ (by omega) (fun f hf => by have := s7 f hf; omega), fun h => (by cases h), fun _ => rfl⟩⟩⟩⟩⟩

noncomputable def possR (z : S25) (g : List Int) : Int × Int := if tt (Valid z) = true then (if okG z.2.1 g = true then ((possL z g : Int), 0) else (0, 2)) else (0, 1)

theorem specPoss_ok (z : S25) (hs : Small z) (g : List Int) (hg : g.length ≤ 1048576) : f15_H z g (possR z g) := by
  refine f15_go _ _ _ ⟨_, isAsyn_ok z hs, fun h => ?_, fun h => ⟨wrap_u64_nonneg _, ?_⟩⟩
  · rw [possR, if_neg (by rw [h]; decide)]
  · have hv := tt_iff.1 h
    have b4 := hv.1.1.1
    obtain ⟨m, m1, m2, m3⟩ := full_sel hv.1
    show ∃ r2 : f152_R, f152_H z (full z.2.1.length) g r2 ∧ _
    rw [m1]
    refine ⟨_, local_ok z m g m2 (by omega) hv.1.2 (by omega), fun h1 => ?_, fun h1 => ?_⟩
    · rw [m3] at h1
      rw [possR, if_pos h, if_neg (by rw [h1]; decide)]
    · rw [m3] at h1
      refine ⟨_, (poss_ok z hs hv g (okG_length h1)).1, ?_⟩
      rw [possR, if_pos h, if_pos h1]

theorem implPoss_ok (z : S25) (hs : Small z) (g : List Int) (hg : g.length ≤ 1048576) : f18_H z g (possR z g) := by
  refine f18_go _ _ _ ⟨_, isAsynI_ok z hs, fun h => ?_, fun h => ?_⟩
  · rw [possR, if_neg (by rw [h]; decide)]
  · have hv := tt_iff.1 h
    refine ⟨_, isGlobal_ok _ _ hv.1.2 (by omega), fun h1 => ?_, fun h1 => ⟨_, (poss_ok z hs hv g (okG_length h1)).2, ?_⟩⟩
    · rw [possR, if_pos h, if_neg (by rw [h1]; decide)]
    · rw [possR, if_pos h, if_pos h1]

theorem law3 (z : S25) (hw : Wf z) (g : List Int) : f3_H z g true := by
  refine f3_go _ _ _ ⟨fun _ => rfl, fun hg => ?_⟩
  obtain ⟨r, hr, c⟩ := szAsyn_ok z hw
  refine ⟨r, hr, fun _ => rfl, fun hn => ?_⟩
  have hs := c hn
  obtain ⟨t1, t2, t3, t4, t5⟩ := toAsyn_ok z hs
  have tg : f17_H g g := toInts_ok g (by omega)
  exact ⟨_, t1, _, t2, _, t3, _, t4, _, t5, _, tg, _, specPoss_ok z hs g (by omega), _, t1, _, t2, _, t3, _, t4, _, t5, _, tg, _, implPoss_ok z hs g (by omega), fun h => absurd rfl h, fun _ => ⟨fun h => absurd rfl h, fun _ =>
    ⟨_, t1, _, t2, _, t3, _, t4, _, t5, _, eqAsyn_refl z hs, fun h => (by cases h), fun _ => ⟨_, tg, _, eqInts_refl g (by omega), fun h => (by cases h), fun _ => rfl⟩⟩⟩⟩

end Go.Proofs.YtcbeifkfllcjoaaDoor
