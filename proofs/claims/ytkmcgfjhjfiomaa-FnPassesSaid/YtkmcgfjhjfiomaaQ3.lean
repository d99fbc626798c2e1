/- The plain law of FnPasses, part 3: later orbits, and where they are. -/
import Derived.Test.YtkmcgfjhjfiomaaQ2
namespace Go.Proofs.Ytkmcgfjhjfiomaa
set_option linter.unusedVariables false
set_option linter.unusedSimpArgs false

theorem k_one32 : I .f32 1065353216 (some (1, 1)) := I.at (by decide +kernel)

theorem narrow_I {x : Nat} (hx : isNum .f64 x = true) (h0 : 0 ≤ R .f64 x) (h1 : R .f64 x ≤ 2) : impl_narrowTurn_need x = true ∧ turnB (impl_narrowTurn x) = true ∧ I .f32 (impl_narrowTurn x) (some (0, 1)) := by
  have hI : I .f64 x (some (0, 2)) := ⟨hx, h0, h1⟩
  have f1 := I.fits hI (by decide +kernel) (by decide +kernel)
  have d1 := (I.down hI).to (lo := -1) (hi := 3) (by decide +kernel)
  have d0 := down_nn hx h0
  have e : impl_narrowTurn_need x = true ∧ impl_narrowTurn x = match fge .f32 (fconv .f64 x .f32) 1065353216 with
    | true => 0
    | false => fconv .f64 x .f32 := by
    unfold impl_narrowTurn_need impl_narrowTurn impl_narrowTurn_tree
    cases hg : fge .f32 (fconv .f64 x .f32) 1065353216 <;> simp only [DT.ok, DT.val, f1, hg] <;> exact ⟨trivial, trivial⟩
  refine ⟨e.1, ?_⟩
  rw [e.2]
  cases hg : fge .f32 (fconv .f64 x .f32) 1065353216 with
  | true => exact ⟨(by decide +kernel : turnB 0 = true), (I.at (by decide +kernel) : I .f32 0 (some (0, 1)))⟩
  | false =>
    rw [fge_R d1.1 k_one32.1] at hg
    have h2 := of_decide_eq_false hg
    have o1 := k_one32.2.1
    have o2 := k_one32.2.2
    have z1 := k_zero32.2.2
    refine ⟨?_, d1.1, d0, by grind⟩
    unfold turnB
    rw [fge_R d1.1 k_zero32.1, flt_R d1.1 k_one32.1, Bool.and_eq_true]
    exact ⟨decide_eq_true (by grind), decide_eq_true (by grind)⟩

theorem OrbS.phased {o : Orbit} (h : OrbS o) {p : Nat} (hp : turnB p = true) (hI : I .f32 p (some (0, 1))) : OrbS ⟨o.Long, o.Round, o.Tilt, o.Node, o.Peri, p⟩ := by
  refine ⟨h.long, h.round, h.tilt, h.node, h.peri, hI, ?_⟩
  have hv := h.ok
  unfold validO at hv ⊢
  rw [h.gt] at hv
  simp only [h.gt]
  simp only [Bool.and_eq_true] at hv ⊢
  obtain ⟨a, b, c, d, e, f, g, _⟩ := hv
  exact ⟨a, b, c, d, e, f, g, hp⟩

theorem valid_I {o : Orbit} (h : validO o = true) : impl_Orbit_valid_need o = true ∧ impl_Orbit_valid o = (o, true) := by
  obtain ⟨v1, v2⟩ := ValidOrbit_eq o
  rw [h] at v2
  have e : (⟨o.Long, o.Round, o.Tilt, o.Node, o.Peri, o.Phase⟩ : Orbit) = o := rfl
  unfold impl_Orbit_valid_need impl_Orbit_valid impl_Orbit_valid_tree
  simp only [DT.ok, DT.val, e, v1, v2]
  exact ⟨rfl, rfl⟩

theorem later_I {o : Orbit} {m t : Nat} (h : OrbS o) (hm : I .f32 m (some (1 / 2, 4))) (ht : I .f32 t (some (0, 2))) : impl_LaterOrbit_need o m t = true ∧ ∃ o', impl_LaterOrbit o m t = (o', true) ∧ OrbS o' := by
  obtain ⟨r1, r2⟩ := rate_I h hm.up
  obtain ⟨a1, a2⟩ := around_I h.ok hm
  have hgt := h.gt
  have x6 := (I.mul r2 ht.up).to (lo := -1 / 100) (hi := 5) (by decide +kernel)
  have x7 := (I.div x6 k_turn).to (lo := -1 / 100) (hi := 1) (by decide +kernel)
  have x8 := (I.add h.phase.up x7).to (lo := -1) (hi := 3) (by decide +kernel)
  have hb : Bd (R .f64 (fadd .f64 (fconv .f32 o.Phase .f64) (fdiv .f64 (fmul .f64 (impl_Orbit_rate o (fconv .f32 m .f64)) (fconv .f32 t .f64)) 4618760256179416344))) 2000000000000000 := by
    have := x8.2.1; have := x8.2.2; unfold Bd; constructor <;> grind
  have w := wrap_R x8.1 hb
  obtain ⟨n1, n2, n3⟩ := narrow_I w.1 w.2.1 (by have := w.2.2; grind)
  have hO := h.phased n2 n3
  obtain ⟨v1, v2⟩ := valid_I hO.ok
  have e : (⟨o.Long, o.Round, o.Tilt, o.Node, o.Peri, o.Phase⟩ : Orbit) = o := rfl
  have ew : impl_wrap (fadd .f64 (fconv .f32 o.Phase .f64) (fdiv .f64 (fmul .f64 (impl_Orbit_rate o (fconv .f32 m .f64)) (fconv .f32 t .f64)) 4618760256179416344)) = fsub .f64 (fadd .f64 (fconv .f32 o.Phase .f64) (fdiv .f64 (fmul .f64 (impl_Orbit_rate o (fconv .f32 m .f64)) (fconv .f32 t .f64)) 4618760256179416344)) (ffloor (fadd .f64 (fconv .f32 o.Phase .f64) (fdiv .f64 (fmul .f64 (impl_Orbit_rate o (fconv .f32 m .f64)) (fconv .f32 t .f64)) 4618760256179416344))) := rfl
  generalize hy : fadd .f64 (fconv .f32 o.Phase .f64) (fdiv .f64 (fmul .f64 (impl_Orbit_rate o (fconv .f32 m .f64)) (fconv .f32 t .f64)) 4618760256179416344) = y at *
  refine ⟨?_, _, ?_, hO⟩
  · unfold impl_LaterOrbit_need impl_LaterOrbit_tree
    simp only [DT.ok, e, a1, a2, IsFinite_need, IsFinite_eq, ht.1, fconvOk_up, r1, hgt, hy, ew, n1, v1, Bool.not_true]
  · unfold impl_LaterOrbit impl_LaterOrbit_tree
    simp only [DT.val, e, a2, IsFinite_eq, ht.1, hgt, hy, ew, v2, Bool.not_true]

end Go.Proofs.Ytkmcgfjhjfiomaa
