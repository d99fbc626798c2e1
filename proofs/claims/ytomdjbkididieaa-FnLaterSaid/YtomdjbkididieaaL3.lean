/- The plain law of FnLater, part 3: later phases, how far turns are apart. -/
import Derived.Test.YtomdjbkididieaaL2
namespace Go.Proofs.Ytomdjbkididieaa
set_option linter.unusedVariables false
set_option linter.unusedSimpArgs false

theorem narrow_near {x : Nat} (hx : isNum .f64 x = true) (h0 : 0 ≤ R .f64 x) (h1 : R .f64 x ≤ 1 + 1 / 1000000000000) : ∃ z : Int, Nr (R .f32 (impl_narrowTurn x)) (R .f64 x + z) (1 / 1000000) := by
  have hT := T_le
  have hG := Gr_ge
  have b : Bd (R .f64 x) 2 := by unfold Bd; constructor <;> grind
  obtain ⟨f1, f2⟩ := down_fl hx (b.mono (by grind))
  have e1 := f2.err b
  have e : impl_narrowTurn x = match fge .f32 (fconv .f64 x .f32) 1065353216 with
    | true => 0
    | false => fconv .f64 x .f32 := by
    unfold impl_narrowTurn impl_narrowTurn_tree
    cases hg : fge .f32 (fconv .f64 x .f32) 1065353216 <;> simp only [DT.val, hg]
  rw [e]
  have o1 := k_one32.2
  cases hg : fge .f32 (fconv .f64 x .f32) 1065353216 with
  | true =>
    rw [fge_R f2.1 k_one32.1, decide_eq_true_eq] at hg
    have z0 : R .f32 0 = 0 := by decide +kernel
    refine ⟨-1, ?_⟩
    rw [show ((-1 : Int) : Rat) = -1 by decide +kernel]
    show Nr (R .f32 0) _ _
    rw [z0]
    unfold Nr at *
    constructor <;> grind
  | false =>
    refine ⟨0, ?_⟩
    rw [show ((0 : Int) : Rat) = 0 from rfl]
    show Nr (R .f32 (fconv .f64 x .f32)) _ _
    unfold Nr at *
    constructor <;> grind

/-- A later orbit: its phase is so many turns farther. -/
theorem later_E {o : Orbit} {m t : Nat} {X : Rat} (h : OrbE o) (hm : I .f32 m (some (1 / 2, 4))) (ht : isNum .f32 t = true) (hx : isNum .f64 (fdiv .f64 (fmul .f64 (impl_Orbit_rate o (fconv .f32 m .f64)) (fconv .f32 t .f64)) 4618760256179416344) = true)
    (hX : Nr (R .f64 (fdiv .f64 (fmul .f64 (impl_Orbit_rate o (fconv .f32 m .f64)) (fconv .f32 t .f64)) 4618760256179416344)) X (1 / 1000000)) (bX : Bd X 2) :
    impl_LaterOrbit_need o m t = true ∧ ∃ p, impl_LaterOrbit o m t = (⟨o.Long, o.Round, o.Tilt, o.Node, o.Peri, p⟩, true) ∧ OrbE ⟨o.Long, o.Round, o.Tilt, o.Node, o.Peri, p⟩ ∧ ∃ z : Int, Nr (R .f32 p) (R .f32 o.Phase + X + z) (3 / 1000000) := by
  have hT := T_le
  have hG := Gr_ge
  obtain ⟨r1, r2⟩ := rate_E h hm.up
  obtain ⟨a1, a2⟩ := around_I h.ok hm
  have hgt := h.gt
  have hp := h.phase.2
  obtain ⟨up1, up2⟩ := up_R h.phase.1
  have b8 : Bd (R .f64 (fconv .f32 o.Phase .f64) + R .f64 (fdiv .f64 (fmul .f64 (impl_Orbit_rate o (fconv .f32 m .f64)) (fconv .f32 t .f64)) 4618760256179416344)) 4 := by rw [up2]; unfold Nr Bd at *; constructor <;> grind
  have f8 := fadd_fl up1 hx (b8.mono (by grind))
  have e8 := f8.err64 b8
  rw [up2] at e8
  have e : (⟨o.Long, o.Round, o.Tilt, o.Node, o.Peri, o.Phase⟩ : Orbit) = o := rfl
  have ew : impl_wrap (fadd .f64 (fconv .f32 o.Phase .f64) (fdiv .f64 (fmul .f64 (impl_Orbit_rate o (fconv .f32 m .f64)) (fconv .f32 t .f64)) 4618760256179416344)) = fsub .f64 (fadd .f64 (fconv .f32 o.Phase .f64) (fdiv .f64 (fmul .f64 (impl_Orbit_rate o (fconv .f32 m .f64)) (fconv .f32 t .f64)) 4618760256179416344)) (ffloor (fadd .f64 (fconv .f32 o.Phase .f64) (fdiv .f64 (fmul .f64 (impl_Orbit_rate o (fconv .f32 m .f64)) (fconv .f32 t .f64)) 4618760256179416344))) := rfl
  have f81 := f8.1
  generalize hy : fadd .f64 (fconv .f32 o.Phase .f64) (fdiv .f64 (fmul .f64 (impl_Orbit_rate o (fconv .f32 m .f64)) (fconv .f32 t .f64)) 4618760256179416344) = y at *
  obtain ⟨w1, w2, w3, i, w4⟩ := wrap_near (y := y) ⟨f81, by rw [up2] at b8; unfold Nr Bd at *; grind, by rw [up2] at b8; unfold Nr Bd at *; grind⟩
  obtain ⟨n1, n2, n3⟩ := narrow_I w1 w2 (by grind)
  obtain ⟨j, n4⟩ := narrow_near w1 w2 w3
  have hO := h.phased n2 n3
  obtain ⟨v1, v2⟩ := valid_I hO.ok
  refine ⟨?_, _, ?_, hO, i + j, ?_⟩
  · unfold impl_LaterOrbit_need impl_LaterOrbit_tree
    simp only [DT.ok, e, a1, a2, IsFinite_need, IsFinite_eq, ht, fconvOk_up, r1, hgt, hy, ew, n1, v1, Bool.not_true]
  · unfold impl_LaterOrbit impl_LaterOrbit_tree
    simp only [DT.val, e, a2, IsFinite_eq, ht, hgt, hy, ew, v2, Bool.not_true]
  · have c : ((i + j : Int) : Rat) = (i : Rat) + (j : Rat) := by push_cast; rfl
    rw [c]
    unfold Nr at *
    constructor <;> grind

/-! ## How far turns are apart -/

theorem k_mhalf : isNum .f64 13826050856027422720 = true ∧ R .f64 13826050856027422720 = -1 / 2 := by decide +kernel

theorem turns_eq {a b : Nat} (ha : I .f32 a (some (0, 1))) (hb : I .f32 b (some (0, 1))) : laws_b10Turns_need a b = true ∧ isNum .f64 (laws_b10Turns a b) = true ∧ ∃ w : Int, ∃ s : Bool, Nr (R .f64 (laws_b10Turns a b)) (if s then -(R .f32 a - R .f32 b + w) else R .f32 a - R .f32 b + w) (1 / 1000000000000) ∧ 0 ≤ R .f64 (laws_b10Turns a b) ∧ R .f64 (laws_b10Turns a b) ≤ 1 / 2 + 1 / 1000000000000 := by
  have hT := T_le
  have hG := Gr_ge
  obtain ⟨u1, u2⟩ := up_R ha.1
  obtain ⟨v1, v2⟩ := up_R hb.1
  have h1 := ha.2
  have h2 := hb.2
  have bd : Bd (R .f64 (fconv .f32 a .f64) - R .f64 (fconv .f32 b .f64)) 1 := by rw [u2, v2]; unfold Bd; constructor <;> grind
  have f := fsub_fl u1 v1 (bd.mono (by grind))
  have e := f.err64 bd
  have fn := f.1
  rw [u2, v2] at e bd
  have eT : laws_b10Turns_need a b = laws_b10Turns_need a b := rfl
  have kh : R .f64 4602678819172646912 = 1 / 2 := by have := k_half.2; grind
  have k1 : R .f64 4607182418800017408 = 1 := by have := k_one.2; grind
  -- the first loop
  have L0 : ∃ d, laws_b10Turns_loop0_ends () (fsub .f64 (fconv .f32 a .f64) (fconv .f32 b .f64)) = true ∧ laws_b10Turns_loop0 () (fsub .f64 (fconv .f32 a .f64) (fconv .f32 b .f64)) = d ∧ isNum .f64 d = true ∧ -11 / 10 ≤ R .f64 d ∧ R .f64 d ≤ 1 / 2 ∧ ∃ w : Int, Nr (R .f64 d) (R .f32 a - R .f32 b + w) (1 / 100000000000000) := by
    generalize fsub .f64 (fconv .f32 a .f64) (fconv .f32 b .f64) = d at *
    cases hc : fgt .f64 d 4602678819172646912 with
    | false =>
      have hc' := hc
      rw [fgt_R fn k_half.1, kh] at hc'
      have hc' := of_decide_eq_false hc'
      have hi : iter (laws_b10Turns_loop0_step ()) 1 d = some d := by
        unfold iter laws_b10Turns_loop0_step
        simp only [DT.get, hc]
      obtain ⟨l1, l2⟩ := loopVal_eq hi
      exact ⟨d, l2, l1, fn, by unfold Nr Bd at *; grind, by grind, 0, by rw [show ((0 : Int) : Rat) = 0 from rfl]; unfold Nr at *; constructor <;> grind⟩
    | true =>
      have hc' := hc
      rw [fgt_R fn k_half.1, kh, decide_eq_true_eq] at hc'
      have b1 : Bd (R .f64 d - R .f64 4607182418800017408) 1 := by rw [k1]; unfold Nr Bd at *; constructor <;> grind
      have f1 := fsub_fl fn k_one.1 (b1.mono (by grind))
      have e1 := f1.err64 b1
      rw [k1] at e1
      have hd : fgt .f64 (fsub .f64 d 4607182418800017408) 4602678819172646912 = false := by
        rw [fgt_R f1.1 k_half.1, kh]
        exact decide_eq_false (by unfold Nr Bd at *; grind)
      have hi : iter (laws_b10Turns_loop0_step ()) 2 d = some (fsub .f64 d 4607182418800017408) := by
        unfold iter
        have s1 : (laws_b10Turns_loop0_step () d).get = some (.inl (fsub .f64 d 4607182418800017408), []) := by
          unfold laws_b10Turns_loop0_step
          simp only [DT.get, hc]
        rw [s1]
        unfold iter laws_b10Turns_loop0_step
        simp only [DT.get, hd]
      obtain ⟨l1, l2⟩ := loopVal_eq hi
      exact ⟨_, l2, l1, f1.1, by unfold Nr Bd at *; grind, by unfold Nr Bd at *; grind, -1, by rw [show ((-1 : Int) : Rat) = -1 by decide +kernel]; unfold Nr at *; constructor <;> grind⟩
  obtain ⟨d, l1, l2, l3, l4, l5, w, l6⟩ := L0
  -- the second loop
  have L1 : ∃ d', laws_b10Turns_loop1_ends () d = true ∧ laws_b10Turns_loop1 () d = d' ∧ isNum .f64 d' = true ∧ -1 / 2 ≤ R .f64 d' ∧ R .f64 d' ≤ 1 / 2 + 1 / 10000000000000 ∧ ∃ w' : Int, Nr (R .f64 d') (R .f32 a - R .f32 b + w') (1 / 10000000000000) := by
    cases hc : flt .f64 d 13826050856027422720 with
    | false =>
      have hc' := hc
      rw [flt_R l3 k_mhalf.1, k_mhalf.2] at hc'
      have hc' := of_decide_eq_false hc'
      have hi : iter (laws_b10Turns_loop1_step ()) 1 d = some d := by
        unfold iter laws_b10Turns_loop1_step
        simp only [DT.get, hc]
      obtain ⟨m1, m2⟩ := loopVal_eq hi
      exact ⟨d, m2, m1, l3, by grind, by grind, w, l6.mono (by decide +kernel)⟩
    | true =>
      have hc' := hc
      rw [flt_R l3 k_mhalf.1, k_mhalf.2, decide_eq_true_eq] at hc'
      have b1 : Bd (R .f64 d + R .f64 4607182418800017408) 2 := by rw [k1]; unfold Bd; constructor <;> grind
      have f1 := fadd_fl l3 k_one.1 (b1.mono (by grind))
      have e1 := f1.err64 b1
      rw [k1] at e1
      have hd : flt .f64 (fadd .f64 d 4607182418800017408) 13826050856027422720 = false := by
        rw [flt_R f1.1 k_mhalf.1, k_mhalf.2]
        exact decide_eq_false (by unfold Nr at *; grind)
      have hi : iter (laws_b10Turns_loop1_step ()) 2 d = some (fadd .f64 d 4607182418800017408) := by
        unfold iter
        have s1 : (laws_b10Turns_loop1_step () d).get = some (.inl (fadd .f64 d 4607182418800017408), []) := by
          unfold laws_b10Turns_loop1_step
          simp only [DT.get, hc]
        rw [s1]
        unfold iter laws_b10Turns_loop1_step
        simp only [DT.get, hd]
      obtain ⟨m1, m2⟩ := loopVal_eq hi
      have c : ((w + 1 : Int) : Rat) = (w : Rat) + 1 := by push_cast; rfl
      exact ⟨_, m2, m1, f1.1, by unfold Nr at *; grind, by unfold Nr at *; grind, w + 1, by rw [c]; unfold Nr at *; constructor <;> grind⟩
  obtain ⟨d', m1, m2, m3, m4, m5, w', m6⟩ := L1
  have key : laws_b10Turns_need a b = true ∧ laws_b10Turns a b = laws_b10Gap d' 0 := by
    unfold laws_b10Turns_need laws_b10Turns laws_b10Turns_tree
    simp only [DT.ok, DT.val, fconvOk_up, l1, l2, m1, m2]
    exact ⟨trivial, trivial⟩
  have z0 : isNum .f64 0 = true ∧ R .f64 0 = 0 := by decide +kernel
  rw [key.2]
  refine ⟨key.1, ?_⟩
  have eg : laws_b10Gap d' 0 = match flt .f64 d' 0 with | true => fsub .f64 0 d' | false => fsub .f64 d' 0 := by
    unfold laws_b10Gap laws_b10Gap_tree
    cases flt .f64 d' 0 <;> simp only [DT.val]
  rw [eg]
  cases hc : flt .f64 d' 0 with
  | true =>
    rw [flt_R m3 z0.1, z0.2, decide_eq_true_eq] at hc
    have b1 : Bd (R .f64 0 - R .f64 d') 1 := by rw [z0.2]; unfold Bd; constructor <;> grind
    have f1 := fsub_fl z0.1 m3 (b1.mono (by grind))
    have e1 := f1.err64 b1
    have nn := fsub_nn z0.1 m3 (by rw [z0.2]; grind)
    rw [z0.2] at e1
    exact ⟨f1.1, w', true, by show Nr _ (-(R .f32 a - R .f32 b + (w' : Rat))) _; unfold Nr at *; constructor <;> grind, nn, by unfold Nr at *; grind⟩
  | false =>
    rw [flt_R m3 z0.1, z0.2] at hc
    have hc := of_decide_eq_false hc
    have b1 : Bd (R .f64 d' - R .f64 0) 1 := by rw [z0.2]; unfold Bd; constructor <;> grind
    have f1 := fsub_fl m3 z0.1 (b1.mono (by grind))
    have e1 := f1.err64 b1
    have nn := fsub_nn m3 z0.1 (by rw [z0.2]; grind)
    rw [z0.2] at e1
    exact ⟨f1.1, w', false, by show Nr _ (R .f32 a - R .f32 b + (w' : Rat)) _; unfold Nr at *; constructor <;> grind, nn, by unfold Nr at *; grind⟩

/-- Turns that are whole turns apart, nearly. -/
theorem turns_none {a b : Nat} {z : Int} (ha : I .f32 a (some (0, 1))) (hb : I .f32 b (some (0, 1))) (h : Nr (R .f32 a) (R .f32 b + z) (1 / 100000)) : laws_b10Turns_need a b = true ∧ isNum .f64 (laws_b10Turns a b) = true ∧ R .f64 (laws_b10Turns a b) ≤ 2 / 100000 := by
  obtain ⟨t1, t2, w, s, t3, t4, t5⟩ := turns_eq ha hb
  refine ⟨t1, t2, ?_⟩
  have c : ((z + w : Int) : Rat) = (z : Rat) + (w : Rat) := by push_cast; rfl
  have hz : z + w = 0 := by
    have c1 : -1 < z + w := by
      refine Rat.intCast_lt_intCast.1 ?_
      rw [show (((-1 : Int)) : Rat) = -1 by decide +kernel, c]
      cases s <;> simp at t3 <;> unfold Nr at * <;> grind
    have c2 : z + w < 1 := by
      refine Rat.intCast_lt_intCast.1 ?_
      rw [show (((1 : Int)) : Rat) = 1 by decide +kernel, c]
      cases s <;> simp at t3 <;> unfold Nr at * <;> grind
    omega
  rw [hz, show ((0 : Int) : Rat) = 0 from rfl] at c
  cases s <;> simp at t3 <;> unfold Nr at * <;> grind

/-- Turns that are half a turn apart, nearly. -/
theorem turns_half {a b : Nat} {z : Int} (ha : I .f32 a (some (0, 1))) (hb : I .f32 b (some (0, 1))) (h : Nr (R .f32 a) (R .f32 b + 1 / 2 + z) (1 / 100000)) : laws_b10Turns_need a b = true ∧ isNum .f64 (laws_b10Turns a b) = true ∧ Nr (R .f64 (laws_b10Turns a b)) (1 / 2) (2 / 100000) := by
  obtain ⟨t1, t2, w, s, t3, t4, t5⟩ := turns_eq ha hb
  refine ⟨t1, t2, ?_⟩
  have c : ((z + w : Int) : Rat) = (z : Rat) + (w : Rat) := by push_cast; rfl
  have hz : z + w = 0 ∨ z + w = -1 := by
    have c1 : -2 < z + w := by
      refine Rat.intCast_lt_intCast.1 ?_
      rw [show (((-2 : Int)) : Rat) = -2 by decide +kernel, c]
      cases s <;> simp at t3 <;> unfold Nr at * <;> grind
    have c2 : z + w < 1 := by
      refine Rat.intCast_lt_intCast.1 ?_
      rw [show (((1 : Int)) : Rat) = 1 by decide +kernel, c]
      cases s <;> simp at t3 <;> unfold Nr at * <;> grind
    omega
  rcases hz with hz | hz
  · rw [hz, show ((0 : Int) : Rat) = 0 from rfl] at c
    cases s <;> simp at t3 <;> unfold Nr at * <;> constructor <;> grind
  · rw [hz, show ((-1 : Int) : Rat) = -1 by decide +kernel] at c
    cases s <;> simp at t3 <;> unfold Nr at * <;> constructor <;> grind

end Go.Proofs.Ytomdjbkididieaa
